/- Written by a program of this session: what functions of the given program compute, and that their calls do so. -/
import Derived.Test.YtlcedciocmjggaaXx0
import Derived.Test.YtlcedciocmjggaaXg3c04a
import Derived.Test.YtlcedciocmjggaaXg3e04a
import Derived.Test.YtlcedciocmjggaaXg3f04a
import Derived.Test.YtlcedciocmjggaaXg3f05a
namespace Go.Proofs.Ytlcedciocmjggaa.X
open Go.RowKit Go.Proofs.YtlcedciocmjggaaW.PrintWords Go.Proofs.YtlcedciocmjggaaW.PrintLast Go.Proofs.YtlcedciocmjggaaW.PrintMore
attribute [local go_sem] max2_int min2_int max_two min_two max_three min_three max_four min_four   -- for this text's walks alone
set_option linter.unusedVariables false
set_option linter.unusedSimpArgs false
/-! ### spec_pePeel: function 107 -/
mutual
def spec_pePeel.l0 : Nat → List Int → Bool → List (S88) → List Int → Int → Int → List (List Int) → Option ((List (S88)) × List Int)
  | 0, _, _, _, _, _, _, _ => none
  | k + 1, x1, x2, x8, x9, x10, x997000, x997001 => if x2 = true then (spec_pePeel.j1 k x1 x2 x8 x9 x10 true x997000 x997001) else (spec_pePeel.j1 k x1 x2 x8 x9 x10 (decide (x10 < (x1.length : Int))) x997000 x997001)
def spec_pePeel.j1 : Nat → List Int → Bool → List (S88) → List Int → Int → Bool → Int → List (List Int) → Option ((List (S88)) × List Int)
  | 0, _, _, _, _, _, _, _, _ => none
  | k + 1, x1, x2, x8, x9, x10, x22, x997000, x997001 => if x22 = true then ((spec_peFree.f k x997000 x997001 x9).bind fun t1000 => (if (t1000.length : Int) = 0 then (some (x8, x9)) else (if x10 < (x1.length : Int) then (if 0 ≤ x10 then (if 0 ≤ (Int.tmod (rd x1 x10) (t1000.length : Int)) then (if (Int.tmod (rd x1 x10) (t1000.length : Int)) < (t1000.length : Int) then ((spec_peWith.f k x997000 x997001 x9 (rd t1000 (Int.tmod (rd x1 x10) (t1000.length : Int)))).bind fun t1005 => (if x8.length < 8796093022208 then ((spec_l1Drop.f k x9 t1005).bind fun t1011 => (spec_pePeel.l0 k x1 x2 (x8 ++ [(⟨t1005, rd t1000 (Int.tmod (rd x1 x10) (t1000.length : Int))⟩ : S88)]) t1011 (wrap64 (x10 + 1)) x997000 x997001)) else (none))) else (none)) else (none)) else (none)) else (if 0 < (t1000.length : Int) then ((spec_peWith.f k x997000 x997001 x9 (rd t1000 0)).bind fun t1015 => (if x8.length < 8796093022208 then ((spec_l1Drop.f k x9 t1015).bind fun t1021 => (spec_pePeel.l0 k x1 x2 (x8 ++ [(⟨t1015, rd t1000 0⟩ : S88)]) t1021 (wrap64 (x10 + 1)) x997000 x997001)) else (none))) else (none))))) else (some (x8, x9))
end
def spec_pePeel.f (k : Nat) (a0_0 : Int) (l0_1 : List (List Int)) (l1 : List Int) (a2 : Bool) : Option ((List (S88)) × List Int) := (spec_peAll.f k a0_0 l0_1).bind fun t997 => (spec_pePeel.l0 k l1 a2 ([] : List (S88)) t997 0 a0_0 l0_1)
theorem spec_pePeel.mono_l : ∀ k, (∀ y0 y1 y2 y3 y4 y5 y6, LeO (spec_pePeel.l0 k y0 y1 y2 y3 y4 y5 y6) (spec_pePeel.l0 (k + 1) y0 y1 y2 y3 y4 y5 y6)) ∧ (∀ y0 y1 y2 y3 y4 y5 y6 y7, LeO (spec_pePeel.j1 k y0 y1 y2 y3 y4 y5 y6 y7) (spec_pePeel.j1 (k + 1) y0 y1 y2 y3 y4 y5 y6 y7))
  | 0 => ⟨fun _ _ _ _ _ _ _ r h => by simp [spec_pePeel.l0] at h, fun _ _ _ _ _ _ _ _ r h => by simp [spec_pePeel.j1] at h⟩
  | k + 1 => by
    obtain ⟨ih0, ih1⟩ := spec_pePeel.mono_l k
    refine ⟨?_, ?_⟩
    · intro y0 y1 y2 y3 y4 y5 y6
      unfold spec_pePeel.l0
      repeat' first
      | (with_reducible exact ih0 _ _ _ _ _ _ _)
      | (with_reducible exact ih1 _ _ _ _ _ _ _ _)
      | (with_reducible exact spec_l1Drop.mono _ _ _)
      | (with_reducible exact spec_peAll.mono _ _ _)
      | (with_reducible exact spec_peFree.mono _ _ _ _)
      | (with_reducible exact spec_peWith.mono _ _ _ _ _)
      | (with_reducible exact LeO.refl _)
      | (with_reducible exact LeO.none _)
      | (with_reducible refine LeO.ite ?_ ?_)
      | (with_reducible refine LeO.bind ?_ (fun _ => ?_))
      | exact ih0 _ _ _ _ _ _ _
      | exact ih1 _ _ _ _ _ _ _ _
      | exact spec_l1Drop.mono _ _ _
      | exact spec_peAll.mono _ _ _
      | exact spec_peFree.mono _ _ _ _
      | exact spec_peWith.mono _ _ _ _ _
      | exact LeO.none _
      | refine LeO.ite ?_ ?_
      | refine LeO.bind ?_ (fun _ => ?_)
    · intro y0 y1 y2 y3 y4 y5 y6 y7
      unfold spec_pePeel.j1
      repeat' first
      | (with_reducible exact ih0 _ _ _ _ _ _ _)
      | (with_reducible exact ih1 _ _ _ _ _ _ _ _)
      | (with_reducible exact spec_l1Drop.mono _ _ _)
      | (with_reducible exact spec_peAll.mono _ _ _)
      | (with_reducible exact spec_peFree.mono _ _ _ _)
      | (with_reducible exact spec_peWith.mono _ _ _ _ _)
      | (with_reducible exact LeO.refl _)
      | (with_reducible exact LeO.none _)
      | (with_reducible refine LeO.ite ?_ ?_)
      | (with_reducible refine LeO.bind ?_ (fun _ => ?_))
      | exact ih0 _ _ _ _ _ _ _
      | exact ih1 _ _ _ _ _ _ _ _
      | exact spec_l1Drop.mono _ _ _
      | exact spec_peAll.mono _ _ _
      | exact spec_peFree.mono _ _ _ _
      | exact spec_peWith.mono _ _ _ _ _
      | exact LeO.none _
      | refine LeO.ite ?_ ?_
      | refine LeO.bind ?_ (fun _ => ?_)
theorem spec_pePeel.mono : ∀ a0 a1 a2 a3 k, LeO (spec_pePeel.f k a0 a1 a2 a3) (spec_pePeel.f (k + 1) a0 a1 a2 a3) := by
  intro a0 a1 a2 a3 k
  obtain ⟨ih0, ih1⟩ := spec_pePeel.mono_l k
  unfold spec_pePeel.f
  repeat' first
      | (with_reducible exact ih0 _ _ _ _ _ _ _)
      | (with_reducible exact ih1 _ _ _ _ _ _ _ _)
      | (with_reducible exact spec_l1Drop.mono _ _ _)
      | (with_reducible exact spec_peAll.mono _ _ _)
      | (with_reducible exact spec_peFree.mono _ _ _ _)
      | (with_reducible exact spec_peWith.mono _ _ _ _ _)
      | (with_reducible exact LeO.refl _)
      | (with_reducible exact LeO.none _)
      | (with_reducible refine LeO.ite ?_ ?_)
      | (with_reducible refine LeO.bind ?_ (fun _ => ?_))
      | exact ih0 _ _ _ _ _ _ _
      | exact ih1 _ _ _ _ _ _ _ _
      | exact spec_l1Drop.mono _ _ _
      | exact spec_peAll.mono _ _ _
      | exact spec_peFree.mono _ _ _ _
      | exact spec_peWith.mono _ _ _ _ _
      | exact LeO.none _
      | refine LeO.ite ?_ ?_
      | refine LeO.bind ?_ (fun _ => ?_)
noncomputable def spec_pePeel.L0 (y0 : List Int) (y1 : Bool) (y2 : List (S88)) (y3 : List Int) (y4 : Int) (y5 : Int) (y6 : List (List Int)) : Option ((List (S88)) × List Int) := lim fun k => spec_pePeel.l0 k y0 y1 y2 y3 y4 y5 y6
theorem spec_pePeel.L0_sup (y0 : List Int) (y1 : Bool) (y2 : List (S88)) (y3 : List Int) (y4 : Int) (y5 : Int) (y6 : List (List Int)) : Sup (fun k => spec_pePeel.l0 k y0 y1 y2 y3 y4 y5 y6) (spec_pePeel.L0 y0 y1 y2 y3 y4 y5 y6) := Sup.of_mono fun k => (spec_pePeel.mono_l k).1 y0 y1 y2 y3 y4 y5 y6
noncomputable def spec_pePeel.J1 (y0 : List Int) (y1 : Bool) (y2 : List (S88)) (y3 : List Int) (y4 : Int) (y5 : Bool) (y6 : Int) (y7 : List (List Int)) : Option ((List (S88)) × List Int) := lim fun k => spec_pePeel.j1 k y0 y1 y2 y3 y4 y5 y6 y7
theorem spec_pePeel.J1_sup (y0 : List Int) (y1 : Bool) (y2 : List (S88)) (y3 : List Int) (y4 : Int) (y5 : Bool) (y6 : Int) (y7 : List (List Int)) : Sup (fun k => spec_pePeel.j1 k y0 y1 y2 y3 y4 y5 y6 y7) (spec_pePeel.J1 y0 y1 y2 y3 y4 y5 y6 y7) := Sup.of_mono fun k => (spec_pePeel.mono_l k).2 y0 y1 y2 y3 y4 y5 y6 y7
noncomputable def spec_pePeel.F (a0_0 : Int) (l0_1 : List (List Int)) (l1 : List Int) (a2 : Bool) : Option ((List (S88)) × List Int) := lim fun k => spec_pePeel.f k a0_0 l0_1 l1 a2
theorem spec_pePeel.F_sup (a0_0 : Int) (l0_1 : List (List Int)) (l1 : List Int) (a2 : Bool) : Sup (fun k => spec_pePeel.f k a0_0 l0_1 l1 a2) (spec_pePeel.F a0_0 l0_1 l1 a2) := Sup.of_mono fun k => spec_pePeel.mono a0_0 l0_1 l1 a2 k
theorem spec_pePeel.L0_eq (x1 : List Int) (x2 : Bool) (x8 : List (S88)) (x9 : List Int) (x10 : Int) (x997000 : Int) (x997001 : List (List Int)) : spec_pePeel.L0 x1 x2 x8 x9 x10 x997000 x997001 = if x2 = true then (spec_pePeel.J1 x1 x2 x8 x9 x10 true x997000 x997001) else (spec_pePeel.J1 x1 x2 x8 x9 x10 (decide (x10 < (x1.length : Int))) x997000 x997001) := by
  refine Sup.unique (spec_pePeel.L0_sup x1 x2 x8 x9 x10 x997000 x997001) (Sup.shift (fun k => (spec_pePeel.mono_l k).1 x1 x2 x8 x9 x10 x997000 x997001) (Sup.congr (g' := fun k => if x2 = true then (spec_pePeel.j1 k x1 x2 x8 x9 x10 true x997000 x997001) else (spec_pePeel.j1 k x1 x2 x8 x9 x10 (decide (x10 < (x1.length : Int))) x997000 x997001)) (fun k => by first | rfl | simp only [spec_pePeel.l0]) ?_))
  repeat' first
    | (with_reducible exact spec_pePeel.L0_sup _ _ _ _ _ _ _)
    | (with_reducible exact spec_pePeel.J1_sup _ _ _ _ _ _ _ _)
    | (with_reducible exact spec_peAll.F_sup _ _)
    | (with_reducible exact spec_peFree.F_sup _ _ _)
    | (with_reducible exact spec_peWith.F_sup _ _ _ _)
    | (with_reducible exact spec_l1Drop.F_sup _ _)
    | (with_reducible refine Sup.ite ?_ ?_)
    | (with_reducible refine Sup.bind ?_ (fun _ => ?_))
    | (with_reducible exact Sup.const _)
    | exact spec_pePeel.L0_sup _ _ _ _ _ _ _
    | exact spec_pePeel.J1_sup _ _ _ _ _ _ _ _
    | exact spec_peAll.F_sup _ _
    | exact spec_peFree.F_sup _ _ _
    | exact spec_peWith.F_sup _ _ _ _
    | exact spec_l1Drop.F_sup _ _
    | exact Sup.const _
theorem spec_pePeel.J1_eq (x1 : List Int) (x2 : Bool) (x8 : List (S88)) (x9 : List Int) (x10 : Int) (x22 : Bool) (x997000 : Int) (x997001 : List (List Int)) : spec_pePeel.J1 x1 x2 x8 x9 x10 x22 x997000 x997001 = if x22 = true then ((spec_peFree.F x997000 x997001 x9).bind fun t1000 => (if (t1000.length : Int) = 0 then (some (x8, x9)) else (if x10 < (x1.length : Int) then (if 0 ≤ x10 then (if 0 ≤ (Int.tmod (rd x1 x10) (t1000.length : Int)) then (if (Int.tmod (rd x1 x10) (t1000.length : Int)) < (t1000.length : Int) then ((spec_peWith.F x997000 x997001 x9 (rd t1000 (Int.tmod (rd x1 x10) (t1000.length : Int)))).bind fun t1005 => (if x8.length < 8796093022208 then ((spec_l1Drop.F x9 t1005).bind fun t1011 => (spec_pePeel.L0 x1 x2 (x8 ++ [(⟨t1005, rd t1000 (Int.tmod (rd x1 x10) (t1000.length : Int))⟩ : S88)]) t1011 (wrap64 (x10 + 1)) x997000 x997001)) else (none))) else (none)) else (none)) else (none)) else (if 0 < (t1000.length : Int) then ((spec_peWith.F x997000 x997001 x9 (rd t1000 0)).bind fun t1015 => (if x8.length < 8796093022208 then ((spec_l1Drop.F x9 t1015).bind fun t1021 => (spec_pePeel.L0 x1 x2 (x8 ++ [(⟨t1015, rd t1000 0⟩ : S88)]) t1021 (wrap64 (x10 + 1)) x997000 x997001)) else (none))) else (none))))) else (some (x8, x9)) := by
  refine Sup.unique (spec_pePeel.J1_sup x1 x2 x8 x9 x10 x22 x997000 x997001) (Sup.shift (fun k => (spec_pePeel.mono_l k).2 x1 x2 x8 x9 x10 x22 x997000 x997001) (Sup.congr (g' := fun k => if x22 = true then ((spec_peFree.f k x997000 x997001 x9).bind fun t1000 => (if (t1000.length : Int) = 0 then (some (x8, x9)) else (if x10 < (x1.length : Int) then (if 0 ≤ x10 then (if 0 ≤ (Int.tmod (rd x1 x10) (t1000.length : Int)) then (if (Int.tmod (rd x1 x10) (t1000.length : Int)) < (t1000.length : Int) then ((spec_peWith.f k x997000 x997001 x9 (rd t1000 (Int.tmod (rd x1 x10) (t1000.length : Int)))).bind fun t1005 => (if x8.length < 8796093022208 then ((spec_l1Drop.f k x9 t1005).bind fun t1011 => (spec_pePeel.l0 k x1 x2 (x8 ++ [(⟨t1005, rd t1000 (Int.tmod (rd x1 x10) (t1000.length : Int))⟩ : S88)]) t1011 (wrap64 (x10 + 1)) x997000 x997001)) else (none))) else (none)) else (none)) else (none)) else (if 0 < (t1000.length : Int) then ((spec_peWith.f k x997000 x997001 x9 (rd t1000 0)).bind fun t1015 => (if x8.length < 8796093022208 then ((spec_l1Drop.f k x9 t1015).bind fun t1021 => (spec_pePeel.l0 k x1 x2 (x8 ++ [(⟨t1015, rd t1000 0⟩ : S88)]) t1021 (wrap64 (x10 + 1)) x997000 x997001)) else (none))) else (none))))) else (some (x8, x9))) (fun k => by first | rfl | simp only [spec_pePeel.j1]) ?_))
  repeat' first
    | (with_reducible exact spec_pePeel.L0_sup _ _ _ _ _ _ _)
    | (with_reducible exact spec_pePeel.J1_sup _ _ _ _ _ _ _ _)
    | (with_reducible exact spec_peAll.F_sup _ _)
    | (with_reducible exact spec_peFree.F_sup _ _ _)
    | (with_reducible exact spec_peWith.F_sup _ _ _ _)
    | (with_reducible exact spec_l1Drop.F_sup _ _)
    | (with_reducible refine Sup.ite ?_ ?_)
    | (with_reducible refine Sup.bind ?_ (fun _ => ?_))
    | (with_reducible exact Sup.const _)
    | exact spec_pePeel.L0_sup _ _ _ _ _ _ _
    | exact spec_pePeel.J1_sup _ _ _ _ _ _ _ _
    | exact spec_peAll.F_sup _ _
    | exact spec_peFree.F_sup _ _ _
    | exact spec_peWith.F_sup _ _ _ _
    | exact spec_l1Drop.F_sup _ _
    | exact Sup.const _
theorem spec_pePeel.F_eq (a0_0 : Int) (l0_1 : List (List Int)) (l1 : List Int) (a2 : Bool) : spec_pePeel.F a0_0 l0_1 l1 a2 = (spec_peAll.F a0_0 l0_1).bind fun t997 => (spec_pePeel.L0 l1 a2 ([] : List (S88)) t997 0 a0_0 l0_1) := by
  refine Sup.unique (spec_pePeel.F_sup a0_0 l0_1 l1 a2) (Sup.congr (g' := fun k => (spec_peAll.f k a0_0 l0_1).bind fun t997 => (spec_pePeel.l0 k l1 a2 ([] : List (S88)) t997 0 a0_0 l0_1)) (fun k => by first | rfl | simp only [spec_pePeel.f]) ?_)
  repeat' first
    | (with_reducible exact spec_pePeel.L0_sup _ _ _ _ _ _ _)
    | (with_reducible exact spec_pePeel.J1_sup _ _ _ _ _ _ _ _)
    | (with_reducible exact spec_peAll.F_sup _ _)
    | (with_reducible exact spec_peFree.F_sup _ _ _)
    | (with_reducible exact spec_peWith.F_sup _ _ _ _)
    | (with_reducible exact spec_l1Drop.F_sup _ _)
    | (with_reducible refine Sup.ite ?_ ?_)
    | (with_reducible refine Sup.bind ?_ (fun _ => ?_))
    | (with_reducible exact Sup.const _)
    | exact spec_pePeel.L0_sup _ _ _ _ _ _ _
    | exact spec_pePeel.J1_sup _ _ _ _ _ _ _ _
    | exact spec_peAll.F_sup _ _
    | exact spec_peFree.F_sup _ _ _
    | exact spec_peWith.F_sup _ _ _ _
    | exact spec_l1Drop.F_sup _ _
    | exact Sup.const _
def spec_pePeel.T11 : Bool × List (List Nat × List Nat) := (true, [([], []), ([], []), ([], []), ([], []), ([2, 3], [2, 3]), ([4], [4]), ([0, 1, 5], [0, 1, 5]), ([], []), ([], []), ([7, 8], [7, 8]), ([9], [9]), ([6, 10], [6, 10]), ([], []), ([12, 11, 6, 0, 1, 2, 3, 4, 5, 6, 7, 8, 9, 10, 11, 12], [11, 12])])
def spec_pePeel.B11 : List Nat := [0, 0, 0, 0, 12, 28, 63, 0, 0, 384, 896, 2047, 0, 8191]
theorem spec_pePeel.tab11 : rtab .any (opsOf Try.f107 11) = spec_pePeel.T11 := by kernel_rfl
theorem spec_pePeel.bits11 : waitsOk spec_pePeel.T11.2 spec_pePeel.B11 = true := by kernel_rfl
set_option maxHeartbeats 8000000 in
set_option maxRecDepth 100000 in
theorem spec_pePeel.calls (k : Nat) (a0_0 : Int) (A0_1 : Option Addr) (c0_1 : Nat) (l0_1 : List (List Int)) (A1 : Option Addr) (c1 : Nat) (l1 : List Int) (a2 : Bool) (r1 : List (S88)) (r2 : List Int) (w : World) (hr0_1 : Kd.C (Kd.slice 3 (Kd.int .i64)) w A0_1 l0_1.length l0_1) (hc0_1 : l0_1.length ≤ c0_1) (hr1 : Kd.C (Kd.int .i64) w A1 l1.length l1) (hc1 : l1.length ≤ c1) (h : spec_pePeel.f k a0_0 l0_1 l1 a2 = some (r1, r2)) :
    Calls Try.prog 107 #[.agg #[.int .i64 a0_0, .slice A0_1 l0_1.length c0_1], .slice A1 l1.length c1, .bool a2] w fun e w' => ∃ v0_ v1_ : Value, e = .returned (.tuple #[v0_, v1_]) ∧ Kd.R k88 88 w' w.heap.size (fun _ => True) v0_ r1 ∧ Kd.R (Kd.int .i64) 3 w' w.heap.size (fun _ => True) v1_ r2 ∧ Below w.heap.size w w' := by
  have hu29 := Try.underlying29
  have hu88 := Try.underlying88
  have HR0_1 := Aside0.mk hr0_1
  have HC0_1 := Aside0.mk hc0_1
  clear hr0_1 hc0_1
  have HR1 := Aside0.mk hr1
  have HC1 := Aside0.mk hc1
  clear hr1 hc1
  have HB := Aside0.mk (Below.refl w.heap.size w)
  have H : ((spec_peAll.f k a0_0 l0_1).bind fun t997 => (spec_pePeel.l0 k l1 a2 ([] : List (S88)) t997 0 a0_0 l0_1)) = some (r1, r2) := h
  clear h
  replace H := Option.bind_eq_some_iff.mp H
  obtain ⟨t997, A40, H⟩ := H
  replace H : (spec_pePeel.l0 k l1 a2 ([] : List (S88)) t997 0 a0_0 l0_1) = some (r1, r2) := H
  have A4 := Aside0.mk A40
  clear A40
  have H' := Aside0.mk H
  clear H
  go_enter Try.func107, Try.ntmps107
  go_wp2_with (first | ((with_reducible refine gate_dst (N := 3) rfl ?_); (try (refine gate_guard (by rfl) ?_; dsimp only)); refine box_event ?hg (N := 3) ?hd (cs := #[.int .i64 a0_0, .slice A0_1 l0_1.length c0_1]) (t := 29) ?hr ?_; (case hd => rfl); (case hg => rfl); (case hr => first | (go_simp; done) | (go_simp; rfl)); intro gb996 hg w5 hbox hb; have n0_ := Aside0.mk (below_step (by repeat (first | (with_reducible first | exact HB.out | apply below_alloc | apply pw_below_drewN | apply below_drew1) | exact HB.out)) hb); have n1_ := Aside0.mk (hbox); have n2_ := Aside0.mk ((by rw [hg]; exact (below_size (by repeat (first | (with_reducible first | exact HB.out | apply below_alloc | apply pw_below_drewN | apply below_drew1) | exact HB.out))) : w.heap.size ≤ gb996)); have n3_ := Aside0.mk ((by rw [hg]; exact (below_size (by repeat (first | (with_reducible first | exact HB.out | apply below_alloc | apply pw_below_drewN | apply below_drew1) | exact HB.out))) : w.heap.size ≤ gb996)); clear HB; have HB := n0_; have BK996 := n1_; have GW996 := n2_; have GE996 := n3_; clear n0_ n1_ n2_ n3_; clear hb hbox hg; have hcz6_0 : w5.cell? ⟨gb996, 0, none⟩ = some (.int .i64 a0_0) := (blk_cell BK996.out 0).trans rfl; have hcz6_1 : w5.cell? ⟨gb996, 1, none⟩ = some (.slice A0_1 l0_1.length c0_1) := (blk_cell BK996.out 1).trans rfl; have hfz6_0 := blk_frozen BK996.out 0; have hfz6_1 := blk_frozen BK996.out 1) | ((with_reducible refine gate_callee (f := 69) rfl ?_); refine goesL_ (some 15) rfl rfl Try.func69 (by kernel_rfl) rfl #[.agg #[.int .i64 a0_0, .slice A0_1 l0_1.length c0_1]] rfl (by (try simp only [List.map_toArray, List.map_cons, List.map_nil]); first | done | rfl | (simp only [List.length_drop, List.length_take]; rfl)) ?_; (with_reducible refine (spec_peAll.calls k a0_0 _ _ l0_1 t997 _ ?side1 ?side2 A4.out).mono ?_); (case side1 => repeat (first | exact (Kd.C_below HR0_1.out HB.out) | (with_reducible refine Kd.C_alloc ?_ _) | (with_reducible refine Kd.C_drewN ?_ _) | (with_reducible refine Kd.C_drew ?_))); (case side2 => exact HC0_1.out); rintro e w7 ⟨v998, rfl, ho0, hb⟩; refine ⟨_, rfl, ?_⟩; have n0_ := Aside0.mk (Kd.R_lower ho0 (below_size (by repeat (first | (with_reducible first | exact HB.out | apply below_alloc | apply pw_below_drewN | apply below_drew1 | refine below_set ?_ GE996.out) | exact HB.out)))); have n1_ := Aside0.mk (blk_below (g := gb996) (o := .cells #[.int .i64 a0_0, .slice A0_1 l0_1.length c0_1] 29 (0, 0)) (by (with_reducible repeat (first | refine blk_drewN ?_ _ | refine blk_drew ?_ | refine blk_alloc ?_ _)); exact BK996.out) hb); have n2_ := Aside0.mk (below_step (by repeat (first | (with_reducible first | exact HB.out | apply below_alloc | apply pw_below_drewN | apply below_drew1 | refine below_set ?_ GE996.out) | exact HB.out)) hb); clear BK996; clear HB; have HO999 := n0_; have BK996 := n1_; have HB := n2_; clear n0_ n1_ n2_; (try clear hb); (try clear hb2); (try clear hk); (try clear hi); (try clear ho0)))
  go_loopg [8, 9, 10] k (fun kq v8 v9 v10 w' => ∃ (x8_1 : List (S88)) (x9_1 : List Int) (x10_1 : Int), v10 = .int .i64 x10_1 ∧ Aside0 (spec_pePeel.l0 kq l1 a2 x8_1 x9_1 x10_1 a0_0 l0_1 = some (r1, r2)) ∧ Aside0 (kq ≤ k) ∧ Aside0 (Kd.R k88 88 w' w.heap.size (fun _ => True) v8 x8_1) ∧ Aside0 (Kd.R (Kd.int .i64) 3 w' w.heap.size (fun _ => True) v9 x9_1) ∧ Aside0 (w'.heap[gb996]? = some (.cells #[.int .i64 a0_0, (.slice A0_1 l0_1.length c0_1)] 29 (0, 0))) ∧ Aside0 (Below w.heap.size w w'))
  case atStart => exact ⟨(([] : List (S88))), (t997), (0), (by first | rfl | (simp; done) | (simp [*]; done)), H', ⟨Nat.le_refl _⟩, ⟨by first | exact Kd.R_nil _ _ _ _ _ | exact Kd.N_nil _ _ _ _ _ | exact Kd.V_nil _ _ _ _ _ | exact Kd.Q_nil _ _ _ _ _ | exact Kd.S_nil _ _ _ _ _⟩, ⟨by (with_reducible repeat (first | apply Kd.R_alloc | apply Kd.R_drewN | apply Kd.R_drew)); exact HO999.out⟩, ⟨by (with_reducible repeat (first | refine blk_drewN ?_ _ | refine blk_drew ?_ | refine blk_alloc ?_ _)); exact BK996.out⟩, ⟨by repeat (first | (with_reducible first | exact HB.out | apply below_alloc | apply pw_below_drewN | apply below_drew1 | refine below_set ?_ GE996.out) | exact HB.out)⟩⟩
  case round =>
   clear H'
   try clear c1
   try clear p2
   try clear c6
   try clear hcz6_0
   try clear hcz6_1
   try clear hfz6_0
   try clear hfz6_1
   obtain ⟨x8_1, x9_1, x10_1, rfl, HA, HK1, HO_8, HO_9, BK996, HB⟩ := hrel
   cases gk with
   | zero => exact absurd HA.out (by simp [spec_pePeel.l0])
   | succ k1 =>
    have H := HA.out
    clear HA
    simp only [spec_pePeel.l0] at H
    have HC8 := Aside0.mk H
    clear H
    go_upto_region 4 with (fail)
    go_cut [22] (fun v22 wc => ∃ (kq : Nat) (x22_7 : Bool), v22 = .bool x22_7 ∧ Aside0 (spec_pePeel.j1 kq l1 a2 x8_1 x9_1 x10_1 x22_7 a0_0 l0_1 = some (r1, r2)) ∧ Aside0 (kq ≤ k1) ∧ Aside0 (Kd.R k88 88 wc w.heap.size (fun _ => True) u8 x8_1) ∧ Aside0 (Kd.R (Kd.int .i64) 3 wc w.heap.size (fun _ => True) u9 x9_1) ∧ Aside0 (wc.heap[gb996]? = some (.cells #[.int .i64 a0_0, (.slice A0_1 l0_1.length c0_1)] 29 (0, 0))) ∧ Aside0 (Below w.heap.size w wc))
    case first =>
     have H := HC8.out
     clear HC8
     by_cases c9 : a2 = true
     ·subst c9
      have H1 : (spec_pePeel.j1 k1 l1 true x8_1 x9_1 x10_1 true a0_0 l0_1) = some (r1, r2) := by rw [if_pos rfl] at H; exact H
      clear H
      have H := H1
      clear H1
      have H' := Aside0.mk H
      clear H
      go_wp2
      go_meet
      case rel => exact ⟨_, (true), (by first | rfl | (simp; done) | (simp [*]; done)), H', ⟨by have := HK1.out; first | omega | exact Nat.le_refl _⟩, ⟨by (with_reducible repeat (first | apply Kd.R_alloc | apply Kd.R_drewN | apply Kd.R_drew)); exact HO_8.out⟩, ⟨by (with_reducible repeat (first | apply Kd.R_alloc | apply Kd.R_drewN | apply Kd.R_drew)); exact HO_9.out⟩, ⟨by (with_reducible repeat (first | refine blk_drewN ?_ _ | refine blk_drew ?_ | refine blk_alloc ?_ _)); exact BK996.out⟩, ⟨by repeat (first | (with_reducible first | exact HB.out | apply below_alloc | apply pw_below_drewN | apply below_drew1 | refine below_set ?_ GE996.out) | exact HB.out)⟩⟩
     ·replace c9 := Bool.eq_false_iff.mpr c9
      subst c9
      have H1 : (spec_pePeel.j1 k1 l1 false x8_1 x9_1 x10_1 (decide (x10_1 < (l1.length : Int))) a0_0 l0_1) = some (r1, r2) := by rw [if_neg (show ¬ (false = true) by decide)] at H; exact H
      clear H
      have H := H1
      clear H1
      have H' := Aside0.mk H
      clear H
      go_wp2
      go_meet
      case rel => exact ⟨_, (decide (x10_1 < (l1.length : Int))), (by first | rfl | (simp; done) | (simp [*]; done)), H', ⟨by have := HK1.out; first | omega | exact Nat.le_refl _⟩, ⟨by (with_reducible repeat (first | apply Kd.R_alloc | apply Kd.R_drewN | apply Kd.R_drew)); exact HO_8.out⟩, ⟨by (with_reducible repeat (first | apply Kd.R_alloc | apply Kd.R_drewN | apply Kd.R_drew)); exact HO_9.out⟩, ⟨by (with_reducible repeat (first | refine blk_drewN ?_ _ | refine blk_drew ?_ | refine blk_alloc ?_ _)); exact BK996.out⟩, ⟨by repeat (first | (with_reducible first | exact HB.out | apply below_alloc | apply pw_below_drewN | apply below_drew1 | refine below_set ?_ GE996.out) | exact HB.out)⟩⟩
    case rest =>
     clear HC8
     try clear c1
     try clear p2
     try clear c6
     try clear c9
     try clear hcz6_0
     try clear hcz6_1
     try clear hfz6_0
     try clear hfz6_1
     try clear p2
     obtain ⟨kq, x22_7, rfl, HA, HJ7, HO_8, HO_9, BK996, HB⟩ := hcut
     cases kq with
     | zero => exact absurd HA.out (by simp [spec_pePeel.j1])
     | succ kj7 =>
      have H := HA.out
      clear HA
      simp only [spec_pePeel.j1] at H
      by_cases c10 : x22_7 = true
      ·subst c10
       have H1 : ((spec_peFree.f kj7 a0_0 l0_1 x9_1).bind fun t1000 => (if (t1000.length : Int) = 0 then (some (x8_1, x9_1)) else (if x10_1 < (l1.length : Int) then (if 0 ≤ x10_1 then (if 0 ≤ (Int.tmod (rd l1 x10_1) (t1000.length : Int)) then (if (Int.tmod (rd l1 x10_1) (t1000.length : Int)) < (t1000.length : Int) then ((spec_peWith.f kj7 a0_0 l0_1 x9_1 (rd t1000 (Int.tmod (rd l1 x10_1) (t1000.length : Int)))).bind fun t1005 => (if x8_1.length < 8796093022208 then ((spec_l1Drop.f kj7 x9_1 t1005).bind fun t1011 => (spec_pePeel.l0 kj7 l1 a2 (x8_1 ++ [(⟨t1005, rd t1000 (Int.tmod (rd l1 x10_1) (t1000.length : Int))⟩ : S88)]) t1011 (wrap64 (x10_1 + 1)) a0_0 l0_1)) else (none))) else (none)) else (none)) else (none)) else (if 0 < (t1000.length : Int) then ((spec_peWith.f kj7 a0_0 l0_1 x9_1 (rd t1000 0)).bind fun t1015 => (if x8_1.length < 8796093022208 then ((spec_l1Drop.f kj7 x9_1 t1015).bind fun t1021 => (spec_pePeel.l0 kj7 l1 a2 (x8_1 ++ [(⟨t1015, rd t1000 0⟩ : S88)]) t1021 (wrap64 (x10_1 + 1)) a0_0 l0_1)) else (none))) else (none))))) = some (r1, r2) := by rw [if_pos rfl] at H; exact H
       clear H
       have H := H1
       clear H1
       replace H := Option.bind_eq_some_iff.mp H
       obtain ⟨t1000, A110, H⟩ := H
       replace H : (if (t1000.length : Int) = 0 then (some (x8_1, x9_1)) else (if x10_1 < (l1.length : Int) then (if 0 ≤ x10_1 then (if 0 ≤ (Int.tmod (rd l1 x10_1) (t1000.length : Int)) then (if (Int.tmod (rd l1 x10_1) (t1000.length : Int)) < (t1000.length : Int) then ((spec_peWith.f kj7 a0_0 l0_1 x9_1 (rd t1000 (Int.tmod (rd l1 x10_1) (t1000.length : Int)))).bind fun t1005 => (if x8_1.length < 8796093022208 then ((spec_l1Drop.f kj7 x9_1 t1005).bind fun t1011 => (spec_pePeel.l0 kj7 l1 a2 (x8_1 ++ [(⟨t1005, rd t1000 (Int.tmod (rd l1 x10_1) (t1000.length : Int))⟩ : S88)]) t1011 (wrap64 (x10_1 + 1)) a0_0 l0_1)) else (none))) else (none)) else (none)) else (none)) else (if 0 < (t1000.length : Int) then ((spec_peWith.f kj7 a0_0 l0_1 x9_1 (rd t1000 0)).bind fun t1015 => (if x8_1.length < 8796093022208 then ((spec_l1Drop.f kj7 x9_1 t1015).bind fun t1021 => (spec_pePeel.l0 kj7 l1 a2 (x8_1 ++ [(⟨t1015, rd t1000 0⟩ : S88)]) t1021 (wrap64 (x10_1 + 1)) a0_0 l0_1)) else (none))) else (none)))) = some (r1, r2) := H
       have A11 := Aside0.mk A110
       clear A110
       by_cases c12 : (t1000.length : Int) = 0
       ·rw [if_pos c12] at H
        have c12b0 : ((t1000.length : Int) == 0) = true := beq_iff_eq.mpr c12
        have c12b1 : ((t1000.length : Int) != 0) = false := bne_eq_false_iff_eq.mpr c12
        clear c12
        simp only [Option.some.injEq, Prod.mk.injEq] at H
        obtain ⟨rfl, rfl⟩ := H
        have hcz13_0 : wc.cell? ⟨gb996, 0, none⟩ = some (.int .i64 a0_0) := (blk_cell BK996.out 0).trans rfl
        have hcz13_1 : wc.cell? ⟨gb996, 1, none⟩ = some (.slice A0_1 l0_1.length c0_1) := (blk_cell BK996.out 1).trans rfl
        have hfz13_0 := blk_frozen BK996.out 0
        have hfz13_1 := blk_frozen BK996.out 1
        obtain ⟨Ao14, co14, eo14⟩ := Kd.R_slice HO_9.out
        subst eo14
        go_wp2_with (first | ((with_reducible refine gate_callee (f := 79) rfl ?_); refine goesL_ (some 27) rfl rfl Try.func79 (by kernel_rfl) rfl #[.agg #[.int .i64 a0_0, .slice A0_1 l0_1.length c0_1], .slice Ao14 x9_1.length co14] rfl (by (try simp only [List.map_toArray, List.map_cons, List.map_nil]); first | done | rfl | (simp only [List.length_drop, List.length_take]; rfl)) ?_; (with_reducible refine (spec_peFree.calls kj7 a0_0 _ _ l0_1 _ _ x9_1 t1000 _ ?side1 ?side2 ?side3 ?side4 A11.out).mono ?_); (case side1 => repeat (first | exact (Kd.C_below HR0_1.out HB.out) | (with_reducible refine Kd.C_alloc ?_ _) | (with_reducible refine Kd.C_drewN ?_ _) | (with_reducible refine Kd.C_drew ?_))); (case side2 => exact HC0_1.out); (case side3 => repeat (first | exact (Kd.R_reads' HO_9.out).2.2 | (with_reducible refine Kd.C_alloc ?_ _) | (with_reducible refine Kd.C_drewN ?_ _) | (with_reducible refine Kd.C_drew ?_))); (case side4 => exact (Kd.R_reads' HO_9.out).2.1); rintro e w15 ⟨v1001, rfl, ho0, hb⟩; refine ⟨_, rfl, ?_⟩; have n0_ := Aside0.mk (Kd.R_below (by (with_reducible repeat (first | apply Kd.R_alloc | apply Kd.R_drewN | apply Kd.R_drew)); exact HO_8.out) hb); have n1_ := Aside0.mk (Kd.R_elder' (by (with_reducible repeat (first | apply Kd.R_alloc | apply Kd.R_drewN | apply Kd.R_drew)); exact HO_9.out) (Kd.R_base ho0) hb); have n2_ := Aside0.mk (Kd.R_lower (Kd.R_new' ho0 (Kd.R_lt (by (with_reducible repeat (first | apply Kd.R_alloc | apply Kd.R_drewN | apply Kd.R_drew)); exact HO_9.out))) (below_size (by repeat (first | (with_reducible first | exact HB.out | apply below_alloc | apply pw_below_drewN | apply below_drew1 | refine below_set ?_ GE996.out) | exact HB.out)))); have n3_ := Aside0.mk (blk_below (g := gb996) (o := .cells #[.int .i64 a0_0, .slice A0_1 l0_1.length c0_1] 29 (0, 0)) (by (with_reducible repeat (first | refine blk_drewN ?_ _ | refine blk_drew ?_ | refine blk_alloc ?_ _)); exact BK996.out) hb); have n4_ := Aside0.mk (below_step (by repeat (first | (with_reducible first | exact HB.out | apply below_alloc | apply pw_below_drewN | apply below_drew1 | refine below_set ?_ GE996.out) | exact HB.out)) hb); clear HO_8; clear HO_9; clear BK996; clear HB; have HO_8 := n0_; have HO_9 := n1_; have HO1002 := n2_; have BK996 := n3_; have HB := n4_; clear n0_ n1_ n2_ n3_ n4_; (try clear hb); (try clear hb2); (try clear hk); (try clear hi); (try clear ho0); obtain ⟨Ao16, co16, eo16⟩ := Kd.R_slice HO1002.out; subst eo16))
        go_ret2
        exact ⟨_, _, by first | rfl | (simp [errW_none, errW_some] <;> rfl) | (simp [*, errW_none, errW_some] <;> rfl), by (with_reducible repeat (first | apply Kd.R_alloc | apply Kd.R_drewN | apply Kd.R_drew)); exact HO_8.out, by (with_reducible repeat (first | apply Kd.R_alloc | apply Kd.R_drewN | apply Kd.R_drew)); exact Kd.R_mono HO_9.out (fun _ hk => trivial), by repeat (first | (with_reducible first | exact HB.out | apply below_alloc | apply pw_below_drewN | apply below_drew1 | refine below_set ?_ GE996.out) | exact HB.out)⟩
       ·rw [if_neg c12] at H
        have c12b0 : ((t1000.length : Int) == 0) = false := beq_eq_false_iff_ne.mpr c12
        have c12b1 : ((t1000.length : Int) != 0) = true := bne_iff_ne.mpr c12
        have c12b2 : ¬ (t1000 = []) := fun h_ => c12 (by rw [h_]; rfl)
        by_cases c17 : x10_1 < (l1.length : Int)
        ·rw [if_pos c17] at H
         have c17b0 : decide (x10_1 < (l1.length : Int)) = true := decide_eq_true c17
         clear c17
         by_cases c18 : 0 ≤ x10_1
         ·rw [if_pos c18] at H
          have c18b0 : decide (0 ≤ x10_1) = true := decide_eq_true c18
          clear c18
          obtain ⟨ji19, hji19⟩ : ∃ j_ : Int, (Int.tmod (rd l1 x10_1) (t1000.length : Int)) = j_ := ⟨_, rfl⟩
          replace H : (if 0 ≤ (ji19) then (if (ji19) < (t1000.length : Int) then ((spec_peWith.f kj7 a0_0 l0_1 x9_1 (rd t1000 (ji19))).bind fun t1005 => (if x8_1.length < 8796093022208 then ((spec_l1Drop.f kj7 x9_1 t1005).bind fun t1011 => (spec_pePeel.l0 kj7 l1 a2 (x8_1 ++ [(⟨t1005, rd t1000 (ji19)⟩ : S88)]) t1011 (wrap64 (x10_1 + 1)) a0_0 l0_1)) else (none))) else (none)) else (none)) = some (r1, r2) := by first | (rw [hji19] at H; exact H) | (simp only [hji19] at H ⊢; exact H)
          (try rw [hji19] at A11)
          by_cases c20 : 0 ≤ (ji19)
          ·rw [if_pos c20] at H
           have c20b0 : decide (0 ≤ (ji19)) = true := decide_eq_true c20
           clear c20
           by_cases c21 : (ji19) < (t1000.length : Int)
           ·rw [if_pos c21] at H
            have c21b0 : decide ((ji19) < (t1000.length : Int)) = true := decide_eq_true c21
            clear c21
            replace H := Option.bind_eq_some_iff.mp H
            obtain ⟨t1005, A220, H⟩ := H
            replace H : (if x8_1.length < 8796093022208 then ((spec_l1Drop.f kj7 x9_1 t1005).bind fun t1011 => (spec_pePeel.l0 kj7 l1 a2 (x8_1 ++ [(⟨t1005, rd t1000 (ji19)⟩ : S88)]) t1011 (wrap64 (x10_1 + 1)) a0_0 l0_1)) else (none)) = some (r1, r2) := H
            have A22 := Aside0.mk A220
            clear A220
            by_cases c23 : x8_1.length < 8796093022208
            ·rw [if_pos c23] at H
             have LMc23 := Aside0.mk c23
             clear c23
             obtain ⟨y1008, hy1008⟩ : ∃ y_ : List (S88), y_ = (x8_1 ++ [(⟨t1005, rd t1000 (ji19)⟩ : S88)]) := ⟨_, rfl⟩
             replace H : ((spec_l1Drop.f kj7 x9_1 t1005).bind fun t1011 => (spec_pePeel.l0 kj7 l1 a2 y1008 t1011 (wrap64 (x10_1 + 1)) a0_0 l0_1)) = some (r1, r2) := by first | (rw [hy1008]; with_reducible exact H) | (have H2_ := (Option.bind_some _ _).symm.trans H; rw [hy1008]; with_reducible exact H2_) | (have H2_ := (Option.bind_some _ _).symm.trans H; with_reducible exact H2_) | with_reducible exact H | (rw [hy1008]; exact H) | exact H
             have Ny1008 := Aside0.mk hy1008
             clear hy1008
             replace H := Option.bind_eq_some_iff.mp H
             obtain ⟨t1011, A240, H⟩ := H
             replace H : (spec_pePeel.l0 kj7 l1 a2 y1008 t1011 (wrap64 (x10_1 + 1)) a0_0 l0_1) = some (r1, r2) := H
             have A24 := Aside0.mk A240
             clear A240
             have H' := Aside0.mk H
             clear H
             have hcz25_0 : wc.cell? ⟨gb996, 0, none⟩ = some (.int .i64 a0_0) := (blk_cell BK996.out 0).trans rfl
             have hcz25_1 : wc.cell? ⟨gb996, 1, none⟩ = some (.slice A0_1 l0_1.length c0_1) := (blk_cell BK996.out 1).trans rfl
             have hfz25_0 := blk_frozen BK996.out 0
             have hfz25_1 := blk_frozen BK996.out 1
             obtain ⟨Ao26, co26, eo26⟩ := Kd.R_slice HO_9.out
             subst eo26
             try go_wp2_with (first | ((with_reducible refine gate_callee (f := 79) rfl ?_); refine goesL_ (some 27) rfl rfl Try.func79 (by kernel_rfl) rfl #[.agg #[.int .i64 a0_0, .slice A0_1 l0_1.length c0_1], .slice Ao26 x9_1.length co26] rfl (by (try simp only [List.map_toArray, List.map_cons, List.map_nil]); first | done | rfl | (simp only [List.length_drop, List.length_take]; rfl)) ?_; (with_reducible refine (spec_peFree.calls kj7 a0_0 _ _ l0_1 _ _ x9_1 t1000 _ ?side1 ?side2 ?side3 ?side4 A11.out).mono ?_); (case side1 => repeat (first | exact (Kd.C_below HR0_1.out HB.out) | (with_reducible refine Kd.C_alloc ?_ _) | (with_reducible refine Kd.C_drewN ?_ _) | (with_reducible refine Kd.C_drew ?_))); (case side2 => exact HC0_1.out); (case side3 => repeat (first | exact (Kd.R_reads' HO_9.out).2.2 | (with_reducible refine Kd.C_alloc ?_ _) | (with_reducible refine Kd.C_drewN ?_ _) | (with_reducible refine Kd.C_drew ?_))); (case side4 => exact (Kd.R_reads' HO_9.out).2.1); rintro e w27 ⟨v1001, rfl, ho0, hb⟩; refine ⟨_, rfl, ?_⟩; have n0_ := Aside0.mk (Kd.R_below (by (with_reducible repeat (first | apply Kd.R_alloc | apply Kd.R_drewN | apply Kd.R_drew)); exact HO_8.out) hb); have n1_ := Aside0.mk (Kd.R_elder' (by (with_reducible repeat (first | apply Kd.R_alloc | apply Kd.R_drewN | apply Kd.R_drew)); exact HO_9.out) (Kd.R_base ho0) hb); have n2_ := Aside0.mk (Kd.R_lower (Kd.R_new' ho0 (Kd.R_lt (by (with_reducible repeat (first | apply Kd.R_alloc | apply Kd.R_drewN | apply Kd.R_drew)); exact HO_9.out))) (below_size (by repeat (first | (with_reducible first | exact HB.out | apply below_alloc | apply pw_below_drewN | apply below_drew1 | refine below_set ?_ GE996.out) | exact HB.out)))); have n3_ := Aside0.mk (blk_below (g := gb996) (o := .cells #[.int .i64 a0_0, .slice A0_1 l0_1.length c0_1] 29 (0, 0)) (by (with_reducible repeat (first | refine blk_drewN ?_ _ | refine blk_drew ?_ | refine blk_alloc ?_ _)); exact BK996.out) hb); have n4_ := Aside0.mk (below_step (by repeat (first | (with_reducible first | exact HB.out | apply below_alloc | apply pw_below_drewN | apply below_drew1 | refine below_set ?_ GE996.out) | exact HB.out)) hb); clear HO_8; clear HO_9; clear BK996; clear HB; have HO_8 := n0_; have HO_9 := n1_; have HO1002 := n2_; have BK996 := n3_; have HB := n4_; clear n0_ n1_ n2_ n3_ n4_; (try clear hb); (try clear hb2); (try clear hk); (try clear hi); (try clear ho0); obtain ⟨Ao28, co28, eo28⟩ := Kd.R_slice HO1002.out; subst eo28; have p1003 : 0 ≤ (x10_1 : Int) := of_decide_eq_true (by first | (with_reducible assumption) | assumption); have q1003 : x10_1 < (l1.length : Int) := of_decide_eq_true (by first | (with_reducible assumption) | assumption); obtain ⟨ad1003, e1003, hx1003_0⟩ := Kd.at_int HR1.out x10_1 p1003 q1003; cases e1003; replace hx1003_0 := (HB.out.cell (World.block_lt_of_cell? w _ hx1003_0)).trans hx1003_0; replace p1003 := eq_true p1003; replace q1003 := eq_true q1003))
             have n0_ := Aside0.mk (Kd.R_drew HO_8.out)
             have n1_ := Aside0.mk (Kd.R_drew HO_9.out)
             have n2_ := Aside0.mk (Kd.R_drew HO1002.out)
             have n3_ := Aside0.mk (blk_drew BK996.out)
             have n4_ := Aside0.mk (below_drew1 HB.out)
             clear HO_8
             clear HO_9
             clear HO1002
             clear BK996
             clear HB
             have HO_8 := n0_
             have HO_9 := n1_
             have HO1002 := n2_
             have BK996 := n3_
             have HB := n4_
             clear n0_ n1_ n2_ n3_ n4_
             have p1004 : 0 ≤ ((ji19) : Int) := of_decide_eq_true (by first | (with_reducible assumption) | assumption)
             have q1004 : (ji19) < (t1000.length : Int) := of_decide_eq_true (by first | (with_reducible assumption) | assumption)
             obtain ⟨ad1004, e1004, hx1004_0⟩ := Kd.at_int (Kd.R_reads' HO1002.out).2.2 (ji19) p1004 q1004
             cases e1004
             replace p1004 := eq_true p1004
             replace q1004 := eq_true q1004
             have p1006 : 0 ≤ ((ji19) : Int) := of_decide_eq_true (by first | (with_reducible assumption) | assumption)
             have q1006 : (ji19) < (t1000.length : Int) := of_decide_eq_true (by first | (with_reducible assumption) | assumption)
             obtain ⟨ad1006, e1006, hx1006_0⟩ := Kd.at_int (Kd.R_reads' HO1002.out).2.2 (ji19) p1006 q1006
             obtain rfl : ad1004 = ad1006 := (by injection e1006)
             replace p1006 := eq_true p1006
             replace q1006 := eq_true q1006
             refine start_ (n := 14) (S := fun w' => w'.cell? ⟨gb996, 0, none⟩ = some (.int .i64 a0_0) ∧ w'.cell? ⟨gb996, 1, none⟩ = some (.slice A0_1 l0_1.length c0_1) ∧ w'.cell? (ad1004.add ((ji19)).toNat) = some (.int .i64 (rd t1000 (ji19))) ∧ w'.cell? (ad1004.add ((ji19)).toNat) = some (.int .i64 (rd t1000 (ji19)))) (ds := []) #[false, false, false, false, false, false, false, false, false, false, false, false, false, false] (by kernel_rfl) rfl rfl ⟨(blk_cell BK996.out 0).trans rfl, (blk_cell BK996.out 1).trans rfl, hx1004_0, hx1006_0⟩ (fun hHeld => ?_); refine with_tabW spec_pePeel.tab11 spec_pePeel.bits11 (fun HT_ HW_ => ?_)
             generalize w27.drew = w29 at HO_8 HO_9 HO1002 BK996 HB hx1004_0 hx1006_0 hHeld ⊢
             refine pq_ 1 43 14 2 HT_.out (by kernel_rfl) ?_
             refine pq_ 2 44 14 6 HT_.out (by kernel_rfl) ?_
             refine pq_ 3 45 14 14 HT_.out (by kernel_rfl) ?_
             refine pq_ 4 46 14 30 HT_.out (by kernel_rfl) ?_
             refine pq_ 7 49 14 158 HT_.out (by kernel_rfl) ?_
             refine pq_ 8 50 14 414 HT_.out (by kernel_rfl) ?_
             refine pq_ 9 51 14 926 HT_.out (by kernel_rfl) ?_
             refine tq_ 0 42 14 927 HT_.out HW_.out (by kernel_rfl) hHeld ?_ rfl (by rintro w' ⟨s0, s1, s2, s3⟩; go_simp; with_reducible rfl)
             refine tq_ 5 47 14 959 HT_.out HW_.out (by kernel_rfl) hHeld ?_ rfl (by rintro w' ⟨s0, s1, s2, s3⟩; go_simp; with_reducible rfl)
             refine tq_ 10 52 14 1983 HT_.out HW_.out (by kernel_rfl) hHeld ?_ rfl (by rintro w' ⟨s0, s1, s2, s3⟩; go_simp; with_reducible rfl)
             refine join_ (σ := Nat) 1 #[true, true, true, true, true, true, true, true, true, true, true, true, true, false] (fun s_ => [(48, .int .i64 t1005), (13, .pointer (some ⟨s_, 0, none⟩)), (53, .agg #[.int .i64 t1005, .int .i64 (rd t1000 (ji19))])]) (fun s_ w' => (w'.cell? ⟨gb996, 0, none⟩ = some (.int .i64 a0_0) ∧ w'.cell? ⟨gb996, 1, none⟩ = some (.slice A0_1 l0_1.length c0_1) ∧ w'.cell? (ad1004.add ((ji19)).toNat) = some (.int .i64 (rd t1000 (ji19))) ∧ w'.cell? (ad1004.add ((ji19)).toNat) = some (.int .i64 (rd t1000 (ji19)))) ∧ (Kd.R (Kd.int .i64) 3 w' w.heap.size (fun k_ => some k_ ≠ (.slice Ao26 x9_1.length co26 : Value).ownBlock) (.slice (some ad1004) t1000.length co28) t1000) ∧ (Kd.R k88 88 w' w.heap.size (fun k_ => k_ ≠ s_) u8 x8_1) ∧ (Kd.R (Kd.int .i64) 3 w' w.heap.size (fun k_ => some k_ ≠ (.slice (some ad1004) t1000.length co28 : Value).ownBlock) (.slice Ao26 x9_1.length co26) x9_1) ∧ (w'.heap[s_]? = some (.cells #[.int .i64 0, .int .i64 0] 88 (0, 0))) ∧ (w'.heap[gb996]? = some (.cells #[.int .i64 a0_0, .slice A0_1 l0_1.length c0_1] 29 (0, 0))) ∧ (w.heap.size ≤ s_) ∧ (w.heap.size ≤ s_) ∧ (gb996 ≠ s_) ∧ (s_ ≠ gb996) ∧ (Below w.heap.size w w')) ?_ ?_
             rotate_left
             ·intro hCont
              refine two_ (i := 6) (j := 12) (Ni := some 48) (Nj := some 13) (bsA 14 2047) #[true, true, true, true, true, true, false, true, true, true, true, false, true, false] rfl rfl rfl rfl (two_of HT_.out (by kernel_rfl)) (by decide) (by decide) (fun K hK => ?_) (fun K hK => ?_)
              ·skip
               refine goes_ Try.func125 (by kernel_rfl) rfl #[.agg #[.int .i64 a0_0, .slice A0_1 l0_1.length c0_1], .slice Ao26 x9_1.length co26, .int .i64 (rd t1000 (ji19))] (by rfl) rfl rfl (by (try simp only [List.map_toArray, List.map_cons, List.map_nil]); first | done | (simp only [hji19]; rfl) | rfl | (simp only [List.length_drop, List.length_take]; rfl)) ?_
               with_reducible refine (spec_peWith.calls kj7 a0_0 _ _ l0_1 _ _ x9_1 (rd t1000 (ji19)) t1005 _ ?side1 ?side2 ?side3 ?side4 A22.out).mono ?_
               (case side1 => repeat (first | exact (Kd.C_below HR0_1.out HB.out) | (with_reducible refine Kd.C_alloc ?_ _) | (with_reducible refine Kd.C_drewN ?_ _) | (with_reducible refine Kd.C_drew ?_)))
               (case side2 => exact HC0_1.out)
               (case side3 => repeat (first | exact (Kd.R_reads' HO_9.out).2.2 | (with_reducible refine Kd.C_alloc ?_ _) | (with_reducible refine Kd.C_drewN ?_ _) | (with_reducible refine Kd.C_drew ?_)))
               (case side4 => exact (Kd.R_reads' HO_9.out).2.1)
               rintro e w30 ⟨rfl, hb⟩
               have HS2_ := (hb.cell (World.block_lt_of_cell? _ _ (hHeld.2.2.1))).trans (hHeld.2.2.1)
               have HS3_ := (hb.cell (World.block_lt_of_cell? _ _ (hHeld.2.2.2))).trans (hHeld.2.2.2)
               refine ⟨_, rfl, ?_⟩
               have n0_ := Aside0.mk (Kd.R_below (by (with_reducible repeat (first | apply Kd.R_alloc | apply Kd.R_drewN | apply Kd.R_drew)); exact HO_8.out) hb)
               have n1_ := Aside0.mk (Kd.R_below (by (with_reducible repeat (first | apply Kd.R_alloc | apply Kd.R_drewN | apply Kd.R_drew)); exact HO_9.out) hb)
               have n2_ := Aside0.mk (Kd.R_below (by (with_reducible repeat (first | apply Kd.R_alloc | apply Kd.R_drewN | apply Kd.R_drew)); exact HO1002.out) hb)
               have n3_ := Aside0.mk (blk_below (g := gb996) (o := .cells #[.int .i64 a0_0, .slice A0_1 l0_1.length c0_1] 29 (0, 0)) (by (with_reducible repeat (first | refine blk_drewN ?_ _ | refine blk_drew ?_ | refine blk_alloc ?_ _)); exact BK996.out) hb)
               have n4_ := Aside0.mk (below_step (by repeat (first | (with_reducible first | exact HB.out | apply below_alloc | apply pw_below_drewN | apply below_drew1 | refine below_set ?_ GE996.out) | exact HB.out)) hb)
               clear HO_8
               clear HO_9
               clear HO1002
               clear BK996
               clear HB
               have HO_8 := n0_
               have HO_9 := n1_
               have HO1002 := n2_
               have BK996 := n3_
               have HB := n4_
               clear n0_ n1_ n2_ n3_ n4_
               (try clear hb)
               (try clear hb2)
               (try clear hk)
               (try clear hi)
               refine hK.out _ _ ⟨(blk_cell BK996.out 0).trans rfl, (blk_cell BK996.out 1).trans rfl, HS2_, HS3_⟩ (fun hHeld => ?_)
               clear hK K
               refine norm_ (a' := ?_) ?_ ?_
               rotate_left
               ·show Act.put _ (some 48) _ = _
                simp only [Act.put, List.setIfInBounds_toArray, List.set_cons_zero, List.set_cons_succ, i64_w]
                rfl
               refine pq_ 11 53 14 4095 HT_.out (by kernel_rfl) ?_
               refine one_ (i := 12) (N := some 13) (bsA 14 8191) rfl rfl (one_of HT_.out (by kernel_rfl)) (by decide) (fun K hK => ?_)
               refine box_step ?hg (N := 13) ?hd (cs := #[.int .i64 0, .int .i64 0]) (t := 88) ?hr ?_; (case hd => rfl); (case hg => rfl); (case hr => first | (go_simp; done) | (go_simp; rfl))
               intro gb1007 hg w31 hbox hb
               have HS2_ := (hb.cell (World.block_lt_of_cell? _ _ (hHeld.2.2.1))).trans (hHeld.2.2.1)
               have HS3_ := (hb.cell (World.block_lt_of_cell? _ _ (hHeld.2.2.2))).trans (hHeld.2.2.2)
               have n0_ := Aside0.mk (Kd.R_below (Kd.R_elderB (by (with_reducible repeat (first | apply Kd.R_alloc | apply Kd.R_drewN | apply Kd.R_drew)); exact HO_8.out) gb1007 (Nat.le_of_eq hg.symm)) hb)
               have n1_ := Aside0.mk (Kd.R_below (by (with_reducible repeat (first | apply Kd.R_alloc | apply Kd.R_drewN | apply Kd.R_drew)); exact HO_9.out) hb)
               have n2_ := Aside0.mk (Kd.R_below (by (with_reducible repeat (first | apply Kd.R_alloc | apply Kd.R_drewN | apply Kd.R_drew)); exact HO1002.out) hb)
               have n3_ := Aside0.mk (blk_below (g := gb996) (o := .cells #[.int .i64 a0_0, .slice A0_1 l0_1.length c0_1] 29 (0, 0)) (by (with_reducible repeat (first | refine blk_drewN ?_ _ | refine blk_drew ?_ | refine blk_alloc ?_ _)); exact BK996.out) hb)
               have n4_ := Aside0.mk (below_step (by repeat (first | (with_reducible first | exact HB.out | apply below_alloc | apply pw_below_drewN | apply below_drew1 | refine below_set ?_ GE996.out) | exact HB.out)) hb)
               have n5_ := Aside0.mk (hbox)
               have n6_ := Aside0.mk ((by rw [hg]; exact (below_size (by repeat (first | (with_reducible first | exact HB.out | apply below_alloc | apply pw_below_drewN | apply below_drew1 | refine below_set ?_ GE996.out) | exact HB.out))) : w.heap.size ≤ gb1007))
               have n7_ := Aside0.mk ((by rw [hg]; exact (below_size (by repeat (first | (with_reducible first | exact HB.out | apply below_alloc | apply pw_below_drewN | apply below_drew1 | refine below_set ?_ GE996.out) | exact HB.out))) : w.heap.size ≤ gb1007))
               have n8_ := Aside0.mk ((by rw [hg]; exact Nat.ne_of_lt (blk_lt (g := gb996) (o := .cells #[.int .i64 a0_0, .slice A0_1 l0_1.length c0_1] 29 (0, 0)) (by (with_reducible repeat (first | refine blk_drewN ?_ _ | refine blk_drew ?_ | refine blk_alloc ?_ _)); exact BK996.out)) : gb996 ≠ gb1007))
               have n9_ := Aside0.mk ((by rw [hg]; exact Nat.ne_of_gt (blk_lt (g := gb996) (o := .cells #[.int .i64 a0_0, .slice A0_1 l0_1.length c0_1] 29 (0, 0)) (by (with_reducible repeat (first | refine blk_drewN ?_ _ | refine blk_drew ?_ | refine blk_alloc ?_ _)); exact BK996.out)) : gb1007 ≠ gb996))
               clear HO_8
               clear HO_9
               clear HO1002
               clear BK996
               clear HB
               have HO_8 := n0_
               have HO_9 := n1_
               have HO1002 := n2_
               have BK996 := n3_
               have HB := n4_
               have BK1007 := n5_
               have GW1007 := n6_
               have GE1007 := n7_
               have NB996_1007 := n8_
               have NB1007_996 := n9_
               clear n0_ n1_ n2_ n3_ n4_ n5_ n6_ n7_ n8_ n9_
               clear hb hbox hg
               refine hK.out _ _ ⟨(blk_cell BK996.out 0).trans rfl, (blk_cell BK996.out 1).trans rfl, HS2_, HS3_⟩ (fun hHeld => ?_)
               clear hK K
               refine norm_ (a' := ?_) ?_ ?_
               rotate_left
               ·show Act.put _ (some 13) _ = _
                simp only [Act.put, List.setIfInBounds_toArray, List.set_cons_zero, List.set_cons_succ, i64_w]
                rfl
               exact norm_ (by simp only [putAll, Act.put, List.setIfInBounds_toArray, List.set_cons_zero, List.set_cons_succ]) (hCont (gb1007) _ ⟨hHeld, (by (with_reducible repeat (first | apply Kd.R_alloc | apply Kd.R_drewN | apply Kd.R_drew)); exact Kd.R_mono HO1002.out (fun _ hk => hk.2)), (by (with_reducible repeat (first | apply Kd.R_alloc | apply Kd.R_drewN | apply Kd.R_drew)); exact Kd.R_mono HO_8.out (fun _ hk => hk.2)), (by (with_reducible repeat (first | apply Kd.R_alloc | apply Kd.R_drewN | apply Kd.R_drew)); exact Kd.R_mono HO_9.out (fun _ hk => hk.2)), (by (with_reducible repeat (first | refine blk_drewN ?_ _ | refine blk_drew ?_ | refine blk_alloc ?_ _)); exact BK1007.out), (by (with_reducible repeat (first | refine blk_drewN ?_ _ | refine blk_drew ?_ | refine blk_alloc ?_ _)); exact BK996.out), GW1007.out, GE1007.out, NB996_1007.out, NB1007_996.out, (by repeat (first | (with_reducible first | exact HB.out | apply below_alloc | apply pw_below_drewN | apply below_drew1 | refine below_set ?_ GE996.out | refine below_set ?_ GE1007.out) | exact HB.out))⟩)
              ·skip
               refine box_step ?hg (N := 13) ?hd (cs := #[.int .i64 0, .int .i64 0]) (t := 88) ?hr ?_; (case hd => rfl); (case hg => rfl); (case hr => first | (go_simp; done) | (go_simp; rfl))
               intro gb1007 hg w30 hbox hb
               have HS2_ := (hb.cell (World.block_lt_of_cell? _ _ (hHeld.2.2.1))).trans (hHeld.2.2.1)
               have HS3_ := (hb.cell (World.block_lt_of_cell? _ _ (hHeld.2.2.2))).trans (hHeld.2.2.2)
               have n0_ := Aside0.mk (Kd.R_below (Kd.R_elderB (by (with_reducible repeat (first | apply Kd.R_alloc | apply Kd.R_drewN | apply Kd.R_drew)); exact HO_8.out) gb1007 (Nat.le_of_eq hg.symm)) hb)
               have n1_ := Aside0.mk (Kd.R_below (by (with_reducible repeat (first | apply Kd.R_alloc | apply Kd.R_drewN | apply Kd.R_drew)); exact HO_9.out) hb)
               have n2_ := Aside0.mk (Kd.R_below (by (with_reducible repeat (first | apply Kd.R_alloc | apply Kd.R_drewN | apply Kd.R_drew)); exact HO1002.out) hb)
               have n3_ := Aside0.mk (blk_below (g := gb996) (o := .cells #[.int .i64 a0_0, .slice A0_1 l0_1.length c0_1] 29 (0, 0)) (by (with_reducible repeat (first | refine blk_drewN ?_ _ | refine blk_drew ?_ | refine blk_alloc ?_ _)); exact BK996.out) hb)
               have n4_ := Aside0.mk (below_step (by repeat (first | (with_reducible first | exact HB.out | apply below_alloc | apply pw_below_drewN | apply below_drew1 | refine below_set ?_ GE996.out) | exact HB.out)) hb)
               have n5_ := Aside0.mk (hbox)
               have n6_ := Aside0.mk ((by rw [hg]; exact (below_size (by repeat (first | (with_reducible first | exact HB.out | apply below_alloc | apply pw_below_drewN | apply below_drew1 | refine below_set ?_ GE996.out) | exact HB.out))) : w.heap.size ≤ gb1007))
               have n7_ := Aside0.mk ((by rw [hg]; exact (below_size (by repeat (first | (with_reducible first | exact HB.out | apply below_alloc | apply pw_below_drewN | apply below_drew1 | refine below_set ?_ GE996.out) | exact HB.out))) : w.heap.size ≤ gb1007))
               have n8_ := Aside0.mk ((by rw [hg]; exact Nat.ne_of_lt (blk_lt (g := gb996) (o := .cells #[.int .i64 a0_0, .slice A0_1 l0_1.length c0_1] 29 (0, 0)) (by (with_reducible repeat (first | refine blk_drewN ?_ _ | refine blk_drew ?_ | refine blk_alloc ?_ _)); exact BK996.out)) : gb996 ≠ gb1007))
               have n9_ := Aside0.mk ((by rw [hg]; exact Nat.ne_of_gt (blk_lt (g := gb996) (o := .cells #[.int .i64 a0_0, .slice A0_1 l0_1.length c0_1] 29 (0, 0)) (by (with_reducible repeat (first | refine blk_drewN ?_ _ | refine blk_drew ?_ | refine blk_alloc ?_ _)); exact BK996.out)) : gb1007 ≠ gb996))
               clear HO_8
               clear HO_9
               clear HO1002
               clear BK996
               clear HB
               have HO_8 := n0_
               have HO_9 := n1_
               have HO1002 := n2_
               have BK996 := n3_
               have HB := n4_
               have BK1007 := n5_
               have GW1007 := n6_
               have GE1007 := n7_
               have NB996_1007 := n8_
               have NB1007_996 := n9_
               clear n0_ n1_ n2_ n3_ n4_ n5_ n6_ n7_ n8_ n9_
               clear hb hbox hg
               refine hK.out _ _ ⟨(blk_cell BK996.out 0).trans rfl, (blk_cell BK996.out 1).trans rfl, HS2_, HS3_⟩ (fun hHeld => ?_)
               clear hK K
               refine norm_ (a' := ?_) ?_ ?_
               rotate_left
               ·show Act.put _ (some 13) _ = _
                simp only [Act.put, List.setIfInBounds_toArray, List.set_cons_zero, List.set_cons_succ, i64_w]
                rfl
               refine one_ (i := 6) (N := some 48) (bsA 14 6143) rfl rfl (one_of HT_.out (by kernel_rfl)) (by decide) (fun K hK => ?_)
               refine goes_ Try.func125 (by kernel_rfl) rfl #[.agg #[.int .i64 a0_0, .slice A0_1 l0_1.length c0_1], .slice Ao26 x9_1.length co26, .int .i64 (rd t1000 (ji19))] (by rfl) rfl rfl (by (try simp only [List.map_toArray, List.map_cons, List.map_nil]); first | done | (simp only [hji19]; rfl) | rfl | (simp only [List.length_drop, List.length_take]; rfl)) ?_
               with_reducible refine (spec_peWith.calls kj7 a0_0 _ _ l0_1 _ _ x9_1 (rd t1000 (ji19)) t1005 _ ?side1 ?side2 ?side3 ?side4 A22.out).mono ?_
               (case side1 => repeat (first | exact (Kd.C_below HR0_1.out HB.out) | (with_reducible refine Kd.C_alloc ?_ _) | (with_reducible refine Kd.C_drewN ?_ _) | (with_reducible refine Kd.C_drew ?_)))
               (case side2 => exact HC0_1.out)
               (case side3 => repeat (first | exact (Kd.R_reads' HO_9.out).2.2 | (with_reducible refine Kd.C_alloc ?_ _) | (with_reducible refine Kd.C_drewN ?_ _) | (with_reducible refine Kd.C_drew ?_)))
               (case side4 => exact (Kd.R_reads' HO_9.out).2.1)
               rintro e w31 ⟨rfl, hb⟩
               have HS2_ := (hb.cell (World.block_lt_of_cell? _ _ (hHeld.2.2.1))).trans (hHeld.2.2.1)
               have HS3_ := (hb.cell (World.block_lt_of_cell? _ _ (hHeld.2.2.2))).trans (hHeld.2.2.2)
               refine ⟨_, rfl, ?_⟩
               have n0_ := Aside0.mk (Kd.R_below (by (with_reducible repeat (first | apply Kd.R_alloc | apply Kd.R_drewN | apply Kd.R_drew)); exact HO_8.out) hb)
               have n1_ := Aside0.mk (Kd.R_below (by (with_reducible repeat (first | apply Kd.R_alloc | apply Kd.R_drewN | apply Kd.R_drew)); exact HO_9.out) hb)
               have n2_ := Aside0.mk (Kd.R_below (by (with_reducible repeat (first | apply Kd.R_alloc | apply Kd.R_drewN | apply Kd.R_drew)); exact HO1002.out) hb)
               have n3_ := Aside0.mk (blk_below (g := gb996) (o := .cells #[.int .i64 a0_0, .slice A0_1 l0_1.length c0_1] 29 (0, 0)) (by (with_reducible repeat (first | refine blk_drewN ?_ _ | refine blk_drew ?_ | refine blk_alloc ?_ _)); exact BK996.out) hb)
               have n4_ := Aside0.mk (blk_below (g := gb1007) (o := .cells #[.int .i64 0, .int .i64 0] 88 (0, 0)) (by (with_reducible repeat (first | refine blk_drewN ?_ _ | refine blk_drew ?_ | refine blk_alloc ?_ _)); exact BK1007.out) hb)
               have n5_ := Aside0.mk (below_step (by repeat (first | (with_reducible first | exact HB.out | apply below_alloc | apply pw_below_drewN | apply below_drew1 | refine below_set ?_ GE996.out | refine below_set ?_ GE1007.out) | exact HB.out)) hb)
               clear HO_8
               clear HO_9
               clear HO1002
               clear BK996
               clear BK1007
               clear HB
               have HO_8 := n0_
               have HO_9 := n1_
               have HO1002 := n2_
               have BK996 := n3_
               have BK1007 := n4_
               have HB := n5_
               clear n0_ n1_ n2_ n3_ n4_ n5_
               (try clear hb)
               (try clear hb2)
               (try clear hk)
               (try clear hi)
               refine hK.out _ _ ⟨(blk_cell BK996.out 0).trans rfl, (blk_cell BK996.out 1).trans rfl, HS2_, HS3_⟩ (fun hHeld => ?_)
               clear hK K
               refine norm_ (a' := ?_) ?_ ?_
               rotate_left
               ·show Act.put _ (some 48) _ = _
                simp only [Act.put, List.setIfInBounds_toArray, List.set_cons_zero, List.set_cons_succ, i64_w]
                rfl
               refine pq_ 11 53 14 8191 HT_.out (by kernel_rfl) ?_
               exact norm_ (by simp only [putAll, Act.put, List.setIfInBounds_toArray, List.set_cons_zero, List.set_cons_succ]) (hCont (gb1007) _ ⟨hHeld, (by (with_reducible repeat (first | apply Kd.R_alloc | apply Kd.R_drewN | apply Kd.R_drew)); exact Kd.R_mono HO1002.out (fun _ hk => hk.2)), (by (with_reducible repeat (first | apply Kd.R_alloc | apply Kd.R_drewN | apply Kd.R_drew)); exact Kd.R_mono HO_8.out (fun _ hk => hk.2)), (by (with_reducible repeat (first | apply Kd.R_alloc | apply Kd.R_drewN | apply Kd.R_drew)); exact Kd.R_mono HO_9.out (fun _ hk => hk.2)), (by (with_reducible repeat (first | refine blk_drewN ?_ _ | refine blk_drew ?_ | refine blk_alloc ?_ _)); exact BK1007.out), (by (with_reducible repeat (first | refine blk_drewN ?_ _ | refine blk_drew ?_ | refine blk_alloc ?_ _)); exact BK996.out), GW1007.out, GE1007.out, NB996_1007.out, NB1007_996.out, (by repeat (first | (with_reducible first | exact HB.out | apply below_alloc | apply pw_below_drewN | apply below_drew1 | refine below_set ?_ GE996.out | refine below_set ?_ GE1007.out) | exact HB.out))⟩)
             rintro gb1007 w32 ⟨hS_, h0_, h1_, h2_, h3_, h4_, h5_, h6_, h7_, h8_, h9_⟩
             have n0_ : Aside0 (Kd.R (Kd.int .i64) 3 w32 w.heap.size (fun k_ => some k_ ≠ (.slice Ao26 x9_1.length co26 : Value).ownBlock) (.slice (some ad1004) t1000.length co28) t1000) := ⟨h0_⟩
             have n1_ : Aside0 (Kd.R k88 88 w32 w.heap.size (fun k_ => k_ ≠ gb1007) u8 x8_1) := ⟨h1_⟩
             have n2_ : Aside0 (Kd.R (Kd.int .i64) 3 w32 w.heap.size (fun k_ => some k_ ≠ (.slice (some ad1004) t1000.length co28 : Value).ownBlock) (.slice Ao26 x9_1.length co26) x9_1) := ⟨h2_⟩
             have n3_ : Aside0 (w32.heap[gb1007]? = some (.cells #[.int .i64 0, .int .i64 0] 88 (0, 0))) := ⟨h3_⟩
             have n4_ : Aside0 (w32.heap[gb996]? = some (.cells #[.int .i64 a0_0, .slice A0_1 l0_1.length c0_1] 29 (0, 0))) := ⟨h4_⟩
             have n5_ : Aside0 (w.heap.size ≤ gb1007) := ⟨h5_⟩
             have n6_ : Aside0 (w.heap.size ≤ gb1007) := ⟨h6_⟩
             have n7_ : Aside0 (gb996 ≠ gb1007) := ⟨h7_⟩
             have n8_ : Aside0 (gb1007 ≠ gb996) := ⟨h8_⟩
             have n9_ : Aside0 (Below w.heap.size w w32) := ⟨h9_⟩
             clear HO_8
             clear HO_9
             clear HO1002
             clear BK996
             clear HB
             clear h0_ h1_ h2_ h3_ h4_ h5_ h6_ h7_ h8_ h9_
             have HO1002 := n0_
             have HO_8 := n1_
             have HO_9 := n2_
             have BK1007 := n3_
             have BK996 := n4_
             have GW1007 := n5_
             have GE1007 := n6_
             have NB996_1007 := n7_
             have NB1007_996 := n8_
             have HB := n9_
             clear n0_ n1_ n2_ n3_ n4_ n5_ n6_ n7_ n8_ n9_
             have hHeld : w32.cell? ⟨gb996, 0, none⟩ = some (.int .i64 a0_0) ∧ w32.cell? ⟨gb996, 1, none⟩ = some (.slice A0_1 l0_1.length c0_1) ∧ w32.cell? (ad1004.add ((ji19)).toNat) = some (.int .i64 (rd t1000 (ji19))) ∧ w32.cell? (ad1004.add ((ji19)).toNat) = some (.int .i64 (rd t1000 (ji19))) := hS_
             refine norm_ (a' := ?_) ?_ ?_
             rotate_left
             ·simp only [putAll, Act.put, List.setIfInBounds_toArray, List.set_cons_zero, List.set_cons_succ]
              rfl
             refine one_ (i := 13) (N := none) (bsA 14 16383) rfl rfl (one_of HT_.out (by kernel_rfl)) (by decide) (fun K hK => ?_)
             have hs33 : w32.cell? ⟨gb1007, 0, none⟩ = some (.int .i64 0) := (blk_cell BK1007.out 0).trans rfl
             have hfs33 := blk_frozen BK1007.out 0
             have hns33_0 := NB996_1007.out
             have hms33_0 := NB1007_996.out
             have hs34 : w32.cell? ⟨gb1007, 1, none⟩ = some (.int .i64 0) := (blk_cell BK1007.out 1).trans rfl
             have hfs34 := blk_frozen BK1007.out 1
             have hns34_0 := NB996_1007.out
             have hms34_0 := NB1007_996.out
             refine skip_ (w1 := ?_) (by rfl) rfl ?_ ?_
             rotate_left
             ·go_simp
              rfl
             refine hK.out _ _ ⟨((cell_far (p := ⟨gb1007, _, none⟩) NB996_1007.out _).trans (((cell_far (p := ⟨gb1007, _, none⟩) NB996_1007.out _).trans (hHeld.1)))), ((cell_far (p := ⟨gb1007, _, none⟩) NB996_1007.out _).trans (((cell_far (p := ⟨gb1007, _, none⟩) NB996_1007.out _).trans (hHeld.2.1)))), ((cell_far (p := ⟨gb1007, _, none⟩) (by first | exact Kd.own_blk (Kd.R_ne HO1002.out BK1007.out (by decide)) | (rw [add_block]; exact Kd.own_blk (Kd.R_ne HO1002.out BK1007.out (by decide))) | (show (Addr.add _ _).block ≠ _; rw [add_block]; exact Kd.own_blk (Kd.R_ne HO1002.out BK1007.out (by decide))) | (dsimp only; exact Kd.own_blk (Kd.R_ne HO1002.out BK1007.out (by decide)))) _).trans (((cell_far (p := ⟨gb1007, _, none⟩) (by first | exact Kd.own_blk (Kd.R_ne HO1002.out BK1007.out (by decide)) | (rw [add_block]; exact Kd.own_blk (Kd.R_ne HO1002.out BK1007.out (by decide))) | (show (Addr.add _ _).block ≠ _; rw [add_block]; exact Kd.own_blk (Kd.R_ne HO1002.out BK1007.out (by decide))) | (dsimp only; exact Kd.own_blk (Kd.R_ne HO1002.out BK1007.out (by decide)))) _).trans (hHeld.2.2.1)))), ((cell_far (p := ⟨gb1007, _, none⟩) (by first | exact Kd.own_blk (Kd.R_ne HO1002.out BK1007.out (by decide)) | (rw [add_block]; exact Kd.own_blk (Kd.R_ne HO1002.out BK1007.out (by decide))) | (show (Addr.add _ _).block ≠ _; rw [add_block]; exact Kd.own_blk (Kd.R_ne HO1002.out BK1007.out (by decide))) | (dsimp only; exact Kd.own_blk (Kd.R_ne HO1002.out BK1007.out (by decide)))) _).trans (((cell_far (p := ⟨gb1007, _, none⟩) (by first | exact Kd.own_blk (Kd.R_ne HO1002.out BK1007.out (by decide)) | (rw [add_block]; exact Kd.own_blk (Kd.R_ne HO1002.out BK1007.out (by decide))) | (show (Addr.add _ _).block ≠ _; rw [add_block]; exact Kd.own_blk (Kd.R_ne HO1002.out BK1007.out (by decide))) | (dsimp only; exact Kd.own_blk (Kd.R_ne HO1002.out BK1007.out (by decide)))) _).trans (hHeld.2.2.2))))⟩ (fun hHeld => ?_)
             clear hK K
             refine done_ (done_of HT_.out (by kernel_rfl)) ?_
             have hnb35 := NB1007_996.out
             have hnc35 := NB996_1007.out
             have hcz36_0 : w32.cell? ⟨gb1007, 0, none⟩ = some (.int .i64 0) := (blk_cell BK1007.out 0).trans rfl
             have hcz36_1 : w32.cell? ⟨gb1007, 1, none⟩ = some (.int .i64 0) := (blk_cell BK1007.out 1).trans rfl
             have hfz36_0 := blk_frozen BK1007.out 0
             have hfz36_1 := blk_frozen BK1007.out 1
             try go_wp2_with (first | ((with_reducible refine gate_builtin (b := .append) (xs := #[.tmp 54, .tmp 56]) rfl ?_); (try (refine gate_guard (by rfl) ?_; dsimp only)); at_builtin; refine Kd.R_append k88 (w0 := w) w.heap.size rfl (.tmp 54) (.tmp 56) 58 88 (.agg #[(.int .i64 0), (.int .i64 0)]) 16 rfl Try.underlying58 info88 rfl (by decide) (by omega) u8 x8_1 (⟨t1005, rd t1000 (ji19)⟩ : S88) [.int .i64 t1005, .int .i64 (rd t1000 (ji19))] (fun k_ => k_ ≠ gb1007) (fun _ => False) rfl (by first | (go_simp; done) | (go_simp; rfl)) ?aP (fun _ hk => hk.elim) ?aF ?aO ?aB ?aS ?aL ?_; (case aP => exact k88_mkM _ _ _ (⟨t1005, rd t1000 (ji19)⟩ : S88)); (case aB => exact (by repeat (first | (with_reducible first | exact HB.out | apply below_alloc | apply pw_below_drewN | apply below_drew1 | refine below_set ?_ GE996.out | refine below_set ?_ GE1007.out) | exact HB.out))); (case aF => exact (fun k_ hk => Kd.freshB (g := gb1007) (o := .cells #[.int .i64 t1005, .int .i64 (rd t1000 (ji19))] 88 (0, 0)) (by (with_reducible repeat (first | refine blk_drewN ?_ _ | refine blk_drew ?_ | refine blk_alloc ?_ _)); refine blk_put (cs := #[.int .i64 t1005, .int .i64 0]) ?_ 1 _ rfl; (with_reducible repeat (first | refine blk_drewN ?_ _ | refine blk_drew ?_ | refine blk_alloc ?_ _)); refine blk_put (cs := #[.int .i64 0, .int .i64 0]) ?_ 0 _ rfl; (with_reducible repeat (first | refine blk_drewN ?_ _ | refine blk_drew ?_ | refine blk_alloc ?_ _)); exact BK1007.out) k_ hk)); (case aO => exact (by (with_reducible repeat (first | apply Kd.R_alloc | apply Kd.R_drewN | apply Kd.R_drew)); exact Kd.R_mono (Kd.R_far (p := ⟨gb1007, 1, none⟩) (Kd.R_far (p := ⟨gb1007, 0, none⟩) (Kd.R_mono HO_8.out (fun k_ hk => (⟨hk, hk⟩ : _ ∧ k_ ≠ gb1007))) (fun _ hk => hk.2) (.int .i64 t1005)) (fun _ hk => hk.2) (.int .i64 (rd t1000 (ji19)))) (fun _ hk => hk.1))); (case aS => exact (below_size (by repeat (first | (with_reducible first | exact HB.out | apply below_alloc | apply pw_below_drewN | apply below_drew1 | refine below_set ?_ GE996.out | refine below_set ?_ GE1007.out) | exact HB.out)))); (case aL => have := LMc23.out; omega); intro v1009 w37 ho hb hg hat; rw [← Ny1008.out] at ho; have n0_ := Aside0.mk (Kd.R_over' (by (with_reducible repeat (first | apply Kd.R_alloc | apply Kd.R_drewN | apply Kd.R_drew)); exact (Kd.R_mono (Kd.R_far (p := ⟨gb1007, 1, none⟩) (Kd.R_far (p := ⟨gb1007, 0, none⟩) (Kd.R_types HO_9.out BK1007.out (by decide)) (fun _ hk => hk.2) (.int .i64 t1005)) (fun _ hk => hk.2) (.int .i64 (rd t1000 (ji19)))) (fun _ h_ => h_.1))) (Kd.R_typed (by (with_reducible repeat (first | apply Kd.R_alloc | apply Kd.R_drewN | apply Kd.R_drew)); exact (Kd.R_mono (Kd.R_far (p := ⟨gb1007, 1, none⟩) (Kd.R_far (p := ⟨gb1007, 0, none⟩) (Kd.R_mono HO_8.out (fun k_ hk => (⟨hk, hk⟩ : _ ∧ k_ ≠ gb1007))) (fun _ hk => hk.2) (.int .i64 t1005)) (fun _ hk => hk.2) (.int .i64 (rd t1000 (ji19)))) (fun _ h_ => h_.1)))) (by decide) hg); have n1_ := Aside0.mk (blk_grown (g := gb996) (o := .cells #[.int .i64 a0_0, .slice A0_1 l0_1.length c0_1] 29 (0, 0)) (by (with_reducible repeat (first | refine blk_drewN ?_ _ | refine blk_drew ?_ | refine blk_alloc ?_ _)); refine blk_far ?_ NB996_1007.out _; (with_reducible repeat (first | refine blk_drewN ?_ _ | refine blk_drew ?_ | refine blk_alloc ?_ _)); refine blk_far ?_ NB996_1007.out _; (with_reducible repeat (first | refine blk_drewN ?_ _ | refine blk_drew ?_ | refine blk_alloc ?_ _)); exact BK996.out) hg (Kd.R_ne HO_8.out BK996.out (by decide))); have n2_ := Aside0.mk (Kd.R_over' (by (with_reducible repeat (first | apply Kd.R_alloc | apply Kd.R_drewN | apply Kd.R_drew)); exact (Kd.R_mono (Kd.R_far (p := ⟨gb1007, 1, none⟩) (Kd.R_far (p := ⟨gb1007, 0, none⟩) (Kd.R_types HO1002.out BK1007.out (by decide)) (fun _ hk => hk.2) (.int .i64 t1005)) (fun _ hk => hk.2) (.int .i64 (rd t1000 (ji19)))) (fun _ h_ => h_.1))) (Kd.R_typed (by (with_reducible repeat (first | apply Kd.R_alloc | apply Kd.R_drewN | apply Kd.R_drew)); exact (Kd.R_mono (Kd.R_far (p := ⟨gb1007, 1, none⟩) (Kd.R_far (p := ⟨gb1007, 0, none⟩) (Kd.R_mono HO_8.out (fun k_ hk => (⟨hk, hk⟩ : _ ∧ k_ ≠ gb1007))) (fun _ hk => hk.2) (.int .i64 t1005)) (fun _ hk => hk.2) (.int .i64 (rd t1000 (ji19)))) (fun _ h_ => h_.1)))) (by decide) hg); have n3_ := Aside0.mk (blk_grown (g := gb1007) (o := .cells #[.int .i64 t1005, .int .i64 (rd t1000 (ji19))] 88 (0, 0)) (by (with_reducible repeat (first | refine blk_drewN ?_ _ | refine blk_drew ?_ | refine blk_alloc ?_ _)); refine blk_put (cs := #[.int .i64 t1005, .int .i64 0]) ?_ 1 _ rfl; (with_reducible repeat (first | refine blk_drewN ?_ _ | refine blk_drew ?_ | refine blk_alloc ?_ _)); refine blk_put (cs := #[.int .i64 0, .int .i64 0]) ?_ 0 _ rfl; (with_reducible repeat (first | refine blk_drewN ?_ _ | refine blk_drew ?_ | refine blk_alloc ?_ _)); exact BK1007.out) hg (Kd.R_away HO_8.out (fun _ hk => hk))); have n4_ := Aside0.mk (hb); have n5_ := Aside0.mk (ho); clear HO_9; clear BK996; clear HO1002; clear BK1007; clear HB; clear HO_8; have HO_9 := n0_; have BK996 := n1_; have HO1002 := n2_; have BK1007 := n3_; have HB := n4_; have HO1010 := n5_; clear n0_ n1_ n2_ n3_ n4_ n5_; clear ho hb hg hat; have hcz38_0 : w37.cell? ⟨gb1007, 0, none⟩ = some (.int .i64 t1005) := (blk_cell BK1007.out 0).trans rfl; have hcz38_1 : w37.cell? ⟨gb1007, 1, none⟩ = some (.int .i64 (rd t1000 (ji19))) := (blk_cell BK1007.out 1).trans rfl; have hfz38_0 := blk_frozen BK1007.out 0; have hfz38_1 := blk_frozen BK1007.out 1) | ((with_reducible refine gate_callee (f := 126) rfl ?_); refine goesL_ (some 61) rfl rfl Try.func126 (by kernel_rfl) rfl #[.slice Ao26 x9_1.length co26, .int .i64 t1005] rfl (by (try simp only [List.map_toArray, List.map_cons, List.map_nil]); first | done | rfl | (simp only [List.length_drop, List.length_take]; rfl)) ?_; (with_reducible refine (spec_l1Drop.calls kj7 _ _ x9_1 t1005 t1011 _ ?side1 ?side2 A24.out).mono ?_); (case side1 => repeat (first | exact (Kd.R_reads' HO_9.out).2.2 | (with_reducible refine Kd.C_alloc ?_ _) | (with_reducible refine Kd.C_drewN ?_ _) | (with_reducible refine Kd.C_drew ?_))); (case side2 => exact (Kd.R_reads' HO_9.out).2.1); rintro e w39 ⟨v1012, rfl, ho0, hb⟩; refine ⟨_, rfl, ?_⟩; have n0_ := Aside0.mk (Kd.R_elder' (by (with_reducible repeat (first | apply Kd.R_alloc | apply Kd.R_drewN | apply Kd.R_drew)); exact HO_9.out) (Kd.R_base ho0) hb); have n1_ := Aside0.mk (Kd.R_elder' (by (with_reducible repeat (first | apply Kd.R_alloc | apply Kd.R_drewN | apply Kd.R_drew)); exact HO1002.out) (Kd.R_base ho0) hb); have n2_ := Aside0.mk (Kd.R_below (by (with_reducible repeat (first | apply Kd.R_alloc | apply Kd.R_drewN | apply Kd.R_drew)); exact HO1010.out) hb); have n3_ := Aside0.mk (Kd.R_lower (Kd.R_new' (Kd.R_new' ho0 (Kd.R_lt (by (with_reducible repeat (first | apply Kd.R_alloc | apply Kd.R_drewN | apply Kd.R_drew)); exact HO_9.out))) (Kd.R_lt (by (with_reducible repeat (first | apply Kd.R_alloc | apply Kd.R_drewN | apply Kd.R_drew)); exact HO1002.out))) (below_size (by repeat (first | (with_reducible first | exact HB.out | apply below_alloc | apply pw_below_drewN | apply below_drew1 | refine below_set ?_ GE996.out | refine below_set ?_ GE1007.out) | exact HB.out)))); have n4_ := Aside0.mk (blk_below (g := gb996) (o := .cells #[.int .i64 a0_0, .slice A0_1 l0_1.length c0_1] 29 (0, 0)) (by (with_reducible repeat (first | refine blk_drewN ?_ _ | refine blk_drew ?_ | refine blk_alloc ?_ _)); exact BK996.out) hb); have n5_ := Aside0.mk (blk_below (g := gb1007) (o := .cells #[.int .i64 t1005, .int .i64 (rd t1000 (ji19))] 88 (0, 0)) (by (with_reducible repeat (first | refine blk_drewN ?_ _ | refine blk_drew ?_ | refine blk_alloc ?_ _)); exact BK1007.out) hb); have n6_ := Aside0.mk (below_step (by repeat (first | (with_reducible first | exact HB.out | apply below_alloc | apply pw_below_drewN | apply below_drew1 | refine below_set ?_ GE996.out | refine below_set ?_ GE1007.out) | exact HB.out)) hb); clear HO_9; clear HO1002; clear HO1010; clear BK996; clear BK1007; clear HB; have HO_9 := n0_; have HO1002 := n1_; have HO1010 := n2_; have HO1013 := n3_; have BK996 := n4_; have BK1007 := n5_; have HB := n6_; clear n0_ n1_ n2_ n3_ n4_ n5_ n6_; (try clear hb); (try clear hb2); (try clear hk); (try clear hi); (try clear ho0)))
             go_roundg kj7
             case measure => have := HK1.out; have := HJ7.out; omega
             case rel => exact ⟨(y1008), (t1011), (wrap64 (x10_1 + 1)), (by first | rfl | (simp; done) | (simp [*]; done)), H', ⟨by have := HK1.out; have := HJ7.out; omega⟩, ⟨by (with_reducible repeat (first | apply Kd.R_alloc | apply Kd.R_drewN | apply Kd.R_drew)); exact Kd.R_mono HO1010.out (fun _ hk => trivial)⟩, ⟨by (with_reducible repeat (first | apply Kd.R_alloc | apply Kd.R_drewN | apply Kd.R_drew)); exact Kd.R_mono HO1013.out (fun _ hk => trivial)⟩, ⟨by (with_reducible repeat (first | refine blk_drewN ?_ _ | refine blk_drew ?_ | refine blk_alloc ?_ _)); exact BK996.out⟩, ⟨by repeat (first | (with_reducible first | exact HB.out | apply below_alloc | apply pw_below_drewN | apply below_drew1 | refine below_set ?_ GE996.out | refine below_set ?_ GE1007.out) | exact HB.out)⟩⟩
            ·rw [if_neg c23] at H
             exact absurd H (by simp)
           ·rw [if_neg c21] at H
            exact absurd H (by simp)
          ·rw [if_neg c20] at H
           exact absurd H (by simp)
         ·rw [if_neg c18] at H
          exact absurd H (by simp)
        ·rw [if_neg c17] at H
         have c17b0 : decide (x10_1 < (l1.length : Int)) = false := decide_eq_false c17
         clear c17
         by_cases c40 : 0 < (t1000.length : Int)
         ·rw [if_pos c40] at H
          have c40b0 : decide (0 < (t1000.length : Int)) = true := decide_eq_true c40
          have c40b1 : decide (0 < t1000.length) = true := decide_eq_true (by omega)
          clear c40
          replace H := Option.bind_eq_some_iff.mp H
          obtain ⟨t1015, A410, H⟩ := H
          replace H : (if x8_1.length < 8796093022208 then ((spec_l1Drop.f kj7 x9_1 t1015).bind fun t1021 => (spec_pePeel.l0 kj7 l1 a2 (x8_1 ++ [(⟨t1015, rd t1000 0⟩ : S88)]) t1021 (wrap64 (x10_1 + 1)) a0_0 l0_1)) else (none)) = some (r1, r2) := H
          have A41 := Aside0.mk A410
          clear A410
          by_cases c42 : x8_1.length < 8796093022208
          ·rw [if_pos c42] at H
           have LMc42 := Aside0.mk c42
           clear c42
           obtain ⟨y1018, hy1018⟩ : ∃ y_ : List (S88), y_ = (x8_1 ++ [(⟨t1015, rd t1000 0⟩ : S88)]) := ⟨_, rfl⟩
           replace H : ((spec_l1Drop.f kj7 x9_1 t1015).bind fun t1021 => (spec_pePeel.l0 kj7 l1 a2 y1018 t1021 (wrap64 (x10_1 + 1)) a0_0 l0_1)) = some (r1, r2) := by first | (rw [hy1018]; with_reducible exact H) | (have H2_ := (Option.bind_some _ _).symm.trans H; rw [hy1018]; with_reducible exact H2_) | (have H2_ := (Option.bind_some _ _).symm.trans H; with_reducible exact H2_) | with_reducible exact H | (rw [hy1018]; exact H) | exact H
           have Ny1018 := Aside0.mk hy1018
           clear hy1018
           replace H := Option.bind_eq_some_iff.mp H
           obtain ⟨t1021, A430, H⟩ := H
           replace H : (spec_pePeel.l0 kj7 l1 a2 y1018 t1021 (wrap64 (x10_1 + 1)) a0_0 l0_1) = some (r1, r2) := H
           have A43 := Aside0.mk A430
           clear A430
           have H' := Aside0.mk H
           clear H
           have hcz44_0 : wc.cell? ⟨gb996, 0, none⟩ = some (.int .i64 a0_0) := (blk_cell BK996.out 0).trans rfl
           have hcz44_1 : wc.cell? ⟨gb996, 1, none⟩ = some (.slice A0_1 l0_1.length c0_1) := (blk_cell BK996.out 1).trans rfl
           have hfz44_0 := blk_frozen BK996.out 0
           have hfz44_1 := blk_frozen BK996.out 1
           obtain ⟨Ao45, co45, eo45⟩ := Kd.R_slice HO_9.out
           subst eo45
           try go_wp2_with (first | ((with_reducible refine gate_callee (f := 79) rfl ?_); refine goesL_ (some 27) rfl rfl Try.func79 (by kernel_rfl) rfl #[.agg #[.int .i64 a0_0, .slice A0_1 l0_1.length c0_1], .slice Ao45 x9_1.length co45] rfl (by (try simp only [List.map_toArray, List.map_cons, List.map_nil]); first | done | rfl | (simp only [List.length_drop, List.length_take]; rfl)) ?_; (with_reducible refine (spec_peFree.calls kj7 a0_0 _ _ l0_1 _ _ x9_1 t1000 _ ?side1 ?side2 ?side3 ?side4 A11.out).mono ?_); (case side1 => repeat (first | exact (Kd.C_below HR0_1.out HB.out) | (with_reducible refine Kd.C_alloc ?_ _) | (with_reducible refine Kd.C_drewN ?_ _) | (with_reducible refine Kd.C_drew ?_))); (case side2 => exact HC0_1.out); (case side3 => repeat (first | exact (Kd.R_reads' HO_9.out).2.2 | (with_reducible refine Kd.C_alloc ?_ _) | (with_reducible refine Kd.C_drewN ?_ _) | (with_reducible refine Kd.C_drew ?_))); (case side4 => exact (Kd.R_reads' HO_9.out).2.1); rintro e w46 ⟨v1001, rfl, ho0, hb⟩; refine ⟨_, rfl, ?_⟩; have n0_ := Aside0.mk (Kd.R_below (by (with_reducible repeat (first | apply Kd.R_alloc | apply Kd.R_drewN | apply Kd.R_drew)); exact HO_8.out) hb); have n1_ := Aside0.mk (Kd.R_elder' (by (with_reducible repeat (first | apply Kd.R_alloc | apply Kd.R_drewN | apply Kd.R_drew)); exact HO_9.out) (Kd.R_base ho0) hb); have n2_ := Aside0.mk (Kd.R_lower (Kd.R_new' ho0 (Kd.R_lt (by (with_reducible repeat (first | apply Kd.R_alloc | apply Kd.R_drewN | apply Kd.R_drew)); exact HO_9.out))) (below_size (by repeat (first | (with_reducible first | exact HB.out | apply below_alloc | apply pw_below_drewN | apply below_drew1 | refine below_set ?_ GE996.out) | exact HB.out)))); have n3_ := Aside0.mk (blk_below (g := gb996) (o := .cells #[.int .i64 a0_0, .slice A0_1 l0_1.length c0_1] 29 (0, 0)) (by (with_reducible repeat (first | refine blk_drewN ?_ _ | refine blk_drew ?_ | refine blk_alloc ?_ _)); exact BK996.out) hb); have n4_ := Aside0.mk (below_step (by repeat (first | (with_reducible first | exact HB.out | apply below_alloc | apply pw_below_drewN | apply below_drew1 | refine below_set ?_ GE996.out) | exact HB.out)) hb); clear HO_8; clear HO_9; clear BK996; clear HB; have HO_8 := n0_; have HO_9 := n1_; have HO1002 := n2_; have BK996 := n3_; have HB := n4_; clear n0_ n1_ n2_ n3_ n4_; (try clear hb); (try clear hb2); (try clear hk); (try clear hi); (try clear ho0); obtain ⟨Ao47, co47, eo47⟩ := Kd.R_slice HO1002.out; subst eo47))
           have n0_ := Aside0.mk (Kd.R_drew HO_8.out)
           have n1_ := Aside0.mk (Kd.R_drew HO_9.out)
           have n2_ := Aside0.mk (Kd.R_drew HO1002.out)
           have n3_ := Aside0.mk (blk_drew BK996.out)
           have n4_ := Aside0.mk (below_drew1 HB.out)
           clear HO_8
           clear HO_9
           clear HO1002
           clear BK996
           clear HB
           have HO_8 := n0_
           have HO_9 := n1_
           have HO1002 := n2_
           have BK996 := n3_
           have HB := n4_
           clear n0_ n1_ n2_ n3_ n4_
           have p1014 : 0 ≤ (0 : Int) := (by omega)
           have q1014 : 0 < (t1000.length : Int) := of_decide_eq_true (by first | (with_reducible assumption) | assumption)
           obtain ⟨ad1014, e1014, hx1014_0⟩ := Kd.at_int (Kd.R_reads' HO1002.out).2.2 0 p1014 q1014
           cases e1014
           have qi1014 : (0 < t1000.length) = True := eq_true (by omega)
           (try rw [show ((0 : Int)).toNat = 0 from rfl] at hx1014_0)
           (try rw [Addr.add_zero'] at hx1014_0)
           replace p1014 := eq_true p1014
           replace q1014 := eq_true q1014
           have p1016 : 0 ≤ (0 : Int) := (by omega)
           have q1016 : 0 < (t1000.length : Int) := of_decide_eq_true (by first | (with_reducible assumption) | assumption)
           obtain ⟨ad1016, e1016, hx1016_0⟩ := Kd.at_int (Kd.R_reads' HO1002.out).2.2 0 p1016 q1016
           obtain rfl : ad1014 = ad1016 := (by injection e1016)
           have qi1016 : (0 < t1000.length) = True := eq_true (by omega)
           (try rw [show ((0 : Int)).toNat = 0 from rfl] at hx1016_0)
           (try rw [Addr.add_zero'] at hx1016_0)
           replace p1016 := eq_true p1016
           replace q1016 := eq_true q1016
           refine start_ (n := 14) (S := fun w' => w'.cell? ⟨gb996, 0, none⟩ = some (.int .i64 a0_0) ∧ w'.cell? ⟨gb996, 1, none⟩ = some (.slice A0_1 l0_1.length c0_1) ∧ w'.cell? ad1014 = some (.int .i64 (rd t1000 0)) ∧ w'.cell? ad1014 = some (.int .i64 (rd t1000 0))) (ds := []) #[false, false, false, false, false, false, false, false, false, false, false, false, false, false] (by kernel_rfl) rfl rfl ⟨(blk_cell BK996.out 0).trans rfl, (blk_cell BK996.out 1).trans rfl, hx1014_0, hx1016_0⟩ (fun hHeld => ?_); refine with_tabW spec_pePeel.tab11 spec_pePeel.bits11 (fun HT_ HW_ => ?_)
           generalize w46.drew = w48 at HO_8 HO_9 HO1002 BK996 HB hx1014_0 hx1016_0 hHeld ⊢
           refine pq_ 1 43 14 2 HT_.out (by kernel_rfl) ?_
           refine pq_ 2 44 14 6 HT_.out (by kernel_rfl) ?_
           refine pq_ 3 45 14 14 HT_.out (by kernel_rfl) ?_
           refine pq_ 4 46 14 30 HT_.out (by kernel_rfl) ?_
           refine pq_ 7 49 14 158 HT_.out (by kernel_rfl) ?_
           refine pq_ 8 50 14 414 HT_.out (by kernel_rfl) ?_
           refine pq_ 9 51 14 926 HT_.out (by kernel_rfl) ?_
           refine tq_ 0 42 14 927 HT_.out HW_.out (by kernel_rfl) hHeld ?_ rfl (by rintro w' ⟨s0, s1, s2, s3⟩; go_simp; with_reducible rfl)
           refine tq_ 5 47 14 959 HT_.out HW_.out (by kernel_rfl) hHeld ?_ rfl (by rintro w' ⟨s0, s1, s2, s3⟩; go_simp; with_reducible rfl)
           refine tq_ 10 52 14 1983 HT_.out HW_.out (by kernel_rfl) hHeld ?_ rfl (by rintro w' ⟨s0, s1, s2, s3⟩; go_simp; with_reducible rfl)
           refine join_ (σ := Nat) 1 #[true, true, true, true, true, true, true, true, true, true, true, true, true, false] (fun s_ => [(48, .int .i64 t1015), (13, .pointer (some ⟨s_, 0, none⟩)), (53, .agg #[.int .i64 t1015, .int .i64 (rd t1000 0)])]) (fun s_ w' => (w'.cell? ⟨gb996, 0, none⟩ = some (.int .i64 a0_0) ∧ w'.cell? ⟨gb996, 1, none⟩ = some (.slice A0_1 l0_1.length c0_1) ∧ w'.cell? ad1014 = some (.int .i64 (rd t1000 0)) ∧ w'.cell? ad1014 = some (.int .i64 (rd t1000 0))) ∧ (Kd.R (Kd.int .i64) 3 w' w.heap.size (fun k_ => some k_ ≠ (.slice Ao45 x9_1.length co45 : Value).ownBlock) (.slice (some ad1014) t1000.length co47) t1000) ∧ (Kd.R k88 88 w' w.heap.size (fun k_ => k_ ≠ s_) u8 x8_1) ∧ (Kd.R (Kd.int .i64) 3 w' w.heap.size (fun k_ => some k_ ≠ (.slice (some ad1014) t1000.length co47 : Value).ownBlock) (.slice Ao45 x9_1.length co45) x9_1) ∧ (w'.heap[s_]? = some (.cells #[.int .i64 0, .int .i64 0] 88 (0, 0))) ∧ (w'.heap[gb996]? = some (.cells #[.int .i64 a0_0, .slice A0_1 l0_1.length c0_1] 29 (0, 0))) ∧ (w.heap.size ≤ s_) ∧ (w.heap.size ≤ s_) ∧ (gb996 ≠ s_) ∧ (s_ ≠ gb996) ∧ (Below w.heap.size w w')) ?_ ?_
           rotate_left
           ·intro hCont
            refine two_ (i := 6) (j := 12) (Ni := some 48) (Nj := some 13) (bsA 14 2047) #[true, true, true, true, true, true, false, true, true, true, true, false, true, false] rfl rfl rfl rfl (two_of HT_.out (by kernel_rfl)) (by decide) (by decide) (fun K hK => ?_) (fun K hK => ?_)
            ·skip
             refine goes_ Try.func125 (by kernel_rfl) rfl #[.agg #[.int .i64 a0_0, .slice A0_1 l0_1.length c0_1], .slice Ao45 x9_1.length co45, .int .i64 (rd t1000 0)] (by rfl) rfl rfl (by (try simp only [List.map_toArray, List.map_cons, List.map_nil]); first | done | rfl | (simp only [List.length_drop, List.length_take]; rfl)) ?_
             with_reducible refine (spec_peWith.calls kj7 a0_0 _ _ l0_1 _ _ x9_1 (rd t1000 0) t1015 _ ?side1 ?side2 ?side3 ?side4 A41.out).mono ?_
             (case side1 => repeat (first | exact (Kd.C_below HR0_1.out HB.out) | (with_reducible refine Kd.C_alloc ?_ _) | (with_reducible refine Kd.C_drewN ?_ _) | (with_reducible refine Kd.C_drew ?_)))
             (case side2 => exact HC0_1.out)
             (case side3 => repeat (first | exact (Kd.R_reads' HO_9.out).2.2 | (with_reducible refine Kd.C_alloc ?_ _) | (with_reducible refine Kd.C_drewN ?_ _) | (with_reducible refine Kd.C_drew ?_)))
             (case side4 => exact (Kd.R_reads' HO_9.out).2.1)
             rintro e w49 ⟨rfl, hb⟩
             have HS2_ := (hb.cell (World.block_lt_of_cell? _ _ (hHeld.2.2.1))).trans (hHeld.2.2.1)
             have HS3_ := (hb.cell (World.block_lt_of_cell? _ _ (hHeld.2.2.2))).trans (hHeld.2.2.2)
             refine ⟨_, rfl, ?_⟩
             have n0_ := Aside0.mk (Kd.R_below (by (with_reducible repeat (first | apply Kd.R_alloc | apply Kd.R_drewN | apply Kd.R_drew)); exact HO_8.out) hb)
             have n1_ := Aside0.mk (Kd.R_below (by (with_reducible repeat (first | apply Kd.R_alloc | apply Kd.R_drewN | apply Kd.R_drew)); exact HO_9.out) hb)
             have n2_ := Aside0.mk (Kd.R_below (by (with_reducible repeat (first | apply Kd.R_alloc | apply Kd.R_drewN | apply Kd.R_drew)); exact HO1002.out) hb)
             have n3_ := Aside0.mk (blk_below (g := gb996) (o := .cells #[.int .i64 a0_0, .slice A0_1 l0_1.length c0_1] 29 (0, 0)) (by (with_reducible repeat (first | refine blk_drewN ?_ _ | refine blk_drew ?_ | refine blk_alloc ?_ _)); exact BK996.out) hb)
             have n4_ := Aside0.mk (below_step (by repeat (first | (with_reducible first | exact HB.out | apply below_alloc | apply pw_below_drewN | apply below_drew1 | refine below_set ?_ GE996.out) | exact HB.out)) hb)
             clear HO_8
             clear HO_9
             clear HO1002
             clear BK996
             clear HB
             have HO_8 := n0_
             have HO_9 := n1_
             have HO1002 := n2_
             have BK996 := n3_
             have HB := n4_
             clear n0_ n1_ n2_ n3_ n4_
             (try clear hb)
             (try clear hb2)
             (try clear hk)
             (try clear hi)
             refine hK.out _ _ ⟨(blk_cell BK996.out 0).trans rfl, (blk_cell BK996.out 1).trans rfl, HS2_, HS3_⟩ (fun hHeld => ?_)
             clear hK K
             refine norm_ (a' := ?_) ?_ ?_
             rotate_left
             ·show Act.put _ (some 48) _ = _
              simp only [Act.put, List.setIfInBounds_toArray, List.set_cons_zero, List.set_cons_succ, i64_w]
              rfl
             refine pq_ 11 53 14 4095 HT_.out (by kernel_rfl) ?_
             refine one_ (i := 12) (N := some 13) (bsA 14 8191) rfl rfl (one_of HT_.out (by kernel_rfl)) (by decide) (fun K hK => ?_)
             refine box_step ?hg (N := 13) ?hd (cs := #[.int .i64 0, .int .i64 0]) (t := 88) ?hr ?_; (case hd => rfl); (case hg => rfl); (case hr => first | (go_simp; done) | (go_simp; rfl))
             intro gb1017 hg w50 hbox hb
             have HS2_ := (hb.cell (World.block_lt_of_cell? _ _ (hHeld.2.2.1))).trans (hHeld.2.2.1)
             have HS3_ := (hb.cell (World.block_lt_of_cell? _ _ (hHeld.2.2.2))).trans (hHeld.2.2.2)
             have n0_ := Aside0.mk (Kd.R_below (Kd.R_elderB (by (with_reducible repeat (first | apply Kd.R_alloc | apply Kd.R_drewN | apply Kd.R_drew)); exact HO_8.out) gb1017 (Nat.le_of_eq hg.symm)) hb)
             have n1_ := Aside0.mk (Kd.R_below (by (with_reducible repeat (first | apply Kd.R_alloc | apply Kd.R_drewN | apply Kd.R_drew)); exact HO_9.out) hb)
             have n2_ := Aside0.mk (Kd.R_below (by (with_reducible repeat (first | apply Kd.R_alloc | apply Kd.R_drewN | apply Kd.R_drew)); exact HO1002.out) hb)
             have n3_ := Aside0.mk (blk_below (g := gb996) (o := .cells #[.int .i64 a0_0, .slice A0_1 l0_1.length c0_1] 29 (0, 0)) (by (with_reducible repeat (first | refine blk_drewN ?_ _ | refine blk_drew ?_ | refine blk_alloc ?_ _)); exact BK996.out) hb)
             have n4_ := Aside0.mk (below_step (by repeat (first | (with_reducible first | exact HB.out | apply below_alloc | apply pw_below_drewN | apply below_drew1 | refine below_set ?_ GE996.out) | exact HB.out)) hb)
             have n5_ := Aside0.mk (hbox)
             have n6_ := Aside0.mk ((by rw [hg]; exact (below_size (by repeat (first | (with_reducible first | exact HB.out | apply below_alloc | apply pw_below_drewN | apply below_drew1 | refine below_set ?_ GE996.out) | exact HB.out))) : w.heap.size ≤ gb1017))
             have n7_ := Aside0.mk ((by rw [hg]; exact (below_size (by repeat (first | (with_reducible first | exact HB.out | apply below_alloc | apply pw_below_drewN | apply below_drew1 | refine below_set ?_ GE996.out) | exact HB.out))) : w.heap.size ≤ gb1017))
             have n8_ := Aside0.mk ((by rw [hg]; exact Nat.ne_of_lt (blk_lt (g := gb996) (o := .cells #[.int .i64 a0_0, .slice A0_1 l0_1.length c0_1] 29 (0, 0)) (by (with_reducible repeat (first | refine blk_drewN ?_ _ | refine blk_drew ?_ | refine blk_alloc ?_ _)); exact BK996.out)) : gb996 ≠ gb1017))
             have n9_ := Aside0.mk ((by rw [hg]; exact Nat.ne_of_gt (blk_lt (g := gb996) (o := .cells #[.int .i64 a0_0, .slice A0_1 l0_1.length c0_1] 29 (0, 0)) (by (with_reducible repeat (first | refine blk_drewN ?_ _ | refine blk_drew ?_ | refine blk_alloc ?_ _)); exact BK996.out)) : gb1017 ≠ gb996))
             clear HO_8
             clear HO_9
             clear HO1002
             clear BK996
             clear HB
             have HO_8 := n0_
             have HO_9 := n1_
             have HO1002 := n2_
             have BK996 := n3_
             have HB := n4_
             have BK1017 := n5_
             have GW1017 := n6_
             have GE1017 := n7_
             have NB996_1017 := n8_
             have NB1017_996 := n9_
             clear n0_ n1_ n2_ n3_ n4_ n5_ n6_ n7_ n8_ n9_
             clear hb hbox hg
             refine hK.out _ _ ⟨(blk_cell BK996.out 0).trans rfl, (blk_cell BK996.out 1).trans rfl, HS2_, HS3_⟩ (fun hHeld => ?_)
             clear hK K
             refine norm_ (a' := ?_) ?_ ?_
             rotate_left
             ·show Act.put _ (some 13) _ = _
              simp only [Act.put, List.setIfInBounds_toArray, List.set_cons_zero, List.set_cons_succ, i64_w]
              rfl
             exact norm_ (by simp only [putAll, Act.put, List.setIfInBounds_toArray, List.set_cons_zero, List.set_cons_succ]) (hCont (gb1017) _ ⟨hHeld, (by (with_reducible repeat (first | apply Kd.R_alloc | apply Kd.R_drewN | apply Kd.R_drew)); exact Kd.R_mono HO1002.out (fun _ hk => hk.2)), (by (with_reducible repeat (first | apply Kd.R_alloc | apply Kd.R_drewN | apply Kd.R_drew)); exact Kd.R_mono HO_8.out (fun _ hk => hk.2)), (by (with_reducible repeat (first | apply Kd.R_alloc | apply Kd.R_drewN | apply Kd.R_drew)); exact Kd.R_mono HO_9.out (fun _ hk => hk.2)), (by (with_reducible repeat (first | refine blk_drewN ?_ _ | refine blk_drew ?_ | refine blk_alloc ?_ _)); exact BK1017.out), (by (with_reducible repeat (first | refine blk_drewN ?_ _ | refine blk_drew ?_ | refine blk_alloc ?_ _)); exact BK996.out), GW1017.out, GE1017.out, NB996_1017.out, NB1017_996.out, (by repeat (first | (with_reducible first | exact HB.out | apply below_alloc | apply pw_below_drewN | apply below_drew1 | refine below_set ?_ GE996.out | refine below_set ?_ GE1017.out) | exact HB.out))⟩)
            ·skip
             refine box_step ?hg (N := 13) ?hd (cs := #[.int .i64 0, .int .i64 0]) (t := 88) ?hr ?_; (case hd => rfl); (case hg => rfl); (case hr => first | (go_simp; done) | (go_simp; rfl))
             intro gb1017 hg w49 hbox hb
             have HS2_ := (hb.cell (World.block_lt_of_cell? _ _ (hHeld.2.2.1))).trans (hHeld.2.2.1)
             have HS3_ := (hb.cell (World.block_lt_of_cell? _ _ (hHeld.2.2.2))).trans (hHeld.2.2.2)
             have n0_ := Aside0.mk (Kd.R_below (Kd.R_elderB (by (with_reducible repeat (first | apply Kd.R_alloc | apply Kd.R_drewN | apply Kd.R_drew)); exact HO_8.out) gb1017 (Nat.le_of_eq hg.symm)) hb)
             have n1_ := Aside0.mk (Kd.R_below (by (with_reducible repeat (first | apply Kd.R_alloc | apply Kd.R_drewN | apply Kd.R_drew)); exact HO_9.out) hb)
             have n2_ := Aside0.mk (Kd.R_below (by (with_reducible repeat (first | apply Kd.R_alloc | apply Kd.R_drewN | apply Kd.R_drew)); exact HO1002.out) hb)
             have n3_ := Aside0.mk (blk_below (g := gb996) (o := .cells #[.int .i64 a0_0, .slice A0_1 l0_1.length c0_1] 29 (0, 0)) (by (with_reducible repeat (first | refine blk_drewN ?_ _ | refine blk_drew ?_ | refine blk_alloc ?_ _)); exact BK996.out) hb)
             have n4_ := Aside0.mk (below_step (by repeat (first | (with_reducible first | exact HB.out | apply below_alloc | apply pw_below_drewN | apply below_drew1 | refine below_set ?_ GE996.out) | exact HB.out)) hb)
             have n5_ := Aside0.mk (hbox)
             have n6_ := Aside0.mk ((by rw [hg]; exact (below_size (by repeat (first | (with_reducible first | exact HB.out | apply below_alloc | apply pw_below_drewN | apply below_drew1 | refine below_set ?_ GE996.out) | exact HB.out))) : w.heap.size ≤ gb1017))
             have n7_ := Aside0.mk ((by rw [hg]; exact (below_size (by repeat (first | (with_reducible first | exact HB.out | apply below_alloc | apply pw_below_drewN | apply below_drew1 | refine below_set ?_ GE996.out) | exact HB.out))) : w.heap.size ≤ gb1017))
             have n8_ := Aside0.mk ((by rw [hg]; exact Nat.ne_of_lt (blk_lt (g := gb996) (o := .cells #[.int .i64 a0_0, .slice A0_1 l0_1.length c0_1] 29 (0, 0)) (by (with_reducible repeat (first | refine blk_drewN ?_ _ | refine blk_drew ?_ | refine blk_alloc ?_ _)); exact BK996.out)) : gb996 ≠ gb1017))
             have n9_ := Aside0.mk ((by rw [hg]; exact Nat.ne_of_gt (blk_lt (g := gb996) (o := .cells #[.int .i64 a0_0, .slice A0_1 l0_1.length c0_1] 29 (0, 0)) (by (with_reducible repeat (first | refine blk_drewN ?_ _ | refine blk_drew ?_ | refine blk_alloc ?_ _)); exact BK996.out)) : gb1017 ≠ gb996))
             clear HO_8
             clear HO_9
             clear HO1002
             clear BK996
             clear HB
             have HO_8 := n0_
             have HO_9 := n1_
             have HO1002 := n2_
             have BK996 := n3_
             have HB := n4_
             have BK1017 := n5_
             have GW1017 := n6_
             have GE1017 := n7_
             have NB996_1017 := n8_
             have NB1017_996 := n9_
             clear n0_ n1_ n2_ n3_ n4_ n5_ n6_ n7_ n8_ n9_
             clear hb hbox hg
             refine hK.out _ _ ⟨(blk_cell BK996.out 0).trans rfl, (blk_cell BK996.out 1).trans rfl, HS2_, HS3_⟩ (fun hHeld => ?_)
             clear hK K
             refine norm_ (a' := ?_) ?_ ?_
             rotate_left
             ·show Act.put _ (some 13) _ = _
              simp only [Act.put, List.setIfInBounds_toArray, List.set_cons_zero, List.set_cons_succ, i64_w]
              rfl
             refine one_ (i := 6) (N := some 48) (bsA 14 6143) rfl rfl (one_of HT_.out (by kernel_rfl)) (by decide) (fun K hK => ?_)
             refine goes_ Try.func125 (by kernel_rfl) rfl #[.agg #[.int .i64 a0_0, .slice A0_1 l0_1.length c0_1], .slice Ao45 x9_1.length co45, .int .i64 (rd t1000 0)] (by rfl) rfl rfl (by (try simp only [List.map_toArray, List.map_cons, List.map_nil]); first | done | rfl | (simp only [List.length_drop, List.length_take]; rfl)) ?_
             with_reducible refine (spec_peWith.calls kj7 a0_0 _ _ l0_1 _ _ x9_1 (rd t1000 0) t1015 _ ?side1 ?side2 ?side3 ?side4 A41.out).mono ?_
             (case side1 => repeat (first | exact (Kd.C_below HR0_1.out HB.out) | (with_reducible refine Kd.C_alloc ?_ _) | (with_reducible refine Kd.C_drewN ?_ _) | (with_reducible refine Kd.C_drew ?_)))
             (case side2 => exact HC0_1.out)
             (case side3 => repeat (first | exact (Kd.R_reads' HO_9.out).2.2 | (with_reducible refine Kd.C_alloc ?_ _) | (with_reducible refine Kd.C_drewN ?_ _) | (with_reducible refine Kd.C_drew ?_)))
             (case side4 => exact (Kd.R_reads' HO_9.out).2.1)
             rintro e w50 ⟨rfl, hb⟩
             have HS2_ := (hb.cell (World.block_lt_of_cell? _ _ (hHeld.2.2.1))).trans (hHeld.2.2.1)
             have HS3_ := (hb.cell (World.block_lt_of_cell? _ _ (hHeld.2.2.2))).trans (hHeld.2.2.2)
             refine ⟨_, rfl, ?_⟩
             have n0_ := Aside0.mk (Kd.R_below (by (with_reducible repeat (first | apply Kd.R_alloc | apply Kd.R_drewN | apply Kd.R_drew)); exact HO_8.out) hb)
             have n1_ := Aside0.mk (Kd.R_below (by (with_reducible repeat (first | apply Kd.R_alloc | apply Kd.R_drewN | apply Kd.R_drew)); exact HO_9.out) hb)
             have n2_ := Aside0.mk (Kd.R_below (by (with_reducible repeat (first | apply Kd.R_alloc | apply Kd.R_drewN | apply Kd.R_drew)); exact HO1002.out) hb)
             have n3_ := Aside0.mk (blk_below (g := gb996) (o := .cells #[.int .i64 a0_0, .slice A0_1 l0_1.length c0_1] 29 (0, 0)) (by (with_reducible repeat (first | refine blk_drewN ?_ _ | refine blk_drew ?_ | refine blk_alloc ?_ _)); exact BK996.out) hb)
             have n4_ := Aside0.mk (blk_below (g := gb1017) (o := .cells #[.int .i64 0, .int .i64 0] 88 (0, 0)) (by (with_reducible repeat (first | refine blk_drewN ?_ _ | refine blk_drew ?_ | refine blk_alloc ?_ _)); exact BK1017.out) hb)
             have n5_ := Aside0.mk (below_step (by repeat (first | (with_reducible first | exact HB.out | apply below_alloc | apply pw_below_drewN | apply below_drew1 | refine below_set ?_ GE996.out | refine below_set ?_ GE1017.out) | exact HB.out)) hb)
             clear HO_8
             clear HO_9
             clear HO1002
             clear BK996
             clear BK1017
             clear HB
             have HO_8 := n0_
             have HO_9 := n1_
             have HO1002 := n2_
             have BK996 := n3_
             have BK1017 := n4_
             have HB := n5_
             clear n0_ n1_ n2_ n3_ n4_ n5_
             (try clear hb)
             (try clear hb2)
             (try clear hk)
             (try clear hi)
             refine hK.out _ _ ⟨(blk_cell BK996.out 0).trans rfl, (blk_cell BK996.out 1).trans rfl, HS2_, HS3_⟩ (fun hHeld => ?_)
             clear hK K
             refine norm_ (a' := ?_) ?_ ?_
             rotate_left
             ·show Act.put _ (some 48) _ = _
              simp only [Act.put, List.setIfInBounds_toArray, List.set_cons_zero, List.set_cons_succ, i64_w]
              rfl
             refine pq_ 11 53 14 8191 HT_.out (by kernel_rfl) ?_
             exact norm_ (by simp only [putAll, Act.put, List.setIfInBounds_toArray, List.set_cons_zero, List.set_cons_succ]) (hCont (gb1017) _ ⟨hHeld, (by (with_reducible repeat (first | apply Kd.R_alloc | apply Kd.R_drewN | apply Kd.R_drew)); exact Kd.R_mono HO1002.out (fun _ hk => hk.2)), (by (with_reducible repeat (first | apply Kd.R_alloc | apply Kd.R_drewN | apply Kd.R_drew)); exact Kd.R_mono HO_8.out (fun _ hk => hk.2)), (by (with_reducible repeat (first | apply Kd.R_alloc | apply Kd.R_drewN | apply Kd.R_drew)); exact Kd.R_mono HO_9.out (fun _ hk => hk.2)), (by (with_reducible repeat (first | refine blk_drewN ?_ _ | refine blk_drew ?_ | refine blk_alloc ?_ _)); exact BK1017.out), (by (with_reducible repeat (first | refine blk_drewN ?_ _ | refine blk_drew ?_ | refine blk_alloc ?_ _)); exact BK996.out), GW1017.out, GE1017.out, NB996_1017.out, NB1017_996.out, (by repeat (first | (with_reducible first | exact HB.out | apply below_alloc | apply pw_below_drewN | apply below_drew1 | refine below_set ?_ GE996.out | refine below_set ?_ GE1017.out) | exact HB.out))⟩)
           rintro gb1017 w51 ⟨hS_, h0_, h1_, h2_, h3_, h4_, h5_, h6_, h7_, h8_, h9_⟩
           have n0_ : Aside0 (Kd.R (Kd.int .i64) 3 w51 w.heap.size (fun k_ => some k_ ≠ (.slice Ao45 x9_1.length co45 : Value).ownBlock) (.slice (some ad1014) t1000.length co47) t1000) := ⟨h0_⟩
           have n1_ : Aside0 (Kd.R k88 88 w51 w.heap.size (fun k_ => k_ ≠ gb1017) u8 x8_1) := ⟨h1_⟩
           have n2_ : Aside0 (Kd.R (Kd.int .i64) 3 w51 w.heap.size (fun k_ => some k_ ≠ (.slice (some ad1014) t1000.length co47 : Value).ownBlock) (.slice Ao45 x9_1.length co45) x9_1) := ⟨h2_⟩
           have n3_ : Aside0 (w51.heap[gb1017]? = some (.cells #[.int .i64 0, .int .i64 0] 88 (0, 0))) := ⟨h3_⟩
           have n4_ : Aside0 (w51.heap[gb996]? = some (.cells #[.int .i64 a0_0, .slice A0_1 l0_1.length c0_1] 29 (0, 0))) := ⟨h4_⟩
           have n5_ : Aside0 (w.heap.size ≤ gb1017) := ⟨h5_⟩
           have n6_ : Aside0 (w.heap.size ≤ gb1017) := ⟨h6_⟩
           have n7_ : Aside0 (gb996 ≠ gb1017) := ⟨h7_⟩
           have n8_ : Aside0 (gb1017 ≠ gb996) := ⟨h8_⟩
           have n9_ : Aside0 (Below w.heap.size w w51) := ⟨h9_⟩
           clear HO_8
           clear HO_9
           clear HO1002
           clear BK996
           clear HB
           clear h0_ h1_ h2_ h3_ h4_ h5_ h6_ h7_ h8_ h9_
           have HO1002 := n0_
           have HO_8 := n1_
           have HO_9 := n2_
           have BK1017 := n3_
           have BK996 := n4_
           have GW1017 := n5_
           have GE1017 := n6_
           have NB996_1017 := n7_
           have NB1017_996 := n8_
           have HB := n9_
           clear n0_ n1_ n2_ n3_ n4_ n5_ n6_ n7_ n8_ n9_
           have hHeld : w51.cell? ⟨gb996, 0, none⟩ = some (.int .i64 a0_0) ∧ w51.cell? ⟨gb996, 1, none⟩ = some (.slice A0_1 l0_1.length c0_1) ∧ w51.cell? ad1014 = some (.int .i64 (rd t1000 0)) ∧ w51.cell? ad1014 = some (.int .i64 (rd t1000 0)) := hS_
           refine norm_ (a' := ?_) ?_ ?_
           rotate_left
           ·simp only [putAll, Act.put, List.setIfInBounds_toArray, List.set_cons_zero, List.set_cons_succ]
            rfl
           refine one_ (i := 13) (N := none) (bsA 14 16383) rfl rfl (one_of HT_.out (by kernel_rfl)) (by decide) (fun K hK => ?_)
           have hs52 : w51.cell? ⟨gb1017, 0, none⟩ = some (.int .i64 0) := (blk_cell BK1017.out 0).trans rfl
           have hfs52 := blk_frozen BK1017.out 0
           have hns52_0 := NB996_1017.out
           have hms52_0 := NB1017_996.out
           have hs53 : w51.cell? ⟨gb1017, 1, none⟩ = some (.int .i64 0) := (blk_cell BK1017.out 1).trans rfl
           have hfs53 := blk_frozen BK1017.out 1
           have hns53_0 := NB996_1017.out
           have hms53_0 := NB1017_996.out
           refine skip_ (w1 := ?_) (by rfl) rfl ?_ ?_
           rotate_left
           ·go_simp
            rfl
           refine hK.out _ _ ⟨((cell_far (p := ⟨gb1017, _, none⟩) NB996_1017.out _).trans (((cell_far (p := ⟨gb1017, _, none⟩) NB996_1017.out _).trans (hHeld.1)))), ((cell_far (p := ⟨gb1017, _, none⟩) NB996_1017.out _).trans (((cell_far (p := ⟨gb1017, _, none⟩) NB996_1017.out _).trans (hHeld.2.1)))), ((cell_far (p := ⟨gb1017, _, none⟩) (by first | exact Kd.own_blk (Kd.R_ne HO1002.out BK1017.out (by decide)) | (rw [add_block]; exact Kd.own_blk (Kd.R_ne HO1002.out BK1017.out (by decide))) | (show (Addr.add _ _).block ≠ _; rw [add_block]; exact Kd.own_blk (Kd.R_ne HO1002.out BK1017.out (by decide))) | (dsimp only; exact Kd.own_blk (Kd.R_ne HO1002.out BK1017.out (by decide)))) _).trans (((cell_far (p := ⟨gb1017, _, none⟩) (by first | exact Kd.own_blk (Kd.R_ne HO1002.out BK1017.out (by decide)) | (rw [add_block]; exact Kd.own_blk (Kd.R_ne HO1002.out BK1017.out (by decide))) | (show (Addr.add _ _).block ≠ _; rw [add_block]; exact Kd.own_blk (Kd.R_ne HO1002.out BK1017.out (by decide))) | (dsimp only; exact Kd.own_blk (Kd.R_ne HO1002.out BK1017.out (by decide)))) _).trans (hHeld.2.2.1)))), ((cell_far (p := ⟨gb1017, _, none⟩) (by first | exact Kd.own_blk (Kd.R_ne HO1002.out BK1017.out (by decide)) | (rw [add_block]; exact Kd.own_blk (Kd.R_ne HO1002.out BK1017.out (by decide))) | (show (Addr.add _ _).block ≠ _; rw [add_block]; exact Kd.own_blk (Kd.R_ne HO1002.out BK1017.out (by decide))) | (dsimp only; exact Kd.own_blk (Kd.R_ne HO1002.out BK1017.out (by decide)))) _).trans (((cell_far (p := ⟨gb1017, _, none⟩) (by first | exact Kd.own_blk (Kd.R_ne HO1002.out BK1017.out (by decide)) | (rw [add_block]; exact Kd.own_blk (Kd.R_ne HO1002.out BK1017.out (by decide))) | (show (Addr.add _ _).block ≠ _; rw [add_block]; exact Kd.own_blk (Kd.R_ne HO1002.out BK1017.out (by decide))) | (dsimp only; exact Kd.own_blk (Kd.R_ne HO1002.out BK1017.out (by decide)))) _).trans (hHeld.2.2.2))))⟩ (fun hHeld => ?_)
           clear hK K
           refine done_ (done_of HT_.out (by kernel_rfl)) ?_
           have hnb54 := NB1017_996.out
           have hnc54 := NB996_1017.out
           have hcz55_0 : w51.cell? ⟨gb1017, 0, none⟩ = some (.int .i64 0) := (blk_cell BK1017.out 0).trans rfl
           have hcz55_1 : w51.cell? ⟨gb1017, 1, none⟩ = some (.int .i64 0) := (blk_cell BK1017.out 1).trans rfl
           have hfz55_0 := blk_frozen BK1017.out 0
           have hfz55_1 := blk_frozen BK1017.out 1
           try go_wp2_with (first | ((with_reducible refine gate_builtin (b := .append) (xs := #[.tmp 54, .tmp 56]) rfl ?_); (try (refine gate_guard (by rfl) ?_; dsimp only)); at_builtin; refine Kd.R_append k88 (w0 := w) w.heap.size rfl (.tmp 54) (.tmp 56) 58 88 (.agg #[(.int .i64 0), (.int .i64 0)]) 16 rfl Try.underlying58 info88 rfl (by decide) (by omega) u8 x8_1 (⟨t1015, rd t1000 0⟩ : S88) [.int .i64 t1015, .int .i64 (rd t1000 0)] (fun k_ => k_ ≠ gb1017) (fun _ => False) rfl (by first | (go_simp; done) | (go_simp; rfl)) ?aP (fun _ hk => hk.elim) ?aF ?aO ?aB ?aS ?aL ?_; (case aP => exact k88_mkM _ _ _ (⟨t1015, rd t1000 0⟩ : S88)); (case aB => exact (by repeat (first | (with_reducible first | exact HB.out | apply below_alloc | apply pw_below_drewN | apply below_drew1 | refine below_set ?_ GE996.out | refine below_set ?_ GE1017.out) | exact HB.out))); (case aF => exact (fun k_ hk => Kd.freshB (g := gb1017) (o := .cells #[.int .i64 t1015, .int .i64 (rd t1000 0)] 88 (0, 0)) (by (with_reducible repeat (first | refine blk_drewN ?_ _ | refine blk_drew ?_ | refine blk_alloc ?_ _)); refine blk_put (cs := #[.int .i64 t1015, .int .i64 0]) ?_ 1 _ rfl; (with_reducible repeat (first | refine blk_drewN ?_ _ | refine blk_drew ?_ | refine blk_alloc ?_ _)); refine blk_put (cs := #[.int .i64 0, .int .i64 0]) ?_ 0 _ rfl; (with_reducible repeat (first | refine blk_drewN ?_ _ | refine blk_drew ?_ | refine blk_alloc ?_ _)); exact BK1017.out) k_ hk)); (case aO => exact (by (with_reducible repeat (first | apply Kd.R_alloc | apply Kd.R_drewN | apply Kd.R_drew)); exact Kd.R_mono (Kd.R_far (p := ⟨gb1017, 1, none⟩) (Kd.R_far (p := ⟨gb1017, 0, none⟩) (Kd.R_mono HO_8.out (fun k_ hk => (⟨hk, hk⟩ : _ ∧ k_ ≠ gb1017))) (fun _ hk => hk.2) (.int .i64 t1015)) (fun _ hk => hk.2) (.int .i64 (rd t1000 0))) (fun _ hk => hk.1))); (case aS => exact (below_size (by repeat (first | (with_reducible first | exact HB.out | apply below_alloc | apply pw_below_drewN | apply below_drew1 | refine below_set ?_ GE996.out | refine below_set ?_ GE1017.out) | exact HB.out)))); (case aL => have := LMc42.out; omega); intro v1019 w56 ho hb hg hat; rw [← Ny1018.out] at ho; have n0_ := Aside0.mk (Kd.R_over' (by (with_reducible repeat (first | apply Kd.R_alloc | apply Kd.R_drewN | apply Kd.R_drew)); exact (Kd.R_mono (Kd.R_far (p := ⟨gb1017, 1, none⟩) (Kd.R_far (p := ⟨gb1017, 0, none⟩) (Kd.R_types HO_9.out BK1017.out (by decide)) (fun _ hk => hk.2) (.int .i64 t1015)) (fun _ hk => hk.2) (.int .i64 (rd t1000 0))) (fun _ h_ => h_.1))) (Kd.R_typed (by (with_reducible repeat (first | apply Kd.R_alloc | apply Kd.R_drewN | apply Kd.R_drew)); exact (Kd.R_mono (Kd.R_far (p := ⟨gb1017, 1, none⟩) (Kd.R_far (p := ⟨gb1017, 0, none⟩) (Kd.R_mono HO_8.out (fun k_ hk => (⟨hk, hk⟩ : _ ∧ k_ ≠ gb1017))) (fun _ hk => hk.2) (.int .i64 t1015)) (fun _ hk => hk.2) (.int .i64 (rd t1000 0))) (fun _ h_ => h_.1)))) (by decide) hg); have n1_ := Aside0.mk (blk_grown (g := gb996) (o := .cells #[.int .i64 a0_0, .slice A0_1 l0_1.length c0_1] 29 (0, 0)) (by (with_reducible repeat (first | refine blk_drewN ?_ _ | refine blk_drew ?_ | refine blk_alloc ?_ _)); refine blk_far ?_ NB996_1017.out _; (with_reducible repeat (first | refine blk_drewN ?_ _ | refine blk_drew ?_ | refine blk_alloc ?_ _)); refine blk_far ?_ NB996_1017.out _; (with_reducible repeat (first | refine blk_drewN ?_ _ | refine blk_drew ?_ | refine blk_alloc ?_ _)); exact BK996.out) hg (Kd.R_ne HO_8.out BK996.out (by decide))); have n2_ := Aside0.mk (Kd.R_over' (by (with_reducible repeat (first | apply Kd.R_alloc | apply Kd.R_drewN | apply Kd.R_drew)); exact (Kd.R_mono (Kd.R_far (p := ⟨gb1017, 1, none⟩) (Kd.R_far (p := ⟨gb1017, 0, none⟩) (Kd.R_types HO1002.out BK1017.out (by decide)) (fun _ hk => hk.2) (.int .i64 t1015)) (fun _ hk => hk.2) (.int .i64 (rd t1000 0))) (fun _ h_ => h_.1))) (Kd.R_typed (by (with_reducible repeat (first | apply Kd.R_alloc | apply Kd.R_drewN | apply Kd.R_drew)); exact (Kd.R_mono (Kd.R_far (p := ⟨gb1017, 1, none⟩) (Kd.R_far (p := ⟨gb1017, 0, none⟩) (Kd.R_mono HO_8.out (fun k_ hk => (⟨hk, hk⟩ : _ ∧ k_ ≠ gb1017))) (fun _ hk => hk.2) (.int .i64 t1015)) (fun _ hk => hk.2) (.int .i64 (rd t1000 0))) (fun _ h_ => h_.1)))) (by decide) hg); have n3_ := Aside0.mk (blk_grown (g := gb1017) (o := .cells #[.int .i64 t1015, .int .i64 (rd t1000 0)] 88 (0, 0)) (by (with_reducible repeat (first | refine blk_drewN ?_ _ | refine blk_drew ?_ | refine blk_alloc ?_ _)); refine blk_put (cs := #[.int .i64 t1015, .int .i64 0]) ?_ 1 _ rfl; (with_reducible repeat (first | refine blk_drewN ?_ _ | refine blk_drew ?_ | refine blk_alloc ?_ _)); refine blk_put (cs := #[.int .i64 0, .int .i64 0]) ?_ 0 _ rfl; (with_reducible repeat (first | refine blk_drewN ?_ _ | refine blk_drew ?_ | refine blk_alloc ?_ _)); exact BK1017.out) hg (Kd.R_away HO_8.out (fun _ hk => hk))); have n4_ := Aside0.mk (hb); have n5_ := Aside0.mk (ho); clear HO_9; clear BK996; clear HO1002; clear BK1017; clear HB; clear HO_8; have HO_9 := n0_; have BK996 := n1_; have HO1002 := n2_; have BK1017 := n3_; have HB := n4_; have HO1020 := n5_; clear n0_ n1_ n2_ n3_ n4_ n5_; clear ho hb hg hat; have hcz57_0 : w56.cell? ⟨gb1017, 0, none⟩ = some (.int .i64 t1015) := (blk_cell BK1017.out 0).trans rfl; have hcz57_1 : w56.cell? ⟨gb1017, 1, none⟩ = some (.int .i64 (rd t1000 0)) := (blk_cell BK1017.out 1).trans rfl; have hfz57_0 := blk_frozen BK1017.out 0; have hfz57_1 := blk_frozen BK1017.out 1) | ((with_reducible refine gate_callee (f := 126) rfl ?_); refine goesL_ (some 61) rfl rfl Try.func126 (by kernel_rfl) rfl #[.slice Ao45 x9_1.length co45, .int .i64 t1015] rfl (by (try simp only [List.map_toArray, List.map_cons, List.map_nil]); first | done | rfl | (simp only [List.length_drop, List.length_take]; rfl)) ?_; (with_reducible refine (spec_l1Drop.calls kj7 _ _ x9_1 t1015 t1021 _ ?side1 ?side2 A43.out).mono ?_); (case side1 => repeat (first | exact (Kd.R_reads' HO_9.out).2.2 | (with_reducible refine Kd.C_alloc ?_ _) | (with_reducible refine Kd.C_drewN ?_ _) | (with_reducible refine Kd.C_drew ?_))); (case side2 => exact (Kd.R_reads' HO_9.out).2.1); rintro e w58 ⟨v1022, rfl, ho0, hb⟩; refine ⟨_, rfl, ?_⟩; have n0_ := Aside0.mk (Kd.R_elder' (by (with_reducible repeat (first | apply Kd.R_alloc | apply Kd.R_drewN | apply Kd.R_drew)); exact HO_9.out) (Kd.R_base ho0) hb); have n1_ := Aside0.mk (Kd.R_elder' (by (with_reducible repeat (first | apply Kd.R_alloc | apply Kd.R_drewN | apply Kd.R_drew)); exact HO1002.out) (Kd.R_base ho0) hb); have n2_ := Aside0.mk (Kd.R_below (by (with_reducible repeat (first | apply Kd.R_alloc | apply Kd.R_drewN | apply Kd.R_drew)); exact HO1020.out) hb); have n3_ := Aside0.mk (Kd.R_lower (Kd.R_new' (Kd.R_new' ho0 (Kd.R_lt (by (with_reducible repeat (first | apply Kd.R_alloc | apply Kd.R_drewN | apply Kd.R_drew)); exact HO_9.out))) (Kd.R_lt (by (with_reducible repeat (first | apply Kd.R_alloc | apply Kd.R_drewN | apply Kd.R_drew)); exact HO1002.out))) (below_size (by repeat (first | (with_reducible first | exact HB.out | apply below_alloc | apply pw_below_drewN | apply below_drew1 | refine below_set ?_ GE996.out | refine below_set ?_ GE1017.out) | exact HB.out)))); have n4_ := Aside0.mk (blk_below (g := gb996) (o := .cells #[.int .i64 a0_0, .slice A0_1 l0_1.length c0_1] 29 (0, 0)) (by (with_reducible repeat (first | refine blk_drewN ?_ _ | refine blk_drew ?_ | refine blk_alloc ?_ _)); exact BK996.out) hb); have n5_ := Aside0.mk (blk_below (g := gb1017) (o := .cells #[.int .i64 t1015, .int .i64 (rd t1000 0)] 88 (0, 0)) (by (with_reducible repeat (first | refine blk_drewN ?_ _ | refine blk_drew ?_ | refine blk_alloc ?_ _)); exact BK1017.out) hb); have n6_ := Aside0.mk (below_step (by repeat (first | (with_reducible first | exact HB.out | apply below_alloc | apply pw_below_drewN | apply below_drew1 | refine below_set ?_ GE996.out | refine below_set ?_ GE1017.out) | exact HB.out)) hb); clear HO_9; clear HO1002; clear HO1020; clear BK996; clear BK1017; clear HB; have HO_9 := n0_; have HO1002 := n1_; have HO1020 := n2_; have HO1023 := n3_; have BK996 := n4_; have BK1017 := n5_; have HB := n6_; clear n0_ n1_ n2_ n3_ n4_ n5_ n6_; (try clear hb); (try clear hb2); (try clear hk); (try clear hi); (try clear ho0)))
           go_roundg kj7
           case measure => have := HK1.out; have := HJ7.out; omega
           case rel => exact ⟨(y1018), (t1021), (wrap64 (x10_1 + 1)), (by first | rfl | (simp; done) | (simp [*]; done)), H', ⟨by have := HK1.out; have := HJ7.out; omega⟩, ⟨by (with_reducible repeat (first | apply Kd.R_alloc | apply Kd.R_drewN | apply Kd.R_drew)); exact Kd.R_mono HO1020.out (fun _ hk => trivial)⟩, ⟨by (with_reducible repeat (first | apply Kd.R_alloc | apply Kd.R_drewN | apply Kd.R_drew)); exact Kd.R_mono HO1023.out (fun _ hk => trivial)⟩, ⟨by (with_reducible repeat (first | refine blk_drewN ?_ _ | refine blk_drew ?_ | refine blk_alloc ?_ _)); exact BK996.out⟩, ⟨by repeat (first | (with_reducible first | exact HB.out | apply below_alloc | apply pw_below_drewN | apply below_drew1 | refine below_set ?_ GE996.out | refine below_set ?_ GE1017.out) | exact HB.out)⟩⟩
          ·rw [if_neg c42] at H
           exact absurd H (by simp)
         ·rw [if_neg c40] at H
          exact absurd H (by simp)
      ·replace c10 := Bool.eq_false_iff.mpr c10
       subst c10
       have H1 : (some (x8_1, x9_1)) = some (r1, r2) := by rw [if_neg (show ¬ (false = true) by decide)] at H; exact H
       clear H
       have H := H1
       clear H1
       simp only [Option.some.injEq, Prod.mk.injEq] at H
       obtain ⟨rfl, rfl⟩ := H
       go_wp2
       go_ret2
       exact ⟨_, _, by first | rfl | (simp [errW_none, errW_some] <;> rfl) | (simp [*, errW_none, errW_some] <;> rfl), by (with_reducible repeat (first | apply Kd.R_alloc | apply Kd.R_drewN | apply Kd.R_drew)); exact HO_8.out, by (with_reducible repeat (first | apply Kd.R_alloc | apply Kd.R_drewN | apply Kd.R_drew)); exact HO_9.out, by repeat (first | (with_reducible first | exact HB.out | apply below_alloc | apply pw_below_drewN | apply below_drew1 | refine below_set ?_ GE996.out) | exact HB.out)⟩
/-! ### impl_Hyper_peel: function 105 -/
def impl_Hyper_peel.l0 : Nat → List (S88) → List Bool → Int → List (List Int) → Option ((List (S88)) × List Int)
  | 0, _, _, _, _ => none
  | k + 1, x4, x5, x1000, x1001 => (impl_Hyper_singles.f k x1000 x1001 x5).bind fun t1055 => (if (t1055.length : Int) = 0 then ((impl_left.f k x5).bind fun t1058 => (some (x4, t1058))) else (if 0 < (t1055.length : Int) then ((impl_Hyper_edgeAt.f k x1000 x1001 x5 (rd t1055 0)).bind fun t1062 => (if 0 ≤ t1062 then (if t1062 < (x5.length : Int) then (if x4.length < 8796093022208 then (impl_Hyper_peel.l0 k (x4 ++ [(⟨t1062, rd t1055 0⟩ : S88)]) (x5.set (t1062 : Int).toNat true) x1000 x1001) else (none)) else (none)) else (none))) else (none)))
def impl_Hyper_peel.f (k : Nat) (a0_0 : Int) (l0_1 : List (List Int)) : Option ((List (S88)) × List Int) := (impl_Hyper_none.f a0_0 l0_1).bind fun t1052 => (impl_Hyper_peel.l0 k (([] : List (S88))) t1052 a0_0 l0_1)
theorem impl_Hyper_peel.mono_l : ∀ k, (∀ y0 y1 y2 y3, LeO (impl_Hyper_peel.l0 k y0 y1 y2 y3) (impl_Hyper_peel.l0 (k + 1) y0 y1 y2 y3))
  | 0 => fun _ _ _ _ r h => by simp [impl_Hyper_peel.l0] at h
  | k + 1 => by
    have ih0 := impl_Hyper_peel.mono_l k
    · intro y0 y1 y2 y3
      unfold impl_Hyper_peel.l0
      repeat' first
      | (with_reducible exact ih0 _ _ _ _)
      | (with_reducible exact impl_Hyper_edgeAt.mono _ _ _ _ _)
      | (with_reducible exact impl_Hyper_singles.mono _ _ _ _)
      | (with_reducible exact impl_left.mono _ _)
      | (with_reducible exact LeO.refl _)
      | (with_reducible exact LeO.none _)
      | (with_reducible refine LeO.ite ?_ ?_)
      | (with_reducible refine LeO.bind ?_ (fun _ => ?_))
      | exact ih0 _ _ _ _
      | exact impl_Hyper_edgeAt.mono _ _ _ _ _
      | exact impl_Hyper_singles.mono _ _ _ _
      | exact impl_left.mono _ _
      | exact LeO.none _
      | refine LeO.ite ?_ ?_
      | refine LeO.bind ?_ (fun _ => ?_)
theorem impl_Hyper_peel.mono : ∀ a0 a1 k, LeO (impl_Hyper_peel.f k a0 a1) (impl_Hyper_peel.f (k + 1) a0 a1) := by
  intro a0 a1 k
  have ih0 := impl_Hyper_peel.mono_l k
  unfold impl_Hyper_peel.f
  repeat' first
      | (with_reducible exact ih0 _ _ _ _)
      | (with_reducible exact impl_Hyper_edgeAt.mono _ _ _ _ _)
      | (with_reducible exact impl_Hyper_singles.mono _ _ _ _)
      | (with_reducible exact impl_left.mono _ _)
      | (with_reducible exact LeO.refl _)
      | (with_reducible exact LeO.none _)
      | (with_reducible refine LeO.ite ?_ ?_)
      | (with_reducible refine LeO.bind ?_ (fun _ => ?_))
      | exact ih0 _ _ _ _
      | exact impl_Hyper_edgeAt.mono _ _ _ _ _
      | exact impl_Hyper_singles.mono _ _ _ _
      | exact impl_left.mono _ _
      | exact LeO.none _
      | refine LeO.ite ?_ ?_
      | refine LeO.bind ?_ (fun _ => ?_)
noncomputable def impl_Hyper_peel.L0 (y0 : List (S88)) (y1 : List Bool) (y2 : Int) (y3 : List (List Int)) : Option ((List (S88)) × List Int) := lim fun k => impl_Hyper_peel.l0 k y0 y1 y2 y3
theorem impl_Hyper_peel.L0_sup (y0 : List (S88)) (y1 : List Bool) (y2 : Int) (y3 : List (List Int)) : Sup (fun k => impl_Hyper_peel.l0 k y0 y1 y2 y3) (impl_Hyper_peel.L0 y0 y1 y2 y3) := Sup.of_mono fun k => impl_Hyper_peel.mono_l k y0 y1 y2 y3
noncomputable def impl_Hyper_peel.F (a0_0 : Int) (l0_1 : List (List Int)) : Option ((List (S88)) × List Int) := lim fun k => impl_Hyper_peel.f k a0_0 l0_1
theorem impl_Hyper_peel.F_sup (a0_0 : Int) (l0_1 : List (List Int)) : Sup (fun k => impl_Hyper_peel.f k a0_0 l0_1) (impl_Hyper_peel.F a0_0 l0_1) := Sup.of_mono fun k => impl_Hyper_peel.mono a0_0 l0_1 k
theorem impl_Hyper_peel.L0_eq (x4 : List (S88)) (x5 : List Bool) (x1000 : Int) (x1001 : List (List Int)) : impl_Hyper_peel.L0 x4 x5 x1000 x1001 = (impl_Hyper_singles.F x1000 x1001 x5).bind fun t1055 => (if (t1055.length : Int) = 0 then ((impl_left.F x5).bind fun t1058 => (some (x4, t1058))) else (if 0 < (t1055.length : Int) then ((impl_Hyper_edgeAt.F x1000 x1001 x5 (rd t1055 0)).bind fun t1062 => (if 0 ≤ t1062 then (if t1062 < (x5.length : Int) then (if x4.length < 8796093022208 then (impl_Hyper_peel.L0 (x4 ++ [(⟨t1062, rd t1055 0⟩ : S88)]) (x5.set (t1062 : Int).toNat true) x1000 x1001) else (none)) else (none)) else (none))) else (none))) := by
  refine Sup.unique (impl_Hyper_peel.L0_sup x4 x5 x1000 x1001) (Sup.shift (fun k => impl_Hyper_peel.mono_l k x4 x5 x1000 x1001) (Sup.congr (g' := fun k => (impl_Hyper_singles.f k x1000 x1001 x5).bind fun t1055 => (if (t1055.length : Int) = 0 then ((impl_left.f k x5).bind fun t1058 => (some (x4, t1058))) else (if 0 < (t1055.length : Int) then ((impl_Hyper_edgeAt.f k x1000 x1001 x5 (rd t1055 0)).bind fun t1062 => (if 0 ≤ t1062 then (if t1062 < (x5.length : Int) then (if x4.length < 8796093022208 then (impl_Hyper_peel.l0 k (x4 ++ [(⟨t1062, rd t1055 0⟩ : S88)]) (x5.set (t1062 : Int).toNat true) x1000 x1001) else (none)) else (none)) else (none))) else (none)))) (fun k => by first | rfl | simp only [impl_Hyper_peel.l0]) ?_))
  repeat' first
    | (with_reducible exact impl_Hyper_peel.L0_sup _ _ _ _)
    | (with_reducible exact impl_left.F_sup _)
    | (with_reducible exact impl_Hyper_singles.F_sup _ _ _)
    | (with_reducible exact impl_Hyper_edgeAt.F_sup _ _ _ _)
    | (with_reducible refine Sup.ite ?_ ?_)
    | (with_reducible refine Sup.bind ?_ (fun _ => ?_))
    | (with_reducible exact Sup.const _)
    | exact impl_Hyper_peel.L0_sup _ _ _ _
    | exact impl_left.F_sup _
    | exact impl_Hyper_singles.F_sup _ _ _
    | exact impl_Hyper_edgeAt.F_sup _ _ _ _
    | exact Sup.const _
theorem impl_Hyper_peel.F_eq (a0_0 : Int) (l0_1 : List (List Int)) : impl_Hyper_peel.F a0_0 l0_1 = (impl_Hyper_none.f a0_0 l0_1).bind fun t1052 => (impl_Hyper_peel.L0 (([] : List (S88))) t1052 a0_0 l0_1) := by
  refine Sup.unique (impl_Hyper_peel.F_sup a0_0 l0_1) (Sup.congr (g' := fun k => (impl_Hyper_none.f a0_0 l0_1).bind fun t1052 => (impl_Hyper_peel.l0 k (([] : List (S88))) t1052 a0_0 l0_1)) (fun k => by first | rfl | simp only [impl_Hyper_peel.f]) ?_)
  repeat' first
    | (with_reducible exact impl_Hyper_peel.L0_sup _ _ _ _)
    | (with_reducible exact impl_left.F_sup _)
    | (with_reducible exact impl_Hyper_singles.F_sup _ _ _)
    | (with_reducible exact impl_Hyper_edgeAt.F_sup _ _ _ _)
    | (with_reducible refine Sup.ite ?_ ?_)
    | (with_reducible refine Sup.bind ?_ (fun _ => ?_))
    | (with_reducible exact Sup.const _)
    | exact impl_Hyper_peel.L0_sup _ _ _ _
    | exact impl_left.F_sup _
    | exact impl_Hyper_singles.F_sup _ _ _
    | exact impl_Hyper_edgeAt.F_sup _ _ _ _
    | exact Sup.const _
set_option maxHeartbeats 8000000 in
set_option maxRecDepth 100000 in
theorem impl_Hyper_peel.calls (k : Nat) (gb0_ : Nat) (a0_0 : Int) (A0_1 : Option Addr) (c0_1 : Nat) (l0_1 : List (List Int)) (r1 : List (S88)) (r2 : List Int) (w : World) (hr0_1 : Kd.C (Kd.slice 3 (Kd.int .i64)) w A0_1 l0_1.length l0_1) (hc0_1 : l0_1.length ≤ c0_1) (hb0_ : w.heap[gb0_]? = some (.cells #[.int .i64 a0_0, .slice A0_1 l0_1.length c0_1] 29 (0, 0))) (h : impl_Hyper_peel.f k a0_0 l0_1 = some (r1, r2)) :
    Calls Try.prog 105 #[.pointer (some ⟨gb0_, 0, none⟩)] w fun e w' => ∃ v0_ v1_ : Value, e = .returned (.tuple #[v0_, v1_]) ∧ Kd.R k88 88 w' w.heap.size (fun _ => True) v0_ r1 ∧ Kd.R (Kd.int .i64) 3 w' w.heap.size (fun _ => True) v1_ r2 ∧ Below w.heap.size w w' := by
  have hu88 := Try.underlying88
  have HR0_1 := Aside0.mk hr0_1
  have HC0_1 := Aside0.mk hc0_1
  clear hr0_1 hc0_1
  have BK0 := Aside0.mk hb0_
  clear hb0_
  have HB := Aside0.mk (Below.refl w.heap.size w)
  have H : ((impl_Hyper_none.f a0_0 l0_1).bind fun t1052 => (impl_Hyper_peel.l0 k (([] : List (S88))) t1052 a0_0 l0_1)) = some (r1, r2) := h
  clear h
  obtain ⟨y1049, hy1049⟩ : ∃ y_ : List (S88), y_ = (([] : List (S88))) := ⟨_, rfl⟩
  replace H : ((impl_Hyper_none.f a0_0 l0_1).bind fun t1052 => (impl_Hyper_peel.l0 k y1049 t1052 a0_0 l0_1)) = some (r1, r2) := by first | (rw [hy1049]; with_reducible exact H) | (have H2_ := (Option.bind_some _ _).symm.trans H; rw [hy1049]; with_reducible exact H2_) | (have H2_ := (Option.bind_some _ _).symm.trans H; with_reducible exact H2_) | with_reducible exact H | (rw [hy1049]; exact H) | exact H
  have Ny1049 := Aside0.mk hy1049
  clear hy1049
  replace H := Option.bind_eq_some_iff.mp H
  obtain ⟨t1052, A20, H⟩ := H
  replace H : (impl_Hyper_peel.l0 k y1049 t1052 a0_0 l0_1) = some (r1, r2) := H
  have A2 := Aside0.mk A20
  clear A20
  have H' := Aside0.mk H
  clear H
  go_enter Try.func105, Try.ntmps105
  go_wp2_with (first | ((with_reducible refine gate_dst (N := 8) rfl ?_); refine Kd.R_lit k88 _ 88 ?hg (N := 8) ?hd (xs := ([] : List (S88))) (inner := []) (ok := fun _ => True) (okp := fun _ => True) ?hr ?hp (fun _ hk => hk) trivial (Below.refl _ _) (Nat.le_refl _) (by simp) ?_; (case hd => rfl); (case hg => rfl); (case hr => first | (go_simp; done) | (go_simp; rfl)); (case hp => exact (Reps.none _ _)); intro v1050 w3 ho4 hb hg_ hnew_; clear hg_ hnew_; (first | rw [← Ny1049.out] at ho4 | (simp only [Int.reduceToNat] at ho4; rw [← Ny1049.out] at ho4)); have n0_ := Aside0.mk (Kd.R_lower ho4 (below_size (by repeat (first | (with_reducible first | exact HB.out | apply below_alloc | apply pw_below_drewN | apply below_drew1 | refine below_set ?_ GE0.out) | exact HB.out)))); have n1_ := Aside0.mk (blk_below (g := gb0_) (o := .cells #[.int .i64 a0_0, .slice A0_1 l0_1.length c0_1] 29 (0, 0)) (by (with_reducible repeat (first | refine blk_drewN ?_ _ | refine blk_drew ?_ | refine blk_alloc ?_ _)); exact BK0.out) hb); have n2_ := Aside0.mk (below_step (by repeat (first | (with_reducible first | exact HB.out | apply below_alloc | apply pw_below_drewN | apply below_drew1 | refine below_set ?_ GE0.out) | exact HB.out)) hb); clear BK0; clear HB; have HO1051 := n0_; have BK0 := n1_; have HB := n2_; clear n0_ n1_ n2_; clear hb ho4) | ((with_reducible refine gate_callee (f := 73) rfl ?_); refine goesL_ (some 10) rfl rfl Try.func73 (by kernel_rfl) rfl #[.pointer (some ⟨gb0_, 0, none⟩)] rfl (by (try simp only [List.map_toArray, List.map_cons, List.map_nil]); first | done | rfl | (simp only [List.length_drop, List.length_take]; rfl)) ?_; (with_reducible refine (impl_Hyper_none.calls gb0_ a0_0 A0_1 c0_1 l0_1 t1052 _ ?side1 ?side2 ?side3 A2.out).mono ?_); (case side1 => repeat (first | exact (Kd.C_below HR0_1.out HB.out) | (with_reducible refine Kd.C_alloc ?_ _) | (with_reducible refine Kd.C_drewN ?_ _) | (with_reducible refine Kd.C_drew ?_))); (case side2 => exact HC0_1.out); (case side3 => exact (by (with_reducible repeat (first | refine blk_drewN ?_ _ | refine blk_drew ?_ | refine blk_alloc ?_ _)); exact BK0.out)); rintro e w5 ⟨v1053, rfl, ho0, hb⟩; refine ⟨_, rfl, ?_⟩; have n0_ := Aside0.mk (Kd.R_below (by (with_reducible repeat (first | apply Kd.R_alloc | apply Kd.R_drewN | apply Kd.R_drew)); exact HO1051.out) hb); have n1_ := Aside0.mk (Kd.R_lower ho0 (below_size (by repeat (first | (with_reducible first | exact HB.out | apply below_alloc | apply pw_below_drewN | apply below_drew1 | refine below_set ?_ GE0.out) | exact HB.out)))); have n2_ := Aside0.mk (blk_below (g := gb0_) (o := .cells #[.int .i64 a0_0, .slice A0_1 l0_1.length c0_1] 29 (0, 0)) (by (with_reducible repeat (first | refine blk_drewN ?_ _ | refine blk_drew ?_ | refine blk_alloc ?_ _)); exact BK0.out) hb); have n3_ := Aside0.mk (below_step (by repeat (first | (with_reducible first | exact HB.out | apply below_alloc | apply pw_below_drewN | apply below_drew1 | refine below_set ?_ GE0.out) | exact HB.out)) hb); clear HO1051; clear BK0; clear HB; have HO1051 := n0_; have HO1054 := n1_; have BK0 := n2_; have HB := n3_; clear n0_ n1_ n2_ n3_; (try clear hb); (try clear hb2); (try clear hk); (try clear hi); (try clear ho0)))
  go_loopg [4] k (fun kq v4 w' => ∃ (x4_1 : List (S88)) (x5_1 : List Bool), Aside0 (impl_Hyper_peel.l0 kq x4_1 x5_1 a0_0 l0_1 = some (r1, r2)) ∧ Aside0 (kq ≤ k) ∧ Aside0 (Kd.R k88 88 w' w.heap.size (fun _ => True) v4 x4_1) ∧ Aside0 (Kd.R Kd.bool 4 w' w.heap.size (fun _ => True) v1053 x5_1) ∧ Aside0 (w'.heap[gb0_]? = some (.cells #[.int .i64 a0_0, (.slice A0_1 l0_1.length c0_1)] 29 (0, 0))) ∧ Aside0 (Below w.heap.size w w'))
  case atStart => exact ⟨(y1049), (t1052), H', ⟨Nat.le_refl _⟩, ⟨by (with_reducible repeat (first | apply Kd.R_alloc | apply Kd.R_drewN | apply Kd.R_drew)); exact HO1051.out⟩, ⟨by (with_reducible repeat (first | apply Kd.R_alloc | apply Kd.R_drewN | apply Kd.R_drew)); exact HO1054.out⟩, ⟨by (with_reducible repeat (first | refine blk_drewN ?_ _ | refine blk_drew ?_ | refine blk_alloc ?_ _)); exact BK0.out⟩, ⟨by repeat (first | (with_reducible first | exact HB.out | apply below_alloc | apply pw_below_drewN | apply below_drew1 | refine below_set ?_ GE0.out) | exact HB.out)⟩⟩
  case round =>
   clear H'
   try clear c1
   try clear p2
   obtain ⟨x4_1, x5_1, HA, HK1, HO_4, HO_5, BK0, HB⟩ := hrel
   cases gk with
   | zero => exact absurd HA.out (by simp [impl_Hyper_peel.l0])
   | succ k1 =>
    have H := HA.out
    clear HA
    simp only [impl_Hyper_peel.l0] at H
    replace H := Option.bind_eq_some_iff.mp H
    obtain ⟨t1055, A60, H⟩ := H
    replace H : (if (t1055.length : Int) = 0 then ((impl_left.f k1 x5_1).bind fun t1058 => (some (x4_1, t1058))) else (if 0 < (t1055.length : Int) then ((impl_Hyper_edgeAt.f k1 a0_0 l0_1 x5_1 (rd t1055 0)).bind fun t1062 => (if 0 ≤ t1062 then (if t1062 < (x5_1.length : Int) then (if x4_1.length < 8796093022208 then (impl_Hyper_peel.l0 k1 (x4_1 ++ [(⟨t1062, rd t1055 0⟩ : S88)]) (x5_1.set (t1062 : Int).toNat true) a0_0 l0_1) else (none)) else (none)) else (none))) else (none))) = some (r1, r2) := H
    have A6 := Aside0.mk A60
    clear A60
    by_cases c7 : (t1055.length : Int) = 0
    ·rw [if_pos c7] at H
     have c7b0 : ((t1055.length : Int) == 0) = true := beq_iff_eq.mpr c7
     have c7b1 : ((t1055.length : Int) != 0) = false := bne_eq_false_iff_eq.mpr c7
     clear c7
     replace H := Option.bind_eq_some_iff.mp H
     obtain ⟨t1058, A80, H⟩ := H
     replace H : (some (x4_1, t1058)) = some (r1, r2) := H
     have A8 := Aside0.mk A80
     clear A80
     simp only [Option.some.injEq, Prod.mk.injEq] at H
     obtain ⟨rfl, rfl⟩ := H
     obtain ⟨Ao9, co9, eo9⟩ := Kd.R_slice HO_5.out
     subst eo9
     go_wp2_with (first | ((with_reducible refine gate_callee (f := 111) rfl ?_); refine goesL_ (some 13) rfl rfl Try.func111 (by kernel_rfl) rfl #[.pointer (some ⟨gb0_, 0, none⟩), .slice Ao9 x5_1.length co9] rfl (by (try simp only [List.map_toArray, List.map_cons, List.map_nil]); first | done | rfl | (simp only [List.length_drop, List.length_take]; rfl)) ?_; (with_reducible refine (impl_Hyper_singles.calls k1 gb0_ a0_0 A0_1 c0_1 l0_1 _ _ x5_1 t1055 _ ?side1 ?side2 ?side3 ?side4 ?side5 A6.out).mono ?_); (case side1 => repeat (first | exact (Kd.C_below HR0_1.out HB.out) | (with_reducible refine Kd.C_alloc ?_ _) | (with_reducible refine Kd.C_drewN ?_ _) | (with_reducible refine Kd.C_drew ?_))); (case side2 => exact HC0_1.out); (case side3 => repeat (first | exact (Kd.R_reads' HO_5.out).2.2 | (with_reducible refine Kd.C_alloc ?_ _) | (with_reducible refine Kd.C_drewN ?_ _) | (with_reducible refine Kd.C_drew ?_))); (case side4 => exact (Kd.R_reads' HO_5.out).2.1); (case side5 => exact (by (with_reducible repeat (first | refine blk_drewN ?_ _ | refine blk_drew ?_ | refine blk_alloc ?_ _)); exact BK0.out)); rintro e w10 ⟨v1056, rfl, ho0, hb⟩; refine ⟨_, rfl, ?_⟩; have n0_ := Aside0.mk (Kd.R_below (by (with_reducible repeat (first | apply Kd.R_alloc | apply Kd.R_drewN | apply Kd.R_drew)); exact HO_4.out) hb); have n1_ := Aside0.mk (Kd.R_below (by (with_reducible repeat (first | apply Kd.R_alloc | apply Kd.R_drewN | apply Kd.R_drew)); exact HO_5.out) hb); have n2_ := Aside0.mk (Kd.R_lower ho0 (below_size (by repeat (first | (with_reducible first | exact HB.out | apply below_alloc | apply pw_below_drewN | apply below_drew1 | refine below_set ?_ GE0.out) | exact HB.out)))); have n3_ := Aside0.mk (blk_below (g := gb0_) (o := .cells #[.int .i64 a0_0, .slice A0_1 l0_1.length c0_1] 29 (0, 0)) (by (with_reducible repeat (first | refine blk_drewN ?_ _ | refine blk_drew ?_ | refine blk_alloc ?_ _)); exact BK0.out) hb); have n4_ := Aside0.mk (below_step (by repeat (first | (with_reducible first | exact HB.out | apply below_alloc | apply pw_below_drewN | apply below_drew1 | refine below_set ?_ GE0.out) | exact HB.out)) hb); clear HO_4; clear HO_5; clear BK0; clear HB; have HO_4 := n0_; have HO_5 := n1_; have HO1057 := n2_; have BK0 := n3_; have HB := n4_; clear n0_ n1_ n2_ n3_ n4_; (try clear hb); (try clear hb2); (try clear hk); (try clear hi); (try clear ho0); obtain ⟨Ao11, co11, eo11⟩ := Kd.R_slice HO1057.out; subst eo11) | ((with_reducible refine gate_callee (f := 102) rfl ?_); refine goesL_ (some 19) rfl rfl Try.func102 (by kernel_rfl) rfl #[.slice Ao9 x5_1.length co9] rfl (by (try simp only [List.map_toArray, List.map_cons, List.map_nil]); first | done | rfl | (simp only [List.length_drop, List.length_take]; rfl)) ?_; (with_reducible refine (impl_left.calls k1 _ _ x5_1 t1058 _ ?side1 ?side2 A8.out).mono ?_); (case side1 => repeat (first | exact (Kd.R_reads' HO_5.out).2.2 | (with_reducible refine Kd.C_alloc ?_ _) | (with_reducible refine Kd.C_drewN ?_ _) | (with_reducible refine Kd.C_drew ?_))); (case side2 => exact (Kd.R_reads' HO_5.out).2.1); rintro e w12 ⟨v1059, rfl, ho0, hb⟩; refine ⟨_, rfl, ?_⟩; have n0_ := Aside0.mk (Kd.R_below (by (with_reducible repeat (first | apply Kd.R_alloc | apply Kd.R_drewN | apply Kd.R_drew)); exact HO_4.out) hb); have n1_ := Aside0.mk (Kd.R_below (by (with_reducible repeat (first | apply Kd.R_alloc | apply Kd.R_drewN | apply Kd.R_drew)); exact HO_5.out) hb); have n2_ := Aside0.mk (Kd.R_elder' (by (with_reducible repeat (first | apply Kd.R_alloc | apply Kd.R_drewN | apply Kd.R_drew)); exact HO1057.out) (Kd.R_base ho0) hb); have n3_ := Aside0.mk (Kd.R_lower (Kd.R_new' ho0 (Kd.R_lt (by (with_reducible repeat (first | apply Kd.R_alloc | apply Kd.R_drewN | apply Kd.R_drew)); exact HO1057.out))) (below_size (by repeat (first | (with_reducible first | exact HB.out | apply below_alloc | apply pw_below_drewN | apply below_drew1 | refine below_set ?_ GE0.out) | exact HB.out)))); have n4_ := Aside0.mk (blk_below (g := gb0_) (o := .cells #[.int .i64 a0_0, .slice A0_1 l0_1.length c0_1] 29 (0, 0)) (by (with_reducible repeat (first | refine blk_drewN ?_ _ | refine blk_drew ?_ | refine blk_alloc ?_ _)); exact BK0.out) hb); have n5_ := Aside0.mk (below_step (by repeat (first | (with_reducible first | exact HB.out | apply below_alloc | apply pw_below_drewN | apply below_drew1 | refine below_set ?_ GE0.out) | exact HB.out)) hb); clear HO_4; clear HO_5; clear HO1057; clear BK0; clear HB; have HO_4 := n0_; have HO_5 := n1_; have HO1057 := n2_; have HO1060 := n3_; have BK0 := n4_; have HB := n5_; clear n0_ n1_ n2_ n3_ n4_ n5_; (try clear hb); (try clear hb2); (try clear hk); (try clear hi); (try clear ho0)))
     go_ret2
     exact ⟨_, _, by first | rfl | (simp [errW_none, errW_some] <;> rfl) | (simp [*, errW_none, errW_some] <;> rfl), by (with_reducible repeat (first | apply Kd.R_alloc | apply Kd.R_drewN | apply Kd.R_drew)); exact HO_4.out, by (with_reducible repeat (first | apply Kd.R_alloc | apply Kd.R_drewN | apply Kd.R_drew)); exact Kd.R_mono HO1060.out (fun _ hk => trivial), by repeat (first | (with_reducible first | exact HB.out | apply below_alloc | apply pw_below_drewN | apply below_drew1 | refine below_set ?_ GE0.out) | exact HB.out)⟩
    ·rw [if_neg c7] at H
     have c7b0 : ((t1055.length : Int) == 0) = false := beq_eq_false_iff_ne.mpr c7
     have c7b1 : ((t1055.length : Int) != 0) = true := bne_iff_ne.mpr c7
     have c7b2 : ¬ (t1055 = []) := fun h_ => c7 (by rw [h_]; rfl)
     by_cases c13 : 0 < (t1055.length : Int)
     ·rw [if_pos c13] at H
      have c13b0 : decide (0 < (t1055.length : Int)) = true := decide_eq_true c13
      have c13b1 : decide (0 < t1055.length) = true := decide_eq_true (by omega)
      clear c13
      replace H := Option.bind_eq_some_iff.mp H
      obtain ⟨t1062, A140, H⟩ := H
      replace H : (if 0 ≤ t1062 then (if t1062 < (x5_1.length : Int) then (if x4_1.length < 8796093022208 then (impl_Hyper_peel.l0 k1 (x4_1 ++ [(⟨t1062, rd t1055 0⟩ : S88)]) (x5_1.set (t1062 : Int).toNat true) a0_0 l0_1) else (none)) else (none)) else (none)) = some (r1, r2) := H
      have A14 := Aside0.mk A140
      clear A140
      by_cases c15 : 0 ≤ t1062
      ·rw [if_pos c15] at H
       have c15b0 : decide (0 ≤ t1062) = true := decide_eq_true c15
       clear c15
       by_cases c16 : t1062 < (x5_1.length : Int)
       ·rw [if_pos c16] at H
        have c16b0 : decide (t1062 < (x5_1.length : Int)) = true := decide_eq_true c16
        clear c16
        obtain ⟨y1063, hy1063⟩ : ∃ y_ : List Bool, y_ = (x5_1.set (t1062 : Int).toNat true) := ⟨_, rfl⟩
        replace H : (if x4_1.length < 8796093022208 then (impl_Hyper_peel.l0 k1 (x4_1 ++ [(⟨t1062, rd t1055 0⟩ : S88)]) y1063 a0_0 l0_1) else (none)) = some (r1, r2) := by first | (rw [hy1063]; with_reducible exact H) | (have H2_ := (Option.bind_some _ _).symm.trans H; rw [hy1063]; with_reducible exact H2_) | (have H2_ := (Option.bind_some _ _).symm.trans H; with_reducible exact H2_) | with_reducible exact H | (rw [hy1063]; exact H) | exact H
        have Ny1063 := Aside0.mk hy1063
        clear hy1063
        by_cases c18 : x4_1.length < 8796093022208
        ·rw [if_pos c18] at H
         have LMc18 := Aside0.mk c18
         clear c18
         obtain ⟨y1065, hy1065⟩ : ∃ y_ : List (S88), y_ = (x4_1 ++ [(⟨t1062, rd t1055 0⟩ : S88)]) := ⟨_, rfl⟩
         replace H : (impl_Hyper_peel.l0 k1 y1065 y1063 a0_0 l0_1) = some (r1, r2) := by first | (rw [hy1065]; with_reducible exact H) | (have H2_ := (Option.bind_some _ _).symm.trans H; rw [hy1065]; with_reducible exact H2_) | (have H2_ := (Option.bind_some _ _).symm.trans H; with_reducible exact H2_) | with_reducible exact H | (rw [hy1065]; exact H) | exact H
         have Ny1065 := Aside0.mk hy1065
         clear hy1065
         have H' := Aside0.mk H
         clear H
         obtain ⟨Ao19, co19, eo19⟩ := Kd.R_slice HO_5.out
         subst eo19
         go_wp2_with (first | ((with_reducible refine gate_callee (f := 111) rfl ?_); refine goesL_ (some 13) rfl rfl Try.func111 (by kernel_rfl) rfl #[.pointer (some ⟨gb0_, 0, none⟩), .slice Ao19 x5_1.length co19] rfl (by (try simp only [List.map_toArray, List.map_cons, List.map_nil]); first | done | rfl | (simp only [List.length_drop, List.length_take]; rfl)) ?_; (with_reducible refine (impl_Hyper_singles.calls k1 gb0_ a0_0 A0_1 c0_1 l0_1 _ _ x5_1 t1055 _ ?side1 ?side2 ?side3 ?side4 ?side5 A6.out).mono ?_); (case side1 => repeat (first | exact (Kd.C_below HR0_1.out HB.out) | (with_reducible refine Kd.C_alloc ?_ _) | (with_reducible refine Kd.C_drewN ?_ _) | (with_reducible refine Kd.C_drew ?_))); (case side2 => exact HC0_1.out); (case side3 => repeat (first | exact (Kd.R_reads' HO_5.out).2.2 | (with_reducible refine Kd.C_alloc ?_ _) | (with_reducible refine Kd.C_drewN ?_ _) | (with_reducible refine Kd.C_drew ?_))); (case side4 => exact (Kd.R_reads' HO_5.out).2.1); (case side5 => exact (by (with_reducible repeat (first | refine blk_drewN ?_ _ | refine blk_drew ?_ | refine blk_alloc ?_ _)); exact BK0.out)); rintro e w20 ⟨v1056, rfl, ho0, hb⟩; refine ⟨_, rfl, ?_⟩; have n0_ := Aside0.mk (Kd.R_below (by (with_reducible repeat (first | apply Kd.R_alloc | apply Kd.R_drewN | apply Kd.R_drew)); exact HO_4.out) hb); have n1_ := Aside0.mk (Kd.R_below (by (with_reducible repeat (first | apply Kd.R_alloc | apply Kd.R_drewN | apply Kd.R_drew)); exact HO_5.out) hb); have n2_ := Aside0.mk (Kd.R_lower ho0 (below_size (by repeat (first | (with_reducible first | exact HB.out | apply below_alloc | apply pw_below_drewN | apply below_drew1 | refine below_set ?_ GE0.out) | exact HB.out)))); have n3_ := Aside0.mk (blk_below (g := gb0_) (o := .cells #[.int .i64 a0_0, .slice A0_1 l0_1.length c0_1] 29 (0, 0)) (by (with_reducible repeat (first | refine blk_drewN ?_ _ | refine blk_drew ?_ | refine blk_alloc ?_ _)); exact BK0.out) hb); have n4_ := Aside0.mk (below_step (by repeat (first | (with_reducible first | exact HB.out | apply below_alloc | apply pw_below_drewN | apply below_drew1 | refine below_set ?_ GE0.out) | exact HB.out)) hb); clear HO_4; clear HO_5; clear BK0; clear HB; have HO_4 := n0_; have HO_5 := n1_; have HO1057 := n2_; have BK0 := n3_; have HB := n4_; clear n0_ n1_ n2_ n3_ n4_; (try clear hb); (try clear hb2); (try clear hk); (try clear hi); (try clear ho0); obtain ⟨Ao21, co21, eo21⟩ := Kd.R_slice HO1057.out; subst eo21; have p1061 : 0 ≤ (0 : Int) := (by omega); have q1061 : 0 < (t1055.length : Int) := of_decide_eq_true (by first | (with_reducible assumption) | assumption); obtain ⟨ad1061, e1061, hx1061_0⟩ := Kd.at_int (Kd.R_reads' HO1057.out).2.2 0 p1061 q1061; cases e1061; have qi1061 : (0 < t1055.length) = True := eq_true (by omega); (try rw [show ((0 : Int)).toNat = 0 from rfl] at hx1061_0); (try rw [Addr.add_zero'] at hx1061_0); replace p1061 := eq_true p1061; replace q1061 := eq_true q1061) | ((with_reducible refine gate_callee (f := 112) rfl ?_); refine goesL_ (some 25) rfl rfl Try.func112 (by kernel_rfl) rfl #[.pointer (some ⟨gb0_, 0, none⟩), .slice Ao19 x5_1.length co19, .int .i64 (rd t1055 0)] rfl (by (try simp only [List.map_toArray, List.map_cons, List.map_nil]); first | done | rfl | (simp only [List.length_drop, List.length_take]; rfl)) ?_; (with_reducible refine (impl_Hyper_edgeAt.calls k1 gb0_ a0_0 A0_1 c0_1 l0_1 _ _ x5_1 (rd t1055 0) t1062 _ ?side1 ?side2 ?side3 ?side4 ?side5 A14.out).mono ?_); (case side1 => repeat (first | exact (Kd.C_below HR0_1.out HB.out) | (with_reducible refine Kd.C_alloc ?_ _) | (with_reducible refine Kd.C_drewN ?_ _) | (with_reducible refine Kd.C_drew ?_))); (case side2 => exact HC0_1.out); (case side3 => repeat (first | exact (Kd.R_reads' HO_5.out).2.2 | (with_reducible refine Kd.C_alloc ?_ _) | (with_reducible refine Kd.C_drewN ?_ _) | (with_reducible refine Kd.C_drew ?_))); (case side4 => exact (Kd.R_reads' HO_5.out).2.1); (case side5 => exact (by (with_reducible repeat (first | refine blk_drewN ?_ _ | refine blk_drew ?_ | refine blk_alloc ?_ _)); exact BK0.out)); rintro e w' ⟨rfl, ⟨nd, rfl⟩⟩; refine ⟨_, rfl, ?_⟩; (try (rw [drewN_self w20]; generalize hq_ : World.drewN w20 _ = w20; have n0_ : Aside0 (Kd.R (Kd.int .i64) 3 w20 w.heap.size (fun k_ => True) (.slice (some ad1061) t1055.length co21) t1055) := ⟨by rw [← hq_]; exact (by (with_reducible repeat (first | apply Kd.R_alloc | apply Kd.R_drewN | apply Kd.R_drew)); exact HO1057.out)⟩; have n1_ : Aside0 (Kd.R k88 88 w20 w.heap.size (fun k_ => True) u4 x4_1) := ⟨by rw [← hq_]; exact (by (with_reducible repeat (first | apply Kd.R_alloc | apply Kd.R_drewN | apply Kd.R_drew)); exact HO_4.out)⟩; have n2_ : Aside0 (Kd.R Kd.bool 4 w20 w.heap.size (fun k_ => True) (.slice Ao19 x5_1.length co19) x5_1) := ⟨by rw [← hq_]; exact (by (with_reducible repeat (first | apply Kd.R_alloc | apply Kd.R_drewN | apply Kd.R_drew)); exact HO_5.out)⟩; have n3_ : Aside0 (w20.heap[gb0_]? = some (.cells #[.int .i64 a0_0, .slice A0_1 l0_1.length c0_1] 29 (0, 0))) := ⟨by rw [← hq_]; exact (by (with_reducible repeat (first | refine blk_drewN ?_ _ | refine blk_drew ?_ | refine blk_alloc ?_ _)); exact BK0.out)⟩; have n4_ : Aside0 (Below w.heap.size w w20) := ⟨by rw [← hq_]; exact (by repeat (first | (with_reducible first | exact HB.out | apply below_alloc | apply pw_below_drewN | apply below_drew1 | refine below_set ?_ GE0.out) | exact HB.out))⟩; clear HO1057 HO_4 HO_5 BK0 HB hq_; have HO1057 := n0_; have HO_4 := n1_; have HO_5 := n2_; have BK0 := n3_; have HB := n4_; clear n0_ n1_ n2_ n3_ n4_)); have p17 : 0 ≤ (t1062 : Int) := of_decide_eq_true (by first | (with_reducible assumption) | assumption); have q17 : (t1062 : Int) < ((x5_1.length : Int) : Int) := of_decide_eq_true (by first | (with_reducible assumption) | assumption); obtain ⟨go17, co17, eo17, gb17, gl17, cl17, HG17⟩ := Kd.R_form HO_5.out (by omega); (first | cases eo17 | (injection eo17 with ea_ en_ ec_; (first | subst ea_ | (injection ea_ with ea_; subst ea_)); subst ec_; clear en_)); have GB17 := Aside0.mk gb17; have GG17 := Aside0.mk HG17; clear gb17 gl17 HG17; obtain ⟨hx17_0, hf17_0⟩ := Kd.R_celln false HO_5.out (t1062 : Int) p17 q17; replace p17 := eq_true p17; replace q17 := eq_true q17; obtain ⟨hy22_, hz22_⟩ := Kd.R_celln false HO_5.out (t1062 : Int) (of_decide_eq_true (by first | (with_reducible assumption) | assumption)) (of_decide_eq_true (by first | (with_reducible assumption) | assumption)); have HP22 := Kd.R_putg HO_5.out (t1062 : Int) true) | ((with_reducible refine gate_store (t := 4) (p := 28) rfl ?_); refine store_event (t := 4) (p := 28) (v := ?vo_w23) (w1 := (w20.setCell ⟨go17, (t1062 : Int).toNat, none⟩ (.bool true))) ?hg ?ho ?hn ?hr ?_; (case ho => rfl); (case hg => rfl); (case hn => rfl); (case hr => first | (go_simp; done) | (go_simp; rfl)); intro w23 hw; have hg : w20.grownBy w23 (some go17) := (by rw [hw]; exact HP22.2); have hp_ : Kd.R Kd.bool 4 w23 w.heap.size (fun _ => True) (.slice (some ⟨go17, 0, none⟩) x5_1.length co19) y1063 := (by rw [hw, Ny1063.out]; exact HP22.1); clear HP22; have n0_ := Aside0.mk (Kd.R_over' (v := (.slice (some ⟨go17, 0, none⟩) x5_1.length co19)) (by (with_reducible repeat (first | apply Kd.R_alloc | apply Kd.R_drewN | apply Kd.R_drew)); exact HO_4.out) (Kd.R_typed HO_5.out) (by decide) hg); have n1_ := Aside0.mk (hp_); have n2_ := Aside0.mk (blk_grown (g := gb0_) (o := .cells #[.int .i64 a0_0, .slice A0_1 l0_1.length c0_1] 29 (0, 0)) (by (with_reducible repeat (first | refine blk_drewN ?_ _ | refine blk_drew ?_ | refine blk_alloc ?_ _)); exact BK0.out) hg (Kd.R_ne HO_5.out BK0.out (by decide))); have n3_ := Aside0.mk (Kd.R_over' (v := (.slice (some ⟨go17, 0, none⟩) x5_1.length co19)) (by (with_reducible repeat (first | apply Kd.R_alloc | apply Kd.R_drewN | apply Kd.R_drew)); exact HO1057.out) (Kd.R_typed HO_5.out) (by decide) hg); have n4_ := Aside0.mk ((by rw [hw]; exact below_set (HB.out) GB17.out : Below w.heap.size w w23)); clear HO_4; clear HO_5; clear BK0; clear HO1057; clear HB; have HO_4 := n0_; have HO_5 := n1_; have BK0 := n2_; have HO1057 := n3_; have HB := n4_; clear n0_ n1_ n2_ n3_ n4_; clear hg hw hp_; have p1064 : 0 ≤ (0 : Int) := (by omega); have q1064 : 0 < (t1055.length : Int) := of_decide_eq_true (by first | (with_reducible assumption) | assumption); obtain ⟨ad1064, e1064, hx1064_0⟩ := Kd.at_int (Kd.R_reads' HO1057.out).2.2 0 p1064 q1064; obtain rfl : ad1061 = ad1064 := (by injection e1064); have qi1064 : (0 < t1055.length) = True := eq_true (by omega); (try rw [show ((0 : Int)).toNat = 0 from rfl] at hx1064_0); (try rw [Addr.add_zero'] at hx1064_0); replace p1064 := eq_true p1064; replace q1064 := eq_true q1064) | ((with_reducible refine gate_builtin (b := .append) (xs := #[.tmp 29, .tmp 35]) rfl ?_); at_builtin; refine Kd.R_append k88 (w0 := w) w.heap.size rfl (.tmp 29) (.tmp 35) 58 88 (.agg #[(.int .i64 0), (.int .i64 0)]) 16 rfl Try.underlying58 info88 rfl (by decide) (by omega) u4 x4_1 (⟨t1062, rd t1055 0⟩ : S88) [.int .i64 t1062, .int .i64 (rd t1055 0)] (fun _ => True) (fun _ => False) rfl rfl ?aP (fun _ hk => hk.elim) ?aF ?aO ?aB ?aS ?aL ?_; (case aP => exact k88_mkM _ _ _ (⟨t1062, rd t1055 0⟩ : S88)); (case aB => exact (by repeat (first | (with_reducible first | exact HB.out | apply below_alloc | apply pw_below_drewN | apply below_drew1 | refine below_set ?_ GE0.out) | exact HB.out))); (case aF => exact (fun _ _ => trivial)); (case aO => exact (by (with_reducible repeat (first | apply Kd.R_alloc | apply Kd.R_drewN | apply Kd.R_drew)); exact HO_4.out)); (case aS => exact (below_size (by repeat (first | (with_reducible first | exact HB.out | apply below_alloc | apply pw_below_drewN | apply below_drew1 | refine below_set ?_ GE0.out) | exact HB.out)))); (case aL => have := LMc18.out; omega); intro v1066 w24 ho hb hg hat; rw [← Ny1065.out] at ho; have n0_ := Aside0.mk (Kd.R_over' (by (with_reducible repeat (first | apply Kd.R_alloc | apply Kd.R_drewN | apply Kd.R_drew)); exact HO_5.out) (Kd.R_typed (by (with_reducible repeat (first | apply Kd.R_alloc | apply Kd.R_drewN | apply Kd.R_drew)); exact HO_4.out)) (by decide) hg); have n1_ := Aside0.mk (blk_grown (g := gb0_) (o := .cells #[.int .i64 a0_0, .slice A0_1 l0_1.length c0_1] 29 (0, 0)) (by (with_reducible repeat (first | refine blk_drewN ?_ _ | refine blk_drew ?_ | refine blk_alloc ?_ _)); exact BK0.out) hg (Kd.R_ne HO_4.out BK0.out (by decide))); have n2_ := Aside0.mk (Kd.R_over' (by (with_reducible repeat (first | apply Kd.R_alloc | apply Kd.R_drewN | apply Kd.R_drew)); exact HO1057.out) (Kd.R_typed (by (with_reducible repeat (first | apply Kd.R_alloc | apply Kd.R_drewN | apply Kd.R_drew)); exact HO_4.out)) (by decide) hg); have n3_ := Aside0.mk (hb); have n4_ := Aside0.mk (ho); clear HO_5; clear BK0; clear HO1057; clear HB; clear HO_4; have HO_5 := n0_; have BK0 := n1_; have HO1057 := n2_; have HB := n3_; have HO1067 := n4_; clear n0_ n1_ n2_ n3_ n4_; clear ho hb hg hat))
         go_roundg k1
         case measure => have := HK1.out; omega
         case rel => exact ⟨(y1065), (y1063), H', ⟨by have := HK1.out; omega⟩, ⟨by (with_reducible repeat (first | apply Kd.R_alloc | apply Kd.R_drewN | apply Kd.R_drew)); exact HO1067.out⟩, ⟨by (with_reducible repeat (first | apply Kd.R_alloc | apply Kd.R_drewN | apply Kd.R_drew)); exact HO_5.out⟩, ⟨by (with_reducible repeat (first | refine blk_drewN ?_ _ | refine blk_drew ?_ | refine blk_alloc ?_ _)); exact BK0.out⟩, ⟨by repeat (first | (with_reducible first | exact HB.out | apply below_alloc | apply pw_below_drewN | apply below_drew1 | refine below_set ?_ GE0.out) | exact HB.out)⟩⟩
        ·rw [if_neg c18] at H
         exact absurd H (by simp)
       ·rw [if_neg c16] at H
        exact absurd H (by simp)
      ·rw [if_neg c15] at H
       exact absurd H (by simp)
     ·rw [if_neg c13] at H
      exact absurd H (by simp)
end Go.Proofs.Ytlcedciocmjggaa.X
