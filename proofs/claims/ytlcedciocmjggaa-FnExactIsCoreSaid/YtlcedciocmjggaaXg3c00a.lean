/- Written by a program of this session: what functions of the given program compute, and that their calls do so. -/
import Derived.Test.YtlcedciocmjggaaXx0
import Derived.Test.YtlcedciocmjggaaXg3e00a
import Derived.Test.YtlcedciocmjggaaXg3e01a
import Derived.Test.YtlcedciocmjggaaXg3e04a
import Derived.Test.YtlcedciocmjggaaXg3e05a
import Derived.Test.YtlcedciocmjggaaXg3e0ea
namespace Go.Proofs.Ytlcedciocmjggaa.X
open Go.RowKit Go.Proofs.YtlcedciocmjggaaW.PrintWords Go.Proofs.YtlcedciocmjggaaW.PrintLast Go.Proofs.YtlcedciocmjggaaW.PrintMore
attribute [local go_sem] max2_int min2_int max_two min_two max_three min_three max_four min_four   -- for this text's walks alone
set_option linter.unusedVariables false
set_option linter.unusedSimpArgs false
/-! ### spec_pePeel: function 107 -/
mutual
def spec_pePeel.l0 : Nat → List Int → Bool → List (S88) → List Int → Int → Int → List (List Int) → Option ((List (S88)) × List Int)
  | 0, _, _, _, _, _, _, _ => none
  | k + 1, x1, x2, x8, x9, x10, x915000, x915001 => if x2 = true then (spec_pePeel.j1 k x1 x2 x8 x9 x10 true x915000 x915001) else (spec_pePeel.j1 k x1 x2 x8 x9 x10 (decide (x10 < (x1.length : Int))) x915000 x915001)
def spec_pePeel.j1 : Nat → List Int → Bool → List (S88) → List Int → Int → Bool → Int → List (List Int) → Option ((List (S88)) × List Int)
  | 0, _, _, _, _, _, _, _, _ => none
  | k + 1, x1, x2, x8, x9, x10, x22, x915000, x915001 => if x22 = true then ((spec_peFree.f k x915000 x915001 x9).bind fun t918 => (if (t918.length : Int) = 0 then (some (x8, x9)) else (if x10 < (x1.length : Int) then (if 0 ≤ x10 then (if 0 ≤ (Int.tmod (rd x1 x10) (t918.length : Int)) then (if (Int.tmod (rd x1 x10) (t918.length : Int)) < (t918.length : Int) then ((spec_peWith.f k x915000 x915001 x9 (rd t918 (Int.tmod (rd x1 x10) (t918.length : Int)))).bind fun t923 => (if x8.length < 8796093022208 then ((spec_l1Drop.f k x9 t923).bind fun t929 => (spec_pePeel.l0 k x1 x2 (x8 ++ [(⟨t923, rd t918 (Int.tmod (rd x1 x10) (t918.length : Int))⟩ : S88)]) t929 (wrap64 (x10 + 1)) x915000 x915001)) else (none))) else (none)) else (none)) else (none)) else (if 0 < (t918.length : Int) then ((spec_peWith.f k x915000 x915001 x9 (rd t918 0)).bind fun t933 => (if x8.length < 8796093022208 then ((spec_l1Drop.f k x9 t933).bind fun t939 => (spec_pePeel.l0 k x1 x2 (x8 ++ [(⟨t933, rd t918 0⟩ : S88)]) t939 (wrap64 (x10 + 1)) x915000 x915001)) else (none))) else (none))))) else (some (x8, x9))
end
def spec_pePeel.f (k : Nat) (a0_0 : Int) (l0_1 : List (List Int)) (l1 : List Int) (a2 : Bool) : Option ((List (S88)) × List Int) := (spec_peAll.f k a0_0 l0_1).bind fun t915 => (spec_pePeel.l0 k l1 a2 ([] : List (S88)) t915 0 a0_0 l0_1)
theorem spec_pePeel.mono_l : ∀ k, (∀ y0 y1 y2 y3 y4 y5 y6, LeO (spec_pePeel.l0 k y0 y1 y2 y3 y4 y5 y6) (spec_pePeel.l0 (k + 1) y0 y1 y2 y3 y4 y5 y6)) ∧ (∀ y0 y1 y2 y3 y4 y5 y6 y7, LeO (spec_pePeel.j1 k y0 y1 y2 y3 y4 y5 y6 y7) (spec_pePeel.j1 (k + 1) y0 y1 y2 y3 y4 y5 y6 y7))
  | 0 => ⟨fun _ _ _ _ _ _ _ r h => by simp [spec_pePeel.l0] at h, fun _ _ _ _ _ _ _ _ r h => by simp [spec_pePeel.j1] at h⟩
  | k + 1 => by
    obtain ⟨ih0, ih1⟩ := spec_pePeel.mono_l k
    refine ⟨?_, ?_⟩
    · intro y0 y1 y2 y3 y4 y5 y6
      unfold spec_pePeel.l0
      repeat' first
      | (with_reducible exact ih0 _ _ _ _ _ _ _)
      | (with_reducible exact ih1 _ _ _ _ _ _ _ _)
      | (with_reducible exact spec_l1Drop.mono _ _ _)
      | (with_reducible exact spec_peAll.mono _ _ _)
      | (with_reducible exact spec_peFree.mono _ _ _ _)
      | (with_reducible exact spec_peWith.mono _ _ _ _ _)
      | (with_reducible exact LeO.refl _)
      | (with_reducible exact LeO.none _)
      | (with_reducible refine LeO.ite ?_ ?_)
      | (with_reducible refine LeO.bind ?_ (fun _ => ?_))
      | exact ih0 _ _ _ _ _ _ _
      | exact ih1 _ _ _ _ _ _ _ _
      | exact spec_l1Drop.mono _ _ _
      | exact spec_peAll.mono _ _ _
      | exact spec_peFree.mono _ _ _ _
      | exact spec_peWith.mono _ _ _ _ _
      | exact LeO.none _
      | refine LeO.ite ?_ ?_
      | refine LeO.bind ?_ (fun _ => ?_)
    · intro y0 y1 y2 y3 y4 y5 y6 y7
      unfold spec_pePeel.j1
      repeat' first
      | (with_reducible exact ih0 _ _ _ _ _ _ _)
      | (with_reducible exact ih1 _ _ _ _ _ _ _ _)
      | (with_reducible exact spec_l1Drop.mono _ _ _)
      | (with_reducible exact spec_peAll.mono _ _ _)
      | (with_reducible exact spec_peFree.mono _ _ _ _)
      | (with_reducible exact spec_peWith.mono _ _ _ _ _)
      | (with_reducible exact LeO.refl _)
      | (with_reducible exact LeO.none _)
      | (with_reducible refine LeO.ite ?_ ?_)
      | (with_reducible refine LeO.bind ?_ (fun _ => ?_))
      | exact ih0 _ _ _ _ _ _ _
      | exact ih1 _ _ _ _ _ _ _ _
      | exact spec_l1Drop.mono _ _ _
      | exact spec_peAll.mono _ _ _
      | exact spec_peFree.mono _ _ _ _
      | exact spec_peWith.mono _ _ _ _ _
      | exact LeO.none _
      | refine LeO.ite ?_ ?_
      | refine LeO.bind ?_ (fun _ => ?_)
theorem spec_pePeel.mono : ∀ a0 a1 a2 a3 k, LeO (spec_pePeel.f k a0 a1 a2 a3) (spec_pePeel.f (k + 1) a0 a1 a2 a3) := by
  intro a0 a1 a2 a3 k
  obtain ⟨ih0, ih1⟩ := spec_pePeel.mono_l k
  unfold spec_pePeel.f
  repeat' first
      | (with_reducible exact ih0 _ _ _ _ _ _ _)
      | (with_reducible exact ih1 _ _ _ _ _ _ _ _)
      | (with_reducible exact spec_l1Drop.mono _ _ _)
      | (with_reducible exact spec_peAll.mono _ _ _)
      | (with_reducible exact spec_peFree.mono _ _ _ _)
      | (with_reducible exact spec_peWith.mono _ _ _ _ _)
      | (with_reducible exact LeO.refl _)
      | (with_reducible exact LeO.none _)
      | (with_reducible refine LeO.ite ?_ ?_)
      | (with_reducible refine LeO.bind ?_ (fun _ => ?_))
      | exact ih0 _ _ _ _ _ _ _
      | exact ih1 _ _ _ _ _ _ _ _
      | exact spec_l1Drop.mono _ _ _
      | exact spec_peAll.mono _ _ _
      | exact spec_peFree.mono _ _ _ _
      | exact spec_peWith.mono _ _ _ _ _
      | exact LeO.none _
      | refine LeO.ite ?_ ?_
      | refine LeO.bind ?_ (fun _ => ?_)
noncomputable def spec_pePeel.L0 (y0 : List Int) (y1 : Bool) (y2 : List (S88)) (y3 : List Int) (y4 : Int) (y5 : Int) (y6 : List (List Int)) : Option ((List (S88)) × List Int) := lim fun k => spec_pePeel.l0 k y0 y1 y2 y3 y4 y5 y6
theorem spec_pePeel.L0_sup (y0 : List Int) (y1 : Bool) (y2 : List (S88)) (y3 : List Int) (y4 : Int) (y5 : Int) (y6 : List (List Int)) : Sup (fun k => spec_pePeel.l0 k y0 y1 y2 y3 y4 y5 y6) (spec_pePeel.L0 y0 y1 y2 y3 y4 y5 y6) := Sup.of_mono fun k => (spec_pePeel.mono_l k).1 y0 y1 y2 y3 y4 y5 y6
noncomputable def spec_pePeel.J1 (y0 : List Int) (y1 : Bool) (y2 : List (S88)) (y3 : List Int) (y4 : Int) (y5 : Bool) (y6 : Int) (y7 : List (List Int)) : Option ((List (S88)) × List Int) := lim fun k => spec_pePeel.j1 k y0 y1 y2 y3 y4 y5 y6 y7
theorem spec_pePeel.J1_sup (y0 : List Int) (y1 : Bool) (y2 : List (S88)) (y3 : List Int) (y4 : Int) (y5 : Bool) (y6 : Int) (y7 : List (List Int)) : Sup (fun k => spec_pePeel.j1 k y0 y1 y2 y3 y4 y5 y6 y7) (spec_pePeel.J1 y0 y1 y2 y3 y4 y5 y6 y7) := Sup.of_mono fun k => (spec_pePeel.mono_l k).2 y0 y1 y2 y3 y4 y5 y6 y7
noncomputable def spec_pePeel.F (a0_0 : Int) (l0_1 : List (List Int)) (l1 : List Int) (a2 : Bool) : Option ((List (S88)) × List Int) := lim fun k => spec_pePeel.f k a0_0 l0_1 l1 a2
theorem spec_pePeel.F_sup (a0_0 : Int) (l0_1 : List (List Int)) (l1 : List Int) (a2 : Bool) : Sup (fun k => spec_pePeel.f k a0_0 l0_1 l1 a2) (spec_pePeel.F a0_0 l0_1 l1 a2) := Sup.of_mono fun k => spec_pePeel.mono a0_0 l0_1 l1 a2 k
theorem spec_pePeel.L0_eq (x1 : List Int) (x2 : Bool) (x8 : List (S88)) (x9 : List Int) (x10 : Int) (x915000 : Int) (x915001 : List (List Int)) : spec_pePeel.L0 x1 x2 x8 x9 x10 x915000 x915001 = if x2 = true then (spec_pePeel.J1 x1 x2 x8 x9 x10 true x915000 x915001) else (spec_pePeel.J1 x1 x2 x8 x9 x10 (decide (x10 < (x1.length : Int))) x915000 x915001) := by
  refine Sup.unique (spec_pePeel.L0_sup x1 x2 x8 x9 x10 x915000 x915001) (Sup.shift (fun k => (spec_pePeel.mono_l k).1 x1 x2 x8 x9 x10 x915000 x915001) (Sup.congr (g' := fun k => if x2 = true then (spec_pePeel.j1 k x1 x2 x8 x9 x10 true x915000 x915001) else (spec_pePeel.j1 k x1 x2 x8 x9 x10 (decide (x10 < (x1.length : Int))) x915000 x915001)) (fun k => by first | rfl | simp only [spec_pePeel.l0]) ?_))
  repeat' first
    | (with_reducible exact spec_pePeel.L0_sup _ _ _ _ _ _ _)
    | (with_reducible exact spec_pePeel.J1_sup _ _ _ _ _ _ _ _)
    | (with_reducible exact spec_peAll.F_sup _ _)
    | (with_reducible exact spec_peFree.F_sup _ _ _)
    | (with_reducible exact spec_peWith.F_sup _ _ _ _)
    | (with_reducible exact spec_l1Drop.F_sup _ _)
    | (with_reducible refine Sup.ite ?_ ?_)
    | (with_reducible refine Sup.bind ?_ (fun _ => ?_))
    | (with_reducible exact Sup.const _)
    | exact spec_pePeel.L0_sup _ _ _ _ _ _ _
    | exact spec_pePeel.J1_sup _ _ _ _ _ _ _ _
    | exact spec_peAll.F_sup _ _
    | exact spec_peFree.F_sup _ _ _
    | exact spec_peWith.F_sup _ _ _ _
    | exact spec_l1Drop.F_sup _ _
    | exact Sup.const _
theorem spec_pePeel.J1_eq (x1 : List Int) (x2 : Bool) (x8 : List (S88)) (x9 : List Int) (x10 : Int) (x22 : Bool) (x915000 : Int) (x915001 : List (List Int)) : spec_pePeel.J1 x1 x2 x8 x9 x10 x22 x915000 x915001 = if x22 = true then ((spec_peFree.F x915000 x915001 x9).bind fun t918 => (if (t918.length : Int) = 0 then (some (x8, x9)) else (if x10 < (x1.length : Int) then (if 0 ≤ x10 then (if 0 ≤ (Int.tmod (rd x1 x10) (t918.length : Int)) then (if (Int.tmod (rd x1 x10) (t918.length : Int)) < (t918.length : Int) then ((spec_peWith.F x915000 x915001 x9 (rd t918 (Int.tmod (rd x1 x10) (t918.length : Int)))).bind fun t923 => (if x8.length < 8796093022208 then ((spec_l1Drop.F x9 t923).bind fun t929 => (spec_pePeel.L0 x1 x2 (x8 ++ [(⟨t923, rd t918 (Int.tmod (rd x1 x10) (t918.length : Int))⟩ : S88)]) t929 (wrap64 (x10 + 1)) x915000 x915001)) else (none))) else (none)) else (none)) else (none)) else (if 0 < (t918.length : Int) then ((spec_peWith.F x915000 x915001 x9 (rd t918 0)).bind fun t933 => (if x8.length < 8796093022208 then ((spec_l1Drop.F x9 t933).bind fun t939 => (spec_pePeel.L0 x1 x2 (x8 ++ [(⟨t933, rd t918 0⟩ : S88)]) t939 (wrap64 (x10 + 1)) x915000 x915001)) else (none))) else (none))))) else (some (x8, x9)) := by
  refine Sup.unique (spec_pePeel.J1_sup x1 x2 x8 x9 x10 x22 x915000 x915001) (Sup.shift (fun k => (spec_pePeel.mono_l k).2 x1 x2 x8 x9 x10 x22 x915000 x915001) (Sup.congr (g' := fun k => if x22 = true then ((spec_peFree.f k x915000 x915001 x9).bind fun t918 => (if (t918.length : Int) = 0 then (some (x8, x9)) else (if x10 < (x1.length : Int) then (if 0 ≤ x10 then (if 0 ≤ (Int.tmod (rd x1 x10) (t918.length : Int)) then (if (Int.tmod (rd x1 x10) (t918.length : Int)) < (t918.length : Int) then ((spec_peWith.f k x915000 x915001 x9 (rd t918 (Int.tmod (rd x1 x10) (t918.length : Int)))).bind fun t923 => (if x8.length < 8796093022208 then ((spec_l1Drop.f k x9 t923).bind fun t929 => (spec_pePeel.l0 k x1 x2 (x8 ++ [(⟨t923, rd t918 (Int.tmod (rd x1 x10) (t918.length : Int))⟩ : S88)]) t929 (wrap64 (x10 + 1)) x915000 x915001)) else (none))) else (none)) else (none)) else (none)) else (if 0 < (t918.length : Int) then ((spec_peWith.f k x915000 x915001 x9 (rd t918 0)).bind fun t933 => (if x8.length < 8796093022208 then ((spec_l1Drop.f k x9 t933).bind fun t939 => (spec_pePeel.l0 k x1 x2 (x8 ++ [(⟨t933, rd t918 0⟩ : S88)]) t939 (wrap64 (x10 + 1)) x915000 x915001)) else (none))) else (none))))) else (some (x8, x9))) (fun k => by first | rfl | simp only [spec_pePeel.j1]) ?_))
  repeat' first
    | (with_reducible exact spec_pePeel.L0_sup _ _ _ _ _ _ _)
    | (with_reducible exact spec_pePeel.J1_sup _ _ _ _ _ _ _ _)
    | (with_reducible exact spec_peAll.F_sup _ _)
    | (with_reducible exact spec_peFree.F_sup _ _ _)
    | (with_reducible exact spec_peWith.F_sup _ _ _ _)
    | (with_reducible exact spec_l1Drop.F_sup _ _)
    | (with_reducible refine Sup.ite ?_ ?_)
    | (with_reducible refine Sup.bind ?_ (fun _ => ?_))
    | (with_reducible exact Sup.const _)
    | exact spec_pePeel.L0_sup _ _ _ _ _ _ _
    | exact spec_pePeel.J1_sup _ _ _ _ _ _ _ _
    | exact spec_peAll.F_sup _ _
    | exact spec_peFree.F_sup _ _ _
    | exact spec_peWith.F_sup _ _ _ _
    | exact spec_l1Drop.F_sup _ _
    | exact Sup.const _
theorem spec_pePeel.F_eq (a0_0 : Int) (l0_1 : List (List Int)) (l1 : List Int) (a2 : Bool) : spec_pePeel.F a0_0 l0_1 l1 a2 = (spec_peAll.F a0_0 l0_1).bind fun t915 => (spec_pePeel.L0 l1 a2 ([] : List (S88)) t915 0 a0_0 l0_1) := by
  refine Sup.unique (spec_pePeel.F_sup a0_0 l0_1 l1 a2) (Sup.congr (g' := fun k => (spec_peAll.f k a0_0 l0_1).bind fun t915 => (spec_pePeel.l0 k l1 a2 ([] : List (S88)) t915 0 a0_0 l0_1)) (fun k => by first | rfl | simp only [spec_pePeel.f]) ?_)
  repeat' first
    | (with_reducible exact spec_pePeel.L0_sup _ _ _ _ _ _ _)
    | (with_reducible exact spec_pePeel.J1_sup _ _ _ _ _ _ _ _)
    | (with_reducible exact spec_peAll.F_sup _ _)
    | (with_reducible exact spec_peFree.F_sup _ _ _)
    | (with_reducible exact spec_peWith.F_sup _ _ _ _)
    | (with_reducible exact spec_l1Drop.F_sup _ _)
    | (with_reducible refine Sup.ite ?_ ?_)
    | (with_reducible refine Sup.bind ?_ (fun _ => ?_))
    | (with_reducible exact Sup.const _)
    | exact spec_pePeel.L0_sup _ _ _ _ _ _ _
    | exact spec_pePeel.J1_sup _ _ _ _ _ _ _ _
    | exact spec_peAll.F_sup _ _
    | exact spec_peFree.F_sup _ _ _
    | exact spec_peWith.F_sup _ _ _ _
    | exact spec_l1Drop.F_sup _ _
    | exact Sup.const _
def spec_pePeel.T11 : Bool × List (List Nat × List Nat) := (true, [([], []), ([], []), ([], []), ([], []), ([2, 3], [2, 3]), ([4], [4]), ([0, 1, 5], [0, 1, 5]), ([], []), ([], []), ([7, 8], [7, 8]), ([9], [9]), ([6, 10], [6, 10]), ([], []), ([12, 11, 6, 0, 1, 2, 3, 4, 5, 6, 7, 8, 9, 10, 11, 12], [11, 12])])
def spec_pePeel.B11 : List Nat := [0, 0, 0, 0, 12, 28, 63, 0, 0, 384, 896, 2047, 0, 8191]
theorem spec_pePeel.tab11 : rtab .any (opsOf Try.f107 11) = spec_pePeel.T11 := by kernel_rfl
theorem spec_pePeel.bits11 : waitsOk spec_pePeel.T11.2 spec_pePeel.B11 = true := by kernel_rfl
set_option maxHeartbeats 8000000 in
set_option maxRecDepth 100000 in
theorem spec_pePeel.calls (k : Nat) (a0_0 : Int) (A0_1 : Option Addr) (c0_1 : Nat) (l0_1 : List (List Int)) (A1 : Option Addr) (c1 : Nat) (l1 : List Int) (a2 : Bool) (r1 : List (S88)) (r2 : List Int) (w : World) (hr0_1 : Kd.C (Kd.slice 3 (Kd.int .i64)) w A0_1 l0_1.length l0_1) (hc0_1 : l0_1.length ≤ c0_1) (hr1 : Kd.C (Kd.int .i64) w A1 l1.length l1) (hc1 : l1.length ≤ c1) (h : spec_pePeel.f k a0_0 l0_1 l1 a2 = some (r1, r2)) :
    Calls Try.prog 107 #[.agg #[.int .i64 a0_0, .slice A0_1 l0_1.length c0_1], .slice A1 l1.length c1, .bool a2] w fun e w' => ∃ v0_ v1_ : Value, e = .returned (.tuple #[v0_, v1_]) ∧ Kd.R k88 88 w' w.heap.size (fun _ => True) v0_ r1 ∧ Kd.R (Kd.int .i64) 3 w' w.heap.size (fun _ => True) v1_ r2 ∧ Below w.heap.size w w' := by
  have hu29 := Try.underlying29
  have hu88 := Try.underlying88
  have HR0_1 := Aside0.mk hr0_1
  have HC0_1 := Aside0.mk hc0_1
  clear hr0_1 hc0_1
  have HR1 := Aside0.mk hr1
  have HC1 := Aside0.mk hc1
  clear hr1 hc1
  have HB := Aside0.mk (Below.refl w.heap.size w)
  have H : ((spec_peAll.f k a0_0 l0_1).bind fun t915 => (spec_pePeel.l0 k l1 a2 ([] : List (S88)) t915 0 a0_0 l0_1)) = some (r1, r2) := h
  clear h
  replace H := Option.bind_eq_some_iff.mp H
  obtain ⟨t915, A40, H⟩ := H
  replace H : (spec_pePeel.l0 k l1 a2 ([] : List (S88)) t915 0 a0_0 l0_1) = some (r1, r2) := H
  have A4 := Aside0.mk A40
  clear A40
  have H' := Aside0.mk H
  clear H
  go_enter Try.func107, Try.ntmps107
  go_wp2_with (first | ((with_reducible refine gate_dst (N := 3) rfl ?_); (try (refine gate_guard (by rfl) ?_; dsimp only)); refine box_event ?hg (N := 3) ?hd (cs := #[.int .i64 a0_0, .slice A0_1 l0_1.length c0_1]) (t := 29) ?hr ?_; (case hd => rfl); (case hg => rfl); (case hr => first | (go_simp; done) | (go_simp; rfl)); intro gb914 hg w5 hbox hb; have n0_ := Aside0.mk (below_step (by repeat (first | (with_reducible first | exact HB.out | apply below_alloc | apply pw_below_drewN | apply below_drew1) | exact HB.out)) hb); have n1_ := Aside0.mk (hbox); have n2_ := Aside0.mk ((by rw [hg]; exact (below_size (by repeat (first | (with_reducible first | exact HB.out | apply below_alloc | apply pw_below_drewN | apply below_drew1) | exact HB.out))) : w.heap.size ≤ gb914)); have n3_ := Aside0.mk ((by rw [hg]; exact (below_size (by repeat (first | (with_reducible first | exact HB.out | apply below_alloc | apply pw_below_drewN | apply below_drew1) | exact HB.out))) : w.heap.size ≤ gb914)); clear HB; have HB := n0_; have BK914 := n1_; have GW914 := n2_; have GE914 := n3_; clear n0_ n1_ n2_ n3_; clear hb hbox hg; have hcz6_0 : w5.cell? ⟨gb914, 0, none⟩ = some (.int .i64 a0_0) := (blk_cell BK914.out 0).trans rfl; have hcz6_1 : w5.cell? ⟨gb914, 1, none⟩ = some (.slice A0_1 l0_1.length c0_1) := (blk_cell BK914.out 1).trans rfl; have hfz6_0 := blk_frozen BK914.out 0; have hfz6_1 := blk_frozen BK914.out 1) | ((with_reducible refine gate_callee (f := 69) rfl ?_); refine goesL_ (some 15) rfl rfl Try.func69 (by kernel_rfl) rfl #[.agg #[.int .i64 a0_0, .slice A0_1 l0_1.length c0_1]] rfl (by (try simp only [List.map_toArray, List.map_cons, List.map_nil]); first | done | rfl | (simp only [List.length_drop, List.length_take]; rfl)) ?_; (with_reducible refine (spec_peAll.calls k a0_0 _ _ l0_1 t915 _ ?side1 ?side2 A4.out).mono ?_); (case side1 => repeat (first | exact (Kd.C_below HR0_1.out HB.out) | (with_reducible refine Kd.C_alloc ?_ _) | (with_reducible refine Kd.C_drewN ?_ _) | (with_reducible refine Kd.C_drew ?_))); (case side2 => exact HC0_1.out); rintro e w7 ⟨v916, rfl, ho0, hb⟩; refine ⟨_, rfl, ?_⟩; have n0_ := Aside0.mk (Kd.R_lower ho0 (below_size (by repeat (first | (with_reducible first | exact HB.out | apply below_alloc | apply pw_below_drewN | apply below_drew1 | refine below_set ?_ GE914.out) | exact HB.out)))); have n1_ := Aside0.mk (blk_below (g := gb914) (o := .cells #[.int .i64 a0_0, .slice A0_1 l0_1.length c0_1] 29 (0, 0)) (by (with_reducible repeat (first | refine blk_drewN ?_ _ | refine blk_drew ?_ | refine blk_alloc ?_ _)); exact BK914.out) hb); have n2_ := Aside0.mk (below_step (by repeat (first | (with_reducible first | exact HB.out | apply below_alloc | apply pw_below_drewN | apply below_drew1 | refine below_set ?_ GE914.out) | exact HB.out)) hb); clear BK914; clear HB; have HO917 := n0_; have BK914 := n1_; have HB := n2_; clear n0_ n1_ n2_; (try clear hb); (try clear hb2); (try clear hk); (try clear hi); (try clear ho0)))
  go_loopg [8, 9, 10] k (fun kq v8 v9 v10 w' => ∃ (x8_1 : List (S88)) (x9_1 : List Int) (x10_1 : Int), v10 = .int .i64 x10_1 ∧ Aside0 (spec_pePeel.l0 kq l1 a2 x8_1 x9_1 x10_1 a0_0 l0_1 = some (r1, r2)) ∧ Aside0 (kq ≤ k) ∧ Aside0 (Kd.R k88 88 w' w.heap.size (fun _ => True) v8 x8_1) ∧ Aside0 (Kd.R (Kd.int .i64) 3 w' w.heap.size (fun _ => True) v9 x9_1) ∧ Aside0 (w'.heap[gb914]? = some (.cells #[.int .i64 a0_0, (.slice A0_1 l0_1.length c0_1)] 29 (0, 0))) ∧ Aside0 (Below w.heap.size w w'))
  case atStart => exact ⟨(([] : List (S88))), (t915), (0), (by first | rfl | (simp; done) | (simp [*]; done)), H', ⟨Nat.le_refl _⟩, ⟨by first | exact Kd.R_nil _ _ _ _ _ | exact Kd.N_nil _ _ _ _ _ | exact Kd.V_nil _ _ _ _ _ | exact Kd.Q_nil _ _ _ _ _ | exact Kd.S_nil _ _ _ _ _⟩, ⟨by (with_reducible repeat (first | apply Kd.R_alloc | apply Kd.R_drewN | apply Kd.R_drew)); exact HO917.out⟩, ⟨by (with_reducible repeat (first | refine blk_drewN ?_ _ | refine blk_drew ?_ | refine blk_alloc ?_ _)); exact BK914.out⟩, ⟨by repeat (first | (with_reducible first | exact HB.out | apply below_alloc | apply pw_below_drewN | apply below_drew1 | refine below_set ?_ GE914.out) | exact HB.out)⟩⟩
  case round =>
   clear H'
   try clear c1
   try clear p2
   try clear c6
   try clear hcz6_0
   try clear hcz6_1
   try clear hfz6_0
   try clear hfz6_1
   obtain ⟨x8_1, x9_1, x10_1, rfl, HA, HK1, HO_8, HO_9, BK914, HB⟩ := hrel
   cases gk with
   | zero => exact absurd HA.out (by simp [spec_pePeel.l0])
   | succ k1 =>
    have H := HA.out
    clear HA
    simp only [spec_pePeel.l0] at H
    have HC8 := Aside0.mk H
    clear H
    go_upto_region 4 with (fail)
    go_cut [22] (fun v22 wc => ∃ (kq : Nat) (x22_7 : Bool), v22 = .bool x22_7 ∧ Aside0 (spec_pePeel.j1 kq l1 a2 x8_1 x9_1 x10_1 x22_7 a0_0 l0_1 = some (r1, r2)) ∧ Aside0 (kq ≤ k1) ∧ Aside0 (Kd.R k88 88 wc w.heap.size (fun _ => True) u8 x8_1) ∧ Aside0 (Kd.R (Kd.int .i64) 3 wc w.heap.size (fun _ => True) u9 x9_1) ∧ Aside0 (wc.heap[gb914]? = some (.cells #[.int .i64 a0_0, (.slice A0_1 l0_1.length c0_1)] 29 (0, 0))) ∧ Aside0 (Below w.heap.size w wc))
    case first =>
     have H := HC8.out
     clear HC8
     by_cases c9 : a2 = true
     ·subst c9
      have H1 : (spec_pePeel.j1 k1 l1 true x8_1 x9_1 x10_1 true a0_0 l0_1) = some (r1, r2) := by rw [if_pos rfl] at H; exact H
      clear H
      have H := H1
      clear H1
      have H' := Aside0.mk H
      clear H
      go_wp2
      go_meet
      case rel => exact ⟨_, (true), (by first | rfl | (simp; done) | (simp [*]; done)), H', ⟨by have := HK1.out; first | omega | exact Nat.le_refl _⟩, ⟨by (with_reducible repeat (first | apply Kd.R_alloc | apply Kd.R_drewN | apply Kd.R_drew)); exact HO_8.out⟩, ⟨by (with_reducible repeat (first | apply Kd.R_alloc | apply Kd.R_drewN | apply Kd.R_drew)); exact HO_9.out⟩, ⟨by (with_reducible repeat (first | refine blk_drewN ?_ _ | refine blk_drew ?_ | refine blk_alloc ?_ _)); exact BK914.out⟩, ⟨by repeat (first | (with_reducible first | exact HB.out | apply below_alloc | apply pw_below_drewN | apply below_drew1 | refine below_set ?_ GE914.out) | exact HB.out)⟩⟩
     ·replace c9 := Bool.eq_false_iff.mpr c9
      subst c9
      have H1 : (spec_pePeel.j1 k1 l1 false x8_1 x9_1 x10_1 (decide (x10_1 < (l1.length : Int))) a0_0 l0_1) = some (r1, r2) := by rw [if_neg (show ¬ (false = true) by decide)] at H; exact H
      clear H
      have H := H1
      clear H1
      have H' := Aside0.mk H
      clear H
      go_wp2
      go_meet
      case rel => exact ⟨_, (decide (x10_1 < (l1.length : Int))), (by first | rfl | (simp; done) | (simp [*]; done)), H', ⟨by have := HK1.out; first | omega | exact Nat.le_refl _⟩, ⟨by (with_reducible repeat (first | apply Kd.R_alloc | apply Kd.R_drewN | apply Kd.R_drew)); exact HO_8.out⟩, ⟨by (with_reducible repeat (first | apply Kd.R_alloc | apply Kd.R_drewN | apply Kd.R_drew)); exact HO_9.out⟩, ⟨by (with_reducible repeat (first | refine blk_drewN ?_ _ | refine blk_drew ?_ | refine blk_alloc ?_ _)); exact BK914.out⟩, ⟨by repeat (first | (with_reducible first | exact HB.out | apply below_alloc | apply pw_below_drewN | apply below_drew1 | refine below_set ?_ GE914.out) | exact HB.out)⟩⟩
    case rest =>
     clear HC8
     try clear c1
     try clear p2
     try clear c6
     try clear c9
     try clear hcz6_0
     try clear hcz6_1
     try clear hfz6_0
     try clear hfz6_1
     try clear p2
     obtain ⟨kq, x22_7, rfl, HA, HJ7, HO_8, HO_9, BK914, HB⟩ := hcut
     cases kq with
     | zero => exact absurd HA.out (by simp [spec_pePeel.j1])
     | succ kj7 =>
      have H := HA.out
      clear HA
      simp only [spec_pePeel.j1] at H
      by_cases c10 : x22_7 = true
      ·subst c10
       have H1 : ((spec_peFree.f kj7 a0_0 l0_1 x9_1).bind fun t918 => (if (t918.length : Int) = 0 then (some (x8_1, x9_1)) else (if x10_1 < (l1.length : Int) then (if 0 ≤ x10_1 then (if 0 ≤ (Int.tmod (rd l1 x10_1) (t918.length : Int)) then (if (Int.tmod (rd l1 x10_1) (t918.length : Int)) < (t918.length : Int) then ((spec_peWith.f kj7 a0_0 l0_1 x9_1 (rd t918 (Int.tmod (rd l1 x10_1) (t918.length : Int)))).bind fun t923 => (if x8_1.length < 8796093022208 then ((spec_l1Drop.f kj7 x9_1 t923).bind fun t929 => (spec_pePeel.l0 kj7 l1 a2 (x8_1 ++ [(⟨t923, rd t918 (Int.tmod (rd l1 x10_1) (t918.length : Int))⟩ : S88)]) t929 (wrap64 (x10_1 + 1)) a0_0 l0_1)) else (none))) else (none)) else (none)) else (none)) else (if 0 < (t918.length : Int) then ((spec_peWith.f kj7 a0_0 l0_1 x9_1 (rd t918 0)).bind fun t933 => (if x8_1.length < 8796093022208 then ((spec_l1Drop.f kj7 x9_1 t933).bind fun t939 => (spec_pePeel.l0 kj7 l1 a2 (x8_1 ++ [(⟨t933, rd t918 0⟩ : S88)]) t939 (wrap64 (x10_1 + 1)) a0_0 l0_1)) else (none))) else (none))))) = some (r1, r2) := by rw [if_pos rfl] at H; exact H
       clear H
       have H := H1
       clear H1
       replace H := Option.bind_eq_some_iff.mp H
       obtain ⟨t918, A110, H⟩ := H
       replace H : (if (t918.length : Int) = 0 then (some (x8_1, x9_1)) else (if x10_1 < (l1.length : Int) then (if 0 ≤ x10_1 then (if 0 ≤ (Int.tmod (rd l1 x10_1) (t918.length : Int)) then (if (Int.tmod (rd l1 x10_1) (t918.length : Int)) < (t918.length : Int) then ((spec_peWith.f kj7 a0_0 l0_1 x9_1 (rd t918 (Int.tmod (rd l1 x10_1) (t918.length : Int)))).bind fun t923 => (if x8_1.length < 8796093022208 then ((spec_l1Drop.f kj7 x9_1 t923).bind fun t929 => (spec_pePeel.l0 kj7 l1 a2 (x8_1 ++ [(⟨t923, rd t918 (Int.tmod (rd l1 x10_1) (t918.length : Int))⟩ : S88)]) t929 (wrap64 (x10_1 + 1)) a0_0 l0_1)) else (none))) else (none)) else (none)) else (none)) else (if 0 < (t918.length : Int) then ((spec_peWith.f kj7 a0_0 l0_1 x9_1 (rd t918 0)).bind fun t933 => (if x8_1.length < 8796093022208 then ((spec_l1Drop.f kj7 x9_1 t933).bind fun t939 => (spec_pePeel.l0 kj7 l1 a2 (x8_1 ++ [(⟨t933, rd t918 0⟩ : S88)]) t939 (wrap64 (x10_1 + 1)) a0_0 l0_1)) else (none))) else (none)))) = some (r1, r2) := H
       have A11 := Aside0.mk A110
       clear A110
       by_cases c12 : (t918.length : Int) = 0
       ·rw [if_pos c12] at H
        have c12b0 : ((t918.length : Int) == 0) = true := beq_iff_eq.mpr c12
        have c12b1 : ((t918.length : Int) != 0) = false := bne_eq_false_iff_eq.mpr c12
        clear c12
        simp only [Option.some.injEq, Prod.mk.injEq] at H
        obtain ⟨rfl, rfl⟩ := H
        have hcz13_0 : wc.cell? ⟨gb914, 0, none⟩ = some (.int .i64 a0_0) := (blk_cell BK914.out 0).trans rfl
        have hcz13_1 : wc.cell? ⟨gb914, 1, none⟩ = some (.slice A0_1 l0_1.length c0_1) := (blk_cell BK914.out 1).trans rfl
        have hfz13_0 := blk_frozen BK914.out 0
        have hfz13_1 := blk_frozen BK914.out 1
        obtain ⟨Ao14, co14, eo14⟩ := Kd.R_slice HO_9.out
        subst eo14
        go_wp2_with (first | ((with_reducible refine gate_callee (f := 79) rfl ?_); refine goesL_ (some 27) rfl rfl Try.func79 (by kernel_rfl) rfl #[.agg #[.int .i64 a0_0, .slice A0_1 l0_1.length c0_1], .slice Ao14 x9_1.length co14] rfl (by (try simp only [List.map_toArray, List.map_cons, List.map_nil]); first | done | rfl | (simp only [List.length_drop, List.length_take]; rfl)) ?_; (with_reducible refine (spec_peFree.calls kj7 a0_0 _ _ l0_1 _ _ x9_1 t918 _ ?side1 ?side2 ?side3 ?side4 A11.out).mono ?_); (case side1 => repeat (first | exact (Kd.C_below HR0_1.out HB.out) | (with_reducible refine Kd.C_alloc ?_ _) | (with_reducible refine Kd.C_drewN ?_ _) | (with_reducible refine Kd.C_drew ?_))); (case side2 => exact HC0_1.out); (case side3 => repeat (first | exact (Kd.R_reads' HO_9.out).2.2 | (with_reducible refine Kd.C_alloc ?_ _) | (with_reducible refine Kd.C_drewN ?_ _) | (with_reducible refine Kd.C_drew ?_))); (case side4 => exact (Kd.R_reads' HO_9.out).2.1); rintro e w15 ⟨v919, rfl, ho0, hb⟩; refine ⟨_, rfl, ?_⟩; have n0_ := Aside0.mk (Kd.R_below (by (with_reducible repeat (first | apply Kd.R_alloc | apply Kd.R_drewN | apply Kd.R_drew)); exact HO_8.out) hb); have n1_ := Aside0.mk (Kd.R_elder' (by (with_reducible repeat (first | apply Kd.R_alloc | apply Kd.R_drewN | apply Kd.R_drew)); exact HO_9.out) (Kd.R_base ho0) hb); have n2_ := Aside0.mk (Kd.R_lower (Kd.R_new' ho0 (Kd.R_lt (by (with_reducible repeat (first | apply Kd.R_alloc | apply Kd.R_drewN | apply Kd.R_drew)); exact HO_9.out))) (below_size (by repeat (first | (with_reducible first | exact HB.out | apply below_alloc | apply pw_below_drewN | apply below_drew1 | refine below_set ?_ GE914.out) | exact HB.out)))); have n3_ := Aside0.mk (blk_below (g := gb914) (o := .cells #[.int .i64 a0_0, .slice A0_1 l0_1.length c0_1] 29 (0, 0)) (by (with_reducible repeat (first | refine blk_drewN ?_ _ | refine blk_drew ?_ | refine blk_alloc ?_ _)); exact BK914.out) hb); have n4_ := Aside0.mk (below_step (by repeat (first | (with_reducible first | exact HB.out | apply below_alloc | apply pw_below_drewN | apply below_drew1 | refine below_set ?_ GE914.out) | exact HB.out)) hb); clear HO_8; clear HO_9; clear BK914; clear HB; have HO_8 := n0_; have HO_9 := n1_; have HO920 := n2_; have BK914 := n3_; have HB := n4_; clear n0_ n1_ n2_ n3_ n4_; (try clear hb); (try clear hb2); (try clear hk); (try clear hi); (try clear ho0); obtain ⟨Ao16, co16, eo16⟩ := Kd.R_slice HO920.out; subst eo16))
        go_ret2
        exact ⟨_, _, by first | rfl | (simp [errW_none, errW_some] <;> rfl) | (simp [*, errW_none, errW_some] <;> rfl), by (with_reducible repeat (first | apply Kd.R_alloc | apply Kd.R_drewN | apply Kd.R_drew)); exact HO_8.out, by (with_reducible repeat (first | apply Kd.R_alloc | apply Kd.R_drewN | apply Kd.R_drew)); exact Kd.R_mono HO_9.out (fun _ hk => trivial), by repeat (first | (with_reducible first | exact HB.out | apply below_alloc | apply pw_below_drewN | apply below_drew1 | refine below_set ?_ GE914.out) | exact HB.out)⟩
       ·rw [if_neg c12] at H
        have c12b0 : ((t918.length : Int) == 0) = false := beq_eq_false_iff_ne.mpr c12
        have c12b1 : ((t918.length : Int) != 0) = true := bne_iff_ne.mpr c12
        have c12b2 : ¬ (t918 = []) := fun h_ => c12 (by rw [h_]; rfl)
        by_cases c17 : x10_1 < (l1.length : Int)
        ·rw [if_pos c17] at H
         have c17b0 : decide (x10_1 < (l1.length : Int)) = true := decide_eq_true c17
         clear c17
         by_cases c18 : 0 ≤ x10_1
         ·rw [if_pos c18] at H
          have c18b0 : decide (0 ≤ x10_1) = true := decide_eq_true c18
          clear c18
          obtain ⟨ji19, hji19⟩ : ∃ j_ : Int, (Int.tmod (rd l1 x10_1) (t918.length : Int)) = j_ := ⟨_, rfl⟩
          replace H : (if 0 ≤ (ji19) then (if (ji19) < (t918.length : Int) then ((spec_peWith.f kj7 a0_0 l0_1 x9_1 (rd t918 (ji19))).bind fun t923 => (if x8_1.length < 8796093022208 then ((spec_l1Drop.f kj7 x9_1 t923).bind fun t929 => (spec_pePeel.l0 kj7 l1 a2 (x8_1 ++ [(⟨t923, rd t918 (ji19)⟩ : S88)]) t929 (wrap64 (x10_1 + 1)) a0_0 l0_1)) else (none))) else (none)) else (none)) = some (r1, r2) := by first | (rw [hji19] at H; exact H) | (simp only [hji19] at H ⊢; exact H)
          (try rw [hji19] at A11)
          by_cases c20 : 0 ≤ (ji19)
          ·rw [if_pos c20] at H
           have c20b0 : decide (0 ≤ (ji19)) = true := decide_eq_true c20
           clear c20
           by_cases c21 : (ji19) < (t918.length : Int)
           ·rw [if_pos c21] at H
            have c21b0 : decide ((ji19) < (t918.length : Int)) = true := decide_eq_true c21
            clear c21
            replace H := Option.bind_eq_some_iff.mp H
            obtain ⟨t923, A220, H⟩ := H
            replace H : (if x8_1.length < 8796093022208 then ((spec_l1Drop.f kj7 x9_1 t923).bind fun t929 => (spec_pePeel.l0 kj7 l1 a2 (x8_1 ++ [(⟨t923, rd t918 (ji19)⟩ : S88)]) t929 (wrap64 (x10_1 + 1)) a0_0 l0_1)) else (none)) = some (r1, r2) := H
            have A22 := Aside0.mk A220
            clear A220
            by_cases c23 : x8_1.length < 8796093022208
            ·rw [if_pos c23] at H
             have LMc23 := Aside0.mk c23
             clear c23
             obtain ⟨y926, hy926⟩ : ∃ y_ : List (S88), y_ = (x8_1 ++ [(⟨t923, rd t918 (ji19)⟩ : S88)]) := ⟨_, rfl⟩
             replace H : ((spec_l1Drop.f kj7 x9_1 t923).bind fun t929 => (spec_pePeel.l0 kj7 l1 a2 y926 t929 (wrap64 (x10_1 + 1)) a0_0 l0_1)) = some (r1, r2) := by first | (rw [hy926]; with_reducible exact H) | (have H2_ := (Option.bind_some _ _).symm.trans H; rw [hy926]; with_reducible exact H2_) | (have H2_ := (Option.bind_some _ _).symm.trans H; with_reducible exact H2_) | with_reducible exact H | (rw [hy926]; exact H) | exact H
             have Ny926 := Aside0.mk hy926
             clear hy926
             replace H := Option.bind_eq_some_iff.mp H
             obtain ⟨t929, A240, H⟩ := H
             replace H : (spec_pePeel.l0 kj7 l1 a2 y926 t929 (wrap64 (x10_1 + 1)) a0_0 l0_1) = some (r1, r2) := H
             have A24 := Aside0.mk A240
             clear A240
             have H' := Aside0.mk H
             clear H
             have hcz25_0 : wc.cell? ⟨gb914, 0, none⟩ = some (.int .i64 a0_0) := (blk_cell BK914.out 0).trans rfl
             have hcz25_1 : wc.cell? ⟨gb914, 1, none⟩ = some (.slice A0_1 l0_1.length c0_1) := (blk_cell BK914.out 1).trans rfl
             have hfz25_0 := blk_frozen BK914.out 0
             have hfz25_1 := blk_frozen BK914.out 1
             obtain ⟨Ao26, co26, eo26⟩ := Kd.R_slice HO_9.out
             subst eo26
             try go_wp2_with (first | ((with_reducible refine gate_callee (f := 79) rfl ?_); refine goesL_ (some 27) rfl rfl Try.func79 (by kernel_rfl) rfl #[.agg #[.int .i64 a0_0, .slice A0_1 l0_1.length c0_1], .slice Ao26 x9_1.length co26] rfl (by (try simp only [List.map_toArray, List.map_cons, List.map_nil]); first | done | rfl | (simp only [List.length_drop, List.length_take]; rfl)) ?_; (with_reducible refine (spec_peFree.calls kj7 a0_0 _ _ l0_1 _ _ x9_1 t918 _ ?side1 ?side2 ?side3 ?side4 A11.out).mono ?_); (case side1 => repeat (first | exact (Kd.C_below HR0_1.out HB.out) | (with_reducible refine Kd.C_alloc ?_ _) | (with_reducible refine Kd.C_drewN ?_ _) | (with_reducible refine Kd.C_drew ?_))); (case side2 => exact HC0_1.out); (case side3 => repeat (first | exact (Kd.R_reads' HO_9.out).2.2 | (with_reducible refine Kd.C_alloc ?_ _) | (with_reducible refine Kd.C_drewN ?_ _) | (with_reducible refine Kd.C_drew ?_))); (case side4 => exact (Kd.R_reads' HO_9.out).2.1); rintro e w27 ⟨v919, rfl, ho0, hb⟩; refine ⟨_, rfl, ?_⟩; have n0_ := Aside0.mk (Kd.R_below (by (with_reducible repeat (first | apply Kd.R_alloc | apply Kd.R_drewN | apply Kd.R_drew)); exact HO_8.out) hb); have n1_ := Aside0.mk (Kd.R_elder' (by (with_reducible repeat (first | apply Kd.R_alloc | apply Kd.R_drewN | apply Kd.R_drew)); exact HO_9.out) (Kd.R_base ho0) hb); have n2_ := Aside0.mk (Kd.R_lower (Kd.R_new' ho0 (Kd.R_lt (by (with_reducible repeat (first | apply Kd.R_alloc | apply Kd.R_drewN | apply Kd.R_drew)); exact HO_9.out))) (below_size (by repeat (first | (with_reducible first | exact HB.out | apply below_alloc | apply pw_below_drewN | apply below_drew1 | refine below_set ?_ GE914.out) | exact HB.out)))); have n3_ := Aside0.mk (blk_below (g := gb914) (o := .cells #[.int .i64 a0_0, .slice A0_1 l0_1.length c0_1] 29 (0, 0)) (by (with_reducible repeat (first | refine blk_drewN ?_ _ | refine blk_drew ?_ | refine blk_alloc ?_ _)); exact BK914.out) hb); have n4_ := Aside0.mk (below_step (by repeat (first | (with_reducible first | exact HB.out | apply below_alloc | apply pw_below_drewN | apply below_drew1 | refine below_set ?_ GE914.out) | exact HB.out)) hb); clear HO_8; clear HO_9; clear BK914; clear HB; have HO_8 := n0_; have HO_9 := n1_; have HO920 := n2_; have BK914 := n3_; have HB := n4_; clear n0_ n1_ n2_ n3_ n4_; (try clear hb); (try clear hb2); (try clear hk); (try clear hi); (try clear ho0); obtain ⟨Ao28, co28, eo28⟩ := Kd.R_slice HO920.out; subst eo28; have p921 : 0 ≤ (x10_1 : Int) := of_decide_eq_true (by first | (with_reducible assumption) | assumption); have q921 : x10_1 < (l1.length : Int) := of_decide_eq_true (by first | (with_reducible assumption) | assumption); obtain ⟨ad921, e921, hx921_0⟩ := Kd.at_int HR1.out x10_1 p921 q921; cases e921; replace hx921_0 := (HB.out.cell (World.block_lt_of_cell? w _ hx921_0)).trans hx921_0; replace p921 := eq_true p921; replace q921 := eq_true q921))
             have n0_ := Aside0.mk (Kd.R_drew HO_8.out)
             have n1_ := Aside0.mk (Kd.R_drew HO_9.out)
             have n2_ := Aside0.mk (Kd.R_drew HO920.out)
             have n3_ := Aside0.mk (blk_drew BK914.out)
             have n4_ := Aside0.mk (below_drew1 HB.out)
             clear HO_8
             clear HO_9
             clear HO920
             clear BK914
             clear HB
             have HO_8 := n0_
             have HO_9 := n1_
             have HO920 := n2_
             have BK914 := n3_
             have HB := n4_
             clear n0_ n1_ n2_ n3_ n4_
             have p922 : 0 ≤ ((ji19) : Int) := of_decide_eq_true (by first | (with_reducible assumption) | assumption)
             have q922 : (ji19) < (t918.length : Int) := of_decide_eq_true (by first | (with_reducible assumption) | assumption)
             obtain ⟨ad922, e922, hx922_0⟩ := Kd.at_int (Kd.R_reads' HO920.out).2.2 (ji19) p922 q922
             cases e922
             replace p922 := eq_true p922
             replace q922 := eq_true q922
             have p924 : 0 ≤ ((ji19) : Int) := of_decide_eq_true (by first | (with_reducible assumption) | assumption)
             have q924 : (ji19) < (t918.length : Int) := of_decide_eq_true (by first | (with_reducible assumption) | assumption)
             obtain ⟨ad924, e924, hx924_0⟩ := Kd.at_int (Kd.R_reads' HO920.out).2.2 (ji19) p924 q924
             obtain rfl : ad922 = ad924 := (by injection e924)
             replace p924 := eq_true p924
             replace q924 := eq_true q924
             refine start_ (n := 14) (S := fun w' => w'.cell? ⟨gb914, 0, none⟩ = some (.int .i64 a0_0) ∧ w'.cell? ⟨gb914, 1, none⟩ = some (.slice A0_1 l0_1.length c0_1) ∧ w'.cell? (ad922.add ((ji19)).toNat) = some (.int .i64 (rd t918 (ji19))) ∧ w'.cell? (ad922.add ((ji19)).toNat) = some (.int .i64 (rd t918 (ji19)))) (ds := []) #[false, false, false, false, false, false, false, false, false, false, false, false, false, false] (by kernel_rfl) rfl rfl ⟨(blk_cell BK914.out 0).trans rfl, (blk_cell BK914.out 1).trans rfl, hx922_0, hx924_0⟩ (fun hHeld => ?_); refine with_tabW spec_pePeel.tab11 spec_pePeel.bits11 (fun HT_ HW_ => ?_)
             generalize w27.drew = w29 at HO_8 HO_9 HO920 BK914 HB hx922_0 hx924_0 hHeld ⊢
             refine pq_ 1 43 14 2 HT_.out (by kernel_rfl) ?_
             refine pq_ 2 44 14 6 HT_.out (by kernel_rfl) ?_
             refine pq_ 3 45 14 14 HT_.out (by kernel_rfl) ?_
             refine pq_ 4 46 14 30 HT_.out (by kernel_rfl) ?_
             refine pq_ 7 49 14 158 HT_.out (by kernel_rfl) ?_
             refine pq_ 8 50 14 414 HT_.out (by kernel_rfl) ?_
             refine pq_ 9 51 14 926 HT_.out (by kernel_rfl) ?_
             refine tq_ 0 42 14 927 HT_.out HW_.out (by kernel_rfl) hHeld ?_ rfl (by rintro w' ⟨s0, s1, s2, s3⟩; go_simp; with_reducible rfl)
             refine tq_ 5 47 14 959 HT_.out HW_.out (by kernel_rfl) hHeld ?_ rfl (by rintro w' ⟨s0, s1, s2, s3⟩; go_simp; with_reducible rfl)
             refine tq_ 10 52 14 1983 HT_.out HW_.out (by kernel_rfl) hHeld ?_ rfl (by rintro w' ⟨s0, s1, s2, s3⟩; go_simp; with_reducible rfl)
             refine join_ (σ := Nat) 1 #[true, true, true, true, true, true, true, true, true, true, true, true, true, false] (fun s_ => [(48, .int .i64 t923), (13, .pointer (some ⟨s_, 0, none⟩)), (53, .agg #[.int .i64 t923, .int .i64 (rd t918 (ji19))])]) (fun s_ w' => (w'.cell? ⟨gb914, 0, none⟩ = some (.int .i64 a0_0) ∧ w'.cell? ⟨gb914, 1, none⟩ = some (.slice A0_1 l0_1.length c0_1) ∧ w'.cell? (ad922.add ((ji19)).toNat) = some (.int .i64 (rd t918 (ji19))) ∧ w'.cell? (ad922.add ((ji19)).toNat) = some (.int .i64 (rd t918 (ji19)))) ∧ (Kd.R (Kd.int .i64) 3 w' w.heap.size (fun k_ => some k_ ≠ (.slice Ao26 x9_1.length co26 : Value).ownBlock) (.slice (some ad922) t918.length co28) t918) ∧ (Kd.R k88 88 w' w.heap.size (fun k_ => k_ ≠ s_) u8 x8_1) ∧ (Kd.R (Kd.int .i64) 3 w' w.heap.size (fun k_ => some k_ ≠ (.slice (some ad922) t918.length co28 : Value).ownBlock) (.slice Ao26 x9_1.length co26) x9_1) ∧ (w'.heap[gb914]? = some (.cells #[.int .i64 a0_0, .slice A0_1 l0_1.length c0_1] 29 (0, 0))) ∧ (w'.heap[s_]? = some (.cells #[.int .i64 0, .int .i64 0] 88 (0, 0))) ∧ (w.heap.size ≤ s_) ∧ (w.heap.size ≤ s_) ∧ (gb914 ≠ s_) ∧ (s_ ≠ gb914) ∧ (Below w.heap.size w w')) ?_ ?_
             rotate_left
             ·intro hCont
              refine two_ (i := 6) (j := 12) (Ni := some 48) (Nj := some 13) (bsA 14 2047) #[true, true, true, true, true, true, false, true, true, true, true, false, true, false] rfl rfl rfl rfl (two_of HT_.out (by kernel_rfl)) (by decide) (by decide) (fun K hK => ?_) (fun K hK => ?_)
              ·skip
               refine goes_ Try.func125 (by kernel_rfl) rfl #[.agg #[.int .i64 a0_0, .slice A0_1 l0_1.length c0_1], .slice Ao26 x9_1.length co26, .int .i64 (rd t918 (ji19))] (by rfl) rfl rfl (by (try simp only [List.map_toArray, List.map_cons, List.map_nil]); first | done | (simp only [hji19]; rfl) | rfl | (simp only [List.length_drop, List.length_take]; rfl)) ?_
               with_reducible refine (spec_peWith.calls kj7 a0_0 _ _ l0_1 _ _ x9_1 (rd t918 (ji19)) t923 _ ?side1 ?side2 ?side3 ?side4 A22.out).mono ?_
               (case side1 => repeat (first | exact (Kd.C_below HR0_1.out HB.out) | (with_reducible refine Kd.C_alloc ?_ _) | (with_reducible refine Kd.C_drewN ?_ _) | (with_reducible refine Kd.C_drew ?_)))
               (case side2 => exact HC0_1.out)
               (case side3 => repeat (first | exact (Kd.R_reads' HO_9.out).2.2 | (with_reducible refine Kd.C_alloc ?_ _) | (with_reducible refine Kd.C_drewN ?_ _) | (with_reducible refine Kd.C_drew ?_)))
               (case side4 => exact (Kd.R_reads' HO_9.out).2.1)
               rintro e w30 ⟨rfl, hb⟩
               have HS2_ := (hb.cell (World.block_lt_of_cell? _ _ (hHeld.2.2.1))).trans (hHeld.2.2.1)
               have HS3_ := (hb.cell (World.block_lt_of_cell? _ _ (hHeld.2.2.2))).trans (hHeld.2.2.2)
               refine ⟨_, rfl, ?_⟩
               have n0_ := Aside0.mk (Kd.R_below (by (with_reducible repeat (first | apply Kd.R_alloc | apply Kd.R_drewN | apply Kd.R_drew)); exact HO_8.out) hb)
               have n1_ := Aside0.mk (Kd.R_below (by (with_reducible repeat (first | apply Kd.R_alloc | apply Kd.R_drewN | apply Kd.R_drew)); exact HO_9.out) hb)
               have n2_ := Aside0.mk (Kd.R_below (by (with_reducible repeat (first | apply Kd.R_alloc | apply Kd.R_drewN | apply Kd.R_drew)); exact HO920.out) hb)
               have n3_ := Aside0.mk (blk_below (g := gb914) (o := .cells #[.int .i64 a0_0, .slice A0_1 l0_1.length c0_1] 29 (0, 0)) (by (with_reducible repeat (first | refine blk_drewN ?_ _ | refine blk_drew ?_ | refine blk_alloc ?_ _)); exact BK914.out) hb)
               have n4_ := Aside0.mk (below_step (by repeat (first | (with_reducible first | exact HB.out | apply below_alloc | apply pw_below_drewN | apply below_drew1 | refine below_set ?_ GE914.out) | exact HB.out)) hb)
               clear HO_8
               clear HO_9
               clear HO920
               clear BK914
               clear HB
               have HO_8 := n0_
               have HO_9 := n1_
               have HO920 := n2_
               have BK914 := n3_
               have HB := n4_
               clear n0_ n1_ n2_ n3_ n4_
               (try clear hb)
               (try clear hb2)
               (try clear hk)
               (try clear hi)
               refine hK.out _ _ ⟨(blk_cell BK914.out 0).trans rfl, (blk_cell BK914.out 1).trans rfl, HS2_, HS3_⟩ (fun hHeld => ?_)
               clear hK K
               refine norm_ (a' := ?_) ?_ ?_
               rotate_left
               ·show Act.put _ (some 48) _ = _
                simp only [Act.put, List.setIfInBounds_toArray, List.set_cons_zero, List.set_cons_succ, i64_w]
                rfl
               refine pq_ 11 53 14 4095 HT_.out (by kernel_rfl) ?_
               refine one_ (i := 12) (N := some 13) (bsA 14 8191) rfl rfl (one_of HT_.out (by kernel_rfl)) (by decide) (fun K hK => ?_)
               refine box_step ?hg (N := 13) ?hd (cs := #[.int .i64 0, .int .i64 0]) (t := 88) ?hr ?_; (case hd => rfl); (case hg => rfl); (case hr => first | (go_simp; done) | (go_simp; rfl))
               intro gb925 hg w31 hbox hb
               have HS2_ := (hb.cell (World.block_lt_of_cell? _ _ (hHeld.2.2.1))).trans (hHeld.2.2.1)
               have HS3_ := (hb.cell (World.block_lt_of_cell? _ _ (hHeld.2.2.2))).trans (hHeld.2.2.2)
               have n0_ := Aside0.mk (Kd.R_below (Kd.R_elderB (by (with_reducible repeat (first | apply Kd.R_alloc | apply Kd.R_drewN | apply Kd.R_drew)); exact HO_8.out) gb925 (Nat.le_of_eq hg.symm)) hb)
               have n1_ := Aside0.mk (Kd.R_below (by (with_reducible repeat (first | apply Kd.R_alloc | apply Kd.R_drewN | apply Kd.R_drew)); exact HO_9.out) hb)
               have n2_ := Aside0.mk (Kd.R_below (by (with_reducible repeat (first | apply Kd.R_alloc | apply Kd.R_drewN | apply Kd.R_drew)); exact HO920.out) hb)
               have n3_ := Aside0.mk (blk_below (g := gb914) (o := .cells #[.int .i64 a0_0, .slice A0_1 l0_1.length c0_1] 29 (0, 0)) (by (with_reducible repeat (first | refine blk_drewN ?_ _ | refine blk_drew ?_ | refine blk_alloc ?_ _)); exact BK914.out) hb)
               have n4_ := Aside0.mk (below_step (by repeat (first | (with_reducible first | exact HB.out | apply below_alloc | apply pw_below_drewN | apply below_drew1 | refine below_set ?_ GE914.out) | exact HB.out)) hb)
               have n5_ := Aside0.mk (hbox)
               have n6_ := Aside0.mk ((by rw [hg]; exact (below_size (by repeat (first | (with_reducible first | exact HB.out | apply below_alloc | apply pw_below_drewN | apply below_drew1 | refine below_set ?_ GE914.out) | exact HB.out))) : w.heap.size ≤ gb925))
               have n7_ := Aside0.mk ((by rw [hg]; exact (below_size (by repeat (first | (with_reducible first | exact HB.out | apply below_alloc | apply pw_below_drewN | apply below_drew1 | refine below_set ?_ GE914.out) | exact HB.out))) : w.heap.size ≤ gb925))
               have n8_ := Aside0.mk ((by rw [hg]; exact Nat.ne_of_lt (blk_lt (g := gb914) (o := .cells #[.int .i64 a0_0, .slice A0_1 l0_1.length c0_1] 29 (0, 0)) (by (with_reducible repeat (first | refine blk_drewN ?_ _ | refine blk_drew ?_ | refine blk_alloc ?_ _)); exact BK914.out)) : gb914 ≠ gb925))
               have n9_ := Aside0.mk ((by rw [hg]; exact Nat.ne_of_gt (blk_lt (g := gb914) (o := .cells #[.int .i64 a0_0, .slice A0_1 l0_1.length c0_1] 29 (0, 0)) (by (with_reducible repeat (first | refine blk_drewN ?_ _ | refine blk_drew ?_ | refine blk_alloc ?_ _)); exact BK914.out)) : gb925 ≠ gb914))
               clear HO_8
               clear HO_9
               clear HO920
               clear BK914
               clear HB
               have HO_8 := n0_
               have HO_9 := n1_
               have HO920 := n2_
               have BK914 := n3_
               have HB := n4_
               have BK925 := n5_
               have GW925 := n6_
               have GE925 := n7_
               have NB914_925 := n8_
               have NB925_914 := n9_
               clear n0_ n1_ n2_ n3_ n4_ n5_ n6_ n7_ n8_ n9_
               clear hb hbox hg
               refine hK.out _ _ ⟨(blk_cell BK914.out 0).trans rfl, (blk_cell BK914.out 1).trans rfl, HS2_, HS3_⟩ (fun hHeld => ?_)
               clear hK K
               refine norm_ (a' := ?_) ?_ ?_
               rotate_left
               ·show Act.put _ (some 13) _ = _
                simp only [Act.put, List.setIfInBounds_toArray, List.set_cons_zero, List.set_cons_succ, i64_w]
                rfl
               exact norm_ (by simp only [putAll, Act.put, List.setIfInBounds_toArray, List.set_cons_zero, List.set_cons_succ]) (hCont (gb925) _ ⟨hHeld, (by (with_reducible repeat (first | apply Kd.R_alloc | apply Kd.R_drewN | apply Kd.R_drew)); exact Kd.R_mono HO920.out (fun _ hk => hk.2)), (by (with_reducible repeat (first | apply Kd.R_alloc | apply Kd.R_drewN | apply Kd.R_drew)); exact Kd.R_mono HO_8.out (fun _ hk => hk.2)), (by (with_reducible repeat (first | apply Kd.R_alloc | apply Kd.R_drewN | apply Kd.R_drew)); exact Kd.R_mono HO_9.out (fun _ hk => hk.2)), (by (with_reducible repeat (first | refine blk_drewN ?_ _ | refine blk_drew ?_ | refine blk_alloc ?_ _)); exact BK914.out), (by (with_reducible repeat (first | refine blk_drewN ?_ _ | refine blk_drew ?_ | refine blk_alloc ?_ _)); exact BK925.out), GW925.out, GE925.out, NB914_925.out, NB925_914.out, (by repeat (first | (with_reducible first | exact HB.out | apply below_alloc | apply pw_below_drewN | apply below_drew1 | refine below_set ?_ GE914.out | refine below_set ?_ GE925.out) | exact HB.out))⟩)
              ·skip
               refine box_step ?hg (N := 13) ?hd (cs := #[.int .i64 0, .int .i64 0]) (t := 88) ?hr ?_; (case hd => rfl); (case hg => rfl); (case hr => first | (go_simp; done) | (go_simp; rfl))
               intro gb925 hg w30 hbox hb
               have HS2_ := (hb.cell (World.block_lt_of_cell? _ _ (hHeld.2.2.1))).trans (hHeld.2.2.1)
               have HS3_ := (hb.cell (World.block_lt_of_cell? _ _ (hHeld.2.2.2))).trans (hHeld.2.2.2)
               have n0_ := Aside0.mk (Kd.R_below (Kd.R_elderB (by (with_reducible repeat (first | apply Kd.R_alloc | apply Kd.R_drewN | apply Kd.R_drew)); exact HO_8.out) gb925 (Nat.le_of_eq hg.symm)) hb)
               have n1_ := Aside0.mk (Kd.R_below (by (with_reducible repeat (first | apply Kd.R_alloc | apply Kd.R_drewN | apply Kd.R_drew)); exact HO_9.out) hb)
               have n2_ := Aside0.mk (Kd.R_below (by (with_reducible repeat (first | apply Kd.R_alloc | apply Kd.R_drewN | apply Kd.R_drew)); exact HO920.out) hb)
               have n3_ := Aside0.mk (blk_below (g := gb914) (o := .cells #[.int .i64 a0_0, .slice A0_1 l0_1.length c0_1] 29 (0, 0)) (by (with_reducible repeat (first | refine blk_drewN ?_ _ | refine blk_drew ?_ | refine blk_alloc ?_ _)); exact BK914.out) hb)
               have n4_ := Aside0.mk (below_step (by repeat (first | (with_reducible first | exact HB.out | apply below_alloc | apply pw_below_drewN | apply below_drew1 | refine below_set ?_ GE914.out) | exact HB.out)) hb)
               have n5_ := Aside0.mk (hbox)
               have n6_ := Aside0.mk ((by rw [hg]; exact (below_size (by repeat (first | (with_reducible first | exact HB.out | apply below_alloc | apply pw_below_drewN | apply below_drew1 | refine below_set ?_ GE914.out) | exact HB.out))) : w.heap.size ≤ gb925))
               have n7_ := Aside0.mk ((by rw [hg]; exact (below_size (by repeat (first | (with_reducible first | exact HB.out | apply below_alloc | apply pw_below_drewN | apply below_drew1 | refine below_set ?_ GE914.out) | exact HB.out))) : w.heap.size ≤ gb925))
               have n8_ := Aside0.mk ((by rw [hg]; exact Nat.ne_of_lt (blk_lt (g := gb914) (o := .cells #[.int .i64 a0_0, .slice A0_1 l0_1.length c0_1] 29 (0, 0)) (by (with_reducible repeat (first | refine blk_drewN ?_ _ | refine blk_drew ?_ | refine blk_alloc ?_ _)); exact BK914.out)) : gb914 ≠ gb925))
               have n9_ := Aside0.mk ((by rw [hg]; exact Nat.ne_of_gt (blk_lt (g := gb914) (o := .cells #[.int .i64 a0_0, .slice A0_1 l0_1.length c0_1] 29 (0, 0)) (by (with_reducible repeat (first | refine blk_drewN ?_ _ | refine blk_drew ?_ | refine blk_alloc ?_ _)); exact BK914.out)) : gb925 ≠ gb914))
               clear HO_8
               clear HO_9
               clear HO920
               clear BK914
               clear HB
               have HO_8 := n0_
               have HO_9 := n1_
               have HO920 := n2_
               have BK914 := n3_
               have HB := n4_
               have BK925 := n5_
               have GW925 := n6_
               have GE925 := n7_
               have NB914_925 := n8_
               have NB925_914 := n9_
               clear n0_ n1_ n2_ n3_ n4_ n5_ n6_ n7_ n8_ n9_
               clear hb hbox hg
               refine hK.out _ _ ⟨(blk_cell BK914.out 0).trans rfl, (blk_cell BK914.out 1).trans rfl, HS2_, HS3_⟩ (fun hHeld => ?_)
               clear hK K
               refine norm_ (a' := ?_) ?_ ?_
               rotate_left
               ·show Act.put _ (some 13) _ = _
                simp only [Act.put, List.setIfInBounds_toArray, List.set_cons_zero, List.set_cons_succ, i64_w]
                rfl
               refine one_ (i := 6) (N := some 48) (bsA 14 6143) rfl rfl (one_of HT_.out (by kernel_rfl)) (by decide) (fun K hK => ?_)
               refine goes_ Try.func125 (by kernel_rfl) rfl #[.agg #[.int .i64 a0_0, .slice A0_1 l0_1.length c0_1], .slice Ao26 x9_1.length co26, .int .i64 (rd t918 (ji19))] (by rfl) rfl rfl (by (try simp only [List.map_toArray, List.map_cons, List.map_nil]); first | done | (simp only [hji19]; rfl) | rfl | (simp only [List.length_drop, List.length_take]; rfl)) ?_
               with_reducible refine (spec_peWith.calls kj7 a0_0 _ _ l0_1 _ _ x9_1 (rd t918 (ji19)) t923 _ ?side1 ?side2 ?side3 ?side4 A22.out).mono ?_
               (case side1 => repeat (first | exact (Kd.C_below HR0_1.out HB.out) | (with_reducible refine Kd.C_alloc ?_ _) | (with_reducible refine Kd.C_drewN ?_ _) | (with_reducible refine Kd.C_drew ?_)))
               (case side2 => exact HC0_1.out)
               (case side3 => repeat (first | exact (Kd.R_reads' HO_9.out).2.2 | (with_reducible refine Kd.C_alloc ?_ _) | (with_reducible refine Kd.C_drewN ?_ _) | (with_reducible refine Kd.C_drew ?_)))
               (case side4 => exact (Kd.R_reads' HO_9.out).2.1)
               rintro e w31 ⟨rfl, hb⟩
               have HS2_ := (hb.cell (World.block_lt_of_cell? _ _ (hHeld.2.2.1))).trans (hHeld.2.2.1)
               have HS3_ := (hb.cell (World.block_lt_of_cell? _ _ (hHeld.2.2.2))).trans (hHeld.2.2.2)
               refine ⟨_, rfl, ?_⟩
               have n0_ := Aside0.mk (Kd.R_below (by (with_reducible repeat (first | apply Kd.R_alloc | apply Kd.R_drewN | apply Kd.R_drew)); exact HO_8.out) hb)
               have n1_ := Aside0.mk (Kd.R_below (by (with_reducible repeat (first | apply Kd.R_alloc | apply Kd.R_drewN | apply Kd.R_drew)); exact HO_9.out) hb)
               have n2_ := Aside0.mk (Kd.R_below (by (with_reducible repeat (first | apply Kd.R_alloc | apply Kd.R_drewN | apply Kd.R_drew)); exact HO920.out) hb)
               have n3_ := Aside0.mk (blk_below (g := gb914) (o := .cells #[.int .i64 a0_0, .slice A0_1 l0_1.length c0_1] 29 (0, 0)) (by (with_reducible repeat (first | refine blk_drewN ?_ _ | refine blk_drew ?_ | refine blk_alloc ?_ _)); exact BK914.out) hb)
               have n4_ := Aside0.mk (blk_below (g := gb925) (o := .cells #[.int .i64 0, .int .i64 0] 88 (0, 0)) (by (with_reducible repeat (first | refine blk_drewN ?_ _ | refine blk_drew ?_ | refine blk_alloc ?_ _)); exact BK925.out) hb)
               have n5_ := Aside0.mk (below_step (by repeat (first | (with_reducible first | exact HB.out | apply below_alloc | apply pw_below_drewN | apply below_drew1 | refine below_set ?_ GE914.out | refine below_set ?_ GE925.out) | exact HB.out)) hb)
               clear HO_8
               clear HO_9
               clear HO920
               clear BK914
               clear BK925
               clear HB
               have HO_8 := n0_
               have HO_9 := n1_
               have HO920 := n2_
               have BK914 := n3_
               have BK925 := n4_
               have HB := n5_
               clear n0_ n1_ n2_ n3_ n4_ n5_
               (try clear hb)
               (try clear hb2)
               (try clear hk)
               (try clear hi)
               refine hK.out _ _ ⟨(blk_cell BK914.out 0).trans rfl, (blk_cell BK914.out 1).trans rfl, HS2_, HS3_⟩ (fun hHeld => ?_)
               clear hK K
               refine norm_ (a' := ?_) ?_ ?_
               rotate_left
               ·show Act.put _ (some 48) _ = _
                simp only [Act.put, List.setIfInBounds_toArray, List.set_cons_zero, List.set_cons_succ, i64_w]
                rfl
               refine pq_ 11 53 14 8191 HT_.out (by kernel_rfl) ?_
               exact norm_ (by simp only [putAll, Act.put, List.setIfInBounds_toArray, List.set_cons_zero, List.set_cons_succ]) (hCont (gb925) _ ⟨hHeld, (by (with_reducible repeat (first | apply Kd.R_alloc | apply Kd.R_drewN | apply Kd.R_drew)); exact Kd.R_mono HO920.out (fun _ hk => hk.2)), (by (with_reducible repeat (first | apply Kd.R_alloc | apply Kd.R_drewN | apply Kd.R_drew)); exact Kd.R_mono HO_8.out (fun _ hk => hk.2)), (by (with_reducible repeat (first | apply Kd.R_alloc | apply Kd.R_drewN | apply Kd.R_drew)); exact Kd.R_mono HO_9.out (fun _ hk => hk.2)), (by (with_reducible repeat (first | refine blk_drewN ?_ _ | refine blk_drew ?_ | refine blk_alloc ?_ _)); exact BK914.out), (by (with_reducible repeat (first | refine blk_drewN ?_ _ | refine blk_drew ?_ | refine blk_alloc ?_ _)); exact BK925.out), GW925.out, GE925.out, NB914_925.out, NB925_914.out, (by repeat (first | (with_reducible first | exact HB.out | apply below_alloc | apply pw_below_drewN | apply below_drew1 | refine below_set ?_ GE914.out | refine below_set ?_ GE925.out) | exact HB.out))⟩)
             rintro gb925 w32 ⟨hS_, h0_, h1_, h2_, h3_, h4_, h5_, h6_, h7_, h8_, h9_⟩
             have n0_ : Aside0 (Kd.R (Kd.int .i64) 3 w32 w.heap.size (fun k_ => some k_ ≠ (.slice Ao26 x9_1.length co26 : Value).ownBlock) (.slice (some ad922) t918.length co28) t918) := ⟨h0_⟩
             have n1_ : Aside0 (Kd.R k88 88 w32 w.heap.size (fun k_ => k_ ≠ gb925) u8 x8_1) := ⟨h1_⟩
             have n2_ : Aside0 (Kd.R (Kd.int .i64) 3 w32 w.heap.size (fun k_ => some k_ ≠ (.slice (some ad922) t918.length co28 : Value).ownBlock) (.slice Ao26 x9_1.length co26) x9_1) := ⟨h2_⟩
             have n3_ : Aside0 (w32.heap[gb914]? = some (.cells #[.int .i64 a0_0, .slice A0_1 l0_1.length c0_1] 29 (0, 0))) := ⟨h3_⟩
             have n4_ : Aside0 (w32.heap[gb925]? = some (.cells #[.int .i64 0, .int .i64 0] 88 (0, 0))) := ⟨h4_⟩
             have n5_ : Aside0 (w.heap.size ≤ gb925) := ⟨h5_⟩
             have n6_ : Aside0 (w.heap.size ≤ gb925) := ⟨h6_⟩
             have n7_ : Aside0 (gb914 ≠ gb925) := ⟨h7_⟩
             have n8_ : Aside0 (gb925 ≠ gb914) := ⟨h8_⟩
             have n9_ : Aside0 (Below w.heap.size w w32) := ⟨h9_⟩
             clear HO_8
             clear HO_9
             clear HO920
             clear BK914
             clear HB
             clear h0_ h1_ h2_ h3_ h4_ h5_ h6_ h7_ h8_ h9_
             have HO920 := n0_
             have HO_8 := n1_
             have HO_9 := n2_
             have BK914 := n3_
             have BK925 := n4_
             have GW925 := n5_
             have GE925 := n6_
             have NB914_925 := n7_
             have NB925_914 := n8_
             have HB := n9_
             clear n0_ n1_ n2_ n3_ n4_ n5_ n6_ n7_ n8_ n9_
             have hHeld : w32.cell? ⟨gb914, 0, none⟩ = some (.int .i64 a0_0) ∧ w32.cell? ⟨gb914, 1, none⟩ = some (.slice A0_1 l0_1.length c0_1) ∧ w32.cell? (ad922.add ((ji19)).toNat) = some (.int .i64 (rd t918 (ji19))) ∧ w32.cell? (ad922.add ((ji19)).toNat) = some (.int .i64 (rd t918 (ji19))) := hS_
             refine norm_ (a' := ?_) ?_ ?_
             rotate_left
             ·simp only [putAll, Act.put, List.setIfInBounds_toArray, List.set_cons_zero, List.set_cons_succ]
              rfl
             refine one_ (i := 13) (N := none) (bsA 14 16383) rfl rfl (one_of HT_.out (by kernel_rfl)) (by decide) (fun K hK => ?_)
             have hs33 : w32.cell? ⟨gb925, 0, none⟩ = some (.int .i64 0) := (blk_cell BK925.out 0).trans rfl
             have hfs33 := blk_frozen BK925.out 0
             have hns33_0 := NB914_925.out
             have hms33_0 := NB925_914.out
             have hs34 : w32.cell? ⟨gb925, 1, none⟩ = some (.int .i64 0) := (blk_cell BK925.out 1).trans rfl
             have hfs34 := blk_frozen BK925.out 1
             have hns34_0 := NB914_925.out
             have hms34_0 := NB925_914.out
             refine skip_ (w1 := ?_) (by rfl) rfl ?_ ?_
             rotate_left
             ·go_simp
              rfl
             refine hK.out _ _ ⟨((cell_far (p := ⟨gb925, _, none⟩) NB914_925.out _).trans (((cell_far (p := ⟨gb925, _, none⟩) NB914_925.out _).trans (hHeld.1)))), ((cell_far (p := ⟨gb925, _, none⟩) NB914_925.out _).trans (((cell_far (p := ⟨gb925, _, none⟩) NB914_925.out _).trans (hHeld.2.1)))), ((cell_far (p := ⟨gb925, _, none⟩) (by first | exact Kd.own_blk (Kd.R_ne HO920.out BK925.out (by decide)) | (rw [add_block]; exact Kd.own_blk (Kd.R_ne HO920.out BK925.out (by decide))) | (show (Addr.add _ _).block ≠ _; rw [add_block]; exact Kd.own_blk (Kd.R_ne HO920.out BK925.out (by decide))) | (dsimp only; exact Kd.own_blk (Kd.R_ne HO920.out BK925.out (by decide)))) _).trans (((cell_far (p := ⟨gb925, _, none⟩) (by first | exact Kd.own_blk (Kd.R_ne HO920.out BK925.out (by decide)) | (rw [add_block]; exact Kd.own_blk (Kd.R_ne HO920.out BK925.out (by decide))) | (show (Addr.add _ _).block ≠ _; rw [add_block]; exact Kd.own_blk (Kd.R_ne HO920.out BK925.out (by decide))) | (dsimp only; exact Kd.own_blk (Kd.R_ne HO920.out BK925.out (by decide)))) _).trans (hHeld.2.2.1)))), ((cell_far (p := ⟨gb925, _, none⟩) (by first | exact Kd.own_blk (Kd.R_ne HO920.out BK925.out (by decide)) | (rw [add_block]; exact Kd.own_blk (Kd.R_ne HO920.out BK925.out (by decide))) | (show (Addr.add _ _).block ≠ _; rw [add_block]; exact Kd.own_blk (Kd.R_ne HO920.out BK925.out (by decide))) | (dsimp only; exact Kd.own_blk (Kd.R_ne HO920.out BK925.out (by decide)))) _).trans (((cell_far (p := ⟨gb925, _, none⟩) (by first | exact Kd.own_blk (Kd.R_ne HO920.out BK925.out (by decide)) | (rw [add_block]; exact Kd.own_blk (Kd.R_ne HO920.out BK925.out (by decide))) | (show (Addr.add _ _).block ≠ _; rw [add_block]; exact Kd.own_blk (Kd.R_ne HO920.out BK925.out (by decide))) | (dsimp only; exact Kd.own_blk (Kd.R_ne HO920.out BK925.out (by decide)))) _).trans (hHeld.2.2.2))))⟩ (fun hHeld => ?_)
             clear hK K
             refine done_ (done_of HT_.out (by kernel_rfl)) ?_
             have hnb35 := NB925_914.out
             have hnc35 := NB914_925.out
             have hcz36_0 : w32.cell? ⟨gb925, 0, none⟩ = some (.int .i64 0) := (blk_cell BK925.out 0).trans rfl
             have hcz36_1 : w32.cell? ⟨gb925, 1, none⟩ = some (.int .i64 0) := (blk_cell BK925.out 1).trans rfl
             have hfz36_0 := blk_frozen BK925.out 0
             have hfz36_1 := blk_frozen BK925.out 1
             try go_wp2_with (first | ((with_reducible refine gate_builtin (b := .append) (xs := #[.tmp 54, .tmp 56]) rfl ?_); (try (refine gate_guard (by rfl) ?_; dsimp only)); at_builtin; refine Kd.R_append k88 (w0 := w) w.heap.size rfl (.tmp 54) (.tmp 56) 58 88 (.agg #[(.int .i64 0), (.int .i64 0)]) 16 rfl Try.underlying58 info88 rfl (by decide) (by omega) u8 x8_1 (⟨t923, rd t918 (ji19)⟩ : S88) [.int .i64 t923, .int .i64 (rd t918 (ji19))] (fun k_ => k_ ≠ gb925) (fun _ => False) rfl (by first | (go_simp; done) | (go_simp; rfl)) ?aP (fun _ hk => hk.elim) ?aF ?aO ?aB ?aS ?aL ?_; (case aP => exact k88_mkM _ _ _ (⟨t923, rd t918 (ji19)⟩ : S88)); (case aB => exact (by repeat (first | (with_reducible first | exact HB.out | apply below_alloc | apply pw_below_drewN | apply below_drew1 | refine below_set ?_ GE914.out | refine below_set ?_ GE925.out) | exact HB.out))); (case aF => exact (fun k_ hk => Kd.freshB (g := gb925) (o := .cells #[.int .i64 t923, .int .i64 (rd t918 (ji19))] 88 (0, 0)) (by (with_reducible repeat (first | refine blk_drewN ?_ _ | refine blk_drew ?_ | refine blk_alloc ?_ _)); refine blk_put (cs := #[.int .i64 t923, .int .i64 0]) ?_ 1 _ rfl; (with_reducible repeat (first | refine blk_drewN ?_ _ | refine blk_drew ?_ | refine blk_alloc ?_ _)); refine blk_put (cs := #[.int .i64 0, .int .i64 0]) ?_ 0 _ rfl; (with_reducible repeat (first | refine blk_drewN ?_ _ | refine blk_drew ?_ | refine blk_alloc ?_ _)); exact BK925.out) k_ hk)); (case aO => exact (by (with_reducible repeat (first | apply Kd.R_alloc | apply Kd.R_drewN | apply Kd.R_drew)); exact Kd.R_mono (Kd.R_far (p := ⟨gb925, 1, none⟩) (Kd.R_far (p := ⟨gb925, 0, none⟩) (Kd.R_mono HO_8.out (fun k_ hk => (⟨hk, hk⟩ : _ ∧ k_ ≠ gb925))) (fun _ hk => hk.2) (.int .i64 t923)) (fun _ hk => hk.2) (.int .i64 (rd t918 (ji19)))) (fun _ hk => hk.1))); (case aS => exact (below_size (by repeat (first | (with_reducible first | exact HB.out | apply below_alloc | apply pw_below_drewN | apply below_drew1 | refine below_set ?_ GE914.out | refine below_set ?_ GE925.out) | exact HB.out)))); (case aL => have := LMc23.out; omega); intro v927 w37 ho hb hg hat; rw [← Ny926.out] at ho; have n0_ := Aside0.mk (Kd.R_over' (by (with_reducible repeat (first | apply Kd.R_alloc | apply Kd.R_drewN | apply Kd.R_drew)); exact (Kd.R_mono (Kd.R_far (p := ⟨gb925, 1, none⟩) (Kd.R_far (p := ⟨gb925, 0, none⟩) (Kd.R_types HO_9.out BK925.out (by decide)) (fun _ hk => hk.2) (.int .i64 t923)) (fun _ hk => hk.2) (.int .i64 (rd t918 (ji19)))) (fun _ h_ => h_.1))) (Kd.R_typed (by (with_reducible repeat (first | apply Kd.R_alloc | apply Kd.R_drewN | apply Kd.R_drew)); exact (Kd.R_mono (Kd.R_far (p := ⟨gb925, 1, none⟩) (Kd.R_far (p := ⟨gb925, 0, none⟩) (Kd.R_mono HO_8.out (fun k_ hk => (⟨hk, hk⟩ : _ ∧ k_ ≠ gb925))) (fun _ hk => hk.2) (.int .i64 t923)) (fun _ hk => hk.2) (.int .i64 (rd t918 (ji19)))) (fun _ h_ => h_.1)))) (by decide) hg); have n1_ := Aside0.mk (blk_grown (g := gb914) (o := .cells #[.int .i64 a0_0, .slice A0_1 l0_1.length c0_1] 29 (0, 0)) (by (with_reducible repeat (first | refine blk_drewN ?_ _ | refine blk_drew ?_ | refine blk_alloc ?_ _)); refine blk_far ?_ NB914_925.out _; (with_reducible repeat (first | refine blk_drewN ?_ _ | refine blk_drew ?_ | refine blk_alloc ?_ _)); refine blk_far ?_ NB914_925.out _; (with_reducible repeat (first | refine blk_drewN ?_ _ | refine blk_drew ?_ | refine blk_alloc ?_ _)); exact BK914.out) hg (Kd.R_ne HO_8.out BK914.out (by decide))); have n2_ := Aside0.mk (Kd.R_over' (by (with_reducible repeat (first | apply Kd.R_alloc | apply Kd.R_drewN | apply Kd.R_drew)); exact (Kd.R_mono (Kd.R_far (p := ⟨gb925, 1, none⟩) (Kd.R_far (p := ⟨gb925, 0, none⟩) (Kd.R_types HO920.out BK925.out (by decide)) (fun _ hk => hk.2) (.int .i64 t923)) (fun _ hk => hk.2) (.int .i64 (rd t918 (ji19)))) (fun _ h_ => h_.1))) (Kd.R_typed (by (with_reducible repeat (first | apply Kd.R_alloc | apply Kd.R_drewN | apply Kd.R_drew)); exact (Kd.R_mono (Kd.R_far (p := ⟨gb925, 1, none⟩) (Kd.R_far (p := ⟨gb925, 0, none⟩) (Kd.R_mono HO_8.out (fun k_ hk => (⟨hk, hk⟩ : _ ∧ k_ ≠ gb925))) (fun _ hk => hk.2) (.int .i64 t923)) (fun _ hk => hk.2) (.int .i64 (rd t918 (ji19)))) (fun _ h_ => h_.1)))) (by decide) hg); have n3_ := Aside0.mk (blk_grown (g := gb925) (o := .cells #[.int .i64 t923, .int .i64 (rd t918 (ji19))] 88 (0, 0)) (by (with_reducible repeat (first | refine blk_drewN ?_ _ | refine blk_drew ?_ | refine blk_alloc ?_ _)); refine blk_put (cs := #[.int .i64 t923, .int .i64 0]) ?_ 1 _ rfl; (with_reducible repeat (first | refine blk_drewN ?_ _ | refine blk_drew ?_ | refine blk_alloc ?_ _)); refine blk_put (cs := #[.int .i64 0, .int .i64 0]) ?_ 0 _ rfl; (with_reducible repeat (first | refine blk_drewN ?_ _ | refine blk_drew ?_ | refine blk_alloc ?_ _)); exact BK925.out) hg (Kd.R_away HO_8.out (fun _ hk => hk))); have n4_ := Aside0.mk (hb); have n5_ := Aside0.mk (ho); clear HO_9; clear BK914; clear HO920; clear BK925; clear HB; clear HO_8; have HO_9 := n0_; have BK914 := n1_; have HO920 := n2_; have BK925 := n3_; have HB := n4_; have HO928 := n5_; clear n0_ n1_ n2_ n3_ n4_ n5_; clear ho hb hg hat; have hcz38_0 : w37.cell? ⟨gb925, 0, none⟩ = some (.int .i64 t923) := (blk_cell BK925.out 0).trans rfl; have hcz38_1 : w37.cell? ⟨gb925, 1, none⟩ = some (.int .i64 (rd t918 (ji19))) := (blk_cell BK925.out 1).trans rfl; have hfz38_0 := blk_frozen BK925.out 0; have hfz38_1 := blk_frozen BK925.out 1) | ((with_reducible refine gate_callee (f := 126) rfl ?_); refine goesL_ (some 61) rfl rfl Try.func126 (by kernel_rfl) rfl #[.slice Ao26 x9_1.length co26, .int .i64 t923] rfl (by (try simp only [List.map_toArray, List.map_cons, List.map_nil]); first | done | rfl | (simp only [List.length_drop, List.length_take]; rfl)) ?_; (with_reducible refine (spec_l1Drop.calls kj7 _ _ x9_1 t923 t929 _ ?side1 ?side2 A24.out).mono ?_); (case side1 => repeat (first | exact (Kd.R_reads' HO_9.out).2.2 | (with_reducible refine Kd.C_alloc ?_ _) | (with_reducible refine Kd.C_drewN ?_ _) | (with_reducible refine Kd.C_drew ?_))); (case side2 => exact (Kd.R_reads' HO_9.out).2.1); rintro e w39 ⟨v930, rfl, ho0, hb⟩; refine ⟨_, rfl, ?_⟩; have n0_ := Aside0.mk (Kd.R_elder' (by (with_reducible repeat (first | apply Kd.R_alloc | apply Kd.R_drewN | apply Kd.R_drew)); exact HO_9.out) (Kd.R_base ho0) hb); have n1_ := Aside0.mk (Kd.R_elder' (by (with_reducible repeat (first | apply Kd.R_alloc | apply Kd.R_drewN | apply Kd.R_drew)); exact HO920.out) (Kd.R_base ho0) hb); have n2_ := Aside0.mk (Kd.R_below (by (with_reducible repeat (first | apply Kd.R_alloc | apply Kd.R_drewN | apply Kd.R_drew)); exact HO928.out) hb); have n3_ := Aside0.mk (Kd.R_lower (Kd.R_new' (Kd.R_new' ho0 (Kd.R_lt (by (with_reducible repeat (first | apply Kd.R_alloc | apply Kd.R_drewN | apply Kd.R_drew)); exact HO_9.out))) (Kd.R_lt (by (with_reducible repeat (first | apply Kd.R_alloc | apply Kd.R_drewN | apply Kd.R_drew)); exact HO920.out))) (below_size (by repeat (first | (with_reducible first | exact HB.out | apply below_alloc | apply pw_below_drewN | apply below_drew1 | refine below_set ?_ GE914.out | refine below_set ?_ GE925.out) | exact HB.out)))); have n4_ := Aside0.mk (blk_below (g := gb914) (o := .cells #[.int .i64 a0_0, .slice A0_1 l0_1.length c0_1] 29 (0, 0)) (by (with_reducible repeat (first | refine blk_drewN ?_ _ | refine blk_drew ?_ | refine blk_alloc ?_ _)); exact BK914.out) hb); have n5_ := Aside0.mk (blk_below (g := gb925) (o := .cells #[.int .i64 t923, .int .i64 (rd t918 (ji19))] 88 (0, 0)) (by (with_reducible repeat (first | refine blk_drewN ?_ _ | refine blk_drew ?_ | refine blk_alloc ?_ _)); exact BK925.out) hb); have n6_ := Aside0.mk (below_step (by repeat (first | (with_reducible first | exact HB.out | apply below_alloc | apply pw_below_drewN | apply below_drew1 | refine below_set ?_ GE914.out | refine below_set ?_ GE925.out) | exact HB.out)) hb); clear HO_9; clear HO920; clear HO928; clear BK914; clear BK925; clear HB; have HO_9 := n0_; have HO920 := n1_; have HO928 := n2_; have HO931 := n3_; have BK914 := n4_; have BK925 := n5_; have HB := n6_; clear n0_ n1_ n2_ n3_ n4_ n5_ n6_; (try clear hb); (try clear hb2); (try clear hk); (try clear hi); (try clear ho0)))
             go_roundg kj7
             case measure => have := HK1.out; have := HJ7.out; omega
             case rel => exact ⟨(y926), (t929), (wrap64 (x10_1 + 1)), (by first | rfl | (simp; done) | (simp [*]; done)), H', ⟨by have := HK1.out; have := HJ7.out; omega⟩, ⟨by (with_reducible repeat (first | apply Kd.R_alloc | apply Kd.R_drewN | apply Kd.R_drew)); exact Kd.R_mono HO928.out (fun _ hk => trivial)⟩, ⟨by (with_reducible repeat (first | apply Kd.R_alloc | apply Kd.R_drewN | apply Kd.R_drew)); exact Kd.R_mono HO931.out (fun _ hk => trivial)⟩, ⟨by (with_reducible repeat (first | refine blk_drewN ?_ _ | refine blk_drew ?_ | refine blk_alloc ?_ _)); exact BK914.out⟩, ⟨by repeat (first | (with_reducible first | exact HB.out | apply below_alloc | apply pw_below_drewN | apply below_drew1 | refine below_set ?_ GE914.out | refine below_set ?_ GE925.out) | exact HB.out)⟩⟩
            ·rw [if_neg c23] at H
             exact absurd H (by simp)
           ·rw [if_neg c21] at H
            exact absurd H (by simp)
          ·rw [if_neg c20] at H
           exact absurd H (by simp)
         ·rw [if_neg c18] at H
          exact absurd H (by simp)
        ·rw [if_neg c17] at H
         have c17b0 : decide (x10_1 < (l1.length : Int)) = false := decide_eq_false c17
         clear c17
         by_cases c40 : 0 < (t918.length : Int)
         ·rw [if_pos c40] at H
          have c40b0 : decide (0 < (t918.length : Int)) = true := decide_eq_true c40
          have c40b1 : decide (0 < t918.length) = true := decide_eq_true (by omega)
          clear c40
          replace H := Option.bind_eq_some_iff.mp H
          obtain ⟨t933, A410, H⟩ := H
          replace H : (if x8_1.length < 8796093022208 then ((spec_l1Drop.f kj7 x9_1 t933).bind fun t939 => (spec_pePeel.l0 kj7 l1 a2 (x8_1 ++ [(⟨t933, rd t918 0⟩ : S88)]) t939 (wrap64 (x10_1 + 1)) a0_0 l0_1)) else (none)) = some (r1, r2) := H
          have A41 := Aside0.mk A410
          clear A410
          by_cases c42 : x8_1.length < 8796093022208
          ·rw [if_pos c42] at H
           have LMc42 := Aside0.mk c42
           clear c42
           obtain ⟨y936, hy936⟩ : ∃ y_ : List (S88), y_ = (x8_1 ++ [(⟨t933, rd t918 0⟩ : S88)]) := ⟨_, rfl⟩
           replace H : ((spec_l1Drop.f kj7 x9_1 t933).bind fun t939 => (spec_pePeel.l0 kj7 l1 a2 y936 t939 (wrap64 (x10_1 + 1)) a0_0 l0_1)) = some (r1, r2) := by first | (rw [hy936]; with_reducible exact H) | (have H2_ := (Option.bind_some _ _).symm.trans H; rw [hy936]; with_reducible exact H2_) | (have H2_ := (Option.bind_some _ _).symm.trans H; with_reducible exact H2_) | with_reducible exact H | (rw [hy936]; exact H) | exact H
           have Ny936 := Aside0.mk hy936
           clear hy936
           replace H := Option.bind_eq_some_iff.mp H
           obtain ⟨t939, A430, H⟩ := H
           replace H : (spec_pePeel.l0 kj7 l1 a2 y936 t939 (wrap64 (x10_1 + 1)) a0_0 l0_1) = some (r1, r2) := H
           have A43 := Aside0.mk A430
           clear A430
           have H' := Aside0.mk H
           clear H
           have hcz44_0 : wc.cell? ⟨gb914, 0, none⟩ = some (.int .i64 a0_0) := (blk_cell BK914.out 0).trans rfl
           have hcz44_1 : wc.cell? ⟨gb914, 1, none⟩ = some (.slice A0_1 l0_1.length c0_1) := (blk_cell BK914.out 1).trans rfl
           have hfz44_0 := blk_frozen BK914.out 0
           have hfz44_1 := blk_frozen BK914.out 1
           obtain ⟨Ao45, co45, eo45⟩ := Kd.R_slice HO_9.out
           subst eo45
           try go_wp2_with (first | ((with_reducible refine gate_callee (f := 79) rfl ?_); refine goesL_ (some 27) rfl rfl Try.func79 (by kernel_rfl) rfl #[.agg #[.int .i64 a0_0, .slice A0_1 l0_1.length c0_1], .slice Ao45 x9_1.length co45] rfl (by (try simp only [List.map_toArray, List.map_cons, List.map_nil]); first | done | rfl | (simp only [List.length_drop, List.length_take]; rfl)) ?_; (with_reducible refine (spec_peFree.calls kj7 a0_0 _ _ l0_1 _ _ x9_1 t918 _ ?side1 ?side2 ?side3 ?side4 A11.out).mono ?_); (case side1 => repeat (first | exact (Kd.C_below HR0_1.out HB.out) | (with_reducible refine Kd.C_alloc ?_ _) | (with_reducible refine Kd.C_drewN ?_ _) | (with_reducible refine Kd.C_drew ?_))); (case side2 => exact HC0_1.out); (case side3 => repeat (first | exact (Kd.R_reads' HO_9.out).2.2 | (with_reducible refine Kd.C_alloc ?_ _) | (with_reducible refine Kd.C_drewN ?_ _) | (with_reducible refine Kd.C_drew ?_))); (case side4 => exact (Kd.R_reads' HO_9.out).2.1); rintro e w46 ⟨v919, rfl, ho0, hb⟩; refine ⟨_, rfl, ?_⟩; have n0_ := Aside0.mk (Kd.R_below (by (with_reducible repeat (first | apply Kd.R_alloc | apply Kd.R_drewN | apply Kd.R_drew)); exact HO_8.out) hb); have n1_ := Aside0.mk (Kd.R_elder' (by (with_reducible repeat (first | apply Kd.R_alloc | apply Kd.R_drewN | apply Kd.R_drew)); exact HO_9.out) (Kd.R_base ho0) hb); have n2_ := Aside0.mk (Kd.R_lower (Kd.R_new' ho0 (Kd.R_lt (by (with_reducible repeat (first | apply Kd.R_alloc | apply Kd.R_drewN | apply Kd.R_drew)); exact HO_9.out))) (below_size (by repeat (first | (with_reducible first | exact HB.out | apply below_alloc | apply pw_below_drewN | apply below_drew1 | refine below_set ?_ GE914.out) | exact HB.out)))); have n3_ := Aside0.mk (blk_below (g := gb914) (o := .cells #[.int .i64 a0_0, .slice A0_1 l0_1.length c0_1] 29 (0, 0)) (by (with_reducible repeat (first | refine blk_drewN ?_ _ | refine blk_drew ?_ | refine blk_alloc ?_ _)); exact BK914.out) hb); have n4_ := Aside0.mk (below_step (by repeat (first | (with_reducible first | exact HB.out | apply below_alloc | apply pw_below_drewN | apply below_drew1 | refine below_set ?_ GE914.out) | exact HB.out)) hb); clear HO_8; clear HO_9; clear BK914; clear HB; have HO_8 := n0_; have HO_9 := n1_; have HO920 := n2_; have BK914 := n3_; have HB := n4_; clear n0_ n1_ n2_ n3_ n4_; (try clear hb); (try clear hb2); (try clear hk); (try clear hi); (try clear ho0); obtain ⟨Ao47, co47, eo47⟩ := Kd.R_slice HO920.out; subst eo47))
           have n0_ := Aside0.mk (Kd.R_drew HO_8.out)
           have n1_ := Aside0.mk (Kd.R_drew HO_9.out)
           have n2_ := Aside0.mk (Kd.R_drew HO920.out)
           have n3_ := Aside0.mk (blk_drew BK914.out)
           have n4_ := Aside0.mk (below_drew1 HB.out)
           clear HO_8
           clear HO_9
           clear HO920
           clear BK914
           clear HB
           have HO_8 := n0_
           have HO_9 := n1_
           have HO920 := n2_
           have BK914 := n3_
           have HB := n4_
           clear n0_ n1_ n2_ n3_ n4_
           have p932 : 0 ≤ (0 : Int) := (by omega)
           have q932 : 0 < (t918.length : Int) := of_decide_eq_true (by first | (with_reducible assumption) | assumption)
           obtain ⟨ad932, e932, hx932_0⟩ := Kd.at_int (Kd.R_reads' HO920.out).2.2 0 p932 q932
           cases e932
           have qi932 : (0 < t918.length) = True := eq_true (by omega)
           (try rw [show ((0 : Int)).toNat = 0 from rfl] at hx932_0)
           (try rw [Addr.add_zero'] at hx932_0)
           replace p932 := eq_true p932
           replace q932 := eq_true q932
           have p934 : 0 ≤ (0 : Int) := (by omega)
           have q934 : 0 < (t918.length : Int) := of_decide_eq_true (by first | (with_reducible assumption) | assumption)
           obtain ⟨ad934, e934, hx934_0⟩ := Kd.at_int (Kd.R_reads' HO920.out).2.2 0 p934 q934
           obtain rfl : ad932 = ad934 := (by injection e934)
           have qi934 : (0 < t918.length) = True := eq_true (by omega)
           (try rw [show ((0 : Int)).toNat = 0 from rfl] at hx934_0)
           (try rw [Addr.add_zero'] at hx934_0)
           replace p934 := eq_true p934
           replace q934 := eq_true q934
           refine start_ (n := 14) (S := fun w' => w'.cell? ⟨gb914, 0, none⟩ = some (.int .i64 a0_0) ∧ w'.cell? ⟨gb914, 1, none⟩ = some (.slice A0_1 l0_1.length c0_1) ∧ w'.cell? ad932 = some (.int .i64 (rd t918 0)) ∧ w'.cell? ad932 = some (.int .i64 (rd t918 0))) (ds := []) #[false, false, false, false, false, false, false, false, false, false, false, false, false, false] (by kernel_rfl) rfl rfl ⟨(blk_cell BK914.out 0).trans rfl, (blk_cell BK914.out 1).trans rfl, hx932_0, hx934_0⟩ (fun hHeld => ?_); refine with_tabW spec_pePeel.tab11 spec_pePeel.bits11 (fun HT_ HW_ => ?_)
           generalize w46.drew = w48 at HO_8 HO_9 HO920 BK914 HB hx932_0 hx934_0 hHeld ⊢
           refine pq_ 1 43 14 2 HT_.out (by kernel_rfl) ?_
           refine pq_ 2 44 14 6 HT_.out (by kernel_rfl) ?_
           refine pq_ 3 45 14 14 HT_.out (by kernel_rfl) ?_
           refine pq_ 4 46 14 30 HT_.out (by kernel_rfl) ?_
           refine pq_ 7 49 14 158 HT_.out (by kernel_rfl) ?_
           refine pq_ 8 50 14 414 HT_.out (by kernel_rfl) ?_
           refine pq_ 9 51 14 926 HT_.out (by kernel_rfl) ?_
           refine tq_ 0 42 14 927 HT_.out HW_.out (by kernel_rfl) hHeld ?_ rfl (by rintro w' ⟨s0, s1, s2, s3⟩; go_simp; with_reducible rfl)
           refine tq_ 5 47 14 959 HT_.out HW_.out (by kernel_rfl) hHeld ?_ rfl (by rintro w' ⟨s0, s1, s2, s3⟩; go_simp; with_reducible rfl)
           refine tq_ 10 52 14 1983 HT_.out HW_.out (by kernel_rfl) hHeld ?_ rfl (by rintro w' ⟨s0, s1, s2, s3⟩; go_simp; with_reducible rfl)
           refine join_ (σ := Nat) 1 #[true, true, true, true, true, true, true, true, true, true, true, true, true, false] (fun s_ => [(48, .int .i64 t933), (13, .pointer (some ⟨s_, 0, none⟩)), (53, .agg #[.int .i64 t933, .int .i64 (rd t918 0)])]) (fun s_ w' => (w'.cell? ⟨gb914, 0, none⟩ = some (.int .i64 a0_0) ∧ w'.cell? ⟨gb914, 1, none⟩ = some (.slice A0_1 l0_1.length c0_1) ∧ w'.cell? ad932 = some (.int .i64 (rd t918 0)) ∧ w'.cell? ad932 = some (.int .i64 (rd t918 0))) ∧ (Kd.R (Kd.int .i64) 3 w' w.heap.size (fun k_ => some k_ ≠ (.slice Ao45 x9_1.length co45 : Value).ownBlock) (.slice (some ad932) t918.length co47) t918) ∧ (Kd.R k88 88 w' w.heap.size (fun k_ => k_ ≠ s_) u8 x8_1) ∧ (Kd.R (Kd.int .i64) 3 w' w.heap.size (fun k_ => some k_ ≠ (.slice (some ad932) t918.length co47 : Value).ownBlock) (.slice Ao45 x9_1.length co45) x9_1) ∧ (w'.heap[gb914]? = some (.cells #[.int .i64 a0_0, .slice A0_1 l0_1.length c0_1] 29 (0, 0))) ∧ (w'.heap[s_]? = some (.cells #[.int .i64 0, .int .i64 0] 88 (0, 0))) ∧ (w.heap.size ≤ s_) ∧ (w.heap.size ≤ s_) ∧ (gb914 ≠ s_) ∧ (s_ ≠ gb914) ∧ (Below w.heap.size w w')) ?_ ?_
           rotate_left
           ·intro hCont
            refine two_ (i := 6) (j := 12) (Ni := some 48) (Nj := some 13) (bsA 14 2047) #[true, true, true, true, true, true, false, true, true, true, true, false, true, false] rfl rfl rfl rfl (two_of HT_.out (by kernel_rfl)) (by decide) (by decide) (fun K hK => ?_) (fun K hK => ?_)
            ·skip
             refine goes_ Try.func125 (by kernel_rfl) rfl #[.agg #[.int .i64 a0_0, .slice A0_1 l0_1.length c0_1], .slice Ao45 x9_1.length co45, .int .i64 (rd t918 0)] (by rfl) rfl rfl (by (try simp only [List.map_toArray, List.map_cons, List.map_nil]); first | done | rfl | (simp only [List.length_drop, List.length_take]; rfl)) ?_
             with_reducible refine (spec_peWith.calls kj7 a0_0 _ _ l0_1 _ _ x9_1 (rd t918 0) t933 _ ?side1 ?side2 ?side3 ?side4 A41.out).mono ?_
             (case side1 => repeat (first | exact (Kd.C_below HR0_1.out HB.out) | (with_reducible refine Kd.C_alloc ?_ _) | (with_reducible refine Kd.C_drewN ?_ _) | (with_reducible refine Kd.C_drew ?_)))
             (case side2 => exact HC0_1.out)
             (case side3 => repeat (first | exact (Kd.R_reads' HO_9.out).2.2 | (with_reducible refine Kd.C_alloc ?_ _) | (with_reducible refine Kd.C_drewN ?_ _) | (with_reducible refine Kd.C_drew ?_)))
             (case side4 => exact (Kd.R_reads' HO_9.out).2.1)
             rintro e w49 ⟨rfl, hb⟩
             have HS2_ := (hb.cell (World.block_lt_of_cell? _ _ (hHeld.2.2.1))).trans (hHeld.2.2.1)
             have HS3_ := (hb.cell (World.block_lt_of_cell? _ _ (hHeld.2.2.2))).trans (hHeld.2.2.2)
             refine ⟨_, rfl, ?_⟩
             have n0_ := Aside0.mk (Kd.R_below (by (with_reducible repeat (first | apply Kd.R_alloc | apply Kd.R_drewN | apply Kd.R_drew)); exact HO_8.out) hb)
             have n1_ := Aside0.mk (Kd.R_below (by (with_reducible repeat (first | apply Kd.R_alloc | apply Kd.R_drewN | apply Kd.R_drew)); exact HO_9.out) hb)
             have n2_ := Aside0.mk (Kd.R_below (by (with_reducible repeat (first | apply Kd.R_alloc | apply Kd.R_drewN | apply Kd.R_drew)); exact HO920.out) hb)
             have n3_ := Aside0.mk (blk_below (g := gb914) (o := .cells #[.int .i64 a0_0, .slice A0_1 l0_1.length c0_1] 29 (0, 0)) (by (with_reducible repeat (first | refine blk_drewN ?_ _ | refine blk_drew ?_ | refine blk_alloc ?_ _)); exact BK914.out) hb)
             have n4_ := Aside0.mk (below_step (by repeat (first | (with_reducible first | exact HB.out | apply below_alloc | apply pw_below_drewN | apply below_drew1 | refine below_set ?_ GE914.out) | exact HB.out)) hb)
             clear HO_8
             clear HO_9
             clear HO920
             clear BK914
             clear HB
             have HO_8 := n0_
             have HO_9 := n1_
             have HO920 := n2_
             have BK914 := n3_
             have HB := n4_
             clear n0_ n1_ n2_ n3_ n4_
             (try clear hb)
             (try clear hb2)
             (try clear hk)
             (try clear hi)
             refine hK.out _ _ ⟨(blk_cell BK914.out 0).trans rfl, (blk_cell BK914.out 1).trans rfl, HS2_, HS3_⟩ (fun hHeld => ?_)
             clear hK K
             refine norm_ (a' := ?_) ?_ ?_
             rotate_left
             ·show Act.put _ (some 48) _ = _
              simp only [Act.put, List.setIfInBounds_toArray, List.set_cons_zero, List.set_cons_succ, i64_w]
              rfl
             refine pq_ 11 53 14 4095 HT_.out (by kernel_rfl) ?_
             refine one_ (i := 12) (N := some 13) (bsA 14 8191) rfl rfl (one_of HT_.out (by kernel_rfl)) (by decide) (fun K hK => ?_)
             refine box_step ?hg (N := 13) ?hd (cs := #[.int .i64 0, .int .i64 0]) (t := 88) ?hr ?_; (case hd => rfl); (case hg => rfl); (case hr => first | (go_simp; done) | (go_simp; rfl))
             intro gb935 hg w50 hbox hb
             have HS2_ := (hb.cell (World.block_lt_of_cell? _ _ (hHeld.2.2.1))).trans (hHeld.2.2.1)
             have HS3_ := (hb.cell (World.block_lt_of_cell? _ _ (hHeld.2.2.2))).trans (hHeld.2.2.2)
             have n0_ := Aside0.mk (Kd.R_below (Kd.R_elderB (by (with_reducible repeat (first | apply Kd.R_alloc | apply Kd.R_drewN | apply Kd.R_drew)); exact HO_8.out) gb935 (Nat.le_of_eq hg.symm)) hb)
             have n1_ := Aside0.mk (Kd.R_below (by (with_reducible repeat (first | apply Kd.R_alloc | apply Kd.R_drewN | apply Kd.R_drew)); exact HO_9.out) hb)
             have n2_ := Aside0.mk (Kd.R_below (by (with_reducible repeat (first | apply Kd.R_alloc | apply Kd.R_drewN | apply Kd.R_drew)); exact HO920.out) hb)
             have n3_ := Aside0.mk (blk_below (g := gb914) (o := .cells #[.int .i64 a0_0, .slice A0_1 l0_1.length c0_1] 29 (0, 0)) (by (with_reducible repeat (first | refine blk_drewN ?_ _ | refine blk_drew ?_ | refine blk_alloc ?_ _)); exact BK914.out) hb)
             have n4_ := Aside0.mk (below_step (by repeat (first | (with_reducible first | exact HB.out | apply below_alloc | apply pw_below_drewN | apply below_drew1 | refine below_set ?_ GE914.out) | exact HB.out)) hb)
             have n5_ := Aside0.mk (hbox)
             have n6_ := Aside0.mk ((by rw [hg]; exact (below_size (by repeat (first | (with_reducible first | exact HB.out | apply below_alloc | apply pw_below_drewN | apply below_drew1 | refine below_set ?_ GE914.out) | exact HB.out))) : w.heap.size ≤ gb935))
             have n7_ := Aside0.mk ((by rw [hg]; exact (below_size (by repeat (first | (with_reducible first | exact HB.out | apply below_alloc | apply pw_below_drewN | apply below_drew1 | refine below_set ?_ GE914.out) | exact HB.out))) : w.heap.size ≤ gb935))
             have n8_ := Aside0.mk ((by rw [hg]; exact Nat.ne_of_lt (blk_lt (g := gb914) (o := .cells #[.int .i64 a0_0, .slice A0_1 l0_1.length c0_1] 29 (0, 0)) (by (with_reducible repeat (first | refine blk_drewN ?_ _ | refine blk_drew ?_ | refine blk_alloc ?_ _)); exact BK914.out)) : gb914 ≠ gb935))
             have n9_ := Aside0.mk ((by rw [hg]; exact Nat.ne_of_gt (blk_lt (g := gb914) (o := .cells #[.int .i64 a0_0, .slice A0_1 l0_1.length c0_1] 29 (0, 0)) (by (with_reducible repeat (first | refine blk_drewN ?_ _ | refine blk_drew ?_ | refine blk_alloc ?_ _)); exact BK914.out)) : gb935 ≠ gb914))
             clear HO_8
             clear HO_9
             clear HO920
             clear BK914
             clear HB
             have HO_8 := n0_
             have HO_9 := n1_
             have HO920 := n2_
             have BK914 := n3_
             have HB := n4_
             have BK935 := n5_
             have GW935 := n6_
             have GE935 := n7_
             have NB914_935 := n8_
             have NB935_914 := n9_
             clear n0_ n1_ n2_ n3_ n4_ n5_ n6_ n7_ n8_ n9_
             clear hb hbox hg
             refine hK.out _ _ ⟨(blk_cell BK914.out 0).trans rfl, (blk_cell BK914.out 1).trans rfl, HS2_, HS3_⟩ (fun hHeld => ?_)
             clear hK K
             refine norm_ (a' := ?_) ?_ ?_
             rotate_left
             ·show Act.put _ (some 13) _ = _
              simp only [Act.put, List.setIfInBounds_toArray, List.set_cons_zero, List.set_cons_succ, i64_w]
              rfl
             exact norm_ (by simp only [putAll, Act.put, List.setIfInBounds_toArray, List.set_cons_zero, List.set_cons_succ]) (hCont (gb935) _ ⟨hHeld, (by (with_reducible repeat (first | apply Kd.R_alloc | apply Kd.R_drewN | apply Kd.R_drew)); exact Kd.R_mono HO920.out (fun _ hk => hk.2)), (by (with_reducible repeat (first | apply Kd.R_alloc | apply Kd.R_drewN | apply Kd.R_drew)); exact Kd.R_mono HO_8.out (fun _ hk => hk.2)), (by (with_reducible repeat (first | apply Kd.R_alloc | apply Kd.R_drewN | apply Kd.R_drew)); exact Kd.R_mono HO_9.out (fun _ hk => hk.2)), (by (with_reducible repeat (first | refine blk_drewN ?_ _ | refine blk_drew ?_ | refine blk_alloc ?_ _)); exact BK914.out), (by (with_reducible repeat (first | refine blk_drewN ?_ _ | refine blk_drew ?_ | refine blk_alloc ?_ _)); exact BK935.out), GW935.out, GE935.out, NB914_935.out, NB935_914.out, (by repeat (first | (with_reducible first | exact HB.out | apply below_alloc | apply pw_below_drewN | apply below_drew1 | refine below_set ?_ GE914.out | refine below_set ?_ GE935.out) | exact HB.out))⟩)
            ·skip
             refine box_step ?hg (N := 13) ?hd (cs := #[.int .i64 0, .int .i64 0]) (t := 88) ?hr ?_; (case hd => rfl); (case hg => rfl); (case hr => first | (go_simp; done) | (go_simp; rfl))
             intro gb935 hg w49 hbox hb
             have HS2_ := (hb.cell (World.block_lt_of_cell? _ _ (hHeld.2.2.1))).trans (hHeld.2.2.1)
             have HS3_ := (hb.cell (World.block_lt_of_cell? _ _ (hHeld.2.2.2))).trans (hHeld.2.2.2)
             have n0_ := Aside0.mk (Kd.R_below (Kd.R_elderB (by (with_reducible repeat (first | apply Kd.R_alloc | apply Kd.R_drewN | apply Kd.R_drew)); exact HO_8.out) gb935 (Nat.le_of_eq hg.symm)) hb)
             have n1_ := Aside0.mk (Kd.R_below (by (with_reducible repeat (first | apply Kd.R_alloc | apply Kd.R_drewN | apply Kd.R_drew)); exact HO_9.out) hb)
             have n2_ := Aside0.mk (Kd.R_below (by (with_reducible repeat (first | apply Kd.R_alloc | apply Kd.R_drewN | apply Kd.R_drew)); exact HO920.out) hb)
             have n3_ := Aside0.mk (blk_below (g := gb914) (o := .cells #[.int .i64 a0_0, .slice A0_1 l0_1.length c0_1] 29 (0, 0)) (by (with_reducible repeat (first | refine blk_drewN ?_ _ | refine blk_drew ?_ | refine blk_alloc ?_ _)); exact BK914.out) hb)
             have n4_ := Aside0.mk (below_step (by repeat (first | (with_reducible first | exact HB.out | apply below_alloc | apply pw_below_drewN | apply below_drew1 | refine below_set ?_ GE914.out) | exact HB.out)) hb)
             have n5_ := Aside0.mk (hbox)
             have n6_ := Aside0.mk ((by rw [hg]; exact (below_size (by repeat (first | (with_reducible first | exact HB.out | apply below_alloc | apply pw_below_drewN | apply below_drew1 | refine below_set ?_ GE914.out) | exact HB.out))) : w.heap.size ≤ gb935))
             have n7_ := Aside0.mk ((by rw [hg]; exact (below_size (by repeat (first | (with_reducible first | exact HB.out | apply below_alloc | apply pw_below_drewN | apply below_drew1 | refine below_set ?_ GE914.out) | exact HB.out))) : w.heap.size ≤ gb935))
             have n8_ := Aside0.mk ((by rw [hg]; exact Nat.ne_of_lt (blk_lt (g := gb914) (o := .cells #[.int .i64 a0_0, .slice A0_1 l0_1.length c0_1] 29 (0, 0)) (by (with_reducible repeat (first | refine blk_drewN ?_ _ | refine blk_drew ?_ | refine blk_alloc ?_ _)); exact BK914.out)) : gb914 ≠ gb935))
             have n9_ := Aside0.mk ((by rw [hg]; exact Nat.ne_of_gt (blk_lt (g := gb914) (o := .cells #[.int .i64 a0_0, .slice A0_1 l0_1.length c0_1] 29 (0, 0)) (by (with_reducible repeat (first | refine blk_drewN ?_ _ | refine blk_drew ?_ | refine blk_alloc ?_ _)); exact BK914.out)) : gb935 ≠ gb914))
             clear HO_8
             clear HO_9
             clear HO920
             clear BK914
             clear HB
             have HO_8 := n0_
             have HO_9 := n1_
             have HO920 := n2_
             have BK914 := n3_
             have HB := n4_
             have BK935 := n5_
             have GW935 := n6_
             have GE935 := n7_
             have NB914_935 := n8_
             have NB935_914 := n9_
             clear n0_ n1_ n2_ n3_ n4_ n5_ n6_ n7_ n8_ n9_
             clear hb hbox hg
             refine hK.out _ _ ⟨(blk_cell BK914.out 0).trans rfl, (blk_cell BK914.out 1).trans rfl, HS2_, HS3_⟩ (fun hHeld => ?_)
             clear hK K
             refine norm_ (a' := ?_) ?_ ?_
             rotate_left
             ·show Act.put _ (some 13) _ = _
              simp only [Act.put, List.setIfInBounds_toArray, List.set_cons_zero, List.set_cons_succ, i64_w]
              rfl
             refine one_ (i := 6) (N := some 48) (bsA 14 6143) rfl rfl (one_of HT_.out (by kernel_rfl)) (by decide) (fun K hK => ?_)
             refine goes_ Try.func125 (by kernel_rfl) rfl #[.agg #[.int .i64 a0_0, .slice A0_1 l0_1.length c0_1], .slice Ao45 x9_1.length co45, .int .i64 (rd t918 0)] (by rfl) rfl rfl (by (try simp only [List.map_toArray, List.map_cons, List.map_nil]); first | done | rfl | (simp only [List.length_drop, List.length_take]; rfl)) ?_
             with_reducible refine (spec_peWith.calls kj7 a0_0 _ _ l0_1 _ _ x9_1 (rd t918 0) t933 _ ?side1 ?side2 ?side3 ?side4 A41.out).mono ?_
             (case side1 => repeat (first | exact (Kd.C_below HR0_1.out HB.out) | (with_reducible refine Kd.C_alloc ?_ _) | (with_reducible refine Kd.C_drewN ?_ _) | (with_reducible refine Kd.C_drew ?_)))
             (case side2 => exact HC0_1.out)
             (case side3 => repeat (first | exact (Kd.R_reads' HO_9.out).2.2 | (with_reducible refine Kd.C_alloc ?_ _) | (with_reducible refine Kd.C_drewN ?_ _) | (with_reducible refine Kd.C_drew ?_)))
             (case side4 => exact (Kd.R_reads' HO_9.out).2.1)
             rintro e w50 ⟨rfl, hb⟩
             have HS2_ := (hb.cell (World.block_lt_of_cell? _ _ (hHeld.2.2.1))).trans (hHeld.2.2.1)
             have HS3_ := (hb.cell (World.block_lt_of_cell? _ _ (hHeld.2.2.2))).trans (hHeld.2.2.2)
             refine ⟨_, rfl, ?_⟩
             have n0_ := Aside0.mk (Kd.R_below (by (with_reducible repeat (first | apply Kd.R_alloc | apply Kd.R_drewN | apply Kd.R_drew)); exact HO_8.out) hb)
             have n1_ := Aside0.mk (Kd.R_below (by (with_reducible repeat (first | apply Kd.R_alloc | apply Kd.R_drewN | apply Kd.R_drew)); exact HO_9.out) hb)
             have n2_ := Aside0.mk (Kd.R_below (by (with_reducible repeat (first | apply Kd.R_alloc | apply Kd.R_drewN | apply Kd.R_drew)); exact HO920.out) hb)
             have n3_ := Aside0.mk (blk_below (g := gb914) (o := .cells #[.int .i64 a0_0, .slice A0_1 l0_1.length c0_1] 29 (0, 0)) (by (with_reducible repeat (first | refine blk_drewN ?_ _ | refine blk_drew ?_ | refine blk_alloc ?_ _)); exact BK914.out) hb)
             have n4_ := Aside0.mk (blk_below (g := gb935) (o := .cells #[.int .i64 0, .int .i64 0] 88 (0, 0)) (by (with_reducible repeat (first | refine blk_drewN ?_ _ | refine blk_drew ?_ | refine blk_alloc ?_ _)); exact BK935.out) hb)
             have n5_ := Aside0.mk (below_step (by repeat (first | (with_reducible first | exact HB.out | apply below_alloc | apply pw_below_drewN | apply below_drew1 | refine below_set ?_ GE914.out | refine below_set ?_ GE935.out) | exact HB.out)) hb)
             clear HO_8
             clear HO_9
             clear HO920
             clear BK914
             clear BK935
             clear HB
             have HO_8 := n0_
             have HO_9 := n1_
             have HO920 := n2_
             have BK914 := n3_
             have BK935 := n4_
             have HB := n5_
             clear n0_ n1_ n2_ n3_ n4_ n5_
             (try clear hb)
             (try clear hb2)
             (try clear hk)
             (try clear hi)
             refine hK.out _ _ ⟨(blk_cell BK914.out 0).trans rfl, (blk_cell BK914.out 1).trans rfl, HS2_, HS3_⟩ (fun hHeld => ?_)
             clear hK K
             refine norm_ (a' := ?_) ?_ ?_
             rotate_left
             ·show Act.put _ (some 48) _ = _
              simp only [Act.put, List.setIfInBounds_toArray, List.set_cons_zero, List.set_cons_succ, i64_w]
              rfl
             refine pq_ 11 53 14 8191 HT_.out (by kernel_rfl) ?_
             exact norm_ (by simp only [putAll, Act.put, List.setIfInBounds_toArray, List.set_cons_zero, List.set_cons_succ]) (hCont (gb935) _ ⟨hHeld, (by (with_reducible repeat (first | apply Kd.R_alloc | apply Kd.R_drewN | apply Kd.R_drew)); exact Kd.R_mono HO920.out (fun _ hk => hk.2)), (by (with_reducible repeat (first | apply Kd.R_alloc | apply Kd.R_drewN | apply Kd.R_drew)); exact Kd.R_mono HO_8.out (fun _ hk => hk.2)), (by (with_reducible repeat (first | apply Kd.R_alloc | apply Kd.R_drewN | apply Kd.R_drew)); exact Kd.R_mono HO_9.out (fun _ hk => hk.2)), (by (with_reducible repeat (first | refine blk_drewN ?_ _ | refine blk_drew ?_ | refine blk_alloc ?_ _)); exact BK914.out), (by (with_reducible repeat (first | refine blk_drewN ?_ _ | refine blk_drew ?_ | refine blk_alloc ?_ _)); exact BK935.out), GW935.out, GE935.out, NB914_935.out, NB935_914.out, (by repeat (first | (with_reducible first | exact HB.out | apply below_alloc | apply pw_below_drewN | apply below_drew1 | refine below_set ?_ GE914.out | refine below_set ?_ GE935.out) | exact HB.out))⟩)
           rintro gb935 w51 ⟨hS_, h0_, h1_, h2_, h3_, h4_, h5_, h6_, h7_, h8_, h9_⟩
           have n0_ : Aside0 (Kd.R (Kd.int .i64) 3 w51 w.heap.size (fun k_ => some k_ ≠ (.slice Ao45 x9_1.length co45 : Value).ownBlock) (.slice (some ad932) t918.length co47) t918) := ⟨h0_⟩
           have n1_ : Aside0 (Kd.R k88 88 w51 w.heap.size (fun k_ => k_ ≠ gb935) u8 x8_1) := ⟨h1_⟩
           have n2_ : Aside0 (Kd.R (Kd.int .i64) 3 w51 w.heap.size (fun k_ => some k_ ≠ (.slice (some ad932) t918.length co47 : Value).ownBlock) (.slice Ao45 x9_1.length co45) x9_1) := ⟨h2_⟩
           have n3_ : Aside0 (w51.heap[gb914]? = some (.cells #[.int .i64 a0_0, .slice A0_1 l0_1.length c0_1] 29 (0, 0))) := ⟨h3_⟩
           have n4_ : Aside0 (w51.heap[gb935]? = some (.cells #[.int .i64 0, .int .i64 0] 88 (0, 0))) := ⟨h4_⟩
           have n5_ : Aside0 (w.heap.size ≤ gb935) := ⟨h5_⟩
           have n6_ : Aside0 (w.heap.size ≤ gb935) := ⟨h6_⟩
           have n7_ : Aside0 (gb914 ≠ gb935) := ⟨h7_⟩
           have n8_ : Aside0 (gb935 ≠ gb914) := ⟨h8_⟩
           have n9_ : Aside0 (Below w.heap.size w w51) := ⟨h9_⟩
           clear HO_8
           clear HO_9
           clear HO920
           clear BK914
           clear HB
           clear h0_ h1_ h2_ h3_ h4_ h5_ h6_ h7_ h8_ h9_
           have HO920 := n0_
           have HO_8 := n1_
           have HO_9 := n2_
           have BK914 := n3_
           have BK935 := n4_
           have GW935 := n5_
           have GE935 := n6_
           have NB914_935 := n7_
           have NB935_914 := n8_
           have HB := n9_
           clear n0_ n1_ n2_ n3_ n4_ n5_ n6_ n7_ n8_ n9_
           have hHeld : w51.cell? ⟨gb914, 0, none⟩ = some (.int .i64 a0_0) ∧ w51.cell? ⟨gb914, 1, none⟩ = some (.slice A0_1 l0_1.length c0_1) ∧ w51.cell? ad932 = some (.int .i64 (rd t918 0)) ∧ w51.cell? ad932 = some (.int .i64 (rd t918 0)) := hS_
           refine norm_ (a' := ?_) ?_ ?_
           rotate_left
           ·simp only [putAll, Act.put, List.setIfInBounds_toArray, List.set_cons_zero, List.set_cons_succ]
            rfl
           refine one_ (i := 13) (N := none) (bsA 14 16383) rfl rfl (one_of HT_.out (by kernel_rfl)) (by decide) (fun K hK => ?_)
           have hs52 : w51.cell? ⟨gb935, 0, none⟩ = some (.int .i64 0) := (blk_cell BK935.out 0).trans rfl
           have hfs52 := blk_frozen BK935.out 0
           have hns52_0 := NB914_935.out
           have hms52_0 := NB935_914.out
           have hs53 : w51.cell? ⟨gb935, 1, none⟩ = some (.int .i64 0) := (blk_cell BK935.out 1).trans rfl
           have hfs53 := blk_frozen BK935.out 1
           have hns53_0 := NB914_935.out
           have hms53_0 := NB935_914.out
           refine skip_ (w1 := ?_) (by rfl) rfl ?_ ?_
           rotate_left
           ·go_simp
            rfl
           refine hK.out _ _ ⟨((cell_far (p := ⟨gb935, _, none⟩) NB914_935.out _).trans (((cell_far (p := ⟨gb935, _, none⟩) NB914_935.out _).trans (hHeld.1)))), ((cell_far (p := ⟨gb935, _, none⟩) NB914_935.out _).trans (((cell_far (p := ⟨gb935, _, none⟩) NB914_935.out _).trans (hHeld.2.1)))), ((cell_far (p := ⟨gb935, _, none⟩) (by first | exact Kd.own_blk (Kd.R_ne HO920.out BK935.out (by decide)) | (rw [add_block]; exact Kd.own_blk (Kd.R_ne HO920.out BK935.out (by decide))) | (show (Addr.add _ _).block ≠ _; rw [add_block]; exact Kd.own_blk (Kd.R_ne HO920.out BK935.out (by decide))) | (dsimp only; exact Kd.own_blk (Kd.R_ne HO920.out BK935.out (by decide)))) _).trans (((cell_far (p := ⟨gb935, _, none⟩) (by first | exact Kd.own_blk (Kd.R_ne HO920.out BK935.out (by decide)) | (rw [add_block]; exact Kd.own_blk (Kd.R_ne HO920.out BK935.out (by decide))) | (show (Addr.add _ _).block ≠ _; rw [add_block]; exact Kd.own_blk (Kd.R_ne HO920.out BK935.out (by decide))) | (dsimp only; exact Kd.own_blk (Kd.R_ne HO920.out BK935.out (by decide)))) _).trans (hHeld.2.2.1)))), ((cell_far (p := ⟨gb935, _, none⟩) (by first | exact Kd.own_blk (Kd.R_ne HO920.out BK935.out (by decide)) | (rw [add_block]; exact Kd.own_blk (Kd.R_ne HO920.out BK935.out (by decide))) | (show (Addr.add _ _).block ≠ _; rw [add_block]; exact Kd.own_blk (Kd.R_ne HO920.out BK935.out (by decide))) | (dsimp only; exact Kd.own_blk (Kd.R_ne HO920.out BK935.out (by decide)))) _).trans (((cell_far (p := ⟨gb935, _, none⟩) (by first | exact Kd.own_blk (Kd.R_ne HO920.out BK935.out (by decide)) | (rw [add_block]; exact Kd.own_blk (Kd.R_ne HO920.out BK935.out (by decide))) | (show (Addr.add _ _).block ≠ _; rw [add_block]; exact Kd.own_blk (Kd.R_ne HO920.out BK935.out (by decide))) | (dsimp only; exact Kd.own_blk (Kd.R_ne HO920.out BK935.out (by decide)))) _).trans (hHeld.2.2.2))))⟩ (fun hHeld => ?_)
           clear hK K
           refine done_ (done_of HT_.out (by kernel_rfl)) ?_
           have hnb54 := NB935_914.out
           have hnc54 := NB914_935.out
           have hcz55_0 : w51.cell? ⟨gb935, 0, none⟩ = some (.int .i64 0) := (blk_cell BK935.out 0).trans rfl
           have hcz55_1 : w51.cell? ⟨gb935, 1, none⟩ = some (.int .i64 0) := (blk_cell BK935.out 1).trans rfl
           have hfz55_0 := blk_frozen BK935.out 0
           have hfz55_1 := blk_frozen BK935.out 1
           try go_wp2_with (first | ((with_reducible refine gate_builtin (b := .append) (xs := #[.tmp 54, .tmp 56]) rfl ?_); (try (refine gate_guard (by rfl) ?_; dsimp only)); at_builtin; refine Kd.R_append k88 (w0 := w) w.heap.size rfl (.tmp 54) (.tmp 56) 58 88 (.agg #[(.int .i64 0), (.int .i64 0)]) 16 rfl Try.underlying58 info88 rfl (by decide) (by omega) u8 x8_1 (⟨t933, rd t918 0⟩ : S88) [.int .i64 t933, .int .i64 (rd t918 0)] (fun k_ => k_ ≠ gb935) (fun _ => False) rfl (by first | (go_simp; done) | (go_simp; rfl)) ?aP (fun _ hk => hk.elim) ?aF ?aO ?aB ?aS ?aL ?_; (case aP => exact k88_mkM _ _ _ (⟨t933, rd t918 0⟩ : S88)); (case aB => exact (by repeat (first | (with_reducible first | exact HB.out | apply below_alloc | apply pw_below_drewN | apply below_drew1 | refine below_set ?_ GE914.out | refine below_set ?_ GE935.out) | exact HB.out))); (case aF => exact (fun k_ hk => Kd.freshB (g := gb935) (o := .cells #[.int .i64 t933, .int .i64 (rd t918 0)] 88 (0, 0)) (by (with_reducible repeat (first | refine blk_drewN ?_ _ | refine blk_drew ?_ | refine blk_alloc ?_ _)); refine blk_put (cs := #[.int .i64 t933, .int .i64 0]) ?_ 1 _ rfl; (with_reducible repeat (first | refine blk_drewN ?_ _ | refine blk_drew ?_ | refine blk_alloc ?_ _)); refine blk_put (cs := #[.int .i64 0, .int .i64 0]) ?_ 0 _ rfl; (with_reducible repeat (first | refine blk_drewN ?_ _ | refine blk_drew ?_ | refine blk_alloc ?_ _)); exact BK935.out) k_ hk)); (case aO => exact (by (with_reducible repeat (first | apply Kd.R_alloc | apply Kd.R_drewN | apply Kd.R_drew)); exact Kd.R_mono (Kd.R_far (p := ⟨gb935, 1, none⟩) (Kd.R_far (p := ⟨gb935, 0, none⟩) (Kd.R_mono HO_8.out (fun k_ hk => (⟨hk, hk⟩ : _ ∧ k_ ≠ gb935))) (fun _ hk => hk.2) (.int .i64 t933)) (fun _ hk => hk.2) (.int .i64 (rd t918 0))) (fun _ hk => hk.1))); (case aS => exact (below_size (by repeat (first | (with_reducible first | exact HB.out | apply below_alloc | apply pw_below_drewN | apply below_drew1 | refine below_set ?_ GE914.out | refine below_set ?_ GE935.out) | exact HB.out)))); (case aL => have := LMc42.out; omega); intro v937 w56 ho hb hg hat; rw [← Ny936.out] at ho; have n0_ := Aside0.mk (Kd.R_over' (by (with_reducible repeat (first | apply Kd.R_alloc | apply Kd.R_drewN | apply Kd.R_drew)); exact (Kd.R_mono (Kd.R_far (p := ⟨gb935, 1, none⟩) (Kd.R_far (p := ⟨gb935, 0, none⟩) (Kd.R_types HO_9.out BK935.out (by decide)) (fun _ hk => hk.2) (.int .i64 t933)) (fun _ hk => hk.2) (.int .i64 (rd t918 0))) (fun _ h_ => h_.1))) (Kd.R_typed (by (with_reducible repeat (first | apply Kd.R_alloc | apply Kd.R_drewN | apply Kd.R_drew)); exact (Kd.R_mono (Kd.R_far (p := ⟨gb935, 1, none⟩) (Kd.R_far (p := ⟨gb935, 0, none⟩) (Kd.R_mono HO_8.out (fun k_ hk => (⟨hk, hk⟩ : _ ∧ k_ ≠ gb935))) (fun _ hk => hk.2) (.int .i64 t933)) (fun _ hk => hk.2) (.int .i64 (rd t918 0))) (fun _ h_ => h_.1)))) (by decide) hg); have n1_ := Aside0.mk (blk_grown (g := gb914) (o := .cells #[.int .i64 a0_0, .slice A0_1 l0_1.length c0_1] 29 (0, 0)) (by (with_reducible repeat (first | refine blk_drewN ?_ _ | refine blk_drew ?_ | refine blk_alloc ?_ _)); refine blk_far ?_ NB914_935.out _; (with_reducible repeat (first | refine blk_drewN ?_ _ | refine blk_drew ?_ | refine blk_alloc ?_ _)); refine blk_far ?_ NB914_935.out _; (with_reducible repeat (first | refine blk_drewN ?_ _ | refine blk_drew ?_ | refine blk_alloc ?_ _)); exact BK914.out) hg (Kd.R_ne HO_8.out BK914.out (by decide))); have n2_ := Aside0.mk (Kd.R_over' (by (with_reducible repeat (first | apply Kd.R_alloc | apply Kd.R_drewN | apply Kd.R_drew)); exact (Kd.R_mono (Kd.R_far (p := ⟨gb935, 1, none⟩) (Kd.R_far (p := ⟨gb935, 0, none⟩) (Kd.R_types HO920.out BK935.out (by decide)) (fun _ hk => hk.2) (.int .i64 t933)) (fun _ hk => hk.2) (.int .i64 (rd t918 0))) (fun _ h_ => h_.1))) (Kd.R_typed (by (with_reducible repeat (first | apply Kd.R_alloc | apply Kd.R_drewN | apply Kd.R_drew)); exact (Kd.R_mono (Kd.R_far (p := ⟨gb935, 1, none⟩) (Kd.R_far (p := ⟨gb935, 0, none⟩) (Kd.R_mono HO_8.out (fun k_ hk => (⟨hk, hk⟩ : _ ∧ k_ ≠ gb935))) (fun _ hk => hk.2) (.int .i64 t933)) (fun _ hk => hk.2) (.int .i64 (rd t918 0))) (fun _ h_ => h_.1)))) (by decide) hg); have n3_ := Aside0.mk (blk_grown (g := gb935) (o := .cells #[.int .i64 t933, .int .i64 (rd t918 0)] 88 (0, 0)) (by (with_reducible repeat (first | refine blk_drewN ?_ _ | refine blk_drew ?_ | refine blk_alloc ?_ _)); refine blk_put (cs := #[.int .i64 t933, .int .i64 0]) ?_ 1 _ rfl; (with_reducible repeat (first | refine blk_drewN ?_ _ | refine blk_drew ?_ | refine blk_alloc ?_ _)); refine blk_put (cs := #[.int .i64 0, .int .i64 0]) ?_ 0 _ rfl; (with_reducible repeat (first | refine blk_drewN ?_ _ | refine blk_drew ?_ | refine blk_alloc ?_ _)); exact BK935.out) hg (Kd.R_away HO_8.out (fun _ hk => hk))); have n4_ := Aside0.mk (hb); have n5_ := Aside0.mk (ho); clear HO_9; clear BK914; clear HO920; clear BK935; clear HB; clear HO_8; have HO_9 := n0_; have BK914 := n1_; have HO920 := n2_; have BK935 := n3_; have HB := n4_; have HO938 := n5_; clear n0_ n1_ n2_ n3_ n4_ n5_; clear ho hb hg hat; have hcz57_0 : w56.cell? ⟨gb935, 0, none⟩ = some (.int .i64 t933) := (blk_cell BK935.out 0).trans rfl; have hcz57_1 : w56.cell? ⟨gb935, 1, none⟩ = some (.int .i64 (rd t918 0)) := (blk_cell BK935.out 1).trans rfl; have hfz57_0 := blk_frozen BK935.out 0; have hfz57_1 := blk_frozen BK935.out 1) | ((with_reducible refine gate_callee (f := 126) rfl ?_); refine goesL_ (some 61) rfl rfl Try.func126 (by kernel_rfl) rfl #[.slice Ao45 x9_1.length co45, .int .i64 t933] rfl (by (try simp only [List.map_toArray, List.map_cons, List.map_nil]); first | done | rfl | (simp only [List.length_drop, List.length_take]; rfl)) ?_; (with_reducible refine (spec_l1Drop.calls kj7 _ _ x9_1 t933 t939 _ ?side1 ?side2 A43.out).mono ?_); (case side1 => repeat (first | exact (Kd.R_reads' HO_9.out).2.2 | (with_reducible refine Kd.C_alloc ?_ _) | (with_reducible refine Kd.C_drewN ?_ _) | (with_reducible refine Kd.C_drew ?_))); (case side2 => exact (Kd.R_reads' HO_9.out).2.1); rintro e w58 ⟨v940, rfl, ho0, hb⟩; refine ⟨_, rfl, ?_⟩; have n0_ := Aside0.mk (Kd.R_elder' (by (with_reducible repeat (first | apply Kd.R_alloc | apply Kd.R_drewN | apply Kd.R_drew)); exact HO_9.out) (Kd.R_base ho0) hb); have n1_ := Aside0.mk (Kd.R_elder' (by (with_reducible repeat (first | apply Kd.R_alloc | apply Kd.R_drewN | apply Kd.R_drew)); exact HO920.out) (Kd.R_base ho0) hb); have n2_ := Aside0.mk (Kd.R_below (by (with_reducible repeat (first | apply Kd.R_alloc | apply Kd.R_drewN | apply Kd.R_drew)); exact HO938.out) hb); have n3_ := Aside0.mk (Kd.R_lower (Kd.R_new' (Kd.R_new' ho0 (Kd.R_lt (by (with_reducible repeat (first | apply Kd.R_alloc | apply Kd.R_drewN | apply Kd.R_drew)); exact HO_9.out))) (Kd.R_lt (by (with_reducible repeat (first | apply Kd.R_alloc | apply Kd.R_drewN | apply Kd.R_drew)); exact HO920.out))) (below_size (by repeat (first | (with_reducible first | exact HB.out | apply below_alloc | apply pw_below_drewN | apply below_drew1 | refine below_set ?_ GE914.out | refine below_set ?_ GE935.out) | exact HB.out)))); have n4_ := Aside0.mk (blk_below (g := gb914) (o := .cells #[.int .i64 a0_0, .slice A0_1 l0_1.length c0_1] 29 (0, 0)) (by (with_reducible repeat (first | refine blk_drewN ?_ _ | refine blk_drew ?_ | refine blk_alloc ?_ _)); exact BK914.out) hb); have n5_ := Aside0.mk (blk_below (g := gb935) (o := .cells #[.int .i64 t933, .int .i64 (rd t918 0)] 88 (0, 0)) (by (with_reducible repeat (first | refine blk_drewN ?_ _ | refine blk_drew ?_ | refine blk_alloc ?_ _)); exact BK935.out) hb); have n6_ := Aside0.mk (below_step (by repeat (first | (with_reducible first | exact HB.out | apply below_alloc | apply pw_below_drewN | apply below_drew1 | refine below_set ?_ GE914.out | refine below_set ?_ GE935.out) | exact HB.out)) hb); clear HO_9; clear HO920; clear HO938; clear BK914; clear BK935; clear HB; have HO_9 := n0_; have HO920 := n1_; have HO938 := n2_; have HO941 := n3_; have BK914 := n4_; have BK935 := n5_; have HB := n6_; clear n0_ n1_ n2_ n3_ n4_ n5_ n6_; (try clear hb); (try clear hb2); (try clear hk); (try clear hi); (try clear ho0)))
           go_roundg kj7
           case measure => have := HK1.out; have := HJ7.out; omega
           case rel => exact ⟨(y936), (t939), (wrap64 (x10_1 + 1)), (by first | rfl | (simp; done) | (simp [*]; done)), H', ⟨by have := HK1.out; have := HJ7.out; omega⟩, ⟨by (with_reducible repeat (first | apply Kd.R_alloc | apply Kd.R_drewN | apply Kd.R_drew)); exact Kd.R_mono HO938.out (fun _ hk => trivial)⟩, ⟨by (with_reducible repeat (first | apply Kd.R_alloc | apply Kd.R_drewN | apply Kd.R_drew)); exact Kd.R_mono HO941.out (fun _ hk => trivial)⟩, ⟨by (with_reducible repeat (first | refine blk_drewN ?_ _ | refine blk_drew ?_ | refine blk_alloc ?_ _)); exact BK914.out⟩, ⟨by repeat (first | (with_reducible first | exact HB.out | apply below_alloc | apply pw_below_drewN | apply below_drew1 | refine below_set ?_ GE914.out | refine below_set ?_ GE935.out) | exact HB.out)⟩⟩
          ·rw [if_neg c42] at H
           exact absurd H (by simp)
         ·rw [if_neg c40] at H
          exact absurd H (by simp)
      ·replace c10 := Bool.eq_false_iff.mpr c10
       subst c10
       have H1 : (some (x8_1, x9_1)) = some (r1, r2) := by rw [if_neg (show ¬ (false = true) by decide)] at H; exact H
       clear H
       have H := H1
       clear H1
       simp only [Option.some.injEq, Prod.mk.injEq] at H
       obtain ⟨rfl, rfl⟩ := H
       go_wp2
       go_ret2
       exact ⟨_, _, by first | rfl | (simp [errW_none, errW_some] <;> rfl) | (simp [*, errW_none, errW_some] <;> rfl), by (with_reducible repeat (first | apply Kd.R_alloc | apply Kd.R_drewN | apply Kd.R_drew)); exact HO_8.out, by (with_reducible repeat (first | apply Kd.R_alloc | apply Kd.R_drewN | apply Kd.R_drew)); exact HO_9.out, by repeat (first | (with_reducible first | exact HB.out | apply below_alloc | apply pw_below_drewN | apply below_drew1 | refine below_set ?_ GE914.out) | exact HB.out)⟩
/-! ### impl_Hyper_singles: function 111 -/
def impl_Hyper_singles.l0 : Nat → List Int → List Int → Int → Int → Option (List Int)
  | 0, _, _, _, _ => none
  | k + 1, x5, x11, x12, x13 => if x13 < x12 then (if 0 ≤ x13 then (if x13 < (x11.length : Int) then (if (rd x11 x13) = 1 then (if x5.length < 17592186044416 then (impl_Hyper_singles.l0 k (x5 ++ [x13]) x11 x12 (wrap64 (x13 + 1))) else (none)) else (impl_Hyper_singles.l0 k x5 x11 x12 (wrap64 (x13 + 1)))) else (none)) else (none)) else (some x5)
def impl_Hyper_singles.f (k : Nat) (a0_0 : Int) (l0_1 : List (List Int)) (l1 : List Bool) : Option (List Int) := (impl_Hyper_degrees.f k a0_0 l0_1 l1).bind fun t957 => (impl_Hyper_singles.l0 k (([] : List Int)) t957 (t957.length : Int) 0)
theorem impl_Hyper_singles.mono_l : ∀ k, (∀ y0 y1 y2 y3, LeO (impl_Hyper_singles.l0 k y0 y1 y2 y3) (impl_Hyper_singles.l0 (k + 1) y0 y1 y2 y3))
  | 0 => fun _ _ _ _ r h => by simp [impl_Hyper_singles.l0] at h
  | k + 1 => by
    have ih0 := impl_Hyper_singles.mono_l k
    · intro y0 y1 y2 y3
      unfold impl_Hyper_singles.l0
      repeat' first
      | (with_reducible exact ih0 _ _ _ _)
      | (with_reducible exact impl_Hyper_degrees.mono _ _ _ _)
      | (with_reducible exact LeO.refl _)
      | (with_reducible exact LeO.none _)
      | (with_reducible refine LeO.ite ?_ ?_)
      | (with_reducible refine LeO.bind ?_ (fun _ => ?_))
      | exact ih0 _ _ _ _
      | exact impl_Hyper_degrees.mono _ _ _ _
      | exact LeO.none _
      | refine LeO.ite ?_ ?_
      | refine LeO.bind ?_ (fun _ => ?_)
theorem impl_Hyper_singles.mono : ∀ a0 a1 a2 k, LeO (impl_Hyper_singles.f k a0 a1 a2) (impl_Hyper_singles.f (k + 1) a0 a1 a2) := by
  intro a0 a1 a2 k
  have ih0 := impl_Hyper_singles.mono_l k
  unfold impl_Hyper_singles.f
  repeat' first
      | (with_reducible exact ih0 _ _ _ _)
      | (with_reducible exact impl_Hyper_degrees.mono _ _ _ _)
      | (with_reducible exact LeO.refl _)
      | (with_reducible exact LeO.none _)
      | (with_reducible refine LeO.ite ?_ ?_)
      | (with_reducible refine LeO.bind ?_ (fun _ => ?_))
      | exact ih0 _ _ _ _
      | exact impl_Hyper_degrees.mono _ _ _ _
      | exact LeO.none _
      | refine LeO.ite ?_ ?_
      | refine LeO.bind ?_ (fun _ => ?_)
noncomputable def impl_Hyper_singles.L0 (y0 : List Int) (y1 : List Int) (y2 : Int) (y3 : Int) : Option (List Int) := lim fun k => impl_Hyper_singles.l0 k y0 y1 y2 y3
theorem impl_Hyper_singles.L0_sup (y0 : List Int) (y1 : List Int) (y2 : Int) (y3 : Int) : Sup (fun k => impl_Hyper_singles.l0 k y0 y1 y2 y3) (impl_Hyper_singles.L0 y0 y1 y2 y3) := Sup.of_mono fun k => impl_Hyper_singles.mono_l k y0 y1 y2 y3
noncomputable def impl_Hyper_singles.F (a0_0 : Int) (l0_1 : List (List Int)) (l1 : List Bool) : Option (List Int) := lim fun k => impl_Hyper_singles.f k a0_0 l0_1 l1
theorem impl_Hyper_singles.F_sup (a0_0 : Int) (l0_1 : List (List Int)) (l1 : List Bool) : Sup (fun k => impl_Hyper_singles.f k a0_0 l0_1 l1) (impl_Hyper_singles.F a0_0 l0_1 l1) := Sup.of_mono fun k => impl_Hyper_singles.mono a0_0 l0_1 l1 k
theorem impl_Hyper_singles.L0_eq (x5 : List Int) (x11 : List Int) (x12 : Int) (x13 : Int) : impl_Hyper_singles.L0 x5 x11 x12 x13 = if x13 < x12 then (if 0 ≤ x13 then (if x13 < (x11.length : Int) then (if (rd x11 x13) = 1 then (if x5.length < 17592186044416 then (impl_Hyper_singles.L0 (x5 ++ [x13]) x11 x12 (wrap64 (x13 + 1))) else (none)) else (impl_Hyper_singles.L0 x5 x11 x12 (wrap64 (x13 + 1)))) else (none)) else (none)) else (some x5) := by
  refine Sup.unique (impl_Hyper_singles.L0_sup x5 x11 x12 x13) (Sup.shift (fun k => impl_Hyper_singles.mono_l k x5 x11 x12 x13) (Sup.congr (g' := fun k => if x13 < x12 then (if 0 ≤ x13 then (if x13 < (x11.length : Int) then (if (rd x11 x13) = 1 then (if x5.length < 17592186044416 then (impl_Hyper_singles.l0 k (x5 ++ [x13]) x11 x12 (wrap64 (x13 + 1))) else (none)) else (impl_Hyper_singles.l0 k x5 x11 x12 (wrap64 (x13 + 1)))) else (none)) else (none)) else (some x5)) (fun k => by first | rfl | simp only [impl_Hyper_singles.l0]) ?_))
  repeat' first
    | (with_reducible exact impl_Hyper_singles.L0_sup _ _ _ _)
    | (with_reducible exact impl_Hyper_degrees.F_sup _ _ _)
    | (with_reducible refine Sup.ite ?_ ?_)
    | (with_reducible refine Sup.bind ?_ (fun _ => ?_))
    | (with_reducible exact Sup.const _)
    | exact impl_Hyper_singles.L0_sup _ _ _ _
    | exact impl_Hyper_degrees.F_sup _ _ _
    | exact Sup.const _
theorem impl_Hyper_singles.F_eq (a0_0 : Int) (l0_1 : List (List Int)) (l1 : List Bool) : impl_Hyper_singles.F a0_0 l0_1 l1 = (impl_Hyper_degrees.F a0_0 l0_1 l1).bind fun t957 => (impl_Hyper_singles.L0 (([] : List Int)) t957 (t957.length : Int) 0) := by
  refine Sup.unique (impl_Hyper_singles.F_sup a0_0 l0_1 l1) (Sup.congr (g' := fun k => (impl_Hyper_degrees.f k a0_0 l0_1 l1).bind fun t957 => (impl_Hyper_singles.l0 k (([] : List Int)) t957 (t957.length : Int) 0)) (fun k => by first | rfl | simp only [impl_Hyper_singles.f]) ?_)
  repeat' first
    | (with_reducible exact impl_Hyper_singles.L0_sup _ _ _ _)
    | (with_reducible exact impl_Hyper_degrees.F_sup _ _ _)
    | (with_reducible refine Sup.ite ?_ ?_)
    | (with_reducible refine Sup.bind ?_ (fun _ => ?_))
    | (with_reducible exact Sup.const _)
    | exact impl_Hyper_singles.L0_sup _ _ _ _
    | exact impl_Hyper_degrees.F_sup _ _ _
    | exact Sup.const _
set_option maxHeartbeats 8000000 in
set_option maxRecDepth 100000 in
theorem impl_Hyper_singles.calls (k : Nat) (gb0_ : Nat) (a0_0 : Int) (A0_1 : Option Addr) (c0_1 : Nat) (l0_1 : List (List Int)) (A1 : Option Addr) (c1 : Nat) (l1 : List Bool) (r : List Int) (w : World) (hr0_1 : Kd.C (Kd.slice 3 (Kd.int .i64)) w A0_1 l0_1.length l0_1) (hc0_1 : l0_1.length ≤ c0_1) (hr1 : Kd.C Kd.bool w A1 l1.length l1) (hc1 : l1.length ≤ c1) (hb0_ : w.heap[gb0_]? = some (.cells #[.int .i64 a0_0, .slice A0_1 l0_1.length c0_1] 29 (0, 0))) (h : impl_Hyper_singles.f k a0_0 l0_1 l1 = some r) :
    Calls Try.prog 111 #[.pointer (some ⟨gb0_, 0, none⟩), .slice A1 l1.length c1] w fun e w' => ∃ v0_ : Value, e = .returned (v0_) ∧ Kd.R (Kd.int .i64) 3 w' w.heap.size (fun _ => True) v0_ r ∧ Below w.heap.size w w' := by
  have HR0_1 := Aside0.mk hr0_1
  have HC0_1 := Aside0.mk hc0_1
  clear hr0_1 hc0_1
  have HR1 := Aside0.mk hr1
  have HC1 := Aside0.mk hc1
  clear hr1 hc1
  have BK0 := Aside0.mk hb0_
  clear hb0_
  have HB := Aside0.mk (Below.refl w.heap.size w)
  have H : ((impl_Hyper_degrees.f k a0_0 l0_1 l1).bind fun t957 => (impl_Hyper_singles.l0 k (([] : List Int)) t957 (t957.length : Int) 0)) = some r := h
  clear h
  obtain ⟨y954, hy954⟩ : ∃ y_ : List Int, y_ = (([] : List Int)) := ⟨_, rfl⟩
  replace H : ((impl_Hyper_degrees.f k a0_0 l0_1 l1).bind fun t957 => (impl_Hyper_singles.l0 k y954 t957 (t957.length : Int) 0)) = some r := by first | (rw [hy954]; with_reducible exact H) | (have H2_ := (Option.bind_some _ _).symm.trans H; rw [hy954]; with_reducible exact H2_) | (have H2_ := (Option.bind_some _ _).symm.trans H; with_reducible exact H2_) | with_reducible exact H | (rw [hy954]; exact H) | exact H
  have Ny954 := Aside0.mk hy954
  clear hy954
  replace H := Option.bind_eq_some_iff.mp H
  obtain ⟨t957, A30, H⟩ := H
  replace H : (impl_Hyper_singles.l0 k y954 t957 (t957.length : Int) 0) = some r := H
  have A3 := Aside0.mk A30
  clear A30
  have H' := Aside0.mk H
  clear H
  go_enter Try.func111, Try.ntmps111
  go_wp2_with (first | ((with_reducible refine gate_dst (N := 8) rfl ?_); refine Kd.R_lit (Kd.int .i64) _ 3 ?hg (N := 8) ?hd (xs := ([] : List Int)) (inner := []) (ok := fun _ => True) (okp := fun _ => True) ?hr ?hp (fun _ hk => hk) trivial (Below.refl _ _) (Nat.le_refl _) (by simp) ?_; (case hd => rfl); (case hg => rfl); (case hr => first | (go_simp; done) | (go_simp; rfl)); (case hp => exact (Reps.none _ _)); intro v955 w4 ho5 hb hg_ hnew_; clear hg_ hnew_; (first | rw [← Ny954.out] at ho5 | (simp only [Int.reduceToNat] at ho5; rw [← Ny954.out] at ho5)); have n0_ := Aside0.mk (Kd.R_lower ho5 (below_size (by repeat (first | (with_reducible first | exact HB.out | apply below_alloc | apply pw_below_drewN | apply below_drew1 | refine below_set ?_ GE0.out) | exact HB.out)))); have n1_ := Aside0.mk (blk_below (g := gb0_) (o := .cells #[.int .i64 a0_0, .slice A0_1 l0_1.length c0_1] 29 (0, 0)) (by (with_reducible repeat (first | refine blk_drewN ?_ _ | refine blk_drew ?_ | refine blk_alloc ?_ _)); exact BK0.out) hb); have n2_ := Aside0.mk (below_step (by repeat (first | (with_reducible first | exact HB.out | apply below_alloc | apply pw_below_drewN | apply below_drew1 | refine below_set ?_ GE0.out) | exact HB.out)) hb); clear BK0; clear HB; have HO956 := n0_; have BK0 := n1_; have HB := n2_; clear n0_ n1_ n2_; clear hb ho5) | ((with_reducible refine gate_callee (f := 72) rfl ?_); refine goesL_ (some 11) rfl rfl Try.func72 (by kernel_rfl) rfl #[.pointer (some ⟨gb0_, 0, none⟩), .slice A1 l1.length c1] rfl (by (try simp only [List.map_toArray, List.map_cons, List.map_nil]); first | done | rfl | (simp only [List.length_drop, List.length_take]; rfl)) ?_; (with_reducible refine (impl_Hyper_degrees.calls k gb0_ a0_0 A0_1 c0_1 l0_1 _ _ l1 t957 _ ?side1 ?side2 ?side3 ?side4 ?side5 A3.out).mono ?_); (case side1 => repeat (first | exact (Kd.C_below HR0_1.out HB.out) | (with_reducible refine Kd.C_alloc ?_ _) | (with_reducible refine Kd.C_drewN ?_ _) | (with_reducible refine Kd.C_drew ?_))); (case side2 => exact HC0_1.out); (case side3 => repeat (first | exact (Kd.C_below HR1.out HB.out) | (with_reducible refine Kd.C_alloc ?_ _) | (with_reducible refine Kd.C_drewN ?_ _) | (with_reducible refine Kd.C_drew ?_))); (case side4 => exact HC1.out); (case side5 => exact (by (with_reducible repeat (first | refine blk_drewN ?_ _ | refine blk_drew ?_ | refine blk_alloc ?_ _)); exact BK0.out)); rintro e w6 ⟨v958, rfl, ho0, hb⟩; refine ⟨_, rfl, ?_⟩; have n0_ := Aside0.mk (Kd.R_elder' (by (with_reducible repeat (first | apply Kd.R_alloc | apply Kd.R_drewN | apply Kd.R_drew)); exact HO956.out) (Kd.R_base ho0) hb); have n1_ := Aside0.mk (Kd.R_lower (Kd.R_new' ho0 (Kd.R_lt (by (with_reducible repeat (first | apply Kd.R_alloc | apply Kd.R_drewN | apply Kd.R_drew)); exact HO956.out))) (below_size (by repeat (first | (with_reducible first | exact HB.out | apply below_alloc | apply pw_below_drewN | apply below_drew1 | refine below_set ?_ GE0.out) | exact HB.out)))); have n2_ := Aside0.mk (blk_below (g := gb0_) (o := .cells #[.int .i64 a0_0, .slice A0_1 l0_1.length c0_1] 29 (0, 0)) (by (with_reducible repeat (first | refine blk_drewN ?_ _ | refine blk_drew ?_ | refine blk_alloc ?_ _)); exact BK0.out) hb); have n3_ := Aside0.mk (below_step (by repeat (first | (with_reducible first | exact HB.out | apply below_alloc | apply pw_below_drewN | apply below_drew1 | refine below_set ?_ GE0.out) | exact HB.out)) hb); clear HO956; clear BK0; clear HB; have HO956 := n0_; have HO959 := n1_; have BK0 := n2_; have HB := n3_; clear n0_ n1_ n2_ n3_; (try clear hb); (try clear hb2); (try clear hk); (try clear hi); (try clear ho0); obtain ⟨Ao7, co7, eo7⟩ := Kd.R_slice HO959.out; subst eo7))
  go_loopg [5, 13] k (fun kq v5 v13 w' => ∃ (x5_1 : List Int) (x13_1 : Int), v13 = .int .i64 x13_1 ∧ Aside0 (impl_Hyper_singles.l0 kq x5_1 t957 (t957.length : Int) x13_1 = some r) ∧ Aside0 (kq ≤ k) ∧ Aside0 (Kd.R (Kd.int .i64) 3 w' w.heap.size (fun k_ => some k_ ≠ ((.slice Ao7 t957.length co7) : Value).ownBlock) v5 x5_1) ∧ Aside0 (Kd.R (Kd.int .i64) 3 w' w.heap.size (fun k_ => some k_ ≠ (v5 : Value).ownBlock) (.slice Ao7 t957.length co7) t957) ∧ Aside0 (w'.heap[gb0_]? = some (.cells #[.int .i64 a0_0, (.slice A0_1 l0_1.length c0_1)] 29 (0, 0))) ∧ Aside0 (Below w.heap.size w w'))
  case atStart => exact ⟨(y954), (0), (by first | rfl | (simp; done) | (simp [*]; done)), H', ⟨Nat.le_refl _⟩, ⟨by (with_reducible repeat (first | apply Kd.R_alloc | apply Kd.R_drewN | apply Kd.R_drew)); exact Kd.R_mono HO956.out (fun _ hk => hk.2)⟩, ⟨by (with_reducible repeat (first | apply Kd.R_alloc | apply Kd.R_drewN | apply Kd.R_drew)); exact Kd.R_mono HO959.out (fun _ hk => hk.2)⟩, ⟨by (with_reducible repeat (first | refine blk_drewN ?_ _ | refine blk_drew ?_ | refine blk_alloc ?_ _)); exact BK0.out⟩, ⟨by repeat (first | (with_reducible first | exact HB.out | apply below_alloc | apply pw_below_drewN | apply below_drew1 | refine below_set ?_ GE0.out) | exact HB.out)⟩⟩
  case round =>
   clear H'
   try clear c1
   try clear p2
   try clear c7
   obtain ⟨x5_1, x13_1, rfl, HA, HK1, HO_5, HO_11, BK0, HB⟩ := hrel
   cases gk with
   | zero => exact absurd HA.out (by simp [impl_Hyper_singles.l0])
   | succ k1 =>
    have H := HA.out
    clear HA
    simp only [impl_Hyper_singles.l0] at H
    by_cases c8 : x13_1 < (t957.length : Int)
    ·rw [if_pos c8] at H
     have c8b0 : decide (x13_1 < (t957.length : Int)) = true := decide_eq_true c8
     clear c8
     by_cases c9 : 0 ≤ x13_1
     ·rw [if_pos c9] at H
      have c9b0 : decide (0 ≤ x13_1) = true := decide_eq_true c9
      clear c9
      by_cases c10 : x13_1 < (t957.length : Int)
      ·rw [if_pos c10] at H
       have c10b0 : decide (x13_1 < (t957.length : Int)) = true := decide_eq_true c10
       clear c10
       by_cases c11 : (rd t957 x13_1) = 1
       ·rw [if_pos c11] at H
        have c11b0 : ((rd t957 x13_1) == 1) = true := beq_iff_eq.mpr c11
        have c11b1 : ((rd t957 x13_1) != 1) = false := bne_eq_false_iff_eq.mpr c11
        clear c11
        by_cases c12 : x5_1.length < 17592186044416
        ·rw [if_pos c12] at H
         have LMc12 := Aside0.mk c12
         clear c12
         obtain ⟨y961, hy961⟩ : ∃ y_ : List Int, y_ = (x5_1 ++ [x13_1]) := ⟨_, rfl⟩
         replace H : (impl_Hyper_singles.l0 k1 y961 t957 (t957.length : Int) (wrap64 (x13_1 + 1))) = some r := by first | (rw [hy961]; with_reducible exact H) | (have H2_ := (Option.bind_some _ _).symm.trans H; rw [hy961]; with_reducible exact H2_) | (have H2_ := (Option.bind_some _ _).symm.trans H; with_reducible exact H2_) | with_reducible exact H | (rw [hy961]; exact H) | exact H
         have Ny961 := Aside0.mk hy961
         clear hy961
         have H' := Aside0.mk H
         clear H
         have p960 : 0 ≤ (x13_1 : Int) := of_decide_eq_true (by first | (with_reducible assumption) | assumption)
         have q960 : x13_1 < (t957.length : Int) := of_decide_eq_true (by first | (with_reducible assumption) | assumption)
         obtain ⟨ad960, e960, hx960_0⟩ := Kd.at_int (Kd.R_reads' HO_11.out).2.2 x13_1 p960 q960
         cases e960
         replace p960 := eq_true p960
         replace q960 := eq_true q960
         go_wp2_with (first | ((with_reducible refine gate_builtin (b := .append) (xs := #[.tmp 20, .tmp 22]) rfl ?_); at_builtin; refine Kd.R_append (Kd.int .i64) (w0 := w) w.heap.size rfl (.tmp 20) (.tmp 22) 26 3 (.int .i64 0) 8 rfl Try.underlying26 info3 rfl (by decide) (by omega) u5 x5_1 x13_1 [.int .i64 x13_1] (fun k_ => some k_ ≠ (.slice (some ad960) t957.length co7 : Value).ownBlock) (fun _ => False) rfl rfl ?aP (fun _ hk => hk.elim) ?aF ?aO ?aB ?aS ?aL ?_; (case aP => exact rfl); (case aB => exact (by repeat (first | (with_reducible first | exact HB.out | apply below_alloc | apply pw_below_drewN | apply below_drew1 | refine below_set ?_ GE0.out) | exact HB.out))); (case aF => exact (fun k_ hk => Kd.fresh' (Kd.R_lt (by (with_reducible repeat (first | apply Kd.R_alloc | apply Kd.R_drewN | apply Kd.R_drew)); exact HO_11.out)) k_ hk)); (case aO => exact (by (with_reducible repeat (first | apply Kd.R_alloc | apply Kd.R_drewN | apply Kd.R_drew)); exact HO_5.out)); (case aS => exact (below_size (by repeat (first | (with_reducible first | exact HB.out | apply below_alloc | apply pw_below_drewN | apply below_drew1 | refine below_set ?_ GE0.out) | exact HB.out)))); (case aL => have := LMc12.out; omega); intro v962 w13 ho hb hg hat; rw [← Ny961.out] at ho; have n0_ := Aside0.mk (Kd.R_after (ok := (fun _ => True)) (by (with_reducible repeat (first | apply Kd.R_alloc | apply Kd.R_drewN | apply Kd.R_drew)); exact Kd.R_mono HO_11.out (fun _ hk => ⟨trivial, hk⟩)) hg hat); have n1_ := Aside0.mk (blk_grown (g := gb0_) (o := .cells #[.int .i64 a0_0, .slice A0_1 l0_1.length c0_1] 29 (0, 0)) (by (with_reducible repeat (first | refine blk_drewN ?_ _ | refine blk_drew ?_ | refine blk_alloc ?_ _)); exact BK0.out) hg (Kd.R_ne HO_5.out BK0.out (by decide))); have n2_ := Aside0.mk (hb); have n3_ := Aside0.mk (ho); clear HO_11; clear BK0; clear HB; clear HO_5; have HO_11 := n0_; have BK0 := n1_; have HB := n2_; have HO963 := n3_; clear n0_ n1_ n2_ n3_; clear ho hb hg hat))
         go_roundg k1
         case measure => have := HK1.out; omega
         case rel => exact ⟨(y961), (wrap64 (x13_1 + 1)), (by first | rfl | (simp; done) | (simp [*]; done)), H', ⟨by have := HK1.out; omega⟩, ⟨by (with_reducible repeat (first | apply Kd.R_alloc | apply Kd.R_drewN | apply Kd.R_drew)); exact HO963.out⟩, ⟨by (with_reducible repeat (first | apply Kd.R_alloc | apply Kd.R_drewN | apply Kd.R_drew)); exact Kd.R_mono HO_11.out (fun _ hk => hk.2)⟩, ⟨by (with_reducible repeat (first | refine blk_drewN ?_ _ | refine blk_drew ?_ | refine blk_alloc ?_ _)); exact BK0.out⟩, ⟨by repeat (first | (with_reducible first | exact HB.out | apply below_alloc | apply pw_below_drewN | apply below_drew1 | refine below_set ?_ GE0.out) | exact HB.out)⟩⟩
        ·rw [if_neg c12] at H
         exact absurd H (by simp)
       ·rw [if_neg c11] at H
        have c11b0 : ((rd t957 x13_1) == 1) = false := beq_eq_false_iff_ne.mpr c11
        have c11b1 : ((rd t957 x13_1) != 1) = true := bne_iff_ne.mpr c11
        have H' := Aside0.mk H
        clear H
        have p960 : 0 ≤ (x13_1 : Int) := of_decide_eq_true (by first | (with_reducible assumption) | assumption)
        have q960 : x13_1 < (t957.length : Int) := of_decide_eq_true (by first | (with_reducible assumption) | assumption)
        obtain ⟨ad960, e960, hx960_0⟩ := Kd.at_int (Kd.R_reads' HO_11.out).2.2 x13_1 p960 q960
        cases e960
        replace p960 := eq_true p960
        replace q960 := eq_true q960
        go_wp2
        go_roundg k1
        case measure => have := HK1.out; omega
        case rel => exact ⟨(x5_1), (wrap64 (x13_1 + 1)), (by first | rfl | (simp; done) | (simp [*]; done)), H', ⟨by have := HK1.out; omega⟩, ⟨by (with_reducible repeat (first | apply Kd.R_alloc | apply Kd.R_drewN | apply Kd.R_drew)); exact HO_5.out⟩, ⟨by (with_reducible repeat (first | apply Kd.R_alloc | apply Kd.R_drewN | apply Kd.R_drew)); exact HO_11.out⟩, ⟨by (with_reducible repeat (first | refine blk_drewN ?_ _ | refine blk_drew ?_ | refine blk_alloc ?_ _)); exact BK0.out⟩, ⟨by repeat (first | (with_reducible first | exact HB.out | apply below_alloc | apply pw_below_drewN | apply below_drew1 | refine below_set ?_ GE0.out) | exact HB.out)⟩⟩
      ·rw [if_neg c10] at H
       exact absurd H (by simp)
     ·rw [if_neg c9] at H
      exact absurd H (by simp)
    ·rw [if_neg c8] at H
     have c8b0 : decide (x13_1 < (t957.length : Int)) = false := decide_eq_false c8
     clear c8
     obtain rfl := Option.some.inj H
     go_wp2
     go_ret
     exact ⟨_, by first | rfl | (simp [errW_none, errW_some] <;> rfl) | (simp [*, errW_none, errW_some] <;> rfl), by (with_reducible repeat (first | apply Kd.R_alloc | apply Kd.R_drewN | apply Kd.R_drew)); exact Kd.R_mono HO_5.out (fun _ hk => trivial), by repeat (first | (with_reducible first | exact HB.out | apply below_alloc | apply pw_below_drewN | apply below_drew1 | refine below_set ?_ GE0.out) | exact HB.out)⟩
/-! ### impl_Hyper_edgeAt: function 112 -/
def impl_Hyper_edgeAt.l0 : Nat → List Bool → Int → Int → Int → List (List Int) → Option (Int)
  | 0, _, _, _, _, _ => none
  | k + 1, x1, x2, x7, x1000, x1001 => if 0 ≤ x7 then (if x7 < (x1.length : Int) then (if rdOf false x1 x7 = true then (impl_Hyper_edgeAt.l0 k x1 x2 (wrap64 (x7 + 1)) x1000 x1001) else (if x7 < (x1001.length : Int) then ((slices_Contains_int_int.f k (rd_L1 x1001 x7) x2).bind fun t966 => (if t966 = true then (some x7) else (impl_Hyper_edgeAt.l0 k x1 x2 (wrap64 (x7 + 1)) x1000 x1001))) else (none))) else (none)) else (none)
def impl_Hyper_edgeAt.f (k : Nat) (a0_0 : Int) (l0_1 : List (List Int)) (l1 : List Bool) (a2 : Int) : Option (Int) := impl_Hyper_edgeAt.l0 k l1 a2 0 a0_0 l0_1
theorem impl_Hyper_edgeAt.mono_l : ∀ k, (∀ y0 y1 y2 y3 y4, LeO (impl_Hyper_edgeAt.l0 k y0 y1 y2 y3 y4) (impl_Hyper_edgeAt.l0 (k + 1) y0 y1 y2 y3 y4))
  | 0 => fun _ _ _ _ _ r h => by simp [impl_Hyper_edgeAt.l0] at h
  | k + 1 => by
    have ih0 := impl_Hyper_edgeAt.mono_l k
    · intro y0 y1 y2 y3 y4
      unfold impl_Hyper_edgeAt.l0
      repeat' first
      | (with_reducible exact ih0 _ _ _ _ _)
      | (with_reducible exact slices_Contains_int_int.mono _ _ _)
      | (with_reducible exact LeO.refl _)
      | (with_reducible exact LeO.none _)
      | (with_reducible refine LeO.ite ?_ ?_)
      | (with_reducible refine LeO.bind ?_ (fun _ => ?_))
      | exact ih0 _ _ _ _ _
      | exact slices_Contains_int_int.mono _ _ _
      | exact LeO.none _
      | refine LeO.ite ?_ ?_
      | refine LeO.bind ?_ (fun _ => ?_)
theorem impl_Hyper_edgeAt.mono : ∀ a0 a1 a2 a3 k, LeO (impl_Hyper_edgeAt.f k a0 a1 a2 a3) (impl_Hyper_edgeAt.f (k + 1) a0 a1 a2 a3) := by
  intro a0 a1 a2 a3 k
  have ih0 := impl_Hyper_edgeAt.mono_l k
  unfold impl_Hyper_edgeAt.f
  repeat' first
      | (with_reducible exact ih0 _ _ _ _ _)
      | (with_reducible exact slices_Contains_int_int.mono _ _ _)
      | (with_reducible exact LeO.refl _)
      | (with_reducible exact LeO.none _)
      | (with_reducible refine LeO.ite ?_ ?_)
      | (with_reducible refine LeO.bind ?_ (fun _ => ?_))
      | exact ih0 _ _ _ _ _
      | exact slices_Contains_int_int.mono _ _ _
      | exact LeO.none _
      | refine LeO.ite ?_ ?_
      | refine LeO.bind ?_ (fun _ => ?_)
noncomputable def impl_Hyper_edgeAt.L0 (y0 : List Bool) (y1 : Int) (y2 : Int) (y3 : Int) (y4 : List (List Int)) : Option (Int) := lim fun k => impl_Hyper_edgeAt.l0 k y0 y1 y2 y3 y4
theorem impl_Hyper_edgeAt.L0_sup (y0 : List Bool) (y1 : Int) (y2 : Int) (y3 : Int) (y4 : List (List Int)) : Sup (fun k => impl_Hyper_edgeAt.l0 k y0 y1 y2 y3 y4) (impl_Hyper_edgeAt.L0 y0 y1 y2 y3 y4) := Sup.of_mono fun k => impl_Hyper_edgeAt.mono_l k y0 y1 y2 y3 y4
noncomputable def impl_Hyper_edgeAt.F (a0_0 : Int) (l0_1 : List (List Int)) (l1 : List Bool) (a2 : Int) : Option (Int) := lim fun k => impl_Hyper_edgeAt.f k a0_0 l0_1 l1 a2
theorem impl_Hyper_edgeAt.F_sup (a0_0 : Int) (l0_1 : List (List Int)) (l1 : List Bool) (a2 : Int) : Sup (fun k => impl_Hyper_edgeAt.f k a0_0 l0_1 l1 a2) (impl_Hyper_edgeAt.F a0_0 l0_1 l1 a2) := Sup.of_mono fun k => impl_Hyper_edgeAt.mono a0_0 l0_1 l1 a2 k
theorem impl_Hyper_edgeAt.L0_eq (x1 : List Bool) (x2 : Int) (x7 : Int) (x1000 : Int) (x1001 : List (List Int)) : impl_Hyper_edgeAt.L0 x1 x2 x7 x1000 x1001 = if 0 ≤ x7 then (if x7 < (x1.length : Int) then (if rdOf false x1 x7 = true then (impl_Hyper_edgeAt.L0 x1 x2 (wrap64 (x7 + 1)) x1000 x1001) else (if x7 < (x1001.length : Int) then ((slices_Contains_int_int.F (rd_L1 x1001 x7) x2).bind fun t966 => (if t966 = true then (some x7) else (impl_Hyper_edgeAt.L0 x1 x2 (wrap64 (x7 + 1)) x1000 x1001))) else (none))) else (none)) else (none) := by
  refine Sup.unique (impl_Hyper_edgeAt.L0_sup x1 x2 x7 x1000 x1001) (Sup.shift (fun k => impl_Hyper_edgeAt.mono_l k x1 x2 x7 x1000 x1001) (Sup.congr (g' := fun k => if 0 ≤ x7 then (if x7 < (x1.length : Int) then (if rdOf false x1 x7 = true then (impl_Hyper_edgeAt.l0 k x1 x2 (wrap64 (x7 + 1)) x1000 x1001) else (if x7 < (x1001.length : Int) then ((slices_Contains_int_int.f k (rd_L1 x1001 x7) x2).bind fun t966 => (if t966 = true then (some x7) else (impl_Hyper_edgeAt.l0 k x1 x2 (wrap64 (x7 + 1)) x1000 x1001))) else (none))) else (none)) else (none)) (fun k => by first | rfl | simp only [impl_Hyper_edgeAt.l0]) ?_))
  repeat' first
    | (with_reducible exact impl_Hyper_edgeAt.L0_sup _ _ _ _ _)
    | (with_reducible exact slices_Contains_int_int.F_sup _ _)
    | (with_reducible refine Sup.ite ?_ ?_)
    | (with_reducible refine Sup.bind ?_ (fun _ => ?_))
    | (with_reducible exact Sup.const _)
    | exact impl_Hyper_edgeAt.L0_sup _ _ _ _ _
    | exact slices_Contains_int_int.F_sup _ _
    | exact Sup.const _
theorem impl_Hyper_edgeAt.F_eq (a0_0 : Int) (l0_1 : List (List Int)) (l1 : List Bool) (a2 : Int) : impl_Hyper_edgeAt.F a0_0 l0_1 l1 a2 = impl_Hyper_edgeAt.L0 l1 a2 0 a0_0 l0_1 := by
  refine Sup.unique (impl_Hyper_edgeAt.F_sup a0_0 l0_1 l1 a2) (Sup.congr (g' := fun k => impl_Hyper_edgeAt.l0 k l1 a2 0 a0_0 l0_1) (fun k => by first | rfl | simp only [impl_Hyper_edgeAt.f]) ?_)
  repeat' first
    | (with_reducible exact impl_Hyper_edgeAt.L0_sup _ _ _ _ _)
    | (with_reducible exact slices_Contains_int_int.F_sup _ _)
    | (with_reducible refine Sup.ite ?_ ?_)
    | (with_reducible refine Sup.bind ?_ (fun _ => ?_))
    | (with_reducible exact Sup.const _)
    | exact impl_Hyper_edgeAt.L0_sup _ _ _ _ _
    | exact slices_Contains_int_int.F_sup _ _
    | exact Sup.const _
set_option maxHeartbeats 8000000 in
set_option maxRecDepth 100000 in
theorem impl_Hyper_edgeAt.calls (k : Nat) (gb0_ : Nat) (a0_0 : Int) (A0_1 : Option Addr) (c0_1 : Nat) (l0_1 : List (List Int)) (A1 : Option Addr) (c1 : Nat) (l1 : List Bool) (a2 : Int) (r : Int) (w : World) (hr0_1 : Kd.C (Kd.slice 3 (Kd.int .i64)) w A0_1 l0_1.length l0_1) (hc0_1 : l0_1.length ≤ c0_1) (hr1 : Kd.C Kd.bool w A1 l1.length l1) (hc1 : l1.length ≤ c1) (hb0_ : w.heap[gb0_]? = some (.cells #[.int .i64 a0_0, .slice A0_1 l0_1.length c0_1] 29 (0, 0))) (h : impl_Hyper_edgeAt.f k a0_0 l0_1 l1 a2 = some r) :
    Calls Try.prog 112 #[.pointer (some ⟨gb0_, 0, none⟩), .slice A1 l1.length c1, .int .i64 a2] w fun e w' => e = .returned (.int .i64 r) ∧ Drawn0 w w' := by
  have HR0_1 := Aside0.mk hr0_1
  have HC0_1 := Aside0.mk hc0_1
  clear hr0_1 hc0_1
  have HR1 := Aside0.mk hr1
  have HC1 := Aside0.mk hc1
  clear hr1 hc1
  have BK0 := Aside0.mk hb0_
  clear hb0_
  have H : (impl_Hyper_edgeAt.l0 k l1 a2 0 a0_0 l0_1) = some r := h
  clear h
  have H' := Aside0.mk H
  clear H
  go_enter Try.func112, Try.ntmps112
  go_wp2
  go_loopg [7] k (fun kq v7 w' => ∃ (x7_1 : Int), v7 = .int .i64 x7_1 ∧ Aside0 (impl_Hyper_edgeAt.l0 kq l1 a2 x7_1 a0_0 l0_1 = some r) ∧ Aside0 (kq ≤ k) ∧ Drawn0 w w')
  case atStart => exact ⟨(0), (by first | rfl | (simp; done) | (simp [*]; done)), H', ⟨Nat.le_refl _⟩, by repeat (first | exact Drawn0.refl _ | apply Drawn0.step)⟩
  case round =>
   clear H'
   try clear c1
   try clear p2
   obtain ⟨x7_1, rfl, HA, HK1, ⟨m1, rfl⟩⟩ := hrel
   cases gk with
   | zero => exact absurd HA.out (by simp [impl_Hyper_edgeAt.l0])
   | succ k1 =>
    have H := HA.out
    clear HA
    simp only [impl_Hyper_edgeAt.l0] at H
    by_cases c4 : 0 ≤ x7_1
    ·rw [if_pos c4] at H
     have c4b0 : decide (0 ≤ x7_1) = true := decide_eq_true c4
     clear c4
     by_cases c5 : x7_1 < (l1.length : Int)
     ·rw [if_pos c5] at H
      have c5b0 : decide (x7_1 < (l1.length : Int)) = true := decide_eq_true c5
      clear c5
      obtain ⟨bq6, hbq6⟩ : ∃ b_ : Bool, b_ = (rdOf false l1 x7_1) := ⟨_, rfl⟩
      replace H : (if bq6 = true then (impl_Hyper_edgeAt.l0 k1 l1 a2 (wrap64 (x7_1 + 1)) a0_0 l0_1) else (if x7_1 < (l0_1.length : Int) then ((slices_Contains_int_int.f k1 (rd_L1 l0_1 x7_1) a2).bind fun t966 => (if t966 = true then (some x7_1) else (impl_Hyper_edgeAt.l0 k1 l1 a2 (wrap64 (x7_1 + 1)) a0_0 l0_1))) else (none))) = some r := by rw [← hbq6] at H; exact H
      have Nbq6 := Aside0.mk hbq6
      clear hbq6
      by_cases c7 : bq6 = true
      ·subst c7
       have H1 : (impl_Hyper_edgeAt.l0 k1 l1 a2 (wrap64 (x7_1 + 1)) a0_0 l0_1) = some r := by rw [if_pos rfl] at H; exact H
       clear H
       have H := H1
       clear H1
       have H' := Aside0.mk H
       clear H
       have p964 : 0 ≤ (x7_1 : Int) := of_decide_eq_true (by first | (with_reducible assumption) | assumption)
       have q964 : x7_1 < (l1.length : Int) := of_decide_eq_true (by first | (with_reducible assumption) | assumption)
       obtain ⟨ad964, e964, hx964_0⟩ := Kd.at_bool HR1.out x7_1 p964 q964
       (try rw [← Nbq6.out] at hx964_0)
       cases e964
       replace p964 := eq_true p964
       replace q964 := eq_true q964
       go_wp2
       go_roundg k1
       case measure => have := HK1.out; omega
       case rel => exact ⟨(wrap64 (x7_1 + 1)), (by first | rfl | (simp; done) | (simp [*]; done)), H', ⟨by have := HK1.out; omega⟩, by repeat (first | exact Drawn0.refl _ | apply Drawn0.step)⟩
      ·replace c7 := Bool.eq_false_iff.mpr c7
       subst c7
       have H1 : (if x7_1 < (l0_1.length : Int) then ((slices_Contains_int_int.f k1 (rd_L1 l0_1 x7_1) a2).bind fun t966 => (if t966 = true then (some x7_1) else (impl_Hyper_edgeAt.l0 k1 l1 a2 (wrap64 (x7_1 + 1)) a0_0 l0_1))) else (none)) = some r := by rw [if_neg (show ¬ (false = true) by decide)] at H; exact H
       clear H
       have H := H1
       clear H1
       by_cases c8 : x7_1 < (l0_1.length : Int)
       ·rw [if_pos c8] at H
        have c8b0 : decide (x7_1 < (l0_1.length : Int)) = true := decide_eq_true c8
        clear c8
        replace H := Option.bind_eq_some_iff.mp H
        obtain ⟨t966, A90, H⟩ := H
        replace H : (if t966 = true then (some x7_1) else (impl_Hyper_edgeAt.l0 k1 l1 a2 (wrap64 (x7_1 + 1)) a0_0 l0_1)) = some r := H
        have A9 := Aside0.mk A90
        clear A90
        by_cases c10 : t966 = true
        ·subst c10
         have H1 : (some x7_1) = some r := by rw [if_pos rfl] at H; exact H
         clear H
         have H := H1
         clear H1
         obtain rfl := Option.some.inj H
         have p964 : 0 ≤ (x7_1 : Int) := of_decide_eq_true (by first | (with_reducible assumption) | assumption)
         have q964 : x7_1 < (l1.length : Int) := of_decide_eq_true (by first | (with_reducible assumption) | assumption)
         obtain ⟨ad964, e964, hx964_0⟩ := Kd.at_bool HR1.out x7_1 p964 q964
         (try rw [← Nbq6.out] at hx964_0)
         cases e964
         replace p964 := eq_true p964
         replace q964 := eq_true q964
         have hcz11_0 : w.cell? ⟨gb0_, 0, none⟩ = some (.int .i64 a0_0) := (blk_cell BK0.out 0).trans rfl
         have hcz11_1 : w.cell? ⟨gb0_, 1, none⟩ = some (.slice A0_1 l0_1.length c0_1) := (blk_cell BK0.out 1).trans rfl
         have hfz11_0 := blk_frozen BK0.out 0
         have hfz11_1 := blk_frozen BK0.out 1
         have p965 : 0 ≤ (x7_1 : Int) := of_decide_eq_true (by first | (with_reducible assumption) | assumption)
         have q965 : x7_1 < (l0_1.length : Int) := of_decide_eq_true (by first | (with_reducible assumption) | assumption)
         obtain ⟨ad965, A965_0, c965_0, e965, hx965_0, hl965_0, hi965_0⟩ := at_L1 HR0_1.out x7_1 p965 q965
         cases e965
         have HR965_0 := Aside0.mk hi965_0
         have HC965_0 := Aside0.mk hl965_0
         clear hi965_0 hl965_0
         replace p965 := eq_true p965
         replace q965 := eq_true q965
         go_wp2_with (first | (go_at_call 77; (with_reducible refine (slices_Contains_int_int.calls k1 _ _ (rd_L1 l0_1 x7_1) a2 true _ ?side1 ?side2 A9.out).mono ?_); (case side1 => repeat (first | exact HR965_0.out | (with_reducible refine Kd.C_alloc ?_ _) | (with_reducible refine Kd.C_drewN ?_ _) | (with_reducible refine Kd.C_drew ?_))); (case side2 => exact HC965_0.out); rintro e w' ⟨rfl, ⟨nd, rfl⟩⟩))
         go_ret
         exact ⟨by first | rfl | (simp; done) | (simp [*]; done), by repeat (first | exact Drawn0.refl _ | apply Drawn0.step)⟩
        ·replace c10 := Bool.eq_false_iff.mpr c10
         subst c10
         have H1 : (impl_Hyper_edgeAt.l0 k1 l1 a2 (wrap64 (x7_1 + 1)) a0_0 l0_1) = some r := by rw [if_neg (show ¬ (false = true) by decide)] at H; exact H
         clear H
         have H := H1
         clear H1
         have H' := Aside0.mk H
         clear H
         have p964 : 0 ≤ (x7_1 : Int) := of_decide_eq_true (by first | (with_reducible assumption) | assumption)
         have q964 : x7_1 < (l1.length : Int) := of_decide_eq_true (by first | (with_reducible assumption) | assumption)
         obtain ⟨ad964, e964, hx964_0⟩ := Kd.at_bool HR1.out x7_1 p964 q964
         (try rw [← Nbq6.out] at hx964_0)
         cases e964
         replace p964 := eq_true p964
         replace q964 := eq_true q964
         have hcz12_0 : w.cell? ⟨gb0_, 0, none⟩ = some (.int .i64 a0_0) := (blk_cell BK0.out 0).trans rfl
         have hcz12_1 : w.cell? ⟨gb0_, 1, none⟩ = some (.slice A0_1 l0_1.length c0_1) := (blk_cell BK0.out 1).trans rfl
         have hfz12_0 := blk_frozen BK0.out 0
         have hfz12_1 := blk_frozen BK0.out 1
         have p965 : 0 ≤ (x7_1 : Int) := of_decide_eq_true (by first | (with_reducible assumption) | assumption)
         have q965 : x7_1 < (l0_1.length : Int) := of_decide_eq_true (by first | (with_reducible assumption) | assumption)
         obtain ⟨ad965, A965_0, c965_0, e965, hx965_0, hl965_0, hi965_0⟩ := at_L1 HR0_1.out x7_1 p965 q965
         cases e965
         have HR965_0 := Aside0.mk hi965_0
         have HC965_0 := Aside0.mk hl965_0
         clear hi965_0 hl965_0
         replace p965 := eq_true p965
         replace q965 := eq_true q965
         go_wp2_with (first | (go_at_call 77; (with_reducible refine (slices_Contains_int_int.calls k1 _ _ (rd_L1 l0_1 x7_1) a2 false _ ?side1 ?side2 A9.out).mono ?_); (case side1 => repeat (first | exact HR965_0.out | (with_reducible refine Kd.C_alloc ?_ _) | (with_reducible refine Kd.C_drewN ?_ _) | (with_reducible refine Kd.C_drew ?_))); (case side2 => exact HC965_0.out); rintro e w' ⟨rfl, ⟨nd, rfl⟩⟩))
         go_roundg k1
         case measure => have := HK1.out; omega
         case rel => exact ⟨(wrap64 (x7_1 + 1)), (by first | rfl | (simp; done) | (simp [*]; done)), H', ⟨by have := HK1.out; omega⟩, by repeat (first | exact Drawn0.refl _ | apply Drawn0.step)⟩
       ·rw [if_neg c8] at H
        exact absurd H (by simp)
     ·rw [if_neg c5] at H
      exact absurd H (by simp)
    ·rw [if_neg c4] at H
     exact absurd H (by simp)
/-! ### impl_Hyper_peel: function 105 -/
def impl_Hyper_peel.l0 : Nat → List (S88) → List Bool → Int → List (List Int) → Option ((List (S88)) × List Int)
  | 0, _, _, _, _ => none
  | k + 1, x4, x5, x1000, x1001 => (impl_Hyper_singles.f k x1000 x1001 x5).bind fun t973 => (if (t973.length : Int) = 0 then ((impl_left.f k x5).bind fun t976 => (some (x4, t976))) else (if 0 < (t973.length : Int) then ((impl_Hyper_edgeAt.f k x1000 x1001 x5 (rd t973 0)).bind fun t980 => (if 0 ≤ t980 then (if t980 < (x5.length : Int) then (if x4.length < 8796093022208 then (impl_Hyper_peel.l0 k (x4 ++ [(⟨t980, rd t973 0⟩ : S88)]) (x5.set (t980 : Int).toNat true) x1000 x1001) else (none)) else (none)) else (none))) else (none)))
def impl_Hyper_peel.f (k : Nat) (a0_0 : Int) (l0_1 : List (List Int)) : Option ((List (S88)) × List Int) := (impl_Hyper_none.f a0_0 l0_1).bind fun t970 => (impl_Hyper_peel.l0 k (([] : List (S88))) t970 a0_0 l0_1)
theorem impl_Hyper_peel.mono_l : ∀ k, (∀ y0 y1 y2 y3, LeO (impl_Hyper_peel.l0 k y0 y1 y2 y3) (impl_Hyper_peel.l0 (k + 1) y0 y1 y2 y3))
  | 0 => fun _ _ _ _ r h => by simp [impl_Hyper_peel.l0] at h
  | k + 1 => by
    have ih0 := impl_Hyper_peel.mono_l k
    · intro y0 y1 y2 y3
      unfold impl_Hyper_peel.l0
      repeat' first
      | (with_reducible exact ih0 _ _ _ _)
      | (with_reducible exact impl_Hyper_edgeAt.mono _ _ _ _ _)
      | (with_reducible exact impl_Hyper_singles.mono _ _ _ _)
      | (with_reducible exact impl_left.mono _ _)
      | (with_reducible exact LeO.refl _)
      | (with_reducible exact LeO.none _)
      | (with_reducible refine LeO.ite ?_ ?_)
      | (with_reducible refine LeO.bind ?_ (fun _ => ?_))
      | exact ih0 _ _ _ _
      | exact impl_Hyper_edgeAt.mono _ _ _ _ _
      | exact impl_Hyper_singles.mono _ _ _ _
      | exact impl_left.mono _ _
      | exact LeO.none _
      | refine LeO.ite ?_ ?_
      | refine LeO.bind ?_ (fun _ => ?_)
theorem impl_Hyper_peel.mono : ∀ a0 a1 k, LeO (impl_Hyper_peel.f k a0 a1) (impl_Hyper_peel.f (k + 1) a0 a1) := by
  intro a0 a1 k
  have ih0 := impl_Hyper_peel.mono_l k
  unfold impl_Hyper_peel.f
  repeat' first
      | (with_reducible exact ih0 _ _ _ _)
      | (with_reducible exact impl_Hyper_edgeAt.mono _ _ _ _ _)
      | (with_reducible exact impl_Hyper_singles.mono _ _ _ _)
      | (with_reducible exact impl_left.mono _ _)
      | (with_reducible exact LeO.refl _)
      | (with_reducible exact LeO.none _)
      | (with_reducible refine LeO.ite ?_ ?_)
      | (with_reducible refine LeO.bind ?_ (fun _ => ?_))
      | exact ih0 _ _ _ _
      | exact impl_Hyper_edgeAt.mono _ _ _ _ _
      | exact impl_Hyper_singles.mono _ _ _ _
      | exact impl_left.mono _ _
      | exact LeO.none _
      | refine LeO.ite ?_ ?_
      | refine LeO.bind ?_ (fun _ => ?_)
noncomputable def impl_Hyper_peel.L0 (y0 : List (S88)) (y1 : List Bool) (y2 : Int) (y3 : List (List Int)) : Option ((List (S88)) × List Int) := lim fun k => impl_Hyper_peel.l0 k y0 y1 y2 y3
theorem impl_Hyper_peel.L0_sup (y0 : List (S88)) (y1 : List Bool) (y2 : Int) (y3 : List (List Int)) : Sup (fun k => impl_Hyper_peel.l0 k y0 y1 y2 y3) (impl_Hyper_peel.L0 y0 y1 y2 y3) := Sup.of_mono fun k => impl_Hyper_peel.mono_l k y0 y1 y2 y3
noncomputable def impl_Hyper_peel.F (a0_0 : Int) (l0_1 : List (List Int)) : Option ((List (S88)) × List Int) := lim fun k => impl_Hyper_peel.f k a0_0 l0_1
theorem impl_Hyper_peel.F_sup (a0_0 : Int) (l0_1 : List (List Int)) : Sup (fun k => impl_Hyper_peel.f k a0_0 l0_1) (impl_Hyper_peel.F a0_0 l0_1) := Sup.of_mono fun k => impl_Hyper_peel.mono a0_0 l0_1 k
theorem impl_Hyper_peel.L0_eq (x4 : List (S88)) (x5 : List Bool) (x1000 : Int) (x1001 : List (List Int)) : impl_Hyper_peel.L0 x4 x5 x1000 x1001 = (impl_Hyper_singles.F x1000 x1001 x5).bind fun t973 => (if (t973.length : Int) = 0 then ((impl_left.F x5).bind fun t976 => (some (x4, t976))) else (if 0 < (t973.length : Int) then ((impl_Hyper_edgeAt.F x1000 x1001 x5 (rd t973 0)).bind fun t980 => (if 0 ≤ t980 then (if t980 < (x5.length : Int) then (if x4.length < 8796093022208 then (impl_Hyper_peel.L0 (x4 ++ [(⟨t980, rd t973 0⟩ : S88)]) (x5.set (t980 : Int).toNat true) x1000 x1001) else (none)) else (none)) else (none))) else (none))) := by
  refine Sup.unique (impl_Hyper_peel.L0_sup x4 x5 x1000 x1001) (Sup.shift (fun k => impl_Hyper_peel.mono_l k x4 x5 x1000 x1001) (Sup.congr (g' := fun k => (impl_Hyper_singles.f k x1000 x1001 x5).bind fun t973 => (if (t973.length : Int) = 0 then ((impl_left.f k x5).bind fun t976 => (some (x4, t976))) else (if 0 < (t973.length : Int) then ((impl_Hyper_edgeAt.f k x1000 x1001 x5 (rd t973 0)).bind fun t980 => (if 0 ≤ t980 then (if t980 < (x5.length : Int) then (if x4.length < 8796093022208 then (impl_Hyper_peel.l0 k (x4 ++ [(⟨t980, rd t973 0⟩ : S88)]) (x5.set (t980 : Int).toNat true) x1000 x1001) else (none)) else (none)) else (none))) else (none)))) (fun k => by first | rfl | simp only [impl_Hyper_peel.l0]) ?_))
  repeat' first
    | (with_reducible exact impl_Hyper_peel.L0_sup _ _ _ _)
    | (with_reducible exact impl_left.F_sup _)
    | (with_reducible exact impl_Hyper_singles.F_sup _ _ _)
    | (with_reducible exact impl_Hyper_edgeAt.F_sup _ _ _ _)
    | (with_reducible refine Sup.ite ?_ ?_)
    | (with_reducible refine Sup.bind ?_ (fun _ => ?_))
    | (with_reducible exact Sup.const _)
    | exact impl_Hyper_peel.L0_sup _ _ _ _
    | exact impl_left.F_sup _
    | exact impl_Hyper_singles.F_sup _ _ _
    | exact impl_Hyper_edgeAt.F_sup _ _ _ _
    | exact Sup.const _
theorem impl_Hyper_peel.F_eq (a0_0 : Int) (l0_1 : List (List Int)) : impl_Hyper_peel.F a0_0 l0_1 = (impl_Hyper_none.f a0_0 l0_1).bind fun t970 => (impl_Hyper_peel.L0 (([] : List (S88))) t970 a0_0 l0_1) := by
  refine Sup.unique (impl_Hyper_peel.F_sup a0_0 l0_1) (Sup.congr (g' := fun k => (impl_Hyper_none.f a0_0 l0_1).bind fun t970 => (impl_Hyper_peel.l0 k (([] : List (S88))) t970 a0_0 l0_1)) (fun k => by first | rfl | simp only [impl_Hyper_peel.f]) ?_)
  repeat' first
    | (with_reducible exact impl_Hyper_peel.L0_sup _ _ _ _)
    | (with_reducible exact impl_left.F_sup _)
    | (with_reducible exact impl_Hyper_singles.F_sup _ _ _)
    | (with_reducible exact impl_Hyper_edgeAt.F_sup _ _ _ _)
    | (with_reducible refine Sup.ite ?_ ?_)
    | (with_reducible refine Sup.bind ?_ (fun _ => ?_))
    | (with_reducible exact Sup.const _)
    | exact impl_Hyper_peel.L0_sup _ _ _ _
    | exact impl_left.F_sup _
    | exact impl_Hyper_singles.F_sup _ _ _
    | exact impl_Hyper_edgeAt.F_sup _ _ _ _
    | exact Sup.const _
set_option maxHeartbeats 8000000 in
set_option maxRecDepth 100000 in
theorem impl_Hyper_peel.calls (k : Nat) (gb0_ : Nat) (a0_0 : Int) (A0_1 : Option Addr) (c0_1 : Nat) (l0_1 : List (List Int)) (r1 : List (S88)) (r2 : List Int) (w : World) (hr0_1 : Kd.C (Kd.slice 3 (Kd.int .i64)) w A0_1 l0_1.length l0_1) (hc0_1 : l0_1.length ≤ c0_1) (hb0_ : w.heap[gb0_]? = some (.cells #[.int .i64 a0_0, .slice A0_1 l0_1.length c0_1] 29 (0, 0))) (h : impl_Hyper_peel.f k a0_0 l0_1 = some (r1, r2)) :
    Calls Try.prog 105 #[.pointer (some ⟨gb0_, 0, none⟩)] w fun e w' => ∃ v0_ v1_ : Value, e = .returned (.tuple #[v0_, v1_]) ∧ Kd.R k88 88 w' w.heap.size (fun _ => True) v0_ r1 ∧ Kd.R (Kd.int .i64) 3 w' w.heap.size (fun _ => True) v1_ r2 ∧ Below w.heap.size w w' := by
  have hu88 := Try.underlying88
  have HR0_1 := Aside0.mk hr0_1
  have HC0_1 := Aside0.mk hc0_1
  clear hr0_1 hc0_1
  have BK0 := Aside0.mk hb0_
  clear hb0_
  have HB := Aside0.mk (Below.refl w.heap.size w)
  have H : ((impl_Hyper_none.f a0_0 l0_1).bind fun t970 => (impl_Hyper_peel.l0 k (([] : List (S88))) t970 a0_0 l0_1)) = some (r1, r2) := h
  clear h
  obtain ⟨y967, hy967⟩ : ∃ y_ : List (S88), y_ = (([] : List (S88))) := ⟨_, rfl⟩
  replace H : ((impl_Hyper_none.f a0_0 l0_1).bind fun t970 => (impl_Hyper_peel.l0 k y967 t970 a0_0 l0_1)) = some (r1, r2) := by first | (rw [hy967]; with_reducible exact H) | (have H2_ := (Option.bind_some _ _).symm.trans H; rw [hy967]; with_reducible exact H2_) | (have H2_ := (Option.bind_some _ _).symm.trans H; with_reducible exact H2_) | with_reducible exact H | (rw [hy967]; exact H) | exact H
  have Ny967 := Aside0.mk hy967
  clear hy967
  replace H := Option.bind_eq_some_iff.mp H
  obtain ⟨t970, A20, H⟩ := H
  replace H : (impl_Hyper_peel.l0 k y967 t970 a0_0 l0_1) = some (r1, r2) := H
  have A2 := Aside0.mk A20
  clear A20
  have H' := Aside0.mk H
  clear H
  go_enter Try.func105, Try.ntmps105
  go_wp2_with (first | ((with_reducible refine gate_dst (N := 8) rfl ?_); refine Kd.R_lit k88 _ 88 ?hg (N := 8) ?hd (xs := ([] : List (S88))) (inner := []) (ok := fun _ => True) (okp := fun _ => True) ?hr ?hp (fun _ hk => hk) trivial (Below.refl _ _) (Nat.le_refl _) (by simp) ?_; (case hd => rfl); (case hg => rfl); (case hr => first | (go_simp; done) | (go_simp; rfl)); (case hp => exact (Reps.none _ _)); intro v968 w3 ho4 hb hg_ hnew_; clear hg_ hnew_; (first | rw [← Ny967.out] at ho4 | (simp only [Int.reduceToNat] at ho4; rw [← Ny967.out] at ho4)); have n0_ := Aside0.mk (Kd.R_lower ho4 (below_size (by repeat (first | (with_reducible first | exact HB.out | apply below_alloc | apply pw_below_drewN | apply below_drew1 | refine below_set ?_ GE0.out) | exact HB.out)))); have n1_ := Aside0.mk (blk_below (g := gb0_) (o := .cells #[.int .i64 a0_0, .slice A0_1 l0_1.length c0_1] 29 (0, 0)) (by (with_reducible repeat (first | refine blk_drewN ?_ _ | refine blk_drew ?_ | refine blk_alloc ?_ _)); exact BK0.out) hb); have n2_ := Aside0.mk (below_step (by repeat (first | (with_reducible first | exact HB.out | apply below_alloc | apply pw_below_drewN | apply below_drew1 | refine below_set ?_ GE0.out) | exact HB.out)) hb); clear BK0; clear HB; have HO969 := n0_; have BK0 := n1_; have HB := n2_; clear n0_ n1_ n2_; clear hb ho4) | ((with_reducible refine gate_callee (f := 73) rfl ?_); refine goesL_ (some 10) rfl rfl Try.func73 (by kernel_rfl) rfl #[.pointer (some ⟨gb0_, 0, none⟩)] rfl (by (try simp only [List.map_toArray, List.map_cons, List.map_nil]); first | done | rfl | (simp only [List.length_drop, List.length_take]; rfl)) ?_; (with_reducible refine (impl_Hyper_none.calls gb0_ a0_0 A0_1 c0_1 l0_1 t970 _ ?side1 ?side2 ?side3 A2.out).mono ?_); (case side1 => repeat (first | exact (Kd.C_below HR0_1.out HB.out) | (with_reducible refine Kd.C_alloc ?_ _) | (with_reducible refine Kd.C_drewN ?_ _) | (with_reducible refine Kd.C_drew ?_))); (case side2 => exact HC0_1.out); (case side3 => exact (by (with_reducible repeat (first | refine blk_drewN ?_ _ | refine blk_drew ?_ | refine blk_alloc ?_ _)); exact BK0.out)); rintro e w5 ⟨v971, rfl, ho0, hb⟩; refine ⟨_, rfl, ?_⟩; have n0_ := Aside0.mk (Kd.R_below (by (with_reducible repeat (first | apply Kd.R_alloc | apply Kd.R_drewN | apply Kd.R_drew)); exact HO969.out) hb); have n1_ := Aside0.mk (Kd.R_lower ho0 (below_size (by repeat (first | (with_reducible first | exact HB.out | apply below_alloc | apply pw_below_drewN | apply below_drew1 | refine below_set ?_ GE0.out) | exact HB.out)))); have n2_ := Aside0.mk (blk_below (g := gb0_) (o := .cells #[.int .i64 a0_0, .slice A0_1 l0_1.length c0_1] 29 (0, 0)) (by (with_reducible repeat (first | refine blk_drewN ?_ _ | refine blk_drew ?_ | refine blk_alloc ?_ _)); exact BK0.out) hb); have n3_ := Aside0.mk (below_step (by repeat (first | (with_reducible first | exact HB.out | apply below_alloc | apply pw_below_drewN | apply below_drew1 | refine below_set ?_ GE0.out) | exact HB.out)) hb); clear HO969; clear BK0; clear HB; have HO969 := n0_; have HO972 := n1_; have BK0 := n2_; have HB := n3_; clear n0_ n1_ n2_ n3_; (try clear hb); (try clear hb2); (try clear hk); (try clear hi); (try clear ho0)))
  go_loopg [4] k (fun kq v4 w' => ∃ (x4_1 : List (S88)) (x5_1 : List Bool), Aside0 (impl_Hyper_peel.l0 kq x4_1 x5_1 a0_0 l0_1 = some (r1, r2)) ∧ Aside0 (kq ≤ k) ∧ Aside0 (Kd.R k88 88 w' w.heap.size (fun _ => True) v4 x4_1) ∧ Aside0 (Kd.R Kd.bool 4 w' w.heap.size (fun _ => True) v971 x5_1) ∧ Aside0 (w'.heap[gb0_]? = some (.cells #[.int .i64 a0_0, (.slice A0_1 l0_1.length c0_1)] 29 (0, 0))) ∧ Aside0 (Below w.heap.size w w'))
  case atStart => exact ⟨(y967), (t970), H', ⟨Nat.le_refl _⟩, ⟨by (with_reducible repeat (first | apply Kd.R_alloc | apply Kd.R_drewN | apply Kd.R_drew)); exact HO969.out⟩, ⟨by (with_reducible repeat (first | apply Kd.R_alloc | apply Kd.R_drewN | apply Kd.R_drew)); exact HO972.out⟩, ⟨by (with_reducible repeat (first | refine blk_drewN ?_ _ | refine blk_drew ?_ | refine blk_alloc ?_ _)); exact BK0.out⟩, ⟨by repeat (first | (with_reducible first | exact HB.out | apply below_alloc | apply pw_below_drewN | apply below_drew1 | refine below_set ?_ GE0.out) | exact HB.out)⟩⟩
  case round =>
   clear H'
   try clear c1
   try clear p2
   obtain ⟨x4_1, x5_1, HA, HK1, HO_4, HO_5, BK0, HB⟩ := hrel
   cases gk with
   | zero => exact absurd HA.out (by simp [impl_Hyper_peel.l0])
   | succ k1 =>
    have H := HA.out
    clear HA
    simp only [impl_Hyper_peel.l0] at H
    replace H := Option.bind_eq_some_iff.mp H
    obtain ⟨t973, A60, H⟩ := H
    replace H : (if (t973.length : Int) = 0 then ((impl_left.f k1 x5_1).bind fun t976 => (some (x4_1, t976))) else (if 0 < (t973.length : Int) then ((impl_Hyper_edgeAt.f k1 a0_0 l0_1 x5_1 (rd t973 0)).bind fun t980 => (if 0 ≤ t980 then (if t980 < (x5_1.length : Int) then (if x4_1.length < 8796093022208 then (impl_Hyper_peel.l0 k1 (x4_1 ++ [(⟨t980, rd t973 0⟩ : S88)]) (x5_1.set (t980 : Int).toNat true) a0_0 l0_1) else (none)) else (none)) else (none))) else (none))) = some (r1, r2) := H
    have A6 := Aside0.mk A60
    clear A60
    by_cases c7 : (t973.length : Int) = 0
    ·rw [if_pos c7] at H
     have c7b0 : ((t973.length : Int) == 0) = true := beq_iff_eq.mpr c7
     have c7b1 : ((t973.length : Int) != 0) = false := bne_eq_false_iff_eq.mpr c7
     clear c7
     replace H := Option.bind_eq_some_iff.mp H
     obtain ⟨t976, A80, H⟩ := H
     replace H : (some (x4_1, t976)) = some (r1, r2) := H
     have A8 := Aside0.mk A80
     clear A80
     simp only [Option.some.injEq, Prod.mk.injEq] at H
     obtain ⟨rfl, rfl⟩ := H
     obtain ⟨Ao9, co9, eo9⟩ := Kd.R_slice HO_5.out
     subst eo9
     go_wp2_with (first | ((with_reducible refine gate_callee (f := 111) rfl ?_); refine goesL_ (some 13) rfl rfl Try.func111 (by kernel_rfl) rfl #[.pointer (some ⟨gb0_, 0, none⟩), .slice Ao9 x5_1.length co9] rfl (by (try simp only [List.map_toArray, List.map_cons, List.map_nil]); first | done | rfl | (simp only [List.length_drop, List.length_take]; rfl)) ?_; (with_reducible refine (impl_Hyper_singles.calls k1 gb0_ a0_0 A0_1 c0_1 l0_1 _ _ x5_1 t973 _ ?side1 ?side2 ?side3 ?side4 ?side5 A6.out).mono ?_); (case side1 => repeat (first | exact (Kd.C_below HR0_1.out HB.out) | (with_reducible refine Kd.C_alloc ?_ _) | (with_reducible refine Kd.C_drewN ?_ _) | (with_reducible refine Kd.C_drew ?_))); (case side2 => exact HC0_1.out); (case side3 => repeat (first | exact (Kd.R_reads' HO_5.out).2.2 | (with_reducible refine Kd.C_alloc ?_ _) | (with_reducible refine Kd.C_drewN ?_ _) | (with_reducible refine Kd.C_drew ?_))); (case side4 => exact (Kd.R_reads' HO_5.out).2.1); (case side5 => exact (by (with_reducible repeat (first | refine blk_drewN ?_ _ | refine blk_drew ?_ | refine blk_alloc ?_ _)); exact BK0.out)); rintro e w10 ⟨v974, rfl, ho0, hb⟩; refine ⟨_, rfl, ?_⟩; have n0_ := Aside0.mk (Kd.R_below (by (with_reducible repeat (first | apply Kd.R_alloc | apply Kd.R_drewN | apply Kd.R_drew)); exact HO_4.out) hb); have n1_ := Aside0.mk (Kd.R_below (by (with_reducible repeat (first | apply Kd.R_alloc | apply Kd.R_drewN | apply Kd.R_drew)); exact HO_5.out) hb); have n2_ := Aside0.mk (Kd.R_lower ho0 (below_size (by repeat (first | (with_reducible first | exact HB.out | apply below_alloc | apply pw_below_drewN | apply below_drew1 | refine below_set ?_ GE0.out) | exact HB.out)))); have n3_ := Aside0.mk (blk_below (g := gb0_) (o := .cells #[.int .i64 a0_0, .slice A0_1 l0_1.length c0_1] 29 (0, 0)) (by (with_reducible repeat (first | refine blk_drewN ?_ _ | refine blk_drew ?_ | refine blk_alloc ?_ _)); exact BK0.out) hb); have n4_ := Aside0.mk (below_step (by repeat (first | (with_reducible first | exact HB.out | apply below_alloc | apply pw_below_drewN | apply below_drew1 | refine below_set ?_ GE0.out) | exact HB.out)) hb); clear HO_4; clear HO_5; clear BK0; clear HB; have HO_4 := n0_; have HO_5 := n1_; have HO975 := n2_; have BK0 := n3_; have HB := n4_; clear n0_ n1_ n2_ n3_ n4_; (try clear hb); (try clear hb2); (try clear hk); (try clear hi); (try clear ho0); obtain ⟨Ao11, co11, eo11⟩ := Kd.R_slice HO975.out; subst eo11) | ((with_reducible refine gate_callee (f := 102) rfl ?_); refine goesL_ (some 19) rfl rfl Try.func102 (by kernel_rfl) rfl #[.slice Ao9 x5_1.length co9] rfl (by (try simp only [List.map_toArray, List.map_cons, List.map_nil]); first | done | rfl | (simp only [List.length_drop, List.length_take]; rfl)) ?_; (with_reducible refine (impl_left.calls k1 _ _ x5_1 t976 _ ?side1 ?side2 A8.out).mono ?_); (case side1 => repeat (first | exact (Kd.R_reads' HO_5.out).2.2 | (with_reducible refine Kd.C_alloc ?_ _) | (with_reducible refine Kd.C_drewN ?_ _) | (with_reducible refine Kd.C_drew ?_))); (case side2 => exact (Kd.R_reads' HO_5.out).2.1); rintro e w12 ⟨v977, rfl, ho0, hb⟩; refine ⟨_, rfl, ?_⟩; have n0_ := Aside0.mk (Kd.R_below (by (with_reducible repeat (first | apply Kd.R_alloc | apply Kd.R_drewN | apply Kd.R_drew)); exact HO_4.out) hb); have n1_ := Aside0.mk (Kd.R_below (by (with_reducible repeat (first | apply Kd.R_alloc | apply Kd.R_drewN | apply Kd.R_drew)); exact HO_5.out) hb); have n2_ := Aside0.mk (Kd.R_elder' (by (with_reducible repeat (first | apply Kd.R_alloc | apply Kd.R_drewN | apply Kd.R_drew)); exact HO975.out) (Kd.R_base ho0) hb); have n3_ := Aside0.mk (Kd.R_lower (Kd.R_new' ho0 (Kd.R_lt (by (with_reducible repeat (first | apply Kd.R_alloc | apply Kd.R_drewN | apply Kd.R_drew)); exact HO975.out))) (below_size (by repeat (first | (with_reducible first | exact HB.out | apply below_alloc | apply pw_below_drewN | apply below_drew1 | refine below_set ?_ GE0.out) | exact HB.out)))); have n4_ := Aside0.mk (blk_below (g := gb0_) (o := .cells #[.int .i64 a0_0, .slice A0_1 l0_1.length c0_1] 29 (0, 0)) (by (with_reducible repeat (first | refine blk_drewN ?_ _ | refine blk_drew ?_ | refine blk_alloc ?_ _)); exact BK0.out) hb); have n5_ := Aside0.mk (below_step (by repeat (first | (with_reducible first | exact HB.out | apply below_alloc | apply pw_below_drewN | apply below_drew1 | refine below_set ?_ GE0.out) | exact HB.out)) hb); clear HO_4; clear HO_5; clear HO975; clear BK0; clear HB; have HO_4 := n0_; have HO_5 := n1_; have HO975 := n2_; have HO978 := n3_; have BK0 := n4_; have HB := n5_; clear n0_ n1_ n2_ n3_ n4_ n5_; (try clear hb); (try clear hb2); (try clear hk); (try clear hi); (try clear ho0)))
     go_ret2
     exact ⟨_, _, by first | rfl | (simp [errW_none, errW_some] <;> rfl) | (simp [*, errW_none, errW_some] <;> rfl), by (with_reducible repeat (first | apply Kd.R_alloc | apply Kd.R_drewN | apply Kd.R_drew)); exact HO_4.out, by (with_reducible repeat (first | apply Kd.R_alloc | apply Kd.R_drewN | apply Kd.R_drew)); exact Kd.R_mono HO978.out (fun _ hk => trivial), by repeat (first | (with_reducible first | exact HB.out | apply below_alloc | apply pw_below_drewN | apply below_drew1 | refine below_set ?_ GE0.out) | exact HB.out)⟩
    ·rw [if_neg c7] at H
     have c7b0 : ((t973.length : Int) == 0) = false := beq_eq_false_iff_ne.mpr c7
     have c7b1 : ((t973.length : Int) != 0) = true := bne_iff_ne.mpr c7
     have c7b2 : ¬ (t973 = []) := fun h_ => c7 (by rw [h_]; rfl)
     by_cases c13 : 0 < (t973.length : Int)
     ·rw [if_pos c13] at H
      have c13b0 : decide (0 < (t973.length : Int)) = true := decide_eq_true c13
      have c13b1 : decide (0 < t973.length) = true := decide_eq_true (by omega)
      clear c13
      replace H := Option.bind_eq_some_iff.mp H
      obtain ⟨t980, A140, H⟩ := H
      replace H : (if 0 ≤ t980 then (if t980 < (x5_1.length : Int) then (if x4_1.length < 8796093022208 then (impl_Hyper_peel.l0 k1 (x4_1 ++ [(⟨t980, rd t973 0⟩ : S88)]) (x5_1.set (t980 : Int).toNat true) a0_0 l0_1) else (none)) else (none)) else (none)) = some (r1, r2) := H
      have A14 := Aside0.mk A140
      clear A140
      by_cases c15 : 0 ≤ t980
      ·rw [if_pos c15] at H
       have c15b0 : decide (0 ≤ t980) = true := decide_eq_true c15
       clear c15
       by_cases c16 : t980 < (x5_1.length : Int)
       ·rw [if_pos c16] at H
        have c16b0 : decide (t980 < (x5_1.length : Int)) = true := decide_eq_true c16
        clear c16
        obtain ⟨y981, hy981⟩ : ∃ y_ : List Bool, y_ = (x5_1.set (t980 : Int).toNat true) := ⟨_, rfl⟩
        replace H : (if x4_1.length < 8796093022208 then (impl_Hyper_peel.l0 k1 (x4_1 ++ [(⟨t980, rd t973 0⟩ : S88)]) y981 a0_0 l0_1) else (none)) = some (r1, r2) := by first | (rw [hy981]; with_reducible exact H) | (have H2_ := (Option.bind_some _ _).symm.trans H; rw [hy981]; with_reducible exact H2_) | (have H2_ := (Option.bind_some _ _).symm.trans H; with_reducible exact H2_) | with_reducible exact H | (rw [hy981]; exact H) | exact H
        have Ny981 := Aside0.mk hy981
        clear hy981
        by_cases c18 : x4_1.length < 8796093022208
        ·rw [if_pos c18] at H
         have LMc18 := Aside0.mk c18
         clear c18
         obtain ⟨y983, hy983⟩ : ∃ y_ : List (S88), y_ = (x4_1 ++ [(⟨t980, rd t973 0⟩ : S88)]) := ⟨_, rfl⟩
         replace H : (impl_Hyper_peel.l0 k1 y983 y981 a0_0 l0_1) = some (r1, r2) := by first | (rw [hy983]; with_reducible exact H) | (have H2_ := (Option.bind_some _ _).symm.trans H; rw [hy983]; with_reducible exact H2_) | (have H2_ := (Option.bind_some _ _).symm.trans H; with_reducible exact H2_) | with_reducible exact H | (rw [hy983]; exact H) | exact H
         have Ny983 := Aside0.mk hy983
         clear hy983
         have H' := Aside0.mk H
         clear H
         obtain ⟨Ao19, co19, eo19⟩ := Kd.R_slice HO_5.out
         subst eo19
         go_wp2_with (first | ((with_reducible refine gate_callee (f := 111) rfl ?_); refine goesL_ (some 13) rfl rfl Try.func111 (by kernel_rfl) rfl #[.pointer (some ⟨gb0_, 0, none⟩), .slice Ao19 x5_1.length co19] rfl (by (try simp only [List.map_toArray, List.map_cons, List.map_nil]); first | done | rfl | (simp only [List.length_drop, List.length_take]; rfl)) ?_; (with_reducible refine (impl_Hyper_singles.calls k1 gb0_ a0_0 A0_1 c0_1 l0_1 _ _ x5_1 t973 _ ?side1 ?side2 ?side3 ?side4 ?side5 A6.out).mono ?_); (case side1 => repeat (first | exact (Kd.C_below HR0_1.out HB.out) | (with_reducible refine Kd.C_alloc ?_ _) | (with_reducible refine Kd.C_drewN ?_ _) | (with_reducible refine Kd.C_drew ?_))); (case side2 => exact HC0_1.out); (case side3 => repeat (first | exact (Kd.R_reads' HO_5.out).2.2 | (with_reducible refine Kd.C_alloc ?_ _) | (with_reducible refine Kd.C_drewN ?_ _) | (with_reducible refine Kd.C_drew ?_))); (case side4 => exact (Kd.R_reads' HO_5.out).2.1); (case side5 => exact (by (with_reducible repeat (first | refine blk_drewN ?_ _ | refine blk_drew ?_ | refine blk_alloc ?_ _)); exact BK0.out)); rintro e w20 ⟨v974, rfl, ho0, hb⟩; refine ⟨_, rfl, ?_⟩; have n0_ := Aside0.mk (Kd.R_below (by (with_reducible repeat (first | apply Kd.R_alloc | apply Kd.R_drewN | apply Kd.R_drew)); exact HO_4.out) hb); have n1_ := Aside0.mk (Kd.R_below (by (with_reducible repeat (first | apply Kd.R_alloc | apply Kd.R_drewN | apply Kd.R_drew)); exact HO_5.out) hb); have n2_ := Aside0.mk (Kd.R_lower ho0 (below_size (by repeat (first | (with_reducible first | exact HB.out | apply below_alloc | apply pw_below_drewN | apply below_drew1 | refine below_set ?_ GE0.out) | exact HB.out)))); have n3_ := Aside0.mk (blk_below (g := gb0_) (o := .cells #[.int .i64 a0_0, .slice A0_1 l0_1.length c0_1] 29 (0, 0)) (by (with_reducible repeat (first | refine blk_drewN ?_ _ | refine blk_drew ?_ | refine blk_alloc ?_ _)); exact BK0.out) hb); have n4_ := Aside0.mk (below_step (by repeat (first | (with_reducible first | exact HB.out | apply below_alloc | apply pw_below_drewN | apply below_drew1 | refine below_set ?_ GE0.out) | exact HB.out)) hb); clear HO_4; clear HO_5; clear BK0; clear HB; have HO_4 := n0_; have HO_5 := n1_; have HO975 := n2_; have BK0 := n3_; have HB := n4_; clear n0_ n1_ n2_ n3_ n4_; (try clear hb); (try clear hb2); (try clear hk); (try clear hi); (try clear ho0); obtain ⟨Ao21, co21, eo21⟩ := Kd.R_slice HO975.out; subst eo21; have p979 : 0 ≤ (0 : Int) := (by omega); have q979 : 0 < (t973.length : Int) := of_decide_eq_true (by first | (with_reducible assumption) | assumption); obtain ⟨ad979, e979, hx979_0⟩ := Kd.at_int (Kd.R_reads' HO975.out).2.2 0 p979 q979; cases e979; have qi979 : (0 < t973.length) = True := eq_true (by omega); (try rw [show ((0 : Int)).toNat = 0 from rfl] at hx979_0); (try rw [Addr.add_zero'] at hx979_0); replace p979 := eq_true p979; replace q979 := eq_true q979) | ((with_reducible refine gate_callee (f := 112) rfl ?_); refine goesL_ (some 25) rfl rfl Try.func112 (by kernel_rfl) rfl #[.pointer (some ⟨gb0_, 0, none⟩), .slice Ao19 x5_1.length co19, .int .i64 (rd t973 0)] rfl (by (try simp only [List.map_toArray, List.map_cons, List.map_nil]); first | done | rfl | (simp only [List.length_drop, List.length_take]; rfl)) ?_; (with_reducible refine (impl_Hyper_edgeAt.calls k1 gb0_ a0_0 A0_1 c0_1 l0_1 _ _ x5_1 (rd t973 0) t980 _ ?side1 ?side2 ?side3 ?side4 ?side5 A14.out).mono ?_); (case side1 => repeat (first | exact (Kd.C_below HR0_1.out HB.out) | (with_reducible refine Kd.C_alloc ?_ _) | (with_reducible refine Kd.C_drewN ?_ _) | (with_reducible refine Kd.C_drew ?_))); (case side2 => exact HC0_1.out); (case side3 => repeat (first | exact (Kd.R_reads' HO_5.out).2.2 | (with_reducible refine Kd.C_alloc ?_ _) | (with_reducible refine Kd.C_drewN ?_ _) | (with_reducible refine Kd.C_drew ?_))); (case side4 => exact (Kd.R_reads' HO_5.out).2.1); (case side5 => exact (by (with_reducible repeat (first | refine blk_drewN ?_ _ | refine blk_drew ?_ | refine blk_alloc ?_ _)); exact BK0.out)); rintro e w' ⟨rfl, ⟨nd, rfl⟩⟩; refine ⟨_, rfl, ?_⟩; (try (rw [drewN_self w20]; generalize hq_ : World.drewN w20 _ = w20; have n0_ : Aside0 (Kd.R (Kd.int .i64) 3 w20 w.heap.size (fun k_ => True) (.slice (some ad979) t973.length co21) t973) := ⟨by rw [← hq_]; exact (by (with_reducible repeat (first | apply Kd.R_alloc | apply Kd.R_drewN | apply Kd.R_drew)); exact HO975.out)⟩; have n1_ : Aside0 (Kd.R k88 88 w20 w.heap.size (fun k_ => True) u4 x4_1) := ⟨by rw [← hq_]; exact (by (with_reducible repeat (first | apply Kd.R_alloc | apply Kd.R_drewN | apply Kd.R_drew)); exact HO_4.out)⟩; have n2_ : Aside0 (Kd.R Kd.bool 4 w20 w.heap.size (fun k_ => True) (.slice Ao19 x5_1.length co19) x5_1) := ⟨by rw [← hq_]; exact (by (with_reducible repeat (first | apply Kd.R_alloc | apply Kd.R_drewN | apply Kd.R_drew)); exact HO_5.out)⟩; have n3_ : Aside0 (w20.heap[gb0_]? = some (.cells #[.int .i64 a0_0, .slice A0_1 l0_1.length c0_1] 29 (0, 0))) := ⟨by rw [← hq_]; exact (by (with_reducible repeat (first | refine blk_drewN ?_ _ | refine blk_drew ?_ | refine blk_alloc ?_ _)); exact BK0.out)⟩; have n4_ : Aside0 (Below w.heap.size w w20) := ⟨by rw [← hq_]; exact (by repeat (first | (with_reducible first | exact HB.out | apply below_alloc | apply pw_below_drewN | apply below_drew1 | refine below_set ?_ GE0.out) | exact HB.out))⟩; clear HO975 HO_4 HO_5 BK0 HB hq_; have HO975 := n0_; have HO_4 := n1_; have HO_5 := n2_; have BK0 := n3_; have HB := n4_; clear n0_ n1_ n2_ n3_ n4_)); have p17 : 0 ≤ (t980 : Int) := of_decide_eq_true (by first | (with_reducible assumption) | assumption); have q17 : (t980 : Int) < ((x5_1.length : Int) : Int) := of_decide_eq_true (by first | (with_reducible assumption) | assumption); obtain ⟨go17, co17, eo17, gb17, gl17, cl17, HG17⟩ := Kd.R_form HO_5.out (by omega); (first | cases eo17 | (injection eo17 with ea_ en_ ec_; (first | subst ea_ | (injection ea_ with ea_; subst ea_)); subst ec_; clear en_)); have GB17 := Aside0.mk gb17; have GG17 := Aside0.mk HG17; clear gb17 gl17 HG17; obtain ⟨hx17_0, hf17_0⟩ := Kd.R_celln false HO_5.out (t980 : Int) p17 q17; replace p17 := eq_true p17; replace q17 := eq_true q17; obtain ⟨hy22_, hz22_⟩ := Kd.R_celln false HO_5.out (t980 : Int) (of_decide_eq_true (by first | (with_reducible assumption) | assumption)) (of_decide_eq_true (by first | (with_reducible assumption) | assumption)); have HP22 := Kd.R_putg HO_5.out (t980 : Int) true) | ((with_reducible refine gate_store (t := 4) (p := 28) rfl ?_); refine store_event (t := 4) (p := 28) (v := ?vo_w23) (w1 := (w20.setCell ⟨go17, (t980 : Int).toNat, none⟩ (.bool true))) ?hg ?ho ?hn ?hr ?_; (case ho => rfl); (case hg => rfl); (case hn => rfl); (case hr => first | (go_simp; done) | (go_simp; rfl)); intro w23 hw; have hg : w20.grownBy w23 (some go17) := (by rw [hw]; exact HP22.2); have hp_ : Kd.R Kd.bool 4 w23 w.heap.size (fun _ => True) (.slice (some ⟨go17, 0, none⟩) x5_1.length co19) y981 := (by rw [hw, Ny981.out]; exact HP22.1); clear HP22; have n0_ := Aside0.mk (Kd.R_over' (v := (.slice (some ⟨go17, 0, none⟩) x5_1.length co19)) (by (with_reducible repeat (first | apply Kd.R_alloc | apply Kd.R_drewN | apply Kd.R_drew)); exact HO_4.out) (Kd.R_typed HO_5.out) (by decide) hg); have n1_ := Aside0.mk (hp_); have n2_ := Aside0.mk (blk_grown (g := gb0_) (o := .cells #[.int .i64 a0_0, .slice A0_1 l0_1.length c0_1] 29 (0, 0)) (by (with_reducible repeat (first | refine blk_drewN ?_ _ | refine blk_drew ?_ | refine blk_alloc ?_ _)); exact BK0.out) hg (Kd.R_ne HO_5.out BK0.out (by decide))); have n3_ := Aside0.mk (Kd.R_over' (v := (.slice (some ⟨go17, 0, none⟩) x5_1.length co19)) (by (with_reducible repeat (first | apply Kd.R_alloc | apply Kd.R_drewN | apply Kd.R_drew)); exact HO975.out) (Kd.R_typed HO_5.out) (by decide) hg); have n4_ := Aside0.mk ((by rw [hw]; exact below_set (HB.out) GB17.out : Below w.heap.size w w23)); clear HO_4; clear HO_5; clear BK0; clear HO975; clear HB; have HO_4 := n0_; have HO_5 := n1_; have BK0 := n2_; have HO975 := n3_; have HB := n4_; clear n0_ n1_ n2_ n3_ n4_; clear hg hw hp_; have p982 : 0 ≤ (0 : Int) := (by omega); have q982 : 0 < (t973.length : Int) := of_decide_eq_true (by first | (with_reducible assumption) | assumption); obtain ⟨ad982, e982, hx982_0⟩ := Kd.at_int (Kd.R_reads' HO975.out).2.2 0 p982 q982; obtain rfl : ad979 = ad982 := (by injection e982); have qi982 : (0 < t973.length) = True := eq_true (by omega); (try rw [show ((0 : Int)).toNat = 0 from rfl] at hx982_0); (try rw [Addr.add_zero'] at hx982_0); replace p982 := eq_true p982; replace q982 := eq_true q982) | ((with_reducible refine gate_builtin (b := .append) (xs := #[.tmp 29, .tmp 35]) rfl ?_); at_builtin; refine Kd.R_append k88 (w0 := w) w.heap.size rfl (.tmp 29) (.tmp 35) 58 88 (.agg #[(.int .i64 0), (.int .i64 0)]) 16 rfl Try.underlying58 info88 rfl (by decide) (by omega) u4 x4_1 (⟨t980, rd t973 0⟩ : S88) [.int .i64 t980, .int .i64 (rd t973 0)] (fun _ => True) (fun _ => False) rfl rfl ?aP (fun _ hk => hk.elim) ?aF ?aO ?aB ?aS ?aL ?_; (case aP => exact k88_mkM _ _ _ (⟨t980, rd t973 0⟩ : S88)); (case aB => exact (by repeat (first | (with_reducible first | exact HB.out | apply below_alloc | apply pw_below_drewN | apply below_drew1 | refine below_set ?_ GE0.out) | exact HB.out))); (case aF => exact (fun _ _ => trivial)); (case aO => exact (by (with_reducible repeat (first | apply Kd.R_alloc | apply Kd.R_drewN | apply Kd.R_drew)); exact HO_4.out)); (case aS => exact (below_size (by repeat (first | (with_reducible first | exact HB.out | apply below_alloc | apply pw_below_drewN | apply below_drew1 | refine below_set ?_ GE0.out) | exact HB.out)))); (case aL => have := LMc18.out; omega); intro v984 w24 ho hb hg hat; rw [← Ny983.out] at ho; have n0_ := Aside0.mk (Kd.R_over' (by (with_reducible repeat (first | apply Kd.R_alloc | apply Kd.R_drewN | apply Kd.R_drew)); exact HO_5.out) (Kd.R_typed (by (with_reducible repeat (first | apply Kd.R_alloc | apply Kd.R_drewN | apply Kd.R_drew)); exact HO_4.out)) (by decide) hg); have n1_ := Aside0.mk (blk_grown (g := gb0_) (o := .cells #[.int .i64 a0_0, .slice A0_1 l0_1.length c0_1] 29 (0, 0)) (by (with_reducible repeat (first | refine blk_drewN ?_ _ | refine blk_drew ?_ | refine blk_alloc ?_ _)); exact BK0.out) hg (Kd.R_ne HO_4.out BK0.out (by decide))); have n2_ := Aside0.mk (Kd.R_over' (by (with_reducible repeat (first | apply Kd.R_alloc | apply Kd.R_drewN | apply Kd.R_drew)); exact HO975.out) (Kd.R_typed (by (with_reducible repeat (first | apply Kd.R_alloc | apply Kd.R_drewN | apply Kd.R_drew)); exact HO_4.out)) (by decide) hg); have n3_ := Aside0.mk (hb); have n4_ := Aside0.mk (ho); clear HO_5; clear BK0; clear HO975; clear HB; clear HO_4; have HO_5 := n0_; have BK0 := n1_; have HO975 := n2_; have HB := n3_; have HO985 := n4_; clear n0_ n1_ n2_ n3_ n4_; clear ho hb hg hat))
         go_roundg k1
         case measure => have := HK1.out; omega
         case rel => exact ⟨(y983), (y981), H', ⟨by have := HK1.out; omega⟩, ⟨by (with_reducible repeat (first | apply Kd.R_alloc | apply Kd.R_drewN | apply Kd.R_drew)); exact HO985.out⟩, ⟨by (with_reducible repeat (first | apply Kd.R_alloc | apply Kd.R_drewN | apply Kd.R_drew)); exact HO_5.out⟩, ⟨by (with_reducible repeat (first | refine blk_drewN ?_ _ | refine blk_drew ?_ | refine blk_alloc ?_ _)); exact BK0.out⟩, ⟨by repeat (first | (with_reducible first | exact HB.out | apply below_alloc | apply pw_below_drewN | apply below_drew1 | refine below_set ?_ GE0.out) | exact HB.out)⟩⟩
        ·rw [if_neg c18] at H
         exact absurd H (by simp)
       ·rw [if_neg c16] at H
        exact absurd H (by simp)
      ·rw [if_neg c15] at H
       exact absurd H (by simp)
     ·rw [if_neg c13] at H
      exact absurd H (by simp)
end Go.Proofs.Ytlcedciocmjggaa.X
