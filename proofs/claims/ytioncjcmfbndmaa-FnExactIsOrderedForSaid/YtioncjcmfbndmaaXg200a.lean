/- Written by a program of this session: what functions of the given program compute, and that their calls do so. -/
import Derived.Test.YtioncjcmfbndmaaXx0
import Derived.Test.YtioncjcmfbndmaaXg210a
import Derived.Test.YtioncjcmfbndmaaXg220a
import Derived.Test.YtioncjcmfbndmaaXg2a8a
namespace Go.Proofs.Ytioncjcmfbndmaa.X
open Go.RowKit Go.Proofs.YtioncjcmfbndmaaW.PrintWords Go.Proofs.YtioncjcmfbndmaaW.PrintLast Go.Proofs.YtioncjcmfbndmaaW.PrintMore
attribute [local go_sem] max2_int min2_int max_two min_two max_three min_three max_four min_four   -- for this text's walks alone
set_option linter.unusedVariables false
set_option linter.unusedSimpArgs false
/-! ### spec_IsOrderedFor: function 59 -/
mutual
def spec_IsOrderedFor.j0 : Nat → List ByteArray → Bool → Int → Int → Int → List Int → Option (Bool × Bool)
  | 0, _, _, _, _, _, _ => none
  | k + 1, x1, x15, x785000, x785001, x785002, x785003 => if x15 = true then (some (false, false)) else (spec_IsOrderedFor.l0 k x1 x1 (x1.length : Int) 0 x785000 x785001 x785002 x785003)
def spec_IsOrderedFor.l0 : Nat → List ByteArray → List ByteArray → Int → Int → Int → Int → Int → List Int → Option (Bool × Bool)
  | 0, _, _, _, _, _, _, _, _ => none
  | k + 1, x1, x16, x17, x18, x785000, x785001, x785002, x785003 => if x18 < x17 then (if 0 ≤ x18 then (if x18 < (x16.length : Int) then ((spec_pfOrdinal.f k x785000 x785001 x785002 x785003 (rdOf ByteArray.empty x16 x18)).bind fun t788 => (if t788 = x18 then (spec_IsOrderedFor.l0 k x1 x16 x17 (wrap64 (x18 + 1)) x785000 x785001 x785002 x785003) else (some (false, true)))) else (none)) else (none)) else (some (((x1.length : Int) == x785002), true))
end
def spec_IsOrderedFor.f (k : Nat) (a0_0 : Int) (a0_1 : Int) (a0_2 : Int) (l0_3 : List Int) (l1 : List ByteArray) : Option (Bool × Bool) := (spec_pfOrdered.f k a0_0 a0_1 a0_2 l0_3).bind fun t785 => (if t785 = true then ((spec_biKeys.f k l1).bind fun t786 => (spec_IsOrderedFor.j0 k l1 (!t786) a0_0 a0_1 a0_2 l0_3)) else (spec_IsOrderedFor.j0 k l1 true a0_0 a0_1 a0_2 l0_3))
theorem spec_IsOrderedFor.mono_l : ∀ k, (∀ y0 y1 y2 y3 y4 y5, LeO (spec_IsOrderedFor.j0 k y0 y1 y2 y3 y4 y5) (spec_IsOrderedFor.j0 (k + 1) y0 y1 y2 y3 y4 y5)) ∧ (∀ y0 y1 y2 y3 y4 y5 y6 y7, LeO (spec_IsOrderedFor.l0 k y0 y1 y2 y3 y4 y5 y6 y7) (spec_IsOrderedFor.l0 (k + 1) y0 y1 y2 y3 y4 y5 y6 y7))
  | 0 => ⟨fun _ _ _ _ _ _ r h => by simp [spec_IsOrderedFor.j0] at h, fun _ _ _ _ _ _ _ _ r h => by simp [spec_IsOrderedFor.l0] at h⟩
  | k + 1 => by
    obtain ⟨ih0, ih1⟩ := spec_IsOrderedFor.mono_l k
    refine ⟨?_, ?_⟩
    · intro y0 y1 y2 y3 y4 y5
      unfold spec_IsOrderedFor.j0
      repeat' first
      | (with_reducible exact ih0 _ _ _ _ _ _)
      | (with_reducible exact ih1 _ _ _ _ _ _ _ _)
      | (with_reducible exact spec_biKeys.mono _ _)
      | (with_reducible exact spec_pfOrdered.mono _ _ _ _ _)
      | (with_reducible exact spec_pfOrdinal.mono _ _ _ _ _ _)
      | (with_reducible exact LeO.refl _)
      | (with_reducible exact LeO.none _)
      | (with_reducible refine LeO.ite ?_ ?_)
      | (with_reducible refine LeO.bind ?_ (fun _ => ?_))
      | exact ih0 _ _ _ _ _ _
      | exact ih1 _ _ _ _ _ _ _ _
      | exact spec_biKeys.mono _ _
      | exact spec_pfOrdered.mono _ _ _ _ _
      | exact spec_pfOrdinal.mono _ _ _ _ _ _
      | exact LeO.none _
      | refine LeO.ite ?_ ?_
      | refine LeO.bind ?_ (fun _ => ?_)
    · intro y0 y1 y2 y3 y4 y5 y6 y7
      unfold spec_IsOrderedFor.l0
      repeat' first
      | (with_reducible exact ih0 _ _ _ _ _ _)
      | (with_reducible exact ih1 _ _ _ _ _ _ _ _)
      | (with_reducible exact spec_biKeys.mono _ _)
      | (with_reducible exact spec_pfOrdered.mono _ _ _ _ _)
      | (with_reducible exact spec_pfOrdinal.mono _ _ _ _ _ _)
      | (with_reducible exact LeO.refl _)
      | (with_reducible exact LeO.none _)
      | (with_reducible refine LeO.ite ?_ ?_)
      | (with_reducible refine LeO.bind ?_ (fun _ => ?_))
      | exact ih0 _ _ _ _ _ _
      | exact ih1 _ _ _ _ _ _ _ _
      | exact spec_biKeys.mono _ _
      | exact spec_pfOrdered.mono _ _ _ _ _
      | exact spec_pfOrdinal.mono _ _ _ _ _ _
      | exact LeO.none _
      | refine LeO.ite ?_ ?_
      | refine LeO.bind ?_ (fun _ => ?_)
theorem spec_IsOrderedFor.mono : ∀ a0 a1 a2 a3 a4 k, LeO (spec_IsOrderedFor.f k a0 a1 a2 a3 a4) (spec_IsOrderedFor.f (k + 1) a0 a1 a2 a3 a4) := by
  intro a0 a1 a2 a3 a4 k
  obtain ⟨ih0, ih1⟩ := spec_IsOrderedFor.mono_l k
  unfold spec_IsOrderedFor.f
  repeat' first
      | (with_reducible exact ih0 _ _ _ _ _ _)
      | (with_reducible exact ih1 _ _ _ _ _ _ _ _)
      | (with_reducible exact spec_biKeys.mono _ _)
      | (with_reducible exact spec_pfOrdered.mono _ _ _ _ _)
      | (with_reducible exact spec_pfOrdinal.mono _ _ _ _ _ _)
      | (with_reducible exact LeO.refl _)
      | (with_reducible exact LeO.none _)
      | (with_reducible refine LeO.ite ?_ ?_)
      | (with_reducible refine LeO.bind ?_ (fun _ => ?_))
      | exact ih0 _ _ _ _ _ _
      | exact ih1 _ _ _ _ _ _ _ _
      | exact spec_biKeys.mono _ _
      | exact spec_pfOrdered.mono _ _ _ _ _
      | exact spec_pfOrdinal.mono _ _ _ _ _ _
      | exact LeO.none _
      | refine LeO.ite ?_ ?_
      | refine LeO.bind ?_ (fun _ => ?_)
noncomputable def spec_IsOrderedFor.J0 (y0 : List ByteArray) (y1 : Bool) (y2 : Int) (y3 : Int) (y4 : Int) (y5 : List Int) : Option (Bool × Bool) := lim fun k => spec_IsOrderedFor.j0 k y0 y1 y2 y3 y4 y5
theorem spec_IsOrderedFor.J0_sup (y0 : List ByteArray) (y1 : Bool) (y2 : Int) (y3 : Int) (y4 : Int) (y5 : List Int) : Sup (fun k => spec_IsOrderedFor.j0 k y0 y1 y2 y3 y4 y5) (spec_IsOrderedFor.J0 y0 y1 y2 y3 y4 y5) := Sup.of_mono fun k => (spec_IsOrderedFor.mono_l k).1 y0 y1 y2 y3 y4 y5
noncomputable def spec_IsOrderedFor.L0 (y0 : List ByteArray) (y1 : List ByteArray) (y2 : Int) (y3 : Int) (y4 : Int) (y5 : Int) (y6 : Int) (y7 : List Int) : Option (Bool × Bool) := lim fun k => spec_IsOrderedFor.l0 k y0 y1 y2 y3 y4 y5 y6 y7
theorem spec_IsOrderedFor.L0_sup (y0 : List ByteArray) (y1 : List ByteArray) (y2 : Int) (y3 : Int) (y4 : Int) (y5 : Int) (y6 : Int) (y7 : List Int) : Sup (fun k => spec_IsOrderedFor.l0 k y0 y1 y2 y3 y4 y5 y6 y7) (spec_IsOrderedFor.L0 y0 y1 y2 y3 y4 y5 y6 y7) := Sup.of_mono fun k => (spec_IsOrderedFor.mono_l k).2 y0 y1 y2 y3 y4 y5 y6 y7
noncomputable def spec_IsOrderedFor.F (a0_0 : Int) (a0_1 : Int) (a0_2 : Int) (l0_3 : List Int) (l1 : List ByteArray) : Option (Bool × Bool) := lim fun k => spec_IsOrderedFor.f k a0_0 a0_1 a0_2 l0_3 l1
theorem spec_IsOrderedFor.F_sup (a0_0 : Int) (a0_1 : Int) (a0_2 : Int) (l0_3 : List Int) (l1 : List ByteArray) : Sup (fun k => spec_IsOrderedFor.f k a0_0 a0_1 a0_2 l0_3 l1) (spec_IsOrderedFor.F a0_0 a0_1 a0_2 l0_3 l1) := Sup.of_mono fun k => spec_IsOrderedFor.mono a0_0 a0_1 a0_2 l0_3 l1 k
theorem spec_IsOrderedFor.J0_eq (x1 : List ByteArray) (x15 : Bool) (x785000 : Int) (x785001 : Int) (x785002 : Int) (x785003 : List Int) : spec_IsOrderedFor.J0 x1 x15 x785000 x785001 x785002 x785003 = if x15 = true then (some (false, false)) else (spec_IsOrderedFor.L0 x1 x1 (x1.length : Int) 0 x785000 x785001 x785002 x785003) := by
  refine Sup.unique (spec_IsOrderedFor.J0_sup x1 x15 x785000 x785001 x785002 x785003) (Sup.shift (fun k => (spec_IsOrderedFor.mono_l k).1 x1 x15 x785000 x785001 x785002 x785003) (Sup.congr (g' := fun k => if x15 = true then (some (false, false)) else (spec_IsOrderedFor.l0 k x1 x1 (x1.length : Int) 0 x785000 x785001 x785002 x785003)) (fun k => by first | rfl | simp only [spec_IsOrderedFor.j0]) ?_))
  repeat' first
    | (with_reducible exact spec_IsOrderedFor.J0_sup _ _ _ _ _ _)
    | (with_reducible exact spec_IsOrderedFor.L0_sup _ _ _ _ _ _ _ _)
    | (with_reducible exact spec_biKeys.F_sup _)
    | (with_reducible exact spec_pfOrdered.F_sup _ _ _ _)
    | (with_reducible exact spec_pfOrdinal.F_sup _ _ _ _ _)
    | (with_reducible refine Sup.ite ?_ ?_)
    | (with_reducible refine Sup.bind ?_ (fun _ => ?_))
    | (with_reducible exact Sup.const _)
    | exact spec_IsOrderedFor.J0_sup _ _ _ _ _ _
    | exact spec_IsOrderedFor.L0_sup _ _ _ _ _ _ _ _
    | exact spec_biKeys.F_sup _
    | exact spec_pfOrdered.F_sup _ _ _ _
    | exact spec_pfOrdinal.F_sup _ _ _ _ _
    | exact Sup.const _
theorem spec_IsOrderedFor.L0_eq (x1 : List ByteArray) (x16 : List ByteArray) (x17 : Int) (x18 : Int) (x785000 : Int) (x785001 : Int) (x785002 : Int) (x785003 : List Int) : spec_IsOrderedFor.L0 x1 x16 x17 x18 x785000 x785001 x785002 x785003 = if x18 < x17 then (if 0 ≤ x18 then (if x18 < (x16.length : Int) then ((spec_pfOrdinal.F x785000 x785001 x785002 x785003 (rdOf ByteArray.empty x16 x18)).bind fun t788 => (if t788 = x18 then (spec_IsOrderedFor.L0 x1 x16 x17 (wrap64 (x18 + 1)) x785000 x785001 x785002 x785003) else (some (false, true)))) else (none)) else (none)) else (some (((x1.length : Int) == x785002), true)) := by
  refine Sup.unique (spec_IsOrderedFor.L0_sup x1 x16 x17 x18 x785000 x785001 x785002 x785003) (Sup.shift (fun k => (spec_IsOrderedFor.mono_l k).2 x1 x16 x17 x18 x785000 x785001 x785002 x785003) (Sup.congr (g' := fun k => if x18 < x17 then (if 0 ≤ x18 then (if x18 < (x16.length : Int) then ((spec_pfOrdinal.f k x785000 x785001 x785002 x785003 (rdOf ByteArray.empty x16 x18)).bind fun t788 => (if t788 = x18 then (spec_IsOrderedFor.l0 k x1 x16 x17 (wrap64 (x18 + 1)) x785000 x785001 x785002 x785003) else (some (false, true)))) else (none)) else (none)) else (some (((x1.length : Int) == x785002), true))) (fun k => by first | rfl | simp only [spec_IsOrderedFor.l0]) ?_))
  repeat' first
    | (with_reducible exact spec_IsOrderedFor.J0_sup _ _ _ _ _ _)
    | (with_reducible exact spec_IsOrderedFor.L0_sup _ _ _ _ _ _ _ _)
    | (with_reducible exact spec_biKeys.F_sup _)
    | (with_reducible exact spec_pfOrdered.F_sup _ _ _ _)
    | (with_reducible exact spec_pfOrdinal.F_sup _ _ _ _ _)
    | (with_reducible refine Sup.ite ?_ ?_)
    | (with_reducible refine Sup.bind ?_ (fun _ => ?_))
    | (with_reducible exact Sup.const _)
    | exact spec_IsOrderedFor.J0_sup _ _ _ _ _ _
    | exact spec_IsOrderedFor.L0_sup _ _ _ _ _ _ _ _
    | exact spec_biKeys.F_sup _
    | exact spec_pfOrdered.F_sup _ _ _ _
    | exact spec_pfOrdinal.F_sup _ _ _ _ _
    | exact Sup.const _
theorem spec_IsOrderedFor.F_eq (a0_0 : Int) (a0_1 : Int) (a0_2 : Int) (l0_3 : List Int) (l1 : List ByteArray) : spec_IsOrderedFor.F a0_0 a0_1 a0_2 l0_3 l1 = (spec_pfOrdered.F a0_0 a0_1 a0_2 l0_3).bind fun t785 => (if t785 = true then ((spec_biKeys.F l1).bind fun t786 => (spec_IsOrderedFor.J0 l1 (!t786) a0_0 a0_1 a0_2 l0_3)) else (spec_IsOrderedFor.J0 l1 true a0_0 a0_1 a0_2 l0_3)) := by
  refine Sup.unique (spec_IsOrderedFor.F_sup a0_0 a0_1 a0_2 l0_3 l1) (Sup.congr (g' := fun k => (spec_pfOrdered.f k a0_0 a0_1 a0_2 l0_3).bind fun t785 => (if t785 = true then ((spec_biKeys.f k l1).bind fun t786 => (spec_IsOrderedFor.j0 k l1 (!t786) a0_0 a0_1 a0_2 l0_3)) else (spec_IsOrderedFor.j0 k l1 true a0_0 a0_1 a0_2 l0_3))) (fun k => by first | rfl | simp only [spec_IsOrderedFor.f]) ?_)
  repeat' first
    | (with_reducible exact spec_IsOrderedFor.J0_sup _ _ _ _ _ _)
    | (with_reducible exact spec_IsOrderedFor.L0_sup _ _ _ _ _ _ _ _)
    | (with_reducible exact spec_biKeys.F_sup _)
    | (with_reducible exact spec_pfOrdered.F_sup _ _ _ _)
    | (with_reducible exact spec_pfOrdinal.F_sup _ _ _ _ _)
    | (with_reducible refine Sup.ite ?_ ?_)
    | (with_reducible refine Sup.bind ?_ (fun _ => ?_))
    | (with_reducible exact Sup.const _)
    | exact spec_IsOrderedFor.J0_sup _ _ _ _ _ _
    | exact spec_IsOrderedFor.L0_sup _ _ _ _ _ _ _ _
    | exact spec_biKeys.F_sup _
    | exact spec_pfOrdered.F_sup _ _ _ _
    | exact spec_pfOrdinal.F_sup _ _ _ _ _
    | exact Sup.const _
set_option maxHeartbeats 8000000 in
set_option maxRecDepth 100000 in
theorem spec_IsOrderedFor.calls (k : Nat) (a0_0 : Int) (a0_1 : Int) (a0_2 : Int) (A0_3 : Option Addr) (c0_3 : Nat) (l0_3 : List Int) (A1 : Option Addr) (c1 : Nat) (l1 : List ByteArray) (r1 : Bool) (r2 : Bool) (w : World) (hr0_3 : Kd.C (Kd.int .i64) w A0_3 l0_3.length l0_3) (hc0_3 : l0_3.length ≤ c0_3) (hr1 : Kd.C Kd.string w A1 l1.length l1) (hc1 : l1.length ≤ c1) (h : spec_IsOrderedFor.f k a0_0 a0_1 a0_2 l0_3 l1 = some (r1, r2)) :
    Calls Try.prog 59 #[.agg #[.int .i64 a0_0, .int .i64 a0_1, .int .i64 a0_2, .slice A0_3 l0_3.length c0_3], .slice A1 l1.length c1] w fun e w' => e = .returned (.tuple #[.bool r1, .bool r2]) ∧ Below w.heap.size w w' := by
  have hu66 := Try.underlying66
  have HR0_3 := Aside0.mk hr0_3
  have HC0_3 := Aside0.mk hc0_3
  clear hr0_3 hc0_3
  have HR1 := Aside0.mk hr1
  have HC1 := Aside0.mk hc1
  clear hr1 hc1
  have HB := Aside0.mk (Below.refl w.heap.size w)
  have H : ((spec_pfOrdered.f k a0_0 a0_1 a0_2 l0_3).bind fun t785 => (if t785 = true then ((spec_biKeys.f k l1).bind fun t786 => (spec_IsOrderedFor.j0 k l1 (!t786) a0_0 a0_1 a0_2 l0_3)) else (spec_IsOrderedFor.j0 k l1 true a0_0 a0_1 a0_2 l0_3))) = some (r1, r2) := h
  clear h
  have HC3 := Aside0.mk H
  clear H
  go_enter Try.func59, Try.ntmps59
  go_upto_region 1 with (first | ((with_reducible refine gate_dst (N := 2) rfl ?_); refine box_event ?hg (N := 2) ?hd (cs := #[.int .i64 a0_0, .int .i64 a0_1, .int .i64 a0_2, .slice A0_3 l0_3.length c0_3]) (t := 66) ?hr ?_; (case hd => rfl); (case hg => rfl); (case hr => first | (go_simp; done) | (go_simp; rfl)); intro gb784 hg w4 hbox hb; have n0_ := Aside0.mk (below_step (by repeat (first | (with_reducible first | exact HB.out | apply below_alloc | apply pw_below_drewN | apply below_drew1) | exact HB.out)) hb); have n1_ := Aside0.mk (hbox); have n2_ := Aside0.mk ((by rw [hg]; exact (below_size (by repeat (first | (with_reducible first | exact HB.out | apply below_alloc | apply pw_below_drewN | apply below_drew1) | exact HB.out))) : w.heap.size ≤ gb784)); have n3_ := Aside0.mk ((by rw [hg]; exact (below_size (by repeat (first | (with_reducible first | exact HB.out | apply below_alloc | apply pw_below_drewN | apply below_drew1) | exact HB.out))) : w.heap.size ≤ gb784)); clear HB; have HB := n0_; have BK784 := n1_; have GW784 := n2_; have GE784 := n3_; clear n0_ n1_ n2_ n3_; clear hb hbox hg))
  (try simp only [Act.put, List.setIfInBounds_toArray, List.set_cons_zero, List.set_cons_succ])
  go_cut [15] (fun v15 wc => ∃ (kq : Nat) (x15_2 : Bool), v15 = .bool x15_2 ∧ Aside0 (spec_IsOrderedFor.j0 kq l1 x15_2 a0_0 a0_1 a0_2 l0_3 = some (r1, r2)) ∧ Aside0 (kq ≤ k) ∧ Aside0 (wc.heap[gb784]? = some (.cells #[.int .i64 a0_0, .int .i64 a0_1, .int .i64 a0_2, (.slice A0_3 l0_3.length c0_3)] 66 (0, 0))) ∧ Aside0 (Below w.heap.size w wc))
  case first =>
   have H := HC3.out
   clear HC3
   replace H := Option.bind_eq_some_iff.mp H
   obtain ⟨t785, A50, H⟩ := H
   replace H : (if t785 = true then ((spec_biKeys.f k l1).bind fun t786 => (spec_IsOrderedFor.j0 k l1 (!t786) a0_0 a0_1 a0_2 l0_3)) else (spec_IsOrderedFor.j0 k l1 true a0_0 a0_1 a0_2 l0_3)) = some (r1, r2) := H
   have A5 := Aside0.mk A50
   clear A50
   by_cases c6 : t785 = true
   ·subst c6
    have H1 : ((spec_biKeys.f k l1).bind fun t786 => (spec_IsOrderedFor.j0 k l1 (!t786) a0_0 a0_1 a0_2 l0_3)) = some (r1, r2) := by rw [if_pos rfl] at H; exact H
    clear H
    have H := H1
    clear H1
    replace H := Option.bind_eq_some_iff.mp H
    obtain ⟨t786, A70, H⟩ := H
    replace H : (spec_IsOrderedFor.j0 k l1 (!t786) a0_0 a0_1 a0_2 l0_3) = some (r1, r2) := H
    have A7 := Aside0.mk A70
    clear A70
    have H' := Aside0.mk H
    clear H
    have hcz8_0 : w4.cell? ⟨gb784, 0, none⟩ = some (.int .i64 a0_0) := (blk_cell BK784.out 0).trans rfl
    have hcz8_1 : w4.cell? ⟨gb784, 1, none⟩ = some (.int .i64 a0_1) := (blk_cell BK784.out 1).trans rfl
    have hcz8_2 : w4.cell? ⟨gb784, 2, none⟩ = some (.int .i64 a0_2) := (blk_cell BK784.out 2).trans rfl
    have hcz8_3 : w4.cell? ⟨gb784, 3, none⟩ = some (.slice A0_3 l0_3.length c0_3) := (blk_cell BK784.out 3).trans rfl
    have hfz8_0 := blk_frozen BK784.out 0
    have hfz8_1 := blk_frozen BK784.out 1
    have hfz8_2 := blk_frozen BK784.out 2
    have hfz8_3 := blk_frozen BK784.out 3
    go_wp2_with (first | ((with_reducible refine gate_callee (f := 100) rfl ?_); refine goesL_ (some 9) rfl rfl Try.func100 (by kernel_rfl) rfl #[.agg #[.int .i64 a0_0, .int .i64 a0_1, .int .i64 a0_2, .slice A0_3 l0_3.length c0_3]] rfl (by (try simp only [List.map_toArray, List.map_cons, List.map_nil]); first | done | rfl | (simp only [List.length_drop, List.length_take]; rfl)) ?_; (with_reducible refine (spec_pfOrdered.calls k a0_0 a0_1 a0_2 _ _ l0_3 true _ ?side1 ?side2 A5.out).mono ?_); (case side1 => repeat (first | exact (Kd.C_below HR0_3.out HB.out) | (with_reducible refine Kd.C_alloc ?_ _) | (with_reducible refine Kd.C_drewN ?_ _) | (with_reducible refine Kd.C_drew ?_))); (case side2 => exact HC0_3.out); rintro e w9 ⟨rfl, hb⟩; refine ⟨_, rfl, ?_⟩; have n0_ := Aside0.mk (blk_below (g := gb784) (o := .cells #[.int .i64 a0_0, .int .i64 a0_1, .int .i64 a0_2, .slice A0_3 l0_3.length c0_3] 66 (0, 0)) (by (with_reducible repeat (first | refine blk_drewN ?_ _ | refine blk_drew ?_ | refine blk_alloc ?_ _)); exact BK784.out) hb); have n1_ := Aside0.mk (below_step (by repeat (first | (with_reducible first | exact HB.out | apply below_alloc | apply pw_below_drewN | apply below_drew1 | refine below_set ?_ GE784.out) | exact HB.out)) hb); clear BK784; clear HB; have BK784 := n0_; have HB := n1_; clear n0_ n1_; (try clear hb); (try clear hb2); (try clear hk); (try clear hi)) | (go_at_call 83; (with_reducible refine (spec_biKeys.calls k _ _ l1 t786 _ ?side1 ?side2 A7.out).mono ?_); (case side1 => repeat (first | exact (Kd.C_below HR1.out HB.out) | (with_reducible refine Kd.C_alloc ?_ _) | (with_reducible refine Kd.C_drewN ?_ _) | (with_reducible refine Kd.C_drew ?_))); (case side2 => exact HC1.out); rintro e w' ⟨rfl, ⟨nd, rfl⟩⟩))
    go_meet
    case rel => exact ⟨_, (!t786), (by first | rfl | (simp; done) | (simp [*]; done)), H', ⟨by first | omega | exact Nat.le_refl _⟩, ⟨by (with_reducible repeat (first | refine blk_drewN ?_ _ | refine blk_drew ?_ | refine blk_alloc ?_ _)); exact BK784.out⟩, ⟨by repeat (first | (with_reducible first | exact HB.out | apply below_alloc | apply pw_below_drewN | apply below_drew1 | refine below_set ?_ GE784.out) | exact HB.out)⟩⟩
   ·replace c6 := Bool.eq_false_iff.mpr c6
    subst c6
    have H1 : (spec_IsOrderedFor.j0 k l1 true a0_0 a0_1 a0_2 l0_3) = some (r1, r2) := by rw [if_neg (show ¬ (false = true) by decide)] at H; exact H
    clear H
    have H := H1
    clear H1
    have H' := Aside0.mk H
    clear H
    have hcz10_0 : w4.cell? ⟨gb784, 0, none⟩ = some (.int .i64 a0_0) := (blk_cell BK784.out 0).trans rfl
    have hcz10_1 : w4.cell? ⟨gb784, 1, none⟩ = some (.int .i64 a0_1) := (blk_cell BK784.out 1).trans rfl
    have hcz10_2 : w4.cell? ⟨gb784, 2, none⟩ = some (.int .i64 a0_2) := (blk_cell BK784.out 2).trans rfl
    have hcz10_3 : w4.cell? ⟨gb784, 3, none⟩ = some (.slice A0_3 l0_3.length c0_3) := (blk_cell BK784.out 3).trans rfl
    have hfz10_0 := blk_frozen BK784.out 0
    have hfz10_1 := blk_frozen BK784.out 1
    have hfz10_2 := blk_frozen BK784.out 2
    have hfz10_3 := blk_frozen BK784.out 3
    go_wp2_with (first | ((with_reducible refine gate_callee (f := 100) rfl ?_); refine goesL_ (some 9) rfl rfl Try.func100 (by kernel_rfl) rfl #[.agg #[.int .i64 a0_0, .int .i64 a0_1, .int .i64 a0_2, .slice A0_3 l0_3.length c0_3]] rfl (by (try simp only [List.map_toArray, List.map_cons, List.map_nil]); first | done | rfl | (simp only [List.length_drop, List.length_take]; rfl)) ?_; (with_reducible refine (spec_pfOrdered.calls k a0_0 a0_1 a0_2 _ _ l0_3 false _ ?side1 ?side2 A5.out).mono ?_); (case side1 => repeat (first | exact (Kd.C_below HR0_3.out HB.out) | (with_reducible refine Kd.C_alloc ?_ _) | (with_reducible refine Kd.C_drewN ?_ _) | (with_reducible refine Kd.C_drew ?_))); (case side2 => exact HC0_3.out); rintro e w11 ⟨rfl, hb⟩; refine ⟨_, rfl, ?_⟩; have n0_ := Aside0.mk (blk_below (g := gb784) (o := .cells #[.int .i64 a0_0, .int .i64 a0_1, .int .i64 a0_2, .slice A0_3 l0_3.length c0_3] 66 (0, 0)) (by (with_reducible repeat (first | refine blk_drewN ?_ _ | refine blk_drew ?_ | refine blk_alloc ?_ _)); exact BK784.out) hb); have n1_ := Aside0.mk (below_step (by repeat (first | (with_reducible first | exact HB.out | apply below_alloc | apply pw_below_drewN | apply below_drew1 | refine below_set ?_ GE784.out) | exact HB.out)) hb); clear BK784; clear HB; have BK784 := n0_; have HB := n1_; clear n0_ n1_; (try clear hb); (try clear hb2); (try clear hk); (try clear hi)))
    go_meet
    case rel => exact ⟨_, (true), (by first | rfl | (simp; done) | (simp [*]; done)), H', ⟨by first | omega | exact Nat.le_refl _⟩, ⟨by (with_reducible repeat (first | refine blk_drewN ?_ _ | refine blk_drew ?_ | refine blk_alloc ?_ _)); exact BK784.out⟩, ⟨by repeat (first | (with_reducible first | exact HB.out | apply below_alloc | apply pw_below_drewN | apply below_drew1 | refine below_set ?_ GE784.out) | exact HB.out)⟩⟩
  case rest =>
   clear HC3
   try clear c1
   try clear p2
   try clear c5
   try clear c6
   try clear c10
   try clear hcz10_0
   try clear hcz10_1
   try clear hcz10_2
   try clear hcz10_3
   try clear hcz8_0
   try clear hcz8_1
   try clear hcz8_2
   try clear hcz8_3
   try clear hfz10_0
   try clear hfz10_1
   try clear hfz10_2
   try clear hfz10_3
   try clear hfz8_0
   try clear hfz8_1
   try clear hfz8_2
   try clear hfz8_3
   obtain ⟨kq, x15_2, rfl, HA, HJ2, BK784, HB⟩ := hcut
   cases kq with
   | zero => exact absurd HA.out (by simp [spec_IsOrderedFor.j0])
   | succ kj2 =>
    have H := HA.out
    clear HA
    simp only [spec_IsOrderedFor.j0] at H
    by_cases c12 : x15_2 = true
    ·subst c12
     have H1 : (some (false, false)) = some (r1, r2) := by rw [if_pos rfl] at H; exact H
     clear H
     have H := H1
     clear H1
     simp only [Option.some.injEq, Prod.mk.injEq] at H
     obtain ⟨rfl, rfl⟩ := H
     go_wp2
     go_ret2
     exact ⟨by first | rfl | (simp [errW_none, errW_some] <;> rfl) | (simp [*, errW_none, errW_some] <;> rfl), by repeat (first | (with_reducible first | exact HB.out | apply below_alloc | apply pw_below_drewN | apply below_drew1 | refine below_set ?_ GE784.out) | exact HB.out)⟩
    ·replace c12 := Bool.eq_false_iff.mpr c12
     subst c12
     have H1 : (spec_IsOrderedFor.l0 kj2 l1 l1 (l1.length : Int) 0 a0_0 a0_1 a0_2 l0_3) = some (r1, r2) := by rw [if_neg (show ¬ (false = true) by decide)] at H; exact H
     clear H
     have H := H1
     clear H1
     have H' := Aside0.mk H
     clear H
     go_wp2
     go_loopg [18] kj2 (fun kq v18 w' => ∃ (x18_2 : Int), v18 = .int .i64 x18_2 ∧ Aside0 (spec_IsOrderedFor.l0 kq l1 l1 (l1.length : Int) x18_2 a0_0 a0_1 a0_2 l0_3 = some (r1, r2)) ∧ Aside0 (kq ≤ kj2) ∧ Aside0 (w'.heap[gb784]? = some (.cells #[.int .i64 a0_0, .int .i64 a0_1, .int .i64 a0_2, (.slice A0_3 l0_3.length c0_3)] 66 (0, 0))) ∧ Aside0 (Below w.heap.size w w'))
     case atStart => exact ⟨(0), (by first | rfl | (simp; done) | (simp [*]; done)), H', ⟨Nat.le_refl _⟩, ⟨by (with_reducible repeat (first | refine blk_drewN ?_ _ | refine blk_drew ?_ | refine blk_alloc ?_ _)); exact BK784.out⟩, ⟨by repeat (first | (with_reducible first | exact HB.out | apply below_alloc | apply pw_below_drewN | apply below_drew1 | refine below_set ?_ GE784.out) | exact HB.out)⟩⟩
     case round =>
      clear H'
      try clear c1
      try clear p2
      try clear c5
      try clear c6
      try clear c10
      try clear c12
      try clear hcz10_0
      try clear hcz10_1
      try clear hcz10_2
      try clear hcz10_3
      try clear hcz8_0
      try clear hcz8_1
      try clear hcz8_2
      try clear hcz8_3
      try clear hfz10_0
      try clear hfz10_1
      try clear hfz10_2
      try clear hfz10_3
      try clear hfz8_0
      try clear hfz8_1
      try clear hfz8_2
      try clear hfz8_3
      try clear p2
      obtain ⟨x18_2, rfl, HA, HK2, BK784, HB⟩ := hrel
      cases gk with
      | zero => exact absurd HA.out (by simp [spec_IsOrderedFor.l0])
      | succ k2 =>
       have H := HA.out
       clear HA
       simp only [spec_IsOrderedFor.l0] at H
       by_cases c13 : x18_2 < (l1.length : Int)
       ·rw [if_pos c13] at H
        have c13b0 : decide (x18_2 < (l1.length : Int)) = true := decide_eq_true c13
        clear c13
        by_cases c14 : 0 ≤ x18_2
        ·rw [if_pos c14] at H
         have c14b0 : decide (0 ≤ x18_2) = true := decide_eq_true c14
         clear c14
         by_cases c15 : x18_2 < (l1.length : Int)
         ·rw [if_pos c15] at H
          have c15b0 : decide (x18_2 < (l1.length : Int)) = true := decide_eq_true c15
          clear c15
          replace H := Option.bind_eq_some_iff.mp H
          obtain ⟨t788, A160, H⟩ := H
          replace H : (if t788 = x18_2 then (spec_IsOrderedFor.l0 k2 l1 l1 (l1.length : Int) (wrap64 (x18_2 + 1)) a0_0 a0_1 a0_2 l0_3) else (some (false, true))) = some (r1, r2) := H
          have A16 := Aside0.mk A160
          clear A160
          by_cases c17 : t788 = x18_2
          ·rw [if_pos c17] at H
           have c17b0 : (t788 == x18_2) = true := beq_iff_eq.mpr c17
           have c17b1 : (t788 != x18_2) = false := bne_eq_false_iff_eq.mpr c17
           clear c17
           have H' := Aside0.mk H
           clear H
           have p787 : 0 ≤ (x18_2 : Int) := of_decide_eq_true (by first | (with_reducible assumption) | assumption)
           have q787 : x18_2 < (l1.length : Int) := of_decide_eq_true (by first | (with_reducible assumption) | assumption)
           obtain ⟨ad787, e787, hx787_0⟩ := Kd.at_string HR1.out x18_2 p787 q787
           cases e787
           replace hx787_0 := (HB.out.cell (World.block_lt_of_cell? w _ hx787_0)).trans hx787_0
           replace p787 := eq_true p787
           replace q787 := eq_true q787
           have hcz18_0 : wr.cell? ⟨gb784, 0, none⟩ = some (.int .i64 a0_0) := (blk_cell BK784.out 0).trans rfl
           have hcz18_1 : wr.cell? ⟨gb784, 1, none⟩ = some (.int .i64 a0_1) := (blk_cell BK784.out 1).trans rfl
           have hcz18_2 : wr.cell? ⟨gb784, 2, none⟩ = some (.int .i64 a0_2) := (blk_cell BK784.out 2).trans rfl
           have hcz18_3 : wr.cell? ⟨gb784, 3, none⟩ = some (.slice A0_3 l0_3.length c0_3) := (blk_cell BK784.out 3).trans rfl
           have hfz18_0 := blk_frozen BK784.out 0
           have hfz18_1 := blk_frozen BK784.out 1
           have hfz18_2 := blk_frozen BK784.out 2
           have hfz18_3 := blk_frozen BK784.out 3
           go_wp2_with (first | ((with_reducible refine gate_callee (f := 101) rfl ?_); refine goesL_ (some 25) rfl rfl Try.func101 (by kernel_rfl) rfl #[.agg #[.int .i64 a0_0, .int .i64 a0_1, .int .i64 a0_2, .slice A0_3 l0_3.length c0_3], .string (rdOf ByteArray.empty l1 x18_2)] rfl (by (try simp only [List.map_toArray, List.map_cons, List.map_nil]); first | done | rfl | (simp only [List.length_drop, List.length_take]; rfl)) ?_; (with_reducible refine (spec_pfOrdinal.calls k2 a0_0 a0_1 a0_2 _ _ l0_3 (rdOf ByteArray.empty l1 x18_2) t788 _ ?side1 ?side2 A16.out).mono ?_); (case side1 => repeat (first | exact (Kd.C_below HR0_3.out HB.out) | (with_reducible refine Kd.C_alloc ?_ _) | (with_reducible refine Kd.C_drewN ?_ _) | (with_reducible refine Kd.C_drew ?_))); (case side2 => exact HC0_3.out); rintro e w19 ⟨rfl, hb⟩; refine ⟨_, rfl, ?_⟩; have n0_ := Aside0.mk (blk_below (g := gb784) (o := .cells #[.int .i64 a0_0, .int .i64 a0_1, .int .i64 a0_2, .slice A0_3 l0_3.length c0_3] 66 (0, 0)) (by (with_reducible repeat (first | refine blk_drewN ?_ _ | refine blk_drew ?_ | refine blk_alloc ?_ _)); exact BK784.out) hb); have n1_ := Aside0.mk (below_step (by repeat (first | (with_reducible first | exact HB.out | apply below_alloc | apply pw_below_drewN | apply below_drew1 | refine below_set ?_ GE784.out) | exact HB.out)) hb); clear BK784; clear HB; have BK784 := n0_; have HB := n1_; clear n0_ n1_; (try clear hb); (try clear hb2); (try clear hk); (try clear hi)))
           go_roundg k2
           case measure => have := HJ2.out; have := HK2.out; omega
           case rel => exact ⟨(wrap64 (x18_2 + 1)), (by first | rfl | (simp; done) | (simp [*]; done)), H', ⟨by have := HJ2.out; have := HK2.out; omega⟩, ⟨by (with_reducible repeat (first | refine blk_drewN ?_ _ | refine blk_drew ?_ | refine blk_alloc ?_ _)); exact BK784.out⟩, ⟨by repeat (first | (with_reducible first | exact HB.out | apply below_alloc | apply pw_below_drewN | apply below_drew1 | refine below_set ?_ GE784.out) | exact HB.out)⟩⟩
          ·rw [if_neg c17] at H
           have c17b0 : (t788 == x18_2) = false := beq_eq_false_iff_ne.mpr c17
           have c17b1 : (t788 != x18_2) = true := bne_iff_ne.mpr c17
           simp only [Option.some.injEq, Prod.mk.injEq] at H
           obtain ⟨rfl, rfl⟩ := H
           have p787 : 0 ≤ (x18_2 : Int) := of_decide_eq_true (by first | (with_reducible assumption) | assumption)
           have q787 : x18_2 < (l1.length : Int) := of_decide_eq_true (by first | (with_reducible assumption) | assumption)
           obtain ⟨ad787, e787, hx787_0⟩ := Kd.at_string HR1.out x18_2 p787 q787
           cases e787
           replace hx787_0 := (HB.out.cell (World.block_lt_of_cell? w _ hx787_0)).trans hx787_0
           replace p787 := eq_true p787
           replace q787 := eq_true q787
           have hcz20_0 : wr.cell? ⟨gb784, 0, none⟩ = some (.int .i64 a0_0) := (blk_cell BK784.out 0).trans rfl
           have hcz20_1 : wr.cell? ⟨gb784, 1, none⟩ = some (.int .i64 a0_1) := (blk_cell BK784.out 1).trans rfl
           have hcz20_2 : wr.cell? ⟨gb784, 2, none⟩ = some (.int .i64 a0_2) := (blk_cell BK784.out 2).trans rfl
           have hcz20_3 : wr.cell? ⟨gb784, 3, none⟩ = some (.slice A0_3 l0_3.length c0_3) := (blk_cell BK784.out 3).trans rfl
           have hfz20_0 := blk_frozen BK784.out 0
           have hfz20_1 := blk_frozen BK784.out 1
           have hfz20_2 := blk_frozen BK784.out 2
           have hfz20_3 := blk_frozen BK784.out 3
           go_wp2_with (first | ((with_reducible refine gate_callee (f := 101) rfl ?_); refine goesL_ (some 25) rfl rfl Try.func101 (by kernel_rfl) rfl #[.agg #[.int .i64 a0_0, .int .i64 a0_1, .int .i64 a0_2, .slice A0_3 l0_3.length c0_3], .string (rdOf ByteArray.empty l1 x18_2)] rfl (by (try simp only [List.map_toArray, List.map_cons, List.map_nil]); first | done | rfl | (simp only [List.length_drop, List.length_take]; rfl)) ?_; (with_reducible refine (spec_pfOrdinal.calls k2 a0_0 a0_1 a0_2 _ _ l0_3 (rdOf ByteArray.empty l1 x18_2) t788 _ ?side1 ?side2 A16.out).mono ?_); (case side1 => repeat (first | exact (Kd.C_below HR0_3.out HB.out) | (with_reducible refine Kd.C_alloc ?_ _) | (with_reducible refine Kd.C_drewN ?_ _) | (with_reducible refine Kd.C_drew ?_))); (case side2 => exact HC0_3.out); rintro e w21 ⟨rfl, hb⟩; refine ⟨_, rfl, ?_⟩; have n0_ := Aside0.mk (blk_below (g := gb784) (o := .cells #[.int .i64 a0_0, .int .i64 a0_1, .int .i64 a0_2, .slice A0_3 l0_3.length c0_3] 66 (0, 0)) (by (with_reducible repeat (first | refine blk_drewN ?_ _ | refine blk_drew ?_ | refine blk_alloc ?_ _)); exact BK784.out) hb); have n1_ := Aside0.mk (below_step (by repeat (first | (with_reducible first | exact HB.out | apply below_alloc | apply pw_below_drewN | apply below_drew1 | refine below_set ?_ GE784.out) | exact HB.out)) hb); clear BK784; clear HB; have BK784 := n0_; have HB := n1_; clear n0_ n1_; (try clear hb); (try clear hb2); (try clear hk); (try clear hi)))
           go_ret2
           exact ⟨by first | rfl | (simp [errW_none, errW_some] <;> rfl) | (simp [*, errW_none, errW_some] <;> rfl), by repeat (first | (with_reducible first | exact HB.out | apply below_alloc | apply pw_below_drewN | apply below_drew1 | refine below_set ?_ GE784.out) | exact HB.out)⟩
         ·rw [if_neg c15] at H
          exact absurd H (by simp)
        ·rw [if_neg c14] at H
         exact absurd H (by simp)
       ·rw [if_neg c13] at H
        have c13b0 : decide (x18_2 < (l1.length : Int)) = false := decide_eq_false c13
        clear c13
        simp only [Option.some.injEq, Prod.mk.injEq] at H
        obtain ⟨rfl, rfl⟩ := H
        have hcz22_0 : wr.cell? ⟨gb784, 0, none⟩ = some (.int .i64 a0_0) := (blk_cell BK784.out 0).trans rfl
        have hcz22_1 : wr.cell? ⟨gb784, 1, none⟩ = some (.int .i64 a0_1) := (blk_cell BK784.out 1).trans rfl
        have hcz22_2 : wr.cell? ⟨gb784, 2, none⟩ = some (.int .i64 a0_2) := (blk_cell BK784.out 2).trans rfl
        have hcz22_3 : wr.cell? ⟨gb784, 3, none⟩ = some (.slice A0_3 l0_3.length c0_3) := (blk_cell BK784.out 3).trans rfl
        have hfz22_0 := blk_frozen BK784.out 0
        have hfz22_1 := blk_frozen BK784.out 1
        have hfz22_2 := blk_frozen BK784.out 2
        have hfz22_3 := blk_frozen BK784.out 3
        go_wp2
        go_ret2
        exact ⟨by first | rfl | (simp [errW_none, errW_some] <;> rfl) | (simp [*, errW_none, errW_some] <;> rfl), by repeat (first | (with_reducible first | exact HB.out | apply below_alloc | apply pw_below_drewN | apply below_drew1 | refine below_set ?_ GE784.out) | exact HB.out)⟩
/-! ### impl_IsOrderedFor: function 60 -/
mutual
def impl_IsOrderedFor.j0 : Nat → List ByteArray → Bool → Int → Int → Int → List Int → Option (Bool × Bool)
  | 0, _, _, _, _, _, _ => none
  | k + 1, x1, x15, x790000, x790001, x790002, x790003 => if x15 = true then (some (false, false)) else (impl_IsOrderedFor.l0 k x1 x1 (x1.length : Int) 0 x790000 x790001 x790002 x790003)
def impl_IsOrderedFor.l0 : Nat → List ByteArray → List ByteArray → Int → Int → Int → Int → Int → List Int → Option (Bool × Bool)
  | 0, _, _, _, _, _, _, _, _ => none
  | k + 1, x1, x16, x17, x18, x790000, x790001, x790002, x790003 => if x18 < x17 then (if 0 ≤ x18 then (if x18 < (x16.length : Int) then ((impl_threePlaces.f k x790000 (rdOf ByteArray.empty x16 x18) x790001).bind fun t793 => ((impl_Ordered_ordinal.f x790000 x790001 x790002 x790003 t793).bind fun t796 => (if t796 = x18 then (impl_IsOrderedFor.l0 k x1 x16 x17 (wrap64 (x18 + 1)) x790000 x790001 x790002 x790003) else (some (false, true))))) else (none)) else (none)) else (some (((x1.length : Int) == x790002), true))
end
def impl_IsOrderedFor.f (k : Nat) (a0_0 : Int) (a0_1 : Int) (a0_2 : Int) (l0_3 : List Int) (l1 : List ByteArray) : Option (Bool × Bool) := (impl_IsOrdered.f k a0_0 a0_1 a0_2 l0_3).bind fun t790 => (if t790 = true then ((impl_AreKeys.f k l1).bind fun t791 => (impl_IsOrderedFor.j0 k l1 (!t791) a0_0 a0_1 a0_2 l0_3)) else (impl_IsOrderedFor.j0 k l1 true a0_0 a0_1 a0_2 l0_3))
theorem impl_IsOrderedFor.mono_l : ∀ k, (∀ y0 y1 y2 y3 y4 y5, LeO (impl_IsOrderedFor.j0 k y0 y1 y2 y3 y4 y5) (impl_IsOrderedFor.j0 (k + 1) y0 y1 y2 y3 y4 y5)) ∧ (∀ y0 y1 y2 y3 y4 y5 y6 y7, LeO (impl_IsOrderedFor.l0 k y0 y1 y2 y3 y4 y5 y6 y7) (impl_IsOrderedFor.l0 (k + 1) y0 y1 y2 y3 y4 y5 y6 y7))
  | 0 => ⟨fun _ _ _ _ _ _ r h => by simp [impl_IsOrderedFor.j0] at h, fun _ _ _ _ _ _ _ _ r h => by simp [impl_IsOrderedFor.l0] at h⟩
  | k + 1 => by
    obtain ⟨ih0, ih1⟩ := impl_IsOrderedFor.mono_l k
    refine ⟨?_, ?_⟩
    · intro y0 y1 y2 y3 y4 y5
      unfold impl_IsOrderedFor.j0
      repeat' first
      | (with_reducible exact ih0 _ _ _ _ _ _)
      | (with_reducible exact ih1 _ _ _ _ _ _ _ _)
      | (with_reducible exact impl_AreKeys.mono _ _)
      | (with_reducible exact impl_IsOrdered.mono _ _ _ _ _)
      | (with_reducible exact impl_threePlaces.mono _ _ _ _)
      | (with_reducible exact LeO.refl _)
      | (with_reducible exact LeO.none _)
      | (with_reducible refine LeO.ite ?_ ?_)
      | (with_reducible refine LeO.bind ?_ (fun _ => ?_))
      | exact ih0 _ _ _ _ _ _
      | exact ih1 _ _ _ _ _ _ _ _
      | exact impl_AreKeys.mono _ _
      | exact impl_IsOrdered.mono _ _ _ _ _
      | exact impl_threePlaces.mono _ _ _ _
      | exact LeO.none _
      | refine LeO.ite ?_ ?_
      | refine LeO.bind ?_ (fun _ => ?_)
    · intro y0 y1 y2 y3 y4 y5 y6 y7
      unfold impl_IsOrderedFor.l0
      repeat' first
      | (with_reducible exact ih0 _ _ _ _ _ _)
      | (with_reducible exact ih1 _ _ _ _ _ _ _ _)
      | (with_reducible exact impl_AreKeys.mono _ _)
      | (with_reducible exact impl_IsOrdered.mono _ _ _ _ _)
      | (with_reducible exact impl_threePlaces.mono _ _ _ _)
      | (with_reducible exact LeO.refl _)
      | (with_reducible exact LeO.none _)
      | (with_reducible refine LeO.ite ?_ ?_)
      | (with_reducible refine LeO.bind ?_ (fun _ => ?_))
      | exact ih0 _ _ _ _ _ _
      | exact ih1 _ _ _ _ _ _ _ _
      | exact impl_AreKeys.mono _ _
      | exact impl_IsOrdered.mono _ _ _ _ _
      | exact impl_threePlaces.mono _ _ _ _
      | exact LeO.none _
      | refine LeO.ite ?_ ?_
      | refine LeO.bind ?_ (fun _ => ?_)
theorem impl_IsOrderedFor.mono : ∀ a0 a1 a2 a3 a4 k, LeO (impl_IsOrderedFor.f k a0 a1 a2 a3 a4) (impl_IsOrderedFor.f (k + 1) a0 a1 a2 a3 a4) := by
  intro a0 a1 a2 a3 a4 k
  obtain ⟨ih0, ih1⟩ := impl_IsOrderedFor.mono_l k
  unfold impl_IsOrderedFor.f
  repeat' first
      | (with_reducible exact ih0 _ _ _ _ _ _)
      | (with_reducible exact ih1 _ _ _ _ _ _ _ _)
      | (with_reducible exact impl_AreKeys.mono _ _)
      | (with_reducible exact impl_IsOrdered.mono _ _ _ _ _)
      | (with_reducible exact impl_threePlaces.mono _ _ _ _)
      | (with_reducible exact LeO.refl _)
      | (with_reducible exact LeO.none _)
      | (with_reducible refine LeO.ite ?_ ?_)
      | (with_reducible refine LeO.bind ?_ (fun _ => ?_))
      | exact ih0 _ _ _ _ _ _
      | exact ih1 _ _ _ _ _ _ _ _
      | exact impl_AreKeys.mono _ _
      | exact impl_IsOrdered.mono _ _ _ _ _
      | exact impl_threePlaces.mono _ _ _ _
      | exact LeO.none _
      | refine LeO.ite ?_ ?_
      | refine LeO.bind ?_ (fun _ => ?_)
noncomputable def impl_IsOrderedFor.J0 (y0 : List ByteArray) (y1 : Bool) (y2 : Int) (y3 : Int) (y4 : Int) (y5 : List Int) : Option (Bool × Bool) := lim fun k => impl_IsOrderedFor.j0 k y0 y1 y2 y3 y4 y5
theorem impl_IsOrderedFor.J0_sup (y0 : List ByteArray) (y1 : Bool) (y2 : Int) (y3 : Int) (y4 : Int) (y5 : List Int) : Sup (fun k => impl_IsOrderedFor.j0 k y0 y1 y2 y3 y4 y5) (impl_IsOrderedFor.J0 y0 y1 y2 y3 y4 y5) := Sup.of_mono fun k => (impl_IsOrderedFor.mono_l k).1 y0 y1 y2 y3 y4 y5
noncomputable def impl_IsOrderedFor.L0 (y0 : List ByteArray) (y1 : List ByteArray) (y2 : Int) (y3 : Int) (y4 : Int) (y5 : Int) (y6 : Int) (y7 : List Int) : Option (Bool × Bool) := lim fun k => impl_IsOrderedFor.l0 k y0 y1 y2 y3 y4 y5 y6 y7
theorem impl_IsOrderedFor.L0_sup (y0 : List ByteArray) (y1 : List ByteArray) (y2 : Int) (y3 : Int) (y4 : Int) (y5 : Int) (y6 : Int) (y7 : List Int) : Sup (fun k => impl_IsOrderedFor.l0 k y0 y1 y2 y3 y4 y5 y6 y7) (impl_IsOrderedFor.L0 y0 y1 y2 y3 y4 y5 y6 y7) := Sup.of_mono fun k => (impl_IsOrderedFor.mono_l k).2 y0 y1 y2 y3 y4 y5 y6 y7
noncomputable def impl_IsOrderedFor.F (a0_0 : Int) (a0_1 : Int) (a0_2 : Int) (l0_3 : List Int) (l1 : List ByteArray) : Option (Bool × Bool) := lim fun k => impl_IsOrderedFor.f k a0_0 a0_1 a0_2 l0_3 l1
theorem impl_IsOrderedFor.F_sup (a0_0 : Int) (a0_1 : Int) (a0_2 : Int) (l0_3 : List Int) (l1 : List ByteArray) : Sup (fun k => impl_IsOrderedFor.f k a0_0 a0_1 a0_2 l0_3 l1) (impl_IsOrderedFor.F a0_0 a0_1 a0_2 l0_3 l1) := Sup.of_mono fun k => impl_IsOrderedFor.mono a0_0 a0_1 a0_2 l0_3 l1 k
theorem impl_IsOrderedFor.J0_eq (x1 : List ByteArray) (x15 : Bool) (x790000 : Int) (x790001 : Int) (x790002 : Int) (x790003 : List Int) : impl_IsOrderedFor.J0 x1 x15 x790000 x790001 x790002 x790003 = if x15 = true then (some (false, false)) else (impl_IsOrderedFor.L0 x1 x1 (x1.length : Int) 0 x790000 x790001 x790002 x790003) := by
  refine Sup.unique (impl_IsOrderedFor.J0_sup x1 x15 x790000 x790001 x790002 x790003) (Sup.shift (fun k => (impl_IsOrderedFor.mono_l k).1 x1 x15 x790000 x790001 x790002 x790003) (Sup.congr (g' := fun k => if x15 = true then (some (false, false)) else (impl_IsOrderedFor.l0 k x1 x1 (x1.length : Int) 0 x790000 x790001 x790002 x790003)) (fun k => by first | rfl | simp only [impl_IsOrderedFor.j0]) ?_))
  repeat' first
    | (with_reducible exact impl_IsOrderedFor.J0_sup _ _ _ _ _ _)
    | (with_reducible exact impl_IsOrderedFor.L0_sup _ _ _ _ _ _ _ _)
    | (with_reducible exact impl_AreKeys.F_sup _)
    | (with_reducible exact impl_IsOrdered.F_sup _ _ _ _)
    | (with_reducible exact impl_threePlaces.F_sup _ _ _)
    | (with_reducible refine Sup.ite ?_ ?_)
    | (with_reducible refine Sup.bind ?_ (fun _ => ?_))
    | (with_reducible exact Sup.const _)
    | exact impl_IsOrderedFor.J0_sup _ _ _ _ _ _
    | exact impl_IsOrderedFor.L0_sup _ _ _ _ _ _ _ _
    | exact impl_AreKeys.F_sup _
    | exact impl_IsOrdered.F_sup _ _ _ _
    | exact impl_threePlaces.F_sup _ _ _
    | exact Sup.const _
theorem impl_IsOrderedFor.L0_eq (x1 : List ByteArray) (x16 : List ByteArray) (x17 : Int) (x18 : Int) (x790000 : Int) (x790001 : Int) (x790002 : Int) (x790003 : List Int) : impl_IsOrderedFor.L0 x1 x16 x17 x18 x790000 x790001 x790002 x790003 = if x18 < x17 then (if 0 ≤ x18 then (if x18 < (x16.length : Int) then ((impl_threePlaces.F x790000 (rdOf ByteArray.empty x16 x18) x790001).bind fun t793 => ((impl_Ordered_ordinal.f x790000 x790001 x790002 x790003 t793).bind fun t796 => (if t796 = x18 then (impl_IsOrderedFor.L0 x1 x16 x17 (wrap64 (x18 + 1)) x790000 x790001 x790002 x790003) else (some (false, true))))) else (none)) else (none)) else (some (((x1.length : Int) == x790002), true)) := by
  refine Sup.unique (impl_IsOrderedFor.L0_sup x1 x16 x17 x18 x790000 x790001 x790002 x790003) (Sup.shift (fun k => (impl_IsOrderedFor.mono_l k).2 x1 x16 x17 x18 x790000 x790001 x790002 x790003) (Sup.congr (g' := fun k => if x18 < x17 then (if 0 ≤ x18 then (if x18 < (x16.length : Int) then ((impl_threePlaces.f k x790000 (rdOf ByteArray.empty x16 x18) x790001).bind fun t793 => ((impl_Ordered_ordinal.f x790000 x790001 x790002 x790003 t793).bind fun t796 => (if t796 = x18 then (impl_IsOrderedFor.l0 k x1 x16 x17 (wrap64 (x18 + 1)) x790000 x790001 x790002 x790003) else (some (false, true))))) else (none)) else (none)) else (some (((x1.length : Int) == x790002), true))) (fun k => by first | rfl | simp only [impl_IsOrderedFor.l0]) ?_))
  repeat' first
    | (with_reducible exact impl_IsOrderedFor.J0_sup _ _ _ _ _ _)
    | (with_reducible exact impl_IsOrderedFor.L0_sup _ _ _ _ _ _ _ _)
    | (with_reducible exact impl_AreKeys.F_sup _)
    | (with_reducible exact impl_IsOrdered.F_sup _ _ _ _)
    | (with_reducible exact impl_threePlaces.F_sup _ _ _)
    | (with_reducible refine Sup.ite ?_ ?_)
    | (with_reducible refine Sup.bind ?_ (fun _ => ?_))
    | (with_reducible exact Sup.const _)
    | exact impl_IsOrderedFor.J0_sup _ _ _ _ _ _
    | exact impl_IsOrderedFor.L0_sup _ _ _ _ _ _ _ _
    | exact impl_AreKeys.F_sup _
    | exact impl_IsOrdered.F_sup _ _ _ _
    | exact impl_threePlaces.F_sup _ _ _
    | exact Sup.const _
theorem impl_IsOrderedFor.F_eq (a0_0 : Int) (a0_1 : Int) (a0_2 : Int) (l0_3 : List Int) (l1 : List ByteArray) : impl_IsOrderedFor.F a0_0 a0_1 a0_2 l0_3 l1 = (impl_IsOrdered.F a0_0 a0_1 a0_2 l0_3).bind fun t790 => (if t790 = true then ((impl_AreKeys.F l1).bind fun t791 => (impl_IsOrderedFor.J0 l1 (!t791) a0_0 a0_1 a0_2 l0_3)) else (impl_IsOrderedFor.J0 l1 true a0_0 a0_1 a0_2 l0_3)) := by
  refine Sup.unique (impl_IsOrderedFor.F_sup a0_0 a0_1 a0_2 l0_3 l1) (Sup.congr (g' := fun k => (impl_IsOrdered.f k a0_0 a0_1 a0_2 l0_3).bind fun t790 => (if t790 = true then ((impl_AreKeys.f k l1).bind fun t791 => (impl_IsOrderedFor.j0 k l1 (!t791) a0_0 a0_1 a0_2 l0_3)) else (impl_IsOrderedFor.j0 k l1 true a0_0 a0_1 a0_2 l0_3))) (fun k => by first | rfl | simp only [impl_IsOrderedFor.f]) ?_)
  repeat' first
    | (with_reducible exact impl_IsOrderedFor.J0_sup _ _ _ _ _ _)
    | (with_reducible exact impl_IsOrderedFor.L0_sup _ _ _ _ _ _ _ _)
    | (with_reducible exact impl_AreKeys.F_sup _)
    | (with_reducible exact impl_IsOrdered.F_sup _ _ _ _)
    | (with_reducible exact impl_threePlaces.F_sup _ _ _)
    | (with_reducible refine Sup.ite ?_ ?_)
    | (with_reducible refine Sup.bind ?_ (fun _ => ?_))
    | (with_reducible exact Sup.const _)
    | exact impl_IsOrderedFor.J0_sup _ _ _ _ _ _
    | exact impl_IsOrderedFor.L0_sup _ _ _ _ _ _ _ _
    | exact impl_AreKeys.F_sup _
    | exact impl_IsOrdered.F_sup _ _ _ _
    | exact impl_threePlaces.F_sup _ _ _
    | exact Sup.const _
set_option maxHeartbeats 8000000 in
set_option maxRecDepth 100000 in
theorem impl_IsOrderedFor.calls (k : Nat) (a0_0 : Int) (a0_1 : Int) (a0_2 : Int) (A0_3 : Option Addr) (c0_3 : Nat) (l0_3 : List Int) (A1 : Option Addr) (c1 : Nat) (l1 : List ByteArray) (r1 : Bool) (r2 : Bool) (w : World) (hr0_3 : Kd.C (Kd.int .i64) w A0_3 l0_3.length l0_3) (hc0_3 : l0_3.length ≤ c0_3) (hr1 : Kd.C Kd.string w A1 l1.length l1) (hc1 : l1.length ≤ c1) (h : impl_IsOrderedFor.f k a0_0 a0_1 a0_2 l0_3 l1 = some (r1, r2)) :
    Calls Try.prog 60 #[.agg #[.int .i64 a0_0, .int .i64 a0_1, .int .i64 a0_2, .slice A0_3 l0_3.length c0_3], .slice A1 l1.length c1] w fun e w' => e = .returned (.tuple #[.bool r1, .bool r2]) ∧ Below w.heap.size w w' := by
  have hu66 := Try.underlying66
  have HR0_3 := Aside0.mk hr0_3
  have HC0_3 := Aside0.mk hc0_3
  clear hr0_3 hc0_3
  have HR1 := Aside0.mk hr1
  have HC1 := Aside0.mk hc1
  clear hr1 hc1
  have HB := Aside0.mk (Below.refl w.heap.size w)
  have H : ((impl_IsOrdered.f k a0_0 a0_1 a0_2 l0_3).bind fun t790 => (if t790 = true then ((impl_AreKeys.f k l1).bind fun t791 => (impl_IsOrderedFor.j0 k l1 (!t791) a0_0 a0_1 a0_2 l0_3)) else (impl_IsOrderedFor.j0 k l1 true a0_0 a0_1 a0_2 l0_3))) = some (r1, r2) := h
  clear h
  have HC3 := Aside0.mk H
  clear H
  go_enter Try.func60, Try.ntmps60
  go_upto_region 1 with (first | ((with_reducible refine gate_dst (N := 2) rfl ?_); refine box_event ?hg (N := 2) ?hd (cs := #[.int .i64 a0_0, .int .i64 a0_1, .int .i64 a0_2, .slice A0_3 l0_3.length c0_3]) (t := 66) ?hr ?_; (case hd => rfl); (case hg => rfl); (case hr => first | (go_simp; done) | (go_simp; rfl)); intro gb789 hg w4 hbox hb; have n0_ := Aside0.mk (below_step (by repeat (first | (with_reducible first | exact HB.out | apply below_alloc | apply pw_below_drewN | apply below_drew1) | exact HB.out)) hb); have n1_ := Aside0.mk (hbox); have n2_ := Aside0.mk ((by rw [hg]; exact (below_size (by repeat (first | (with_reducible first | exact HB.out | apply below_alloc | apply pw_below_drewN | apply below_drew1) | exact HB.out))) : w.heap.size ≤ gb789)); have n3_ := Aside0.mk ((by rw [hg]; exact (below_size (by repeat (first | (with_reducible first | exact HB.out | apply below_alloc | apply pw_below_drewN | apply below_drew1) | exact HB.out))) : w.heap.size ≤ gb789)); clear HB; have HB := n0_; have BK789 := n1_; have GW789 := n2_; have GE789 := n3_; clear n0_ n1_ n2_ n3_; clear hb hbox hg))
  (try simp only [Act.put, List.setIfInBounds_toArray, List.set_cons_zero, List.set_cons_succ])
  go_cut [15] (fun v15 wc => ∃ (kq : Nat) (x15_2 : Bool), v15 = .bool x15_2 ∧ Aside0 (impl_IsOrderedFor.j0 kq l1 x15_2 a0_0 a0_1 a0_2 l0_3 = some (r1, r2)) ∧ Aside0 (kq ≤ k) ∧ Aside0 (wc.heap[gb789]? = some (.cells #[.int .i64 a0_0, .int .i64 a0_1, .int .i64 a0_2, (.slice A0_3 l0_3.length c0_3)] 66 (0, 0))) ∧ Aside0 (Below w.heap.size w wc))
  case first =>
   have H := HC3.out
   clear HC3
   replace H := Option.bind_eq_some_iff.mp H
   obtain ⟨t790, A50, H⟩ := H
   replace H : (if t790 = true then ((impl_AreKeys.f k l1).bind fun t791 => (impl_IsOrderedFor.j0 k l1 (!t791) a0_0 a0_1 a0_2 l0_3)) else (impl_IsOrderedFor.j0 k l1 true a0_0 a0_1 a0_2 l0_3)) = some (r1, r2) := H
   have A5 := Aside0.mk A50
   clear A50
   by_cases c6 : t790 = true
   ·subst c6
    have H1 : ((impl_AreKeys.f k l1).bind fun t791 => (impl_IsOrderedFor.j0 k l1 (!t791) a0_0 a0_1 a0_2 l0_3)) = some (r1, r2) := by rw [if_pos rfl] at H; exact H
    clear H
    have H := H1
    clear H1
    replace H := Option.bind_eq_some_iff.mp H
    obtain ⟨t791, A70, H⟩ := H
    replace H : (impl_IsOrderedFor.j0 k l1 (!t791) a0_0 a0_1 a0_2 l0_3) = some (r1, r2) := H
    have A7 := Aside0.mk A70
    clear A70
    have H' := Aside0.mk H
    clear H
    have hcz8_0 : w4.cell? ⟨gb789, 0, none⟩ = some (.int .i64 a0_0) := (blk_cell BK789.out 0).trans rfl
    have hcz8_1 : w4.cell? ⟨gb789, 1, none⟩ = some (.int .i64 a0_1) := (blk_cell BK789.out 1).trans rfl
    have hcz8_2 : w4.cell? ⟨gb789, 2, none⟩ = some (.int .i64 a0_2) := (blk_cell BK789.out 2).trans rfl
    have hcz8_3 : w4.cell? ⟨gb789, 3, none⟩ = some (.slice A0_3 l0_3.length c0_3) := (blk_cell BK789.out 3).trans rfl
    have hfz8_0 := blk_frozen BK789.out 0
    have hfz8_1 := blk_frozen BK789.out 1
    have hfz8_2 := blk_frozen BK789.out 2
    have hfz8_3 := blk_frozen BK789.out 3
    go_wp2_with (first | ((with_reducible refine gate_callee (f := 102) rfl ?_); refine goesL_ (some 9) rfl rfl Try.func102 (by kernel_rfl) rfl #[.agg #[.int .i64 a0_0, .int .i64 a0_1, .int .i64 a0_2, .slice A0_3 l0_3.length c0_3]] rfl (by (try simp only [List.map_toArray, List.map_cons, List.map_nil]); first | done | rfl | (simp only [List.length_drop, List.length_take]; rfl)) ?_; (with_reducible refine (impl_IsOrdered.calls k a0_0 a0_1 a0_2 _ _ l0_3 true _ ?side1 ?side2 A5.out).mono ?_); (case side1 => repeat (first | exact (Kd.C_below HR0_3.out HB.out) | (with_reducible refine Kd.C_alloc ?_ _) | (with_reducible refine Kd.C_drewN ?_ _) | (with_reducible refine Kd.C_drew ?_))); (case side2 => exact HC0_3.out); rintro e w9 ⟨rfl, hb⟩; refine ⟨_, rfl, ?_⟩; have n0_ := Aside0.mk (blk_below (g := gb789) (o := .cells #[.int .i64 a0_0, .int .i64 a0_1, .int .i64 a0_2, .slice A0_3 l0_3.length c0_3] 66 (0, 0)) (by (with_reducible repeat (first | refine blk_drewN ?_ _ | refine blk_drew ?_ | refine blk_alloc ?_ _)); exact BK789.out) hb); have n1_ := Aside0.mk (below_step (by repeat (first | (with_reducible first | exact HB.out | apply below_alloc | apply pw_below_drewN | apply below_drew1 | refine below_set ?_ GE789.out) | exact HB.out)) hb); clear BK789; clear HB; have BK789 := n0_; have HB := n1_; clear n0_ n1_; (try clear hb); (try clear hb2); (try clear hk); (try clear hi)) | (go_at_call 86; (with_reducible refine (impl_AreKeys.calls k _ _ l1 t791 _ ?side1 ?side2 A7.out).mono ?_); (case side1 => repeat (first | exact (Kd.C_below HR1.out HB.out) | (with_reducible refine Kd.C_alloc ?_ _) | (with_reducible refine Kd.C_drewN ?_ _) | (with_reducible refine Kd.C_drew ?_))); (case side2 => exact HC1.out); rintro e w' ⟨rfl, ⟨nd, rfl⟩⟩))
    go_meet
    case rel => exact ⟨_, (!t791), (by first | rfl | (simp; done) | (simp [*]; done)), H', ⟨by first | omega | exact Nat.le_refl _⟩, ⟨by (with_reducible repeat (first | refine blk_drewN ?_ _ | refine blk_drew ?_ | refine blk_alloc ?_ _)); exact BK789.out⟩, ⟨by repeat (first | (with_reducible first | exact HB.out | apply below_alloc | apply pw_below_drewN | apply below_drew1 | refine below_set ?_ GE789.out) | exact HB.out)⟩⟩
   ·replace c6 := Bool.eq_false_iff.mpr c6
    subst c6
    have H1 : (impl_IsOrderedFor.j0 k l1 true a0_0 a0_1 a0_2 l0_3) = some (r1, r2) := by rw [if_neg (show ¬ (false = true) by decide)] at H; exact H
    clear H
    have H := H1
    clear H1
    have H' := Aside0.mk H
    clear H
    have hcz10_0 : w4.cell? ⟨gb789, 0, none⟩ = some (.int .i64 a0_0) := (blk_cell BK789.out 0).trans rfl
    have hcz10_1 : w4.cell? ⟨gb789, 1, none⟩ = some (.int .i64 a0_1) := (blk_cell BK789.out 1).trans rfl
    have hcz10_2 : w4.cell? ⟨gb789, 2, none⟩ = some (.int .i64 a0_2) := (blk_cell BK789.out 2).trans rfl
    have hcz10_3 : w4.cell? ⟨gb789, 3, none⟩ = some (.slice A0_3 l0_3.length c0_3) := (blk_cell BK789.out 3).trans rfl
    have hfz10_0 := blk_frozen BK789.out 0
    have hfz10_1 := blk_frozen BK789.out 1
    have hfz10_2 := blk_frozen BK789.out 2
    have hfz10_3 := blk_frozen BK789.out 3
    go_wp2_with (first | ((with_reducible refine gate_callee (f := 102) rfl ?_); refine goesL_ (some 9) rfl rfl Try.func102 (by kernel_rfl) rfl #[.agg #[.int .i64 a0_0, .int .i64 a0_1, .int .i64 a0_2, .slice A0_3 l0_3.length c0_3]] rfl (by (try simp only [List.map_toArray, List.map_cons, List.map_nil]); first | done | rfl | (simp only [List.length_drop, List.length_take]; rfl)) ?_; (with_reducible refine (impl_IsOrdered.calls k a0_0 a0_1 a0_2 _ _ l0_3 false _ ?side1 ?side2 A5.out).mono ?_); (case side1 => repeat (first | exact (Kd.C_below HR0_3.out HB.out) | (with_reducible refine Kd.C_alloc ?_ _) | (with_reducible refine Kd.C_drewN ?_ _) | (with_reducible refine Kd.C_drew ?_))); (case side2 => exact HC0_3.out); rintro e w11 ⟨rfl, hb⟩; refine ⟨_, rfl, ?_⟩; have n0_ := Aside0.mk (blk_below (g := gb789) (o := .cells #[.int .i64 a0_0, .int .i64 a0_1, .int .i64 a0_2, .slice A0_3 l0_3.length c0_3] 66 (0, 0)) (by (with_reducible repeat (first | refine blk_drewN ?_ _ | refine blk_drew ?_ | refine blk_alloc ?_ _)); exact BK789.out) hb); have n1_ := Aside0.mk (below_step (by repeat (first | (with_reducible first | exact HB.out | apply below_alloc | apply pw_below_drewN | apply below_drew1 | refine below_set ?_ GE789.out) | exact HB.out)) hb); clear BK789; clear HB; have BK789 := n0_; have HB := n1_; clear n0_ n1_; (try clear hb); (try clear hb2); (try clear hk); (try clear hi)))
    go_meet
    case rel => exact ⟨_, (true), (by first | rfl | (simp; done) | (simp [*]; done)), H', ⟨by first | omega | exact Nat.le_refl _⟩, ⟨by (with_reducible repeat (first | refine blk_drewN ?_ _ | refine blk_drew ?_ | refine blk_alloc ?_ _)); exact BK789.out⟩, ⟨by repeat (first | (with_reducible first | exact HB.out | apply below_alloc | apply pw_below_drewN | apply below_drew1 | refine below_set ?_ GE789.out) | exact HB.out)⟩⟩
  case rest =>
   clear HC3
   try clear c1
   try clear p2
   try clear c6
   try clear c10
   try clear hcz10_0
   try clear hcz10_1
   try clear hcz10_2
   try clear hcz10_3
   try clear hcz8_0
   try clear hcz8_1
   try clear hcz8_2
   try clear hcz8_3
   try clear hfz10_0
   try clear hfz10_1
   try clear hfz10_2
   try clear hfz10_3
   try clear hfz8_0
   try clear hfz8_1
   try clear hfz8_2
   try clear hfz8_3
   obtain ⟨kq, x15_2, rfl, HA, HJ2, BK789, HB⟩ := hcut
   cases kq with
   | zero => exact absurd HA.out (by simp [impl_IsOrderedFor.j0])
   | succ kj2 =>
    have H := HA.out
    clear HA
    simp only [impl_IsOrderedFor.j0] at H
    by_cases c12 : x15_2 = true
    ·subst c12
     have H1 : (some (false, false)) = some (r1, r2) := by rw [if_pos rfl] at H; exact H
     clear H
     have H := H1
     clear H1
     simp only [Option.some.injEq, Prod.mk.injEq] at H
     obtain ⟨rfl, rfl⟩ := H
     go_wp2
     go_ret2
     exact ⟨by first | rfl | (simp [errW_none, errW_some] <;> rfl) | (simp [*, errW_none, errW_some] <;> rfl), by repeat (first | (with_reducible first | exact HB.out | apply below_alloc | apply pw_below_drewN | apply below_drew1 | refine below_set ?_ GE789.out) | exact HB.out)⟩
    ·replace c12 := Bool.eq_false_iff.mpr c12
     subst c12
     have H1 : (impl_IsOrderedFor.l0 kj2 l1 l1 (l1.length : Int) 0 a0_0 a0_1 a0_2 l0_3) = some (r1, r2) := by rw [if_neg (show ¬ (false = true) by decide)] at H; exact H
     clear H
     have H := H1
     clear H1
     have H' := Aside0.mk H
     clear H
     go_wp2
     go_loopg [18] kj2 (fun kq v18 w' => ∃ (x18_2 : Int), v18 = .int .i64 x18_2 ∧ Aside0 (impl_IsOrderedFor.l0 kq l1 l1 (l1.length : Int) x18_2 a0_0 a0_1 a0_2 l0_3 = some (r1, r2)) ∧ Aside0 (kq ≤ kj2) ∧ Aside0 (w'.heap[gb789]? = some (.cells #[.int .i64 a0_0, .int .i64 a0_1, .int .i64 a0_2, (.slice A0_3 l0_3.length c0_3)] 66 (0, 0))) ∧ Aside0 (Below w.heap.size w w'))
     case atStart => exact ⟨(0), (by first | rfl | (simp; done) | (simp [*]; done)), H', ⟨Nat.le_refl _⟩, ⟨by (with_reducible repeat (first | refine blk_drewN ?_ _ | refine blk_drew ?_ | refine blk_alloc ?_ _)); exact BK789.out⟩, ⟨by repeat (first | (with_reducible first | exact HB.out | apply below_alloc | apply pw_below_drewN | apply below_drew1 | refine below_set ?_ GE789.out) | exact HB.out)⟩⟩
     case round =>
      clear H'
      try clear c1
      try clear p2
      try clear c6
      try clear c10
      try clear c12
      try clear hcz10_0
      try clear hcz10_1
      try clear hcz10_2
      try clear hcz10_3
      try clear hcz8_0
      try clear hcz8_1
      try clear hcz8_2
      try clear hcz8_3
      try clear hfz10_0
      try clear hfz10_1
      try clear hfz10_2
      try clear hfz10_3
      try clear hfz8_0
      try clear hfz8_1
      try clear hfz8_2
      try clear hfz8_3
      try clear p2
      obtain ⟨x18_2, rfl, HA, HK2, BK789, HB⟩ := hrel
      cases gk with
      | zero => exact absurd HA.out (by simp [impl_IsOrderedFor.l0])
      | succ k2 =>
       have H := HA.out
       clear HA
       simp only [impl_IsOrderedFor.l0] at H
       by_cases c13 : x18_2 < (l1.length : Int)
       ·rw [if_pos c13] at H
        have c13b0 : decide (x18_2 < (l1.length : Int)) = true := decide_eq_true c13
        clear c13
        by_cases c14 : 0 ≤ x18_2
        ·rw [if_pos c14] at H
         have c14b0 : decide (0 ≤ x18_2) = true := decide_eq_true c14
         clear c14
         by_cases c15 : x18_2 < (l1.length : Int)
         ·rw [if_pos c15] at H
          have c15b0 : decide (x18_2 < (l1.length : Int)) = true := decide_eq_true c15
          clear c15
          replace H := Option.bind_eq_some_iff.mp H
          obtain ⟨t793, A160, H⟩ := H
          replace H : ((impl_Ordered_ordinal.f a0_0 a0_1 a0_2 l0_3 t793).bind fun t796 => (if t796 = x18_2 then (impl_IsOrderedFor.l0 k2 l1 l1 (l1.length : Int) (wrap64 (x18_2 + 1)) a0_0 a0_1 a0_2 l0_3) else (some (false, true)))) = some (r1, r2) := H
          have A16 := Aside0.mk A160
          clear A160
          replace H := Option.bind_eq_some_iff.mp H
          obtain ⟨t796, A170, H⟩ := H
          replace H : (if t796 = x18_2 then (impl_IsOrderedFor.l0 k2 l1 l1 (l1.length : Int) (wrap64 (x18_2 + 1)) a0_0 a0_1 a0_2 l0_3) else (some (false, true))) = some (r1, r2) := H
          have A17 := Aside0.mk A170
          clear A170
          by_cases c18 : t796 = x18_2
          ·rw [if_pos c18] at H
           have c18b0 : (t796 == x18_2) = true := beq_iff_eq.mpr c18
           have c18b1 : (t796 != x18_2) = false := bne_eq_false_iff_eq.mpr c18
           clear c18
           have H' := Aside0.mk H
           clear H
           have p792 : 0 ≤ (x18_2 : Int) := of_decide_eq_true (by first | (with_reducible assumption) | assumption)
           have q792 : x18_2 < (l1.length : Int) := of_decide_eq_true (by first | (with_reducible assumption) | assumption)
           obtain ⟨ad792, e792, hx792_0⟩ := Kd.at_string HR1.out x18_2 p792 q792
           cases e792
           replace hx792_0 := (HB.out.cell (World.block_lt_of_cell? w _ hx792_0)).trans hx792_0
           replace p792 := eq_true p792
           replace q792 := eq_true q792
           have hcz19_0 : wr.cell? ⟨gb789, 0, none⟩ = some (.int .i64 a0_0) := (blk_cell BK789.out 0).trans rfl
           have hcz19_1 : wr.cell? ⟨gb789, 1, none⟩ = some (.int .i64 a0_1) := (blk_cell BK789.out 1).trans rfl
           have hcz19_2 : wr.cell? ⟨gb789, 2, none⟩ = some (.int .i64 a0_2) := (blk_cell BK789.out 2).trans rfl
           have hcz19_3 : wr.cell? ⟨gb789, 3, none⟩ = some (.slice A0_3 l0_3.length c0_3) := (blk_cell BK789.out 3).trans rfl
           have hfz19_0 := blk_frozen BK789.out 0
           have hfz19_1 := blk_frozen BK789.out 1
           have hfz19_2 := blk_frozen BK789.out 2
           have hfz19_3 := blk_frozen BK789.out 3
           go_wp2_with (first | ((with_reducible refine gate_callee (f := 104) rfl ?_); refine goesL_ (some 28) rfl rfl Try.func104 (by kernel_rfl) rfl #[.int .i64 a0_0, .string (rdOf ByteArray.empty l1 x18_2), .int .i64 a0_1] rfl (by (try simp only [List.map_toArray, List.map_cons, List.map_nil]); first | done | rfl | (simp only [List.length_drop, List.length_take]; rfl)) ?_; (with_reducible refine (impl_threePlaces.calls k2 a0_0 (rdOf ByteArray.empty l1 x18_2) a0_1 t793 _ A16.out).mono ?_); rintro e w20 ⟨v794, rfl, ho0, hb⟩; refine ⟨_, rfl, ?_⟩; have n0_ := Aside0.mk (Kd.R_lower ho0 (below_size (by repeat (first | (with_reducible first | exact HB.out | apply below_alloc | apply pw_below_drewN | apply below_drew1 | refine below_set ?_ GE789.out) | exact HB.out)))); have n1_ := Aside0.mk (blk_below (g := gb789) (o := .cells #[.int .i64 a0_0, .int .i64 a0_1, .int .i64 a0_2, .slice A0_3 l0_3.length c0_3] 66 (0, 0)) (by (with_reducible repeat (first | refine blk_drewN ?_ _ | refine blk_drew ?_ | refine blk_alloc ?_ _)); exact BK789.out) hb); have n2_ := Aside0.mk (below_step (by repeat (first | (with_reducible first | exact HB.out | apply below_alloc | apply pw_below_drewN | apply below_drew1 | refine below_set ?_ GE789.out) | exact HB.out)) hb); clear BK789; clear HB; have HO795 := n0_; have BK789 := n1_; have HB := n2_; clear n0_ n1_ n2_; (try clear hb); (try clear hb2); (try clear hk); (try clear hi); (try clear ho0); obtain ⟨Ao21, co21, eo21⟩ := Kd.R_slice HO795.out; subst eo21) | ((with_reducible refine gate_callee (f := 103) rfl ?_); refine goesL_ (some 29) rfl rfl Try.func103 (by kernel_rfl) rfl #[.pointer (some ⟨gb789, 0, none⟩), .slice Ao21 t793.length co21] rfl (by (try simp only [List.map_toArray, List.map_cons, List.map_nil]); first | done | rfl | (simp only [List.length_drop, List.length_take]; rfl)) ?_; (with_reducible refine (impl_Ordered_ordinal.calls gb789 a0_0 a0_1 a0_2 A0_3 c0_3 l0_3 _ _ t793 t796 _ ?side1 ?side2 ?side3 ?side4 ?side5 A17.out).mono ?_); (case side1 => repeat (first | exact (Kd.C_below HR0_3.out HB.out) | (with_reducible refine Kd.C_alloc ?_ _) | (with_reducible refine Kd.C_drewN ?_ _) | (with_reducible refine Kd.C_drew ?_))); (case side2 => exact HC0_3.out); (case side3 => repeat (first | exact (Kd.R_reads' HO795.out).2.2 | (with_reducible refine Kd.C_alloc ?_ _) | (with_reducible refine Kd.C_drewN ?_ _) | (with_reducible refine Kd.C_drew ?_))); (case side4 => exact (Kd.R_reads' HO795.out).2.1); (case side5 => exact (by (with_reducible repeat (first | refine blk_drewN ?_ _ | refine blk_drew ?_ | refine blk_alloc ?_ _)); exact BK789.out)); rintro e w' ⟨rfl, ⟨nd, rfl⟩⟩; refine ⟨_, rfl, ?_⟩))
           go_roundg k2
           case measure => have := HJ2.out; have := HK2.out; omega
           case rel => exact ⟨(wrap64 (x18_2 + 1)), (by first | rfl | (simp; done) | (simp [*]; done)), H', ⟨by have := HJ2.out; have := HK2.out; omega⟩, ⟨by (with_reducible repeat (first | refine blk_drewN ?_ _ | refine blk_drew ?_ | refine blk_alloc ?_ _)); exact BK789.out⟩, ⟨by repeat (first | (with_reducible first | exact HB.out | apply below_alloc | apply pw_below_drewN | apply below_drew1 | refine below_set ?_ GE789.out) | exact HB.out)⟩⟩
          ·rw [if_neg c18] at H
           have c18b0 : (t796 == x18_2) = false := beq_eq_false_iff_ne.mpr c18
           have c18b1 : (t796 != x18_2) = true := bne_iff_ne.mpr c18
           simp only [Option.some.injEq, Prod.mk.injEq] at H
           obtain ⟨rfl, rfl⟩ := H
           have p792 : 0 ≤ (x18_2 : Int) := of_decide_eq_true (by first | (with_reducible assumption) | assumption)
           have q792 : x18_2 < (l1.length : Int) := of_decide_eq_true (by first | (with_reducible assumption) | assumption)
           obtain ⟨ad792, e792, hx792_0⟩ := Kd.at_string HR1.out x18_2 p792 q792
           cases e792
           replace hx792_0 := (HB.out.cell (World.block_lt_of_cell? w _ hx792_0)).trans hx792_0
           replace p792 := eq_true p792
           replace q792 := eq_true q792
           have hcz22_0 : wr.cell? ⟨gb789, 0, none⟩ = some (.int .i64 a0_0) := (blk_cell BK789.out 0).trans rfl
           have hcz22_1 : wr.cell? ⟨gb789, 1, none⟩ = some (.int .i64 a0_1) := (blk_cell BK789.out 1).trans rfl
           have hcz22_2 : wr.cell? ⟨gb789, 2, none⟩ = some (.int .i64 a0_2) := (blk_cell BK789.out 2).trans rfl
           have hcz22_3 : wr.cell? ⟨gb789, 3, none⟩ = some (.slice A0_3 l0_3.length c0_3) := (blk_cell BK789.out 3).trans rfl
           have hfz22_0 := blk_frozen BK789.out 0
           have hfz22_1 := blk_frozen BK789.out 1
           have hfz22_2 := blk_frozen BK789.out 2
           have hfz22_3 := blk_frozen BK789.out 3
           go_wp2_with (first | ((with_reducible refine gate_callee (f := 104) rfl ?_); refine goesL_ (some 28) rfl rfl Try.func104 (by kernel_rfl) rfl #[.int .i64 a0_0, .string (rdOf ByteArray.empty l1 x18_2), .int .i64 a0_1] rfl (by (try simp only [List.map_toArray, List.map_cons, List.map_nil]); first | done | rfl | (simp only [List.length_drop, List.length_take]; rfl)) ?_; (with_reducible refine (impl_threePlaces.calls k2 a0_0 (rdOf ByteArray.empty l1 x18_2) a0_1 t793 _ A16.out).mono ?_); rintro e w23 ⟨v794, rfl, ho0, hb⟩; refine ⟨_, rfl, ?_⟩; have n0_ := Aside0.mk (Kd.R_lower ho0 (below_size (by repeat (first | (with_reducible first | exact HB.out | apply below_alloc | apply pw_below_drewN | apply below_drew1 | refine below_set ?_ GE789.out) | exact HB.out)))); have n1_ := Aside0.mk (blk_below (g := gb789) (o := .cells #[.int .i64 a0_0, .int .i64 a0_1, .int .i64 a0_2, .slice A0_3 l0_3.length c0_3] 66 (0, 0)) (by (with_reducible repeat (first | refine blk_drewN ?_ _ | refine blk_drew ?_ | refine blk_alloc ?_ _)); exact BK789.out) hb); have n2_ := Aside0.mk (below_step (by repeat (first | (with_reducible first | exact HB.out | apply below_alloc | apply pw_below_drewN | apply below_drew1 | refine below_set ?_ GE789.out) | exact HB.out)) hb); clear BK789; clear HB; have HO795 := n0_; have BK789 := n1_; have HB := n2_; clear n0_ n1_ n2_; (try clear hb); (try clear hb2); (try clear hk); (try clear hi); (try clear ho0); obtain ⟨Ao24, co24, eo24⟩ := Kd.R_slice HO795.out; subst eo24) | ((with_reducible refine gate_callee (f := 103) rfl ?_); refine goesL_ (some 29) rfl rfl Try.func103 (by kernel_rfl) rfl #[.pointer (some ⟨gb789, 0, none⟩), .slice Ao24 t793.length co24] rfl (by (try simp only [List.map_toArray, List.map_cons, List.map_nil]); first | done | rfl | (simp only [List.length_drop, List.length_take]; rfl)) ?_; (with_reducible refine (impl_Ordered_ordinal.calls gb789 a0_0 a0_1 a0_2 A0_3 c0_3 l0_3 _ _ t793 t796 _ ?side1 ?side2 ?side3 ?side4 ?side5 A17.out).mono ?_); (case side1 => repeat (first | exact (Kd.C_below HR0_3.out HB.out) | (with_reducible refine Kd.C_alloc ?_ _) | (with_reducible refine Kd.C_drewN ?_ _) | (with_reducible refine Kd.C_drew ?_))); (case side2 => exact HC0_3.out); (case side3 => repeat (first | exact (Kd.R_reads' HO795.out).2.2 | (with_reducible refine Kd.C_alloc ?_ _) | (with_reducible refine Kd.C_drewN ?_ _) | (with_reducible refine Kd.C_drew ?_))); (case side4 => exact (Kd.R_reads' HO795.out).2.1); (case side5 => exact (by (with_reducible repeat (first | refine blk_drewN ?_ _ | refine blk_drew ?_ | refine blk_alloc ?_ _)); exact BK789.out)); rintro e w' ⟨rfl, ⟨nd, rfl⟩⟩; refine ⟨_, rfl, ?_⟩))
           go_ret2
           exact ⟨by first | rfl | (simp [errW_none, errW_some] <;> rfl) | (simp [*, errW_none, errW_some] <;> rfl), by repeat (first | (with_reducible first | exact HB.out | apply below_alloc | apply pw_below_drewN | apply below_drew1 | refine below_set ?_ GE789.out) | exact HB.out)⟩
         ·rw [if_neg c15] at H
          exact absurd H (by simp)
        ·rw [if_neg c14] at H
         exact absurd H (by simp)
       ·rw [if_neg c13] at H
        have c13b0 : decide (x18_2 < (l1.length : Int)) = false := decide_eq_false c13
        clear c13
        simp only [Option.some.injEq, Prod.mk.injEq] at H
        obtain ⟨rfl, rfl⟩ := H
        have hcz25_0 : wr.cell? ⟨gb789, 0, none⟩ = some (.int .i64 a0_0) := (blk_cell BK789.out 0).trans rfl
        have hcz25_1 : wr.cell? ⟨gb789, 1, none⟩ = some (.int .i64 a0_1) := (blk_cell BK789.out 1).trans rfl
        have hcz25_2 : wr.cell? ⟨gb789, 2, none⟩ = some (.int .i64 a0_2) := (blk_cell BK789.out 2).trans rfl
        have hcz25_3 : wr.cell? ⟨gb789, 3, none⟩ = some (.slice A0_3 l0_3.length c0_3) := (blk_cell BK789.out 3).trans rfl
        have hfz25_0 := blk_frozen BK789.out 0
        have hfz25_1 := blk_frozen BK789.out 1
        have hfz25_2 := blk_frozen BK789.out 2
        have hfz25_3 := blk_frozen BK789.out 3
        go_wp2
        go_ret2
        exact ⟨by first | rfl | (simp [errW_none, errW_some] <;> rfl) | (simp [*, errW_none, errW_some] <;> rfl), by repeat (first | (with_reducible first | exact HB.out | apply below_alloc | apply pw_below_drewN | apply below_drew1 | refine below_set ?_ GE789.out) | exact HB.out)⟩
/-! ### laws_FnExactIsOrderedFor: function 12 -/
def laws_FnExactIsOrderedFor.f (k : Nat) (a0_0 : Int) (a0_1 : Int) (a0_2 : Int) (l0_3 : List Int) (l1 : List ByteArray) : Option (Bool) := (laws_szOrdered.f a0_0 a0_1 a0_2 l0_3 1048576).bind fun t798 => (if t798 < 0 then (some true) else ((laws_szStringS.f k l1 t798).bind fun t799 => (if t799 < 0 then (some true) else ((laws_toOrdered.f k a0_0 a0_1 a0_2 l0_3).bind fun bt800 => ((laws_toStringS.f k l1).bind fun t806 => ((spec_IsOrderedFor.f k bt800.1 bt800.2.1 bt800.2.2.1 bt800.2.2.2 t806).bind fun bt809 => ((laws_toOrdered.f k a0_0 a0_1 a0_2 l0_3).bind fun bt811 => ((laws_toStringS.f k l1).bind fun t818 => ((impl_IsOrderedFor.f k bt811.1 bt811.2.1 bt811.2.2.1 bt811.2.2.2 t818).bind fun bt821 => (if (bt821.1 != bt809.1) = true then (none) else (if (bt821.2 != bt809.2) = true then (none) else ((laws_toOrdered.f k a0_0 a0_1 a0_2 l0_3).bind fun bt823 => ((laws_eqOrdered.f k bt811.1 bt811.2.1 bt811.2.2.1 bt811.2.2.2 bt823.1 bt823.2.1 bt823.2.2.1 bt823.2.2.2).bind fun t829 => (if t829 = true then ((laws_toStringS.f k l1).bind fun t830 => ((laws_eqStringS.f k t818 t830).bind fun t833 => (if t833 = true then (some true) else (none)))) else (none)))))))))))))))
theorem laws_FnExactIsOrderedFor.mono : ∀ a0 a1 a2 a3 a4 k, LeO (laws_FnExactIsOrderedFor.f k a0 a1 a2 a3 a4) (laws_FnExactIsOrderedFor.f (k + 1) a0 a1 a2 a3 a4) := by
  intro a0 a1 a2 a3 a4 k
  unfold laws_FnExactIsOrderedFor.f
  repeat' first
      | (with_reducible exact impl_IsOrderedFor.mono _ _ _ _ _ _)
      | (with_reducible exact laws_eqOrdered.mono _ _ _ _ _ _ _ _ _)
      | (with_reducible exact laws_eqStringS.mono _ _ _)
      | (with_reducible exact laws_szStringS.mono _ _ _)
      | (with_reducible exact laws_toOrdered.mono _ _ _ _ _)
      | (with_reducible exact laws_toStringS.mono _ _)
      | (with_reducible exact spec_IsOrderedFor.mono _ _ _ _ _ _)
      | (with_reducible exact LeO.refl _)
      | (with_reducible exact LeO.none _)
      | (with_reducible refine LeO.ite ?_ ?_)
      | (with_reducible refine LeO.bind ?_ (fun _ => ?_))
      | exact impl_IsOrderedFor.mono _ _ _ _ _ _
      | exact laws_eqOrdered.mono _ _ _ _ _ _ _ _ _
      | exact laws_eqStringS.mono _ _ _
      | exact laws_szStringS.mono _ _ _
      | exact laws_toOrdered.mono _ _ _ _ _
      | exact laws_toStringS.mono _ _
      | exact spec_IsOrderedFor.mono _ _ _ _ _ _
      | exact LeO.none _
      | refine LeO.ite ?_ ?_
      | refine LeO.bind ?_ (fun _ => ?_)
noncomputable def laws_FnExactIsOrderedFor.F (a0_0 : Int) (a0_1 : Int) (a0_2 : Int) (l0_3 : List Int) (l1 : List ByteArray) : Option (Bool) := lim fun k => laws_FnExactIsOrderedFor.f k a0_0 a0_1 a0_2 l0_3 l1
theorem laws_FnExactIsOrderedFor.F_sup (a0_0 : Int) (a0_1 : Int) (a0_2 : Int) (l0_3 : List Int) (l1 : List ByteArray) : Sup (fun k => laws_FnExactIsOrderedFor.f k a0_0 a0_1 a0_2 l0_3 l1) (laws_FnExactIsOrderedFor.F a0_0 a0_1 a0_2 l0_3 l1) := Sup.of_mono fun k => laws_FnExactIsOrderedFor.mono a0_0 a0_1 a0_2 l0_3 l1 k
theorem laws_FnExactIsOrderedFor.F_eq (a0_0 : Int) (a0_1 : Int) (a0_2 : Int) (l0_3 : List Int) (l1 : List ByteArray) : laws_FnExactIsOrderedFor.F a0_0 a0_1 a0_2 l0_3 l1 = (laws_szOrdered.f a0_0 a0_1 a0_2 l0_3 1048576).bind fun t798 => (if t798 < 0 then (some true) else ((laws_szStringS.F l1 t798).bind fun t799 => (if t799 < 0 then (some true) else ((laws_toOrdered.F a0_0 a0_1 a0_2 l0_3).bind fun bt800 => ((laws_toStringS.F l1).bind fun t806 => ((spec_IsOrderedFor.F bt800.1 bt800.2.1 bt800.2.2.1 bt800.2.2.2 t806).bind fun bt809 => ((laws_toOrdered.F a0_0 a0_1 a0_2 l0_3).bind fun bt811 => ((laws_toStringS.F l1).bind fun t818 => ((impl_IsOrderedFor.F bt811.1 bt811.2.1 bt811.2.2.1 bt811.2.2.2 t818).bind fun bt821 => (if (bt821.1 != bt809.1) = true then (none) else (if (bt821.2 != bt809.2) = true then (none) else ((laws_toOrdered.F a0_0 a0_1 a0_2 l0_3).bind fun bt823 => ((laws_eqOrdered.F bt811.1 bt811.2.1 bt811.2.2.1 bt811.2.2.2 bt823.1 bt823.2.1 bt823.2.2.1 bt823.2.2.2).bind fun t829 => (if t829 = true then ((laws_toStringS.F l1).bind fun t830 => ((laws_eqStringS.F t818 t830).bind fun t833 => (if t833 = true then (some true) else (none)))) else (none))))))))))))))) := by
  refine Sup.unique (laws_FnExactIsOrderedFor.F_sup a0_0 a0_1 a0_2 l0_3 l1) (Sup.congr (g' := fun k => (laws_szOrdered.f a0_0 a0_1 a0_2 l0_3 1048576).bind fun t798 => (if t798 < 0 then (some true) else ((laws_szStringS.f k l1 t798).bind fun t799 => (if t799 < 0 then (some true) else ((laws_toOrdered.f k a0_0 a0_1 a0_2 l0_3).bind fun bt800 => ((laws_toStringS.f k l1).bind fun t806 => ((spec_IsOrderedFor.f k bt800.1 bt800.2.1 bt800.2.2.1 bt800.2.2.2 t806).bind fun bt809 => ((laws_toOrdered.f k a0_0 a0_1 a0_2 l0_3).bind fun bt811 => ((laws_toStringS.f k l1).bind fun t818 => ((impl_IsOrderedFor.f k bt811.1 bt811.2.1 bt811.2.2.1 bt811.2.2.2 t818).bind fun bt821 => (if (bt821.1 != bt809.1) = true then (none) else (if (bt821.2 != bt809.2) = true then (none) else ((laws_toOrdered.f k a0_0 a0_1 a0_2 l0_3).bind fun bt823 => ((laws_eqOrdered.f k bt811.1 bt811.2.1 bt811.2.2.1 bt811.2.2.2 bt823.1 bt823.2.1 bt823.2.2.1 bt823.2.2.2).bind fun t829 => (if t829 = true then ((laws_toStringS.f k l1).bind fun t830 => ((laws_eqStringS.f k t818 t830).bind fun t833 => (if t833 = true then (some true) else (none)))) else (none)))))))))))))))) (fun k => by first | rfl | simp only [laws_FnExactIsOrderedFor.f]) ?_)
  repeat' first
    | (with_reducible exact laws_szStringS.F_sup _ _)
    | (with_reducible exact laws_toStringS.F_sup _)
    | (with_reducible exact laws_eqStringS.F_sup _ _)
    | (with_reducible exact laws_toOrdered.F_sup _ _ _ _)
    | (with_reducible exact laws_eqOrdered.F_sup _ _ _ _ _ _ _ _)
    | (with_reducible exact spec_IsOrderedFor.F_sup _ _ _ _ _)
    | (with_reducible exact impl_IsOrderedFor.F_sup _ _ _ _ _)
    | (with_reducible refine Sup.ite ?_ ?_)
    | (with_reducible refine Sup.bind ?_ (fun _ => ?_))
    | (with_reducible exact Sup.const _)
    | exact laws_szStringS.F_sup _ _
    | exact laws_toStringS.F_sup _
    | exact laws_eqStringS.F_sup _ _
    | exact laws_toOrdered.F_sup _ _ _ _
    | exact laws_eqOrdered.F_sup _ _ _ _ _ _ _ _
    | exact spec_IsOrderedFor.F_sup _ _ _ _ _
    | exact impl_IsOrderedFor.F_sup _ _ _ _ _
    | exact Sup.const _
set_option maxHeartbeats 8000000 in
set_option maxRecDepth 100000 in
theorem laws_FnExactIsOrderedFor.calls (k : Nat) (a0_0 : Int) (a0_1 : Int) (a0_2 : Int) (A0_3 : Option Addr) (c0_3 : Nat) (l0_3 : List Int) (A1 : Option Addr) (c1 : Nat) (l1 : List ByteArray) (r : Bool) (w : World) (hr0_3 : Kd.C (Kd.int .i64) w A0_3 l0_3.length l0_3) (hc0_3 : l0_3.length ≤ c0_3) (hr1 : Kd.C Kd.string w A1 l1.length l1) (hc1 : l1.length ≤ c1) (h : laws_FnExactIsOrderedFor.f k a0_0 a0_1 a0_2 l0_3 l1 = some r) :
    Calls Try.prog 12 #[.agg #[.int .i64 a0_0, .int .i64 a0_1, .int .i64 a0_2, .slice A0_3 l0_3.length c0_3], .slice A1 l1.length c1] w fun e w' => e = .returned (.bool r) ∧ Below w.heap.size w w' := by
  have hu63 := Try.underlying63
  have hu66 := Try.underlying66
  have HR0_3 := Aside0.mk hr0_3
  have HC0_3 := Aside0.mk hc0_3
  clear hr0_3 hc0_3
  have HR1 := Aside0.mk hr1
  have HC1 := Aside0.mk hc1
  clear hr1 hc1
  have HB := Aside0.mk (Below.refl w.heap.size w)
  have H : ((laws_szOrdered.f a0_0 a0_1 a0_2 l0_3 1048576).bind fun t798 => (if t798 < 0 then (some true) else ((laws_szStringS.f k l1 t798).bind fun t799 => (if t799 < 0 then (some true) else ((laws_toOrdered.f k a0_0 a0_1 a0_2 l0_3).bind fun bt800 => ((laws_toStringS.f k l1).bind fun t806 => ((spec_IsOrderedFor.f k bt800.1 bt800.2.1 bt800.2.2.1 bt800.2.2.2 t806).bind fun bt809 => ((laws_toOrdered.f k a0_0 a0_1 a0_2 l0_3).bind fun bt811 => ((laws_toStringS.f k l1).bind fun t818 => ((impl_IsOrderedFor.f k bt811.1 bt811.2.1 bt811.2.2.1 bt811.2.2.2 t818).bind fun bt821 => (if (bt821.1 != bt809.1) = true then (none) else (if (bt821.2 != bt809.2) = true then (none) else ((laws_toOrdered.f k a0_0 a0_1 a0_2 l0_3).bind fun bt823 => ((laws_eqOrdered.f k bt811.1 bt811.2.1 bt811.2.2.1 bt811.2.2.2 bt823.1 bt823.2.1 bt823.2.2.1 bt823.2.2.2).bind fun t829 => (if t829 = true then ((laws_toStringS.f k l1).bind fun t830 => ((laws_eqStringS.f k t818 t830).bind fun t833 => (if t833 = true then (some true) else (none)))) else (none)))))))))))))))) = some r := h
  clear h
  replace H := Option.bind_eq_some_iff.mp H
  obtain ⟨t798, A30, H⟩ := H
  replace H : (if t798 < 0 then (some true) else ((laws_szStringS.f k l1 t798).bind fun t799 => (if t799 < 0 then (some true) else ((laws_toOrdered.f k a0_0 a0_1 a0_2 l0_3).bind fun bt800 => ((laws_toStringS.f k l1).bind fun t806 => ((spec_IsOrderedFor.f k bt800.1 bt800.2.1 bt800.2.2.1 bt800.2.2.2 t806).bind fun bt809 => ((laws_toOrdered.f k a0_0 a0_1 a0_2 l0_3).bind fun bt811 => ((laws_toStringS.f k l1).bind fun t818 => ((impl_IsOrderedFor.f k bt811.1 bt811.2.1 bt811.2.2.1 bt811.2.2.2 t818).bind fun bt821 => (if (bt821.1 != bt809.1) = true then (none) else (if (bt821.2 != bt809.2) = true then (none) else ((laws_toOrdered.f k a0_0 a0_1 a0_2 l0_3).bind fun bt823 => ((laws_eqOrdered.f k bt811.1 bt811.2.1 bt811.2.2.1 bt811.2.2.2 bt823.1 bt823.2.1 bt823.2.2.1 bt823.2.2.2).bind fun t829 => (if t829 = true then ((laws_toStringS.f k l1).bind fun t830 => ((laws_eqStringS.f k t818 t830).bind fun t833 => (if t833 = true then (some true) else (none)))) else (none))))))))))))))) = some r := H
  have A3 := Aside0.mk A30
  clear A30
  by_cases c4 : t798 < 0
  ·rw [if_pos c4] at H
   have c4b0 : decide (t798 < 0) = true := decide_eq_true c4
   clear c4
   obtain rfl := Option.some.inj H
   go_enter Try.func12, Try.ntmps12
   go_wp2_with (first | ((with_reducible refine gate_dst (N := 2) rfl ?_); refine box_event ?hg (N := 2) ?hd (cs := #[.int .i64 a0_0, .int .i64 a0_1, .int .i64 a0_2, .slice A0_3 l0_3.length c0_3]) (t := 63) ?hr ?_; (case hd => rfl); (case hg => rfl); (case hr => first | (go_simp; done) | (go_simp; rfl)); intro gb797 hg w5 hbox hb; have n0_ := Aside0.mk (below_step (by repeat (first | (with_reducible first | exact HB.out | apply below_alloc | apply pw_below_drewN | apply below_drew1) | exact HB.out)) hb); have n1_ := Aside0.mk (hbox); have n2_ := Aside0.mk ((by rw [hg]; exact (below_size (by repeat (first | (with_reducible first | exact HB.out | apply below_alloc | apply pw_below_drewN | apply below_drew1) | exact HB.out))) : w.heap.size ≤ gb797)); have n3_ := Aside0.mk ((by rw [hg]; exact (below_size (by repeat (first | (with_reducible first | exact HB.out | apply below_alloc | apply pw_below_drewN | apply below_drew1) | exact HB.out))) : w.heap.size ≤ gb797)); clear HB; have HB := n0_; have BK797 := n1_; have GW797 := n2_; have GE797 := n3_; clear n0_ n1_ n2_ n3_; clear hb hbox hg; have hcz6_0 : w5.cell? ⟨gb797, 0, none⟩ = some (.int .i64 a0_0) := (blk_cell BK797.out 0).trans rfl; have hcz6_1 : w5.cell? ⟨gb797, 1, none⟩ = some (.int .i64 a0_1) := (blk_cell BK797.out 1).trans rfl; have hcz6_2 : w5.cell? ⟨gb797, 2, none⟩ = some (.int .i64 a0_2) := (blk_cell BK797.out 2).trans rfl; have hcz6_3 : w5.cell? ⟨gb797, 3, none⟩ = some (.slice A0_3 l0_3.length c0_3) := (blk_cell BK797.out 3).trans rfl; have hfz6_0 := blk_frozen BK797.out 0; have hfz6_1 := blk_frozen BK797.out 1; have hfz6_2 := blk_frozen BK797.out 2; have hfz6_3 := blk_frozen BK797.out 3) | ((with_reducible refine gate_callee (f := 44) rfl ?_); refine goesL_ (some 14) rfl rfl Try.func44 (by kernel_rfl) rfl #[.agg #[.int .i64 a0_0, .int .i64 a0_1, .int .i64 a0_2, .slice A0_3 l0_3.length c0_3], .int .i64 1048576] rfl (by (try simp only [List.map_toArray, List.map_cons, List.map_nil]); first | done | rfl | (simp only [List.length_drop, List.length_take]; rfl)) ?_; (with_reducible refine (laws_szOrdered.calls a0_0 a0_1 a0_2 _ _ l0_3 1048576 t798 _ ?side1 ?side2 A3.out).mono ?_); (case side1 => repeat (first | exact (Kd.C_below HR0_3.out HB.out) | (with_reducible refine Kd.C_alloc ?_ _) | (with_reducible refine Kd.C_drewN ?_ _) | (with_reducible refine Kd.C_drew ?_))); (case side2 => exact HC0_3.out); rintro e w7 ⟨rfl, hb⟩; refine ⟨_, rfl, ?_⟩; have n0_ := Aside0.mk (blk_below (g := gb797) (o := .cells #[.int .i64 a0_0, .int .i64 a0_1, .int .i64 a0_2, .slice A0_3 l0_3.length c0_3] 63 (0, 0)) (by (with_reducible repeat (first | refine blk_drewN ?_ _ | refine blk_drew ?_ | refine blk_alloc ?_ _)); exact BK797.out) hb); have n1_ := Aside0.mk (below_step (by repeat (first | (with_reducible first | exact HB.out | apply below_alloc | apply pw_below_drewN | apply below_drew1 | refine below_set ?_ GE797.out) | exact HB.out)) hb); clear BK797; clear HB; have BK797 := n0_; have HB := n1_; clear n0_ n1_; (try clear hb); (try clear hb2); (try clear hk); (try clear hi)))
   go_ret
   exact ⟨by first | rfl | (simp [errW_none, errW_some] <;> rfl) | (simp [*, errW_none, errW_some] <;> rfl), by repeat (first | (with_reducible first | exact HB.out | apply below_alloc | apply pw_below_drewN | apply below_drew1 | refine below_set ?_ GE797.out) | exact HB.out)⟩
  ·rw [if_neg c4] at H
   have c4b0 : decide (t798 < 0) = false := decide_eq_false c4
   clear c4
   replace H := Option.bind_eq_some_iff.mp H
   obtain ⟨t799, A80, H⟩ := H
   replace H : (if t799 < 0 then (some true) else ((laws_toOrdered.f k a0_0 a0_1 a0_2 l0_3).bind fun bt800 => ((laws_toStringS.f k l1).bind fun t806 => ((spec_IsOrderedFor.f k bt800.1 bt800.2.1 bt800.2.2.1 bt800.2.2.2 t806).bind fun bt809 => ((laws_toOrdered.f k a0_0 a0_1 a0_2 l0_3).bind fun bt811 => ((laws_toStringS.f k l1).bind fun t818 => ((impl_IsOrderedFor.f k bt811.1 bt811.2.1 bt811.2.2.1 bt811.2.2.2 t818).bind fun bt821 => (if (bt821.1 != bt809.1) = true then (none) else (if (bt821.2 != bt809.2) = true then (none) else ((laws_toOrdered.f k a0_0 a0_1 a0_2 l0_3).bind fun bt823 => ((laws_eqOrdered.f k bt811.1 bt811.2.1 bt811.2.2.1 bt811.2.2.2 bt823.1 bt823.2.1 bt823.2.2.1 bt823.2.2.2).bind fun t829 => (if t829 = true then ((laws_toStringS.f k l1).bind fun t830 => ((laws_eqStringS.f k t818 t830).bind fun t833 => (if t833 = true then (some true) else (none)))) else (none))))))))))))) = some r := H
   have A8 := Aside0.mk A80
   clear A80
   by_cases c9 : t799 < 0
   ·rw [if_pos c9] at H
    have c9b0 : decide (t799 < 0) = true := decide_eq_true c9
    clear c9
    obtain rfl := Option.some.inj H
    go_enter Try.func12, Try.ntmps12
    go_wp2_with (first | ((with_reducible refine gate_dst (N := 2) rfl ?_); refine box_event ?hg (N := 2) ?hd (cs := #[.int .i64 a0_0, .int .i64 a0_1, .int .i64 a0_2, .slice A0_3 l0_3.length c0_3]) (t := 63) ?hr ?_; (case hd => rfl); (case hg => rfl); (case hr => first | (go_simp; done) | (go_simp; rfl)); intro gb797 hg w10 hbox hb; have n0_ := Aside0.mk (below_step (by repeat (first | (with_reducible first | exact HB.out | apply below_alloc | apply pw_below_drewN | apply below_drew1) | exact HB.out)) hb); have n1_ := Aside0.mk (hbox); have n2_ := Aside0.mk ((by rw [hg]; exact (below_size (by repeat (first | (with_reducible first | exact HB.out | apply below_alloc | apply pw_below_drewN | apply below_drew1) | exact HB.out))) : w.heap.size ≤ gb797)); have n3_ := Aside0.mk ((by rw [hg]; exact (below_size (by repeat (first | (with_reducible first | exact HB.out | apply below_alloc | apply pw_below_drewN | apply below_drew1) | exact HB.out))) : w.heap.size ≤ gb797)); clear HB; have HB := n0_; have BK797 := n1_; have GW797 := n2_; have GE797 := n3_; clear n0_ n1_ n2_ n3_; clear hb hbox hg; have hcz11_0 : w10.cell? ⟨gb797, 0, none⟩ = some (.int .i64 a0_0) := (blk_cell BK797.out 0).trans rfl; have hcz11_1 : w10.cell? ⟨gb797, 1, none⟩ = some (.int .i64 a0_1) := (blk_cell BK797.out 1).trans rfl; have hcz11_2 : w10.cell? ⟨gb797, 2, none⟩ = some (.int .i64 a0_2) := (blk_cell BK797.out 2).trans rfl; have hcz11_3 : w10.cell? ⟨gb797, 3, none⟩ = some (.slice A0_3 l0_3.length c0_3) := (blk_cell BK797.out 3).trans rfl; have hfz11_0 := blk_frozen BK797.out 0; have hfz11_1 := blk_frozen BK797.out 1; have hfz11_2 := blk_frozen BK797.out 2; have hfz11_3 := blk_frozen BK797.out 3) | ((with_reducible refine gate_callee (f := 44) rfl ?_); refine goesL_ (some 14) rfl rfl Try.func44 (by kernel_rfl) rfl #[.agg #[.int .i64 a0_0, .int .i64 a0_1, .int .i64 a0_2, .slice A0_3 l0_3.length c0_3], .int .i64 1048576] rfl (by (try simp only [List.map_toArray, List.map_cons, List.map_nil]); first | done | rfl | (simp only [List.length_drop, List.length_take]; rfl)) ?_; (with_reducible refine (laws_szOrdered.calls a0_0 a0_1 a0_2 _ _ l0_3 1048576 t798 _ ?side1 ?side2 A3.out).mono ?_); (case side1 => repeat (first | exact (Kd.C_below HR0_3.out HB.out) | (with_reducible refine Kd.C_alloc ?_ _) | (with_reducible refine Kd.C_drewN ?_ _) | (with_reducible refine Kd.C_drew ?_))); (case side2 => exact HC0_3.out); rintro e w12 ⟨rfl, hb⟩; refine ⟨_, rfl, ?_⟩; have n0_ := Aside0.mk (blk_below (g := gb797) (o := .cells #[.int .i64 a0_0, .int .i64 a0_1, .int .i64 a0_2, .slice A0_3 l0_3.length c0_3] 63 (0, 0)) (by (with_reducible repeat (first | refine blk_drewN ?_ _ | refine blk_drew ?_ | refine blk_alloc ?_ _)); exact BK797.out) hb); have n1_ := Aside0.mk (below_step (by repeat (first | (with_reducible first | exact HB.out | apply below_alloc | apply pw_below_drewN | apply below_drew1 | refine below_set ?_ GE797.out) | exact HB.out)) hb); clear BK797; clear HB; have BK797 := n0_; have HB := n1_; clear n0_ n1_; (try clear hb); (try clear hb2); (try clear hk); (try clear hi)) | ((with_reducible refine gate_callee (f := 29) rfl ?_); refine goesL_ (some 19) rfl rfl Try.func29 (by kernel_rfl) rfl #[.slice A1 l1.length c1, .int .i64 t798] rfl (by (try simp only [List.map_toArray, List.map_cons, List.map_nil]); first | done | rfl | (simp only [List.length_drop, List.length_take]; rfl)) ?_; (with_reducible refine (laws_szStringS.calls k _ _ l1 t798 t799 _ ?side1 ?side2 A8.out).mono ?_); (case side1 => repeat (first | exact (Kd.C_below HR1.out HB.out) | (with_reducible refine Kd.C_alloc ?_ _) | (with_reducible refine Kd.C_drewN ?_ _) | (with_reducible refine Kd.C_drew ?_))); (case side2 => exact HC1.out); rintro e w' ⟨rfl, ⟨nd, rfl⟩⟩; refine ⟨_, rfl, ?_⟩))
    go_ret
    exact ⟨by first | rfl | (simp [errW_none, errW_some] <;> rfl) | (simp [*, errW_none, errW_some] <;> rfl), by repeat (first | (with_reducible first | exact HB.out | apply below_alloc | apply pw_below_drewN | apply below_drew1 | refine below_set ?_ GE797.out) | exact HB.out)⟩
   ·rw [if_neg c9] at H
    have c9b0 : decide (t799 < 0) = false := decide_eq_false c9
    clear c9
    replace H := Option.bind_eq_some_iff.mp H
    obtain ⟨⟨t800, t801, t802, t803⟩, A130, H⟩ := H
    replace H : ((laws_toStringS.f k l1).bind fun t806 => ((spec_IsOrderedFor.f k t800 t801 t802 t803 t806).bind fun bt809 => ((laws_toOrdered.f k a0_0 a0_1 a0_2 l0_3).bind fun bt811 => ((laws_toStringS.f k l1).bind fun t818 => ((impl_IsOrderedFor.f k bt811.1 bt811.2.1 bt811.2.2.1 bt811.2.2.2 t818).bind fun bt821 => (if (bt821.1 != bt809.1) = true then (none) else (if (bt821.2 != bt809.2) = true then (none) else ((laws_toOrdered.f k a0_0 a0_1 a0_2 l0_3).bind fun bt823 => ((laws_eqOrdered.f k bt811.1 bt811.2.1 bt811.2.2.1 bt811.2.2.2 bt823.1 bt823.2.1 bt823.2.2.1 bt823.2.2.2).bind fun t829 => (if t829 = true then ((laws_toStringS.f k l1).bind fun t830 => ((laws_eqStringS.f k t818 t830).bind fun t833 => (if t833 = true then (some true) else (none)))) else (none))))))))))) = some r := H
    have A13 := Aside0.mk A130
    clear A130
    replace H := Option.bind_eq_some_iff.mp H
    obtain ⟨t806, A140, H⟩ := H
    replace H : ((spec_IsOrderedFor.f k t800 t801 t802 t803 t806).bind fun bt809 => ((laws_toOrdered.f k a0_0 a0_1 a0_2 l0_3).bind fun bt811 => ((laws_toStringS.f k l1).bind fun t818 => ((impl_IsOrderedFor.f k bt811.1 bt811.2.1 bt811.2.2.1 bt811.2.2.2 t818).bind fun bt821 => (if (bt821.1 != bt809.1) = true then (none) else (if (bt821.2 != bt809.2) = true then (none) else ((laws_toOrdered.f k a0_0 a0_1 a0_2 l0_3).bind fun bt823 => ((laws_eqOrdered.f k bt811.1 bt811.2.1 bt811.2.2.1 bt811.2.2.2 bt823.1 bt823.2.1 bt823.2.2.1 bt823.2.2.2).bind fun t829 => (if t829 = true then ((laws_toStringS.f k l1).bind fun t830 => ((laws_eqStringS.f k t818 t830).bind fun t833 => (if t833 = true then (some true) else (none)))) else (none)))))))))) = some r := H
    have A14 := Aside0.mk A140
    clear A140
    replace H := Option.bind_eq_some_iff.mp H
    obtain ⟨⟨t809, t810⟩, A150, H⟩ := H
    replace H : ((laws_toOrdered.f k a0_0 a0_1 a0_2 l0_3).bind fun bt811 => ((laws_toStringS.f k l1).bind fun t818 => ((impl_IsOrderedFor.f k bt811.1 bt811.2.1 bt811.2.2.1 bt811.2.2.2 t818).bind fun bt821 => (if (bt821.1 != t809) = true then (none) else (if (bt821.2 != t810) = true then (none) else ((laws_toOrdered.f k a0_0 a0_1 a0_2 l0_3).bind fun bt823 => ((laws_eqOrdered.f k bt811.1 bt811.2.1 bt811.2.2.1 bt811.2.2.2 bt823.1 bt823.2.1 bt823.2.2.1 bt823.2.2.2).bind fun t829 => (if t829 = true then ((laws_toStringS.f k l1).bind fun t830 => ((laws_eqStringS.f k t818 t830).bind fun t833 => (if t833 = true then (some true) else (none)))) else (none))))))))) = some r := H
    have A15 := Aside0.mk A150
    clear A150
    replace H := Option.bind_eq_some_iff.mp H
    obtain ⟨⟨t811, t812, t813, t814⟩, A160, H⟩ := H
    replace H : ((laws_toStringS.f k l1).bind fun t818 => ((impl_IsOrderedFor.f k t811 t812 t813 t814 t818).bind fun bt821 => (if (bt821.1 != t809) = true then (none) else (if (bt821.2 != t810) = true then (none) else ((laws_toOrdered.f k a0_0 a0_1 a0_2 l0_3).bind fun bt823 => ((laws_eqOrdered.f k t811 t812 t813 t814 bt823.1 bt823.2.1 bt823.2.2.1 bt823.2.2.2).bind fun t829 => (if t829 = true then ((laws_toStringS.f k l1).bind fun t830 => ((laws_eqStringS.f k t818 t830).bind fun t833 => (if t833 = true then (some true) else (none)))) else (none)))))))) = some r := H
    have A16 := Aside0.mk A160
    clear A160
    replace H := Option.bind_eq_some_iff.mp H
    obtain ⟨t818, A170, H⟩ := H
    replace H : ((impl_IsOrderedFor.f k t811 t812 t813 t814 t818).bind fun bt821 => (if (bt821.1 != t809) = true then (none) else (if (bt821.2 != t810) = true then (none) else ((laws_toOrdered.f k a0_0 a0_1 a0_2 l0_3).bind fun bt823 => ((laws_eqOrdered.f k t811 t812 t813 t814 bt823.1 bt823.2.1 bt823.2.2.1 bt823.2.2.2).bind fun t829 => (if t829 = true then ((laws_toStringS.f k l1).bind fun t830 => ((laws_eqStringS.f k t818 t830).bind fun t833 => (if t833 = true then (some true) else (none)))) else (none))))))) = some r := H
    have A17 := Aside0.mk A170
    clear A170
    replace H := Option.bind_eq_some_iff.mp H
    obtain ⟨⟨t821, t822⟩, A180, H⟩ := H
    replace H : (if (t821 != t809) = true then (none) else (if (t822 != t810) = true then (none) else ((laws_toOrdered.f k a0_0 a0_1 a0_2 l0_3).bind fun bt823 => ((laws_eqOrdered.f k t811 t812 t813 t814 bt823.1 bt823.2.1 bt823.2.2.1 bt823.2.2.2).bind fun t829 => (if t829 = true then ((laws_toStringS.f k l1).bind fun t830 => ((laws_eqStringS.f k t818 t830).bind fun t833 => (if t833 = true then (some true) else (none)))) else (none)))))) = some r := H
    have A18 := Aside0.mk A180
    clear A180
    by_cases c19 : (t821 != t809) = true
    ·rw [if_pos c19] at H
     exact absurd H (by simp)
    ·rw [if_neg c19] at H
     have c19b0 : (t821 != t809) = false := by simpa using c19
     (try (have c19b1 : decide (t821 = t809) = true := by simpa using c19))
     (try (have c19b2 : (t821 == t809) = true := by simpa using c19))
     clear c19
     by_cases c20 : (t822 != t810) = true
     ·rw [if_pos c20] at H
      exact absurd H (by simp)
     ·rw [if_neg c20] at H
      have c20b0 : (t822 != t810) = false := by simpa using c20
      (try (have c20b1 : decide (t822 = t810) = true := by simpa using c20))
      (try (have c20b2 : (t822 == t810) = true := by simpa using c20))
      clear c20
      replace H := Option.bind_eq_some_iff.mp H
      obtain ⟨⟨t823, t824, t825, t826⟩, A210, H⟩ := H
      replace H : ((laws_eqOrdered.f k t811 t812 t813 t814 t823 t824 t825 t826).bind fun t829 => (if t829 = true then ((laws_toStringS.f k l1).bind fun t830 => ((laws_eqStringS.f k t818 t830).bind fun t833 => (if t833 = true then (some true) else (none)))) else (none))) = some r := H
      have A21 := Aside0.mk A210
      clear A210
      replace H := Option.bind_eq_some_iff.mp H
      obtain ⟨t829, A220, H⟩ := H
      replace H : (if t829 = true then ((laws_toStringS.f k l1).bind fun t830 => ((laws_eqStringS.f k t818 t830).bind fun t833 => (if t833 = true then (some true) else (none)))) else (none)) = some r := H
      have A22 := Aside0.mk A220
      clear A220
      by_cases c23 : t829 = true
      ·subst c23
       have H1 : ((laws_toStringS.f k l1).bind fun t830 => ((laws_eqStringS.f k t818 t830).bind fun t833 => (if t833 = true then (some true) else (none)))) = some r := by rw [if_pos rfl] at H; exact H
       clear H
       have H := H1
       clear H1
       replace H := Option.bind_eq_some_iff.mp H
       obtain ⟨t830, A240, H⟩ := H
       replace H : ((laws_eqStringS.f k t818 t830).bind fun t833 => (if t833 = true then (some true) else (none))) = some r := H
       have A24 := Aside0.mk A240
       clear A240
       replace H := Option.bind_eq_some_iff.mp H
       obtain ⟨t833, A250, H⟩ := H
       replace H : (if t833 = true then (some true) else (none)) = some r := H
       have A25 := Aside0.mk A250
       clear A250
       by_cases c26 : t833 = true
       ·subst c26
        have H1 : (some true) = some r := by rw [if_pos rfl] at H; exact H
        clear H
        have H := H1
        clear H1
        obtain rfl := Option.some.inj H
        go_enter Try.func12, Try.ntmps12
        try go_wp2_with (first | ((with_reducible refine gate_dst (N := 2) rfl ?_); refine box_event ?hg (N := 2) ?hd (cs := #[.int .i64 a0_0, .int .i64 a0_1, .int .i64 a0_2, .slice A0_3 l0_3.length c0_3]) (t := 63) ?hr ?_; (case hd => rfl); (case hg => rfl); (case hr => first | (go_simp; done) | (go_simp; rfl)); intro gb797 hg w27 hbox hb; have n0_ := Aside0.mk (below_step (by repeat (first | (with_reducible first | exact HB.out | apply below_alloc | apply pw_below_drewN | apply below_drew1) | exact HB.out)) hb); have n1_ := Aside0.mk (hbox); have n2_ := Aside0.mk ((by rw [hg]; exact (below_size (by repeat (first | (with_reducible first | exact HB.out | apply below_alloc | apply pw_below_drewN | apply below_drew1) | exact HB.out))) : w.heap.size ≤ gb797)); have n3_ := Aside0.mk ((by rw [hg]; exact (below_size (by repeat (first | (with_reducible first | exact HB.out | apply below_alloc | apply pw_below_drewN | apply below_drew1) | exact HB.out))) : w.heap.size ≤ gb797)); clear HB; have HB := n0_; have BK797 := n1_; have GW797 := n2_; have GE797 := n3_; clear n0_ n1_ n2_ n3_; clear hb hbox hg; have hcz28_0 : w27.cell? ⟨gb797, 0, none⟩ = some (.int .i64 a0_0) := (blk_cell BK797.out 0).trans rfl; have hcz28_1 : w27.cell? ⟨gb797, 1, none⟩ = some (.int .i64 a0_1) := (blk_cell BK797.out 1).trans rfl; have hcz28_2 : w27.cell? ⟨gb797, 2, none⟩ = some (.int .i64 a0_2) := (blk_cell BK797.out 2).trans rfl; have hcz28_3 : w27.cell? ⟨gb797, 3, none⟩ = some (.slice A0_3 l0_3.length c0_3) := (blk_cell BK797.out 3).trans rfl; have hfz28_0 := blk_frozen BK797.out 0; have hfz28_1 := blk_frozen BK797.out 1; have hfz28_2 := blk_frozen BK797.out 2; have hfz28_3 := blk_frozen BK797.out 3) | ((with_reducible refine gate_callee (f := 44) rfl ?_); refine goesL_ (some 14) rfl rfl Try.func44 (by kernel_rfl) rfl #[.agg #[.int .i64 a0_0, .int .i64 a0_1, .int .i64 a0_2, .slice A0_3 l0_3.length c0_3], .int .i64 1048576] rfl (by (try simp only [List.map_toArray, List.map_cons, List.map_nil]); first | done | rfl | (simp only [List.length_drop, List.length_take]; rfl)) ?_; (with_reducible refine (laws_szOrdered.calls a0_0 a0_1 a0_2 _ _ l0_3 1048576 t798 _ ?side1 ?side2 A3.out).mono ?_); (case side1 => repeat (first | exact (Kd.C_below HR0_3.out HB.out) | (with_reducible refine Kd.C_alloc ?_ _) | (with_reducible refine Kd.C_drewN ?_ _) | (with_reducible refine Kd.C_drew ?_))); (case side2 => exact HC0_3.out); rintro e w29 ⟨rfl, hb⟩; refine ⟨_, rfl, ?_⟩; have n0_ := Aside0.mk (blk_below (g := gb797) (o := .cells #[.int .i64 a0_0, .int .i64 a0_1, .int .i64 a0_2, .slice A0_3 l0_3.length c0_3] 63 (0, 0)) (by (with_reducible repeat (first | refine blk_drewN ?_ _ | refine blk_drew ?_ | refine blk_alloc ?_ _)); exact BK797.out) hb); have n1_ := Aside0.mk (below_step (by repeat (first | (with_reducible first | exact HB.out | apply below_alloc | apply pw_below_drewN | apply below_drew1 | refine below_set ?_ GE797.out) | exact HB.out)) hb); clear BK797; clear HB; have BK797 := n0_; have HB := n1_; clear n0_ n1_; (try clear hb); (try clear hb2); (try clear hk); (try clear hi)) | ((with_reducible refine gate_callee (f := 29) rfl ?_); refine goesL_ (some 19) rfl rfl Try.func29 (by kernel_rfl) rfl #[.slice A1 l1.length c1, .int .i64 t798] rfl (by (try simp only [List.map_toArray, List.map_cons, List.map_nil]); first | done | rfl | (simp only [List.length_drop, List.length_take]; rfl)) ?_; (with_reducible refine (laws_szStringS.calls k _ _ l1 t798 t799 _ ?side1 ?side2 A8.out).mono ?_); (case side1 => repeat (first | exact (Kd.C_below HR1.out HB.out) | (with_reducible refine Kd.C_alloc ?_ _) | (with_reducible refine Kd.C_drewN ?_ _) | (with_reducible refine Kd.C_drew ?_))); (case side2 => exact HC1.out); rintro e w' ⟨rfl, ⟨nd, rfl⟩⟩; refine ⟨_, rfl, ?_⟩; (try (rw [drewN_self w29]; generalize hq_ : World.drewN w29 _ = w29; have n0_ : Aside0 (w29.heap[gb797]? = some (.cells #[.int .i64 a0_0, .int .i64 a0_1, .int .i64 a0_2, .slice A0_3 l0_3.length c0_3] 63 (0, 0))) := ⟨by rw [← hq_]; exact (by (with_reducible repeat (first | refine blk_drewN ?_ _ | refine blk_drew ?_ | refine blk_alloc ?_ _)); exact BK797.out)⟩; have n1_ : Aside0 (Below w.heap.size w w29) := ⟨by rw [← hq_]; exact (by repeat (first | (with_reducible first | exact HB.out | apply below_alloc | apply pw_below_drewN | apply below_drew1 | refine below_set ?_ GE797.out) | exact HB.out))⟩; clear BK797 HB hq_; have BK797 := n0_; have HB := n1_; clear n0_ n1_)); have hcz30_0 : w29.cell? ⟨gb797, 0, none⟩ = some (.int .i64 a0_0) := (blk_cell BK797.out 0).trans rfl; have hcz30_1 : w29.cell? ⟨gb797, 1, none⟩ = some (.int .i64 a0_1) := (blk_cell BK797.out 1).trans rfl; have hcz30_2 : w29.cell? ⟨gb797, 2, none⟩ = some (.int .i64 a0_2) := (blk_cell BK797.out 2).trans rfl; have hcz30_3 : w29.cell? ⟨gb797, 3, none⟩ = some (.slice A0_3 l0_3.length c0_3) := (blk_cell BK797.out 3).trans rfl; have hfz30_0 := blk_frozen BK797.out 0; have hfz30_1 := blk_frozen BK797.out 1; have hfz30_2 := blk_frozen BK797.out 2; have hfz30_3 := blk_frozen BK797.out 3) | ((with_reducible refine gate_callee (f := 46) rfl ?_); refine goesL_ (some 24) rfl rfl Try.func46 (by kernel_rfl) rfl #[.agg #[.int .i64 a0_0, .int .i64 a0_1, .int .i64 a0_2, .slice A0_3 l0_3.length c0_3]] rfl (by (try simp only [List.map_toArray, List.map_cons, List.map_nil]); first | done | rfl | (simp only [List.length_drop, List.length_take]; rfl)) ?_; (with_reducible refine (laws_toOrdered.calls k a0_0 a0_1 a0_2 _ _ l0_3 t800 t801 t802 t803 _ ?side1 ?side2 A13.out).mono ?_); (case side1 => repeat (first | exact (Kd.C_below HR0_3.out HB.out) | (with_reducible refine Kd.C_alloc ?_ _) | (with_reducible refine Kd.C_drewN ?_ _) | (with_reducible refine Kd.C_drew ?_))); (case side2 => exact HC0_3.out); rintro e w31 ⟨v804, rfl, ho0, hb⟩; refine ⟨_, rfl, ?_⟩; have n0_ := Aside0.mk (Kd.R_lower ho0 (below_size (by repeat (first | (with_reducible first | exact HB.out | apply below_alloc | apply pw_below_drewN | apply below_drew1 | refine below_set ?_ GE797.out) | exact HB.out)))); have n1_ := Aside0.mk (blk_below (g := gb797) (o := .cells #[.int .i64 a0_0, .int .i64 a0_1, .int .i64 a0_2, .slice A0_3 l0_3.length c0_3] 63 (0, 0)) (by (with_reducible repeat (first | refine blk_drewN ?_ _ | refine blk_drew ?_ | refine blk_alloc ?_ _)); exact BK797.out) hb); have n2_ := Aside0.mk (below_step (by repeat (first | (with_reducible first | exact HB.out | apply below_alloc | apply pw_below_drewN | apply below_drew1 | refine below_set ?_ GE797.out) | exact HB.out)) hb); clear BK797; clear HB; have HO805 := n0_; have BK797 := n1_; have HB := n2_; clear n0_ n1_ n2_; (try clear hb); (try clear hb2); (try clear hk); (try clear hi); (try clear ho0)) | ((with_reducible refine gate_callee (f := 31) rfl ?_); refine goesL_ (some 26) rfl rfl Try.func31 (by kernel_rfl) rfl #[.slice A1 l1.length c1] rfl (by (try simp only [List.map_toArray, List.map_cons, List.map_nil]); first | done | rfl | (simp only [List.length_drop, List.length_take]; rfl)) ?_; (with_reducible refine (laws_toStringS.calls k _ _ l1 t806 _ ?side1 ?side2 A14.out).mono ?_); (case side1 => repeat (first | exact (Kd.C_below HR1.out HB.out) | (with_reducible refine Kd.C_alloc ?_ _) | (with_reducible refine Kd.C_drewN ?_ _) | (with_reducible refine Kd.C_drew ?_))); (case side2 => exact HC1.out); rintro e w32 ⟨v807, rfl, ho0, hb⟩; refine ⟨_, rfl, ?_⟩; have n0_ := Aside0.mk (Kd.R_below (by (with_reducible repeat (first | apply Kd.R_alloc | apply Kd.R_drewN | apply Kd.R_drew)); exact HO805.out) hb); have n1_ := Aside0.mk (Kd.R_lower ho0 (below_size (by repeat (first | (with_reducible first | exact HB.out | apply below_alloc | apply pw_below_drewN | apply below_drew1 | refine below_set ?_ GE797.out) | exact HB.out)))); have n2_ := Aside0.mk (blk_below (g := gb797) (o := .cells #[.int .i64 a0_0, .int .i64 a0_1, .int .i64 a0_2, .slice A0_3 l0_3.length c0_3] 63 (0, 0)) (by (with_reducible repeat (first | refine blk_drewN ?_ _ | refine blk_drew ?_ | refine blk_alloc ?_ _)); exact BK797.out) hb); have n3_ := Aside0.mk (below_step (by repeat (first | (with_reducible first | exact HB.out | apply below_alloc | apply pw_below_drewN | apply below_drew1 | refine below_set ?_ GE797.out) | exact HB.out)) hb); clear HO805; clear BK797; clear HB; have HO805 := n0_; have HO808 := n1_; have BK797 := n2_; have HB := n3_; clear n0_ n1_ n2_ n3_; (try clear hb); (try clear hb2); (try clear hk); (try clear hi); (try clear ho0); obtain ⟨Ao33, co33, eo33⟩ := Kd.R_slice HO805.out; subst eo33; obtain ⟨Ao34, co34, eo34⟩ := Kd.R_slice HO808.out; subst eo34) | ((with_reducible refine gate_callee (f := 59) rfl ?_); refine goesL_ (some 27) rfl rfl Try.func59 (by kernel_rfl) rfl #[.agg #[.int .i64 t800, .int .i64 t801, .int .i64 t802, .slice Ao33 t803.length co33], .slice Ao34 t806.length co34] rfl (by (try simp only [List.map_toArray, List.map_cons, List.map_nil]); first | done | rfl | (simp only [List.length_drop, List.length_take]; rfl)) ?_; (with_reducible refine (spec_IsOrderedFor.calls k t800 t801 t802 _ _ t803 _ _ t806 t809 t810 _ ?side1 ?side2 ?side3 ?side4 A15.out).mono ?_); (case side1 => repeat (first | exact (Kd.R_reads' HO805.out).2.2 | (with_reducible refine Kd.C_alloc ?_ _) | (with_reducible refine Kd.C_drewN ?_ _) | (with_reducible refine Kd.C_drew ?_))); (case side2 => exact (Kd.R_reads' HO805.out).2.1); (case side3 => repeat (first | exact (Kd.R_reads' HO808.out).2.2 | (with_reducible refine Kd.C_alloc ?_ _) | (with_reducible refine Kd.C_drewN ?_ _) | (with_reducible refine Kd.C_drew ?_))); (case side4 => exact (Kd.R_reads' HO808.out).2.1); rintro e w35 ⟨rfl, hb⟩; refine ⟨_, rfl, ?_⟩; have n0_ := Aside0.mk (Kd.R_below (by (with_reducible repeat (first | apply Kd.R_alloc | apply Kd.R_drewN | apply Kd.R_drew)); exact HO805.out) hb); have n1_ := Aside0.mk (Kd.R_below (by (with_reducible repeat (first | apply Kd.R_alloc | apply Kd.R_drewN | apply Kd.R_drew)); exact HO808.out) hb); have n2_ := Aside0.mk (blk_below (g := gb797) (o := .cells #[.int .i64 a0_0, .int .i64 a0_1, .int .i64 a0_2, .slice A0_3 l0_3.length c0_3] 63 (0, 0)) (by (with_reducible repeat (first | refine blk_drewN ?_ _ | refine blk_drew ?_ | refine blk_alloc ?_ _)); exact BK797.out) hb); have n3_ := Aside0.mk (below_step (by repeat (first | (with_reducible first | exact HB.out | apply below_alloc | apply pw_below_drewN | apply below_drew1 | refine below_set ?_ GE797.out) | exact HB.out)) hb); clear HO805; clear HO808; clear BK797; clear HB; have HO805 := n0_; have HO808 := n1_; have BK797 := n2_; have HB := n3_; clear n0_ n1_ n2_ n3_; (try clear hb); (try clear hb2); (try clear hk); (try clear hi); have hcz36_0 : w35.cell? ⟨gb797, 0, none⟩ = some (.int .i64 a0_0) := (blk_cell BK797.out 0).trans rfl; have hcz36_1 : w35.cell? ⟨gb797, 1, none⟩ = some (.int .i64 a0_1) := (blk_cell BK797.out 1).trans rfl; have hcz36_2 : w35.cell? ⟨gb797, 2, none⟩ = some (.int .i64 a0_2) := (blk_cell BK797.out 2).trans rfl; have hcz36_3 : w35.cell? ⟨gb797, 3, none⟩ = some (.slice A0_3 l0_3.length c0_3) := (blk_cell BK797.out 3).trans rfl; have hfz36_0 := blk_frozen BK797.out 0; have hfz36_1 := blk_frozen BK797.out 1; have hfz36_2 := blk_frozen BK797.out 2; have hfz36_3 := blk_frozen BK797.out 3) | ((with_reducible refine gate_callee (f := 46) rfl ?_); refine goesL_ (some 31) rfl rfl Try.func46 (by kernel_rfl) rfl #[.agg #[.int .i64 a0_0, .int .i64 a0_1, .int .i64 a0_2, .slice A0_3 l0_3.length c0_3]] rfl (by (try simp only [List.map_toArray, List.map_cons, List.map_nil]); first | done | rfl | (simp only [List.length_drop, List.length_take]; rfl)) ?_; (with_reducible refine (laws_toOrdered.calls k a0_0 a0_1 a0_2 _ _ l0_3 t811 t812 t813 t814 _ ?side1 ?side2 A16.out).mono ?_); (case side1 => repeat (first | exact (Kd.C_below HR0_3.out HB.out) | (with_reducible refine Kd.C_alloc ?_ _) | (with_reducible refine Kd.C_drewN ?_ _) | (with_reducible refine Kd.C_drew ?_))); (case side2 => exact HC0_3.out); rintro e w37 ⟨v815, rfl, ho0, hb⟩; refine ⟨_, rfl, ?_⟩; have n0_ := Aside0.mk (Kd.R_elder' (by (with_reducible repeat (first | apply Kd.R_alloc | apply Kd.R_drewN | apply Kd.R_drew)); exact HO805.out) (Kd.R_base ho0) hb); have n1_ := Aside0.mk (Kd.R_below (by (with_reducible repeat (first | apply Kd.R_alloc | apply Kd.R_drewN | apply Kd.R_drew)); exact HO808.out) hb); have n2_ := Aside0.mk (Kd.R_lower (Kd.R_new' ho0 (Kd.R_lt (by (with_reducible repeat (first | apply Kd.R_alloc | apply Kd.R_drewN | apply Kd.R_drew)); exact HO805.out))) (below_size (by repeat (first | (with_reducible first | exact HB.out | apply below_alloc | apply pw_below_drewN | apply below_drew1 | refine below_set ?_ GE797.out) | exact HB.out)))); have n3_ := Aside0.mk (blk_below (g := gb797) (o := .cells #[.int .i64 a0_0, .int .i64 a0_1, .int .i64 a0_2, .slice A0_3 l0_3.length c0_3] 63 (0, 0)) (by (with_reducible repeat (first | refine blk_drewN ?_ _ | refine blk_drew ?_ | refine blk_alloc ?_ _)); exact BK797.out) hb); have n4_ := Aside0.mk (below_step (by repeat (first | (with_reducible first | exact HB.out | apply below_alloc | apply pw_below_drewN | apply below_drew1 | refine below_set ?_ GE797.out) | exact HB.out)) hb); clear HO805; clear HO808; clear BK797; clear HB; have HO805 := n0_; have HO808 := n1_; have HO816 := n2_; have BK797 := n3_; have HB := n4_; clear n0_ n1_ n2_ n3_ n4_; (try clear hb); (try clear hb2); (try clear hk); (try clear hi); (try clear ho0)) | ((with_reducible refine gate_dst (N := 8) rfl ?_); refine box_event ?hg (N := 8) ?hd (cs := #[.int .i64 0, .int .i64 0, .int .i64 0, .slice none 0 0]) (t := 66) ?hr ?_; (case hd => rfl); (case hg => rfl); (case hr => first | (go_simp; done) | (go_simp; rfl)); intro gb817 hg w38 hbox hb; have n0_ := Aside0.mk (Kd.R_below (by (with_reducible repeat (first | apply Kd.R_alloc | apply Kd.R_drewN | apply Kd.R_drew)); exact HO805.out) hb); have n1_ := Aside0.mk (Kd.R_below (by (with_reducible repeat (first | apply Kd.R_alloc | apply Kd.R_drewN | apply Kd.R_drew)); exact HO808.out) hb); have n2_ := Aside0.mk (Kd.R_below (by (with_reducible repeat (first | apply Kd.R_alloc | apply Kd.R_drewN | apply Kd.R_drew)); exact HO816.out) hb); have n3_ := Aside0.mk (blk_below (g := gb797) (o := .cells #[.int .i64 a0_0, .int .i64 a0_1, .int .i64 a0_2, .slice A0_3 l0_3.length c0_3] 63 (0, 0)) (by (with_reducible repeat (first | refine blk_drewN ?_ _ | refine blk_drew ?_ | refine blk_alloc ?_ _)); exact BK797.out) hb); have n4_ := Aside0.mk (below_step (by repeat (first | (with_reducible first | exact HB.out | apply below_alloc | apply pw_below_drewN | apply below_drew1 | refine below_set ?_ GE797.out) | exact HB.out)) hb); have n5_ := Aside0.mk (hbox); have n6_ := Aside0.mk ((by rw [hg]; exact (below_size (by repeat (first | (with_reducible first | exact HB.out | apply below_alloc | apply pw_below_drewN | apply below_drew1 | refine below_set ?_ GE797.out) | exact HB.out))) : w.heap.size ≤ gb817)); have n7_ := Aside0.mk ((by rw [hg]; exact (below_size (by repeat (first | (with_reducible first | exact HB.out | apply below_alloc | apply pw_below_drewN | apply below_drew1 | refine below_set ?_ GE797.out) | exact HB.out))) : w.heap.size ≤ gb817)); have n8_ := Aside0.mk ((by rw [hg]; exact Nat.ne_of_lt (blk_lt (g := gb797) (o := .cells #[.int .i64 a0_0, .int .i64 a0_1, .int .i64 a0_2, .slice A0_3 l0_3.length c0_3] 63 (0, 0)) (by (with_reducible repeat (first | refine blk_drewN ?_ _ | refine blk_drew ?_ | refine blk_alloc ?_ _)); exact BK797.out)) : gb797 ≠ gb817)); have n9_ := Aside0.mk ((by rw [hg]; exact Nat.ne_of_gt (blk_lt (g := gb797) (o := .cells #[.int .i64 a0_0, .int .i64 a0_1, .int .i64 a0_2, .slice A0_3 l0_3.length c0_3] 63 (0, 0)) (by (with_reducible repeat (first | refine blk_drewN ?_ _ | refine blk_drew ?_ | refine blk_alloc ?_ _)); exact BK797.out)) : gb817 ≠ gb797)); clear HO805; clear HO808; clear HO816; clear BK797; clear HB; have HO805 := n0_; have HO808 := n1_; have HO816 := n2_; have BK797 := n3_; have HB := n4_; have BK817 := n5_; have GW817 := n6_; have GE817 := n7_; have NB797_817 := n8_; have NB817_797 := n9_; clear n0_ n1_ n2_ n3_ n4_ n5_ n6_ n7_ n8_ n9_; clear hb hbox hg; have hnb39 := NB817_797.out; have hnc39 := NB797_817.out; have hcz40_0 : w38.cell? ⟨gb817, 0, none⟩ = some (.int .i64 0) := (blk_cell BK817.out 0).trans rfl; have hcz40_1 : w38.cell? ⟨gb817, 1, none⟩ = some (.int .i64 0) := (blk_cell BK817.out 1).trans rfl; have hcz40_2 : w38.cell? ⟨gb817, 2, none⟩ = some (.int .i64 0) := (blk_cell BK817.out 2).trans rfl; have hcz40_3 : w38.cell? ⟨gb817, 3, none⟩ = some (.slice none 0 0) := (blk_cell BK817.out 3).trans rfl; have hfz40_0 := blk_frozen BK817.out 0; have hfz40_1 := blk_frozen BK817.out 1; have hfz40_2 := blk_frozen BK817.out 2; have hfz40_3 := blk_frozen BK817.out 3; obtain ⟨Ao41, co41, eo41⟩ := Kd.R_slice HO816.out; subst eo41) | ((with_reducible refine gate_callee (f := 31) rfl ?_); refine goesL_ (some 33) rfl rfl Try.func31 (by kernel_rfl) rfl #[.slice A1 l1.length c1] rfl (by (try simp only [List.map_toArray, List.map_cons, List.map_nil]); first | done | rfl | (simp only [List.length_drop, List.length_take]; rfl)) ?_; (with_reducible refine (laws_toStringS.calls k _ _ l1 t818 _ ?side1 ?side2 A17.out).mono ?_); (case side1 => exact Kd.C_below HR1.out (by repeat (first | (with_reducible first | exact HB.out | apply below_alloc | apply pw_below_drewN | apply below_drew1 | refine below_set ?_ GE797.out | refine below_set ?_ GE817.out) | exact HB.out))); (case side2 => exact HC1.out); rintro e w42 ⟨v819, rfl, ho0, hb⟩; refine ⟨_, rfl, ?_⟩; have n0_ := Aside0.mk (Kd.R_below (by (with_reducible repeat (first | apply Kd.R_alloc | apply Kd.R_drewN | apply Kd.R_drew)); exact (Kd.R_mono (Kd.R_far (p := ⟨gb817, 3, none⟩) (Kd.R_far (p := ⟨gb817, 2, none⟩) (Kd.R_far (p := ⟨gb817, 1, none⟩) (Kd.R_far (p := ⟨gb817, 0, none⟩) (Kd.R_types HO805.out BK817.out (by decide)) (fun _ hk => hk.2) (.int .i64 t811)) (fun _ hk => hk.2) (.int .i64 t812)) (fun _ hk => hk.2) (.int .i64 t813)) (fun _ hk => hk.2) (.slice Ao41 t814.length co41)) (fun _ h_ => h_.1))) hb); have n1_ := Aside0.mk (Kd.R_elder' (by (with_reducible repeat (first | apply Kd.R_alloc | apply Kd.R_drewN | apply Kd.R_drew)); exact (Kd.R_mono (Kd.R_far (p := ⟨gb817, 3, none⟩) (Kd.R_far (p := ⟨gb817, 2, none⟩) (Kd.R_far (p := ⟨gb817, 1, none⟩) (Kd.R_far (p := ⟨gb817, 0, none⟩) (Kd.R_types HO808.out BK817.out (by decide)) (fun _ hk => hk.2) (.int .i64 t811)) (fun _ hk => hk.2) (.int .i64 t812)) (fun _ hk => hk.2) (.int .i64 t813)) (fun _ hk => hk.2) (.slice Ao41 t814.length co41)) (fun _ h_ => h_.1))) (Kd.R_base ho0) hb); have n2_ := Aside0.mk (Kd.R_below (by (with_reducible repeat (first | apply Kd.R_alloc | apply Kd.R_drewN | apply Kd.R_drew)); exact (Kd.R_mono (Kd.R_far (p := ⟨gb817, 3, none⟩) (Kd.R_far (p := ⟨gb817, 2, none⟩) (Kd.R_far (p := ⟨gb817, 1, none⟩) (Kd.R_far (p := ⟨gb817, 0, none⟩) (Kd.R_types HO816.out BK817.out (by decide)) (fun _ hk => hk.2) (.int .i64 t811)) (fun _ hk => hk.2) (.int .i64 t812)) (fun _ hk => hk.2) (.int .i64 t813)) (fun _ hk => hk.2) (.slice Ao41 t814.length co41)) (fun _ h_ => h_.1))) hb); have n3_ := Aside0.mk (Kd.R_lower (Kd.R_new' ho0 (Kd.R_lt (by (with_reducible repeat (first | apply Kd.R_alloc | apply Kd.R_drewN | apply Kd.R_drew)); exact (Kd.R_mono (Kd.R_far (p := ⟨gb817, 3, none⟩) (Kd.R_far (p := ⟨gb817, 2, none⟩) (Kd.R_far (p := ⟨gb817, 1, none⟩) (Kd.R_far (p := ⟨gb817, 0, none⟩) (Kd.R_types HO808.out BK817.out (by decide)) (fun _ hk => hk.2) (.int .i64 t811)) (fun _ hk => hk.2) (.int .i64 t812)) (fun _ hk => hk.2) (.int .i64 t813)) (fun _ hk => hk.2) (.slice Ao41 t814.length co41)) (fun _ h_ => h_.1))))) (below_size (by repeat (first | (with_reducible first | exact HB.out | apply below_alloc | apply pw_below_drewN | apply below_drew1 | refine below_set ?_ GE797.out | refine below_set ?_ GE817.out) | exact HB.out)))); have n4_ := Aside0.mk (blk_below (g := gb797) (o := .cells #[.int .i64 a0_0, .int .i64 a0_1, .int .i64 a0_2, .slice A0_3 l0_3.length c0_3] 63 (0, 0)) (by (with_reducible repeat (first | refine blk_drewN ?_ _ | refine blk_drew ?_ | refine blk_alloc ?_ _)); refine blk_far ?_ NB797_817.out _; (with_reducible repeat (first | refine blk_drewN ?_ _ | refine blk_drew ?_ | refine blk_alloc ?_ _)); refine blk_far ?_ NB797_817.out _; (with_reducible repeat (first | refine blk_drewN ?_ _ | refine blk_drew ?_ | refine blk_alloc ?_ _)); refine blk_far ?_ NB797_817.out _; (with_reducible repeat (first | refine blk_drewN ?_ _ | refine blk_drew ?_ | refine blk_alloc ?_ _)); refine blk_far ?_ NB797_817.out _; (with_reducible repeat (first | refine blk_drewN ?_ _ | refine blk_drew ?_ | refine blk_alloc ?_ _)); exact BK797.out) hb); have n5_ := Aside0.mk (blk_below (g := gb817) (o := .cells #[.int .i64 t811, .int .i64 t812, .int .i64 t813, .slice Ao41 t814.length co41] 66 (0, 0)) (by (with_reducible repeat (first | refine blk_drewN ?_ _ | refine blk_drew ?_ | refine blk_alloc ?_ _)); refine blk_put (cs := #[.int .i64 t811, .int .i64 t812, .int .i64 t813, .slice none 0 0]) ?_ 3 _ rfl; (with_reducible repeat (first | refine blk_drewN ?_ _ | refine blk_drew ?_ | refine blk_alloc ?_ _)); refine blk_put (cs := #[.int .i64 t811, .int .i64 t812, .int .i64 0, .slice none 0 0]) ?_ 2 _ rfl; (with_reducible repeat (first | refine blk_drewN ?_ _ | refine blk_drew ?_ | refine blk_alloc ?_ _)); refine blk_put (cs := #[.int .i64 t811, .int .i64 0, .int .i64 0, .slice none 0 0]) ?_ 1 _ rfl; (with_reducible repeat (first | refine blk_drewN ?_ _ | refine blk_drew ?_ | refine blk_alloc ?_ _)); refine blk_put (cs := #[.int .i64 0, .int .i64 0, .int .i64 0, .slice none 0 0]) ?_ 0 _ rfl; (with_reducible repeat (first | refine blk_drewN ?_ _ | refine blk_drew ?_ | refine blk_alloc ?_ _)); exact BK817.out) hb); have n6_ := Aside0.mk (below_step (by repeat (first | (with_reducible first | exact HB.out | apply below_alloc | apply pw_below_drewN | apply below_drew1 | refine below_set ?_ GE797.out | refine below_set ?_ GE817.out) | exact HB.out)) hb); clear HO805; clear HO808; clear HO816; clear BK797; clear BK817; clear HB; have HO805 := n0_; have HO808 := n1_; have HO816 := n2_; have HO820 := n3_; have BK797 := n4_; have BK817 := n5_; have HB := n6_; clear n0_ n1_ n2_ n3_ n4_ n5_ n6_; (try clear hb); (try clear hb2); (try clear hk); (try clear hi); (try clear ho0); have hcz43_0 : w42.cell? ⟨gb817, 0, none⟩ = some (.int .i64 t811) := (blk_cell BK817.out 0).trans rfl; have hcz43_1 : w42.cell? ⟨gb817, 1, none⟩ = some (.int .i64 t812) := (blk_cell BK817.out 1).trans rfl; have hcz43_2 : w42.cell? ⟨gb817, 2, none⟩ = some (.int .i64 t813) := (blk_cell BK817.out 2).trans rfl; have hcz43_3 : w42.cell? ⟨gb817, 3, none⟩ = some (.slice Ao41 t814.length co41) := (blk_cell BK817.out 3).trans rfl; have hfz43_0 := blk_frozen BK817.out 0; have hfz43_1 := blk_frozen BK817.out 1; have hfz43_2 := blk_frozen BK817.out 2; have hfz43_3 := blk_frozen BK817.out 3; obtain ⟨Ao44, co44, eo44⟩ := Kd.R_slice HO820.out; subst eo44) | ((with_reducible refine gate_callee (f := 60) rfl ?_); refine goesL_ (some 37) rfl rfl Try.func60 (by kernel_rfl) rfl #[.agg #[.int .i64 t811, .int .i64 t812, .int .i64 t813, .slice Ao41 t814.length co41], .slice Ao44 t818.length co44] rfl (by (try simp only [List.map_toArray, List.map_cons, List.map_nil]); first | done | rfl | (simp only [List.length_drop, List.length_take]; rfl)) ?_; (with_reducible refine (impl_IsOrderedFor.calls k t811 t812 t813 _ _ t814 _ _ t818 t821 t822 _ ?side1 ?side2 ?side3 ?side4 A18.out).mono ?_); (case side1 => repeat (first | exact (Kd.R_reads' HO816.out).2.2 | (with_reducible refine Kd.C_alloc ?_ _) | (with_reducible refine Kd.C_drewN ?_ _) | (with_reducible refine Kd.C_drew ?_))); (case side2 => exact (Kd.R_reads' HO816.out).2.1); (case side3 => repeat (first | exact (Kd.R_reads' HO820.out).2.2 | (with_reducible refine Kd.C_alloc ?_ _) | (with_reducible refine Kd.C_drewN ?_ _) | (with_reducible refine Kd.C_drew ?_))); (case side4 => exact (Kd.R_reads' HO820.out).2.1); rintro e w45 ⟨rfl, hb⟩; refine ⟨_, rfl, ?_⟩; have n0_ := Aside0.mk (Kd.R_below (by (with_reducible repeat (first | apply Kd.R_alloc | apply Kd.R_drewN | apply Kd.R_drew)); exact HO805.out) hb); have n1_ := Aside0.mk (Kd.R_below (by (with_reducible repeat (first | apply Kd.R_alloc | apply Kd.R_drewN | apply Kd.R_drew)); exact HO808.out) hb); have n2_ := Aside0.mk (Kd.R_below (by (with_reducible repeat (first | apply Kd.R_alloc | apply Kd.R_drewN | apply Kd.R_drew)); exact HO816.out) hb); have n3_ := Aside0.mk (Kd.R_below (by (with_reducible repeat (first | apply Kd.R_alloc | apply Kd.R_drewN | apply Kd.R_drew)); exact HO820.out) hb); have n4_ := Aside0.mk (blk_below (g := gb797) (o := .cells #[.int .i64 a0_0, .int .i64 a0_1, .int .i64 a0_2, .slice A0_3 l0_3.length c0_3] 63 (0, 0)) (by (with_reducible repeat (first | refine blk_drewN ?_ _ | refine blk_drew ?_ | refine blk_alloc ?_ _)); exact BK797.out) hb); have n5_ := Aside0.mk (blk_below (g := gb817) (o := .cells #[.int .i64 t811, .int .i64 t812, .int .i64 t813, .slice Ao41 t814.length co41] 66 (0, 0)) (by (with_reducible repeat (first | refine blk_drewN ?_ _ | refine blk_drew ?_ | refine blk_alloc ?_ _)); exact BK817.out) hb); have n6_ := Aside0.mk (below_step (by repeat (first | (with_reducible first | exact HB.out | apply below_alloc | apply pw_below_drewN | apply below_drew1 | refine below_set ?_ GE797.out | refine below_set ?_ GE817.out) | exact HB.out)) hb); clear HO805; clear HO808; clear HO816; clear HO820; clear BK797; clear BK817; clear HB; have HO805 := n0_; have HO808 := n1_; have HO816 := n2_; have HO820 := n3_; have BK797 := n4_; have BK817 := n5_; have HB := n6_; clear n0_ n1_ n2_ n3_ n4_ n5_ n6_; (try clear hb); (try clear hb2); (try clear hk); (try clear hi)))
        have n0_ := Aside0.mk (Kd.R_drew HO805.out)
        have n1_ := Aside0.mk (Kd.R_drew HO808.out)
        have n2_ := Aside0.mk (Kd.R_drew HO816.out)
        have n3_ := Aside0.mk (Kd.R_drew HO820.out)
        have n4_ := Aside0.mk (blk_drew BK797.out)
        have n5_ := Aside0.mk (blk_drew BK817.out)
        have n6_ := Aside0.mk (below_drew1 HB.out)
        clear HO805
        clear HO808
        clear HO816
        clear HO820
        clear BK797
        clear BK817
        clear HB
        have HO805 := n0_
        have HO808 := n1_
        have HO816 := n2_
        have HO820 := n3_
        have BK797 := n4_
        have BK817 := n5_
        have HB := n6_
        clear n0_ n1_ n2_ n3_ n4_ n5_ n6_
        refine start_ (n := 5) (S := fun w' => w'.cell? ⟨gb817, 0, none⟩ = some (.int .i64 t811) ∧ w'.cell? ⟨gb817, 1, none⟩ = some (.int .i64 t812) ∧ w'.cell? ⟨gb817, 2, none⟩ = some (.int .i64 t813) ∧ w'.cell? ⟨gb817, 3, none⟩ = some (.slice Ao41 t814.length co41) ∧ w'.cell? ⟨gb797, 0, none⟩ = some (.int .i64 a0_0) ∧ w'.cell? ⟨gb797, 1, none⟩ = some (.int .i64 a0_1) ∧ w'.cell? ⟨gb797, 2, none⟩ = some (.int .i64 a0_2) ∧ w'.cell? ⟨gb797, 3, none⟩ = some (.slice A0_3 l0_3.length c0_3)) (ds := []) #[false, false, false, false, false] (by kernel_rfl) rfl rfl ⟨(blk_cell BK817.out 0).trans rfl, (blk_cell BK817.out 1).trans rfl, (blk_cell BK817.out 2).trans rfl, (blk_cell BK817.out 3).trans rfl, (blk_cell BK797.out 0).trans rfl, (blk_cell BK797.out 1).trans rfl, (blk_cell BK797.out 2).trans rfl, (blk_cell BK797.out 3).trans rfl⟩ (fun hHeld => ?_)
        generalize w45.drew = w46 at HO805 HO808 HO816 HO820 BK797 BK817 HB hHeld ⊢
        refine take_ (i := 0) (N := some 48) (v := ?_) (a' := ?_) #[true, false, false, false, false] rfl rfl (by kernel_rfl) (fun _ _ _ h => h) (Or.inl ⟨by rfl, ?_⟩) hHeld ?_ ?_
        rotate_left
        ·rintro w' ⟨s0, s1, s2, s3, s4, s5, s6, s7⟩
         go_simp
         with_reducible rfl
        rotate_left
        ·simp only [Act.put, List.setIfInBounds_toArray, List.set_cons_zero, List.set_cons_succ, i64_w]
         rfl
        refine take_ (i := 1) (N := some 49) (v := ?_) (a' := ?_) #[true, true, false, false, false] rfl rfl (by kernel_rfl) (fun _ _ _ h => h) (Or.inl ⟨by rfl, ?_⟩) hHeld ?_ ?_
        rotate_left
        ·rintro w' ⟨s0, s1, s2, s3, s4, s5, s6, s7⟩
         go_simp
         with_reducible rfl
        rotate_left
        ·simp only [Act.put, List.setIfInBounds_toArray, List.set_cons_zero, List.set_cons_succ, i64_w]
         rfl
        refine one_ (i := 2) (N := some 50) #[true, true, true, false, false] rfl rfl (by kernel_rfl) (by decide) (fun K hK => ?_)
        refine goes_ Try.func46 (by kernel_rfl) rfl #[.agg #[.int .i64 a0_0, .int .i64 a0_1, .int .i64 a0_2, .slice A0_3 l0_3.length c0_3]] (by rfl) rfl rfl (by (try simp only [List.map_toArray, List.map_cons, List.map_nil]); first | done | rfl | (simp only [List.length_drop, List.length_take]; rfl)) ?_
        with_reducible refine (laws_toOrdered.calls k a0_0 a0_1 a0_2 _ _ l0_3 t823 t824 t825 t826 _ ?side1 ?side2 A21.out).mono ?_
        (case side1 => repeat (first | exact (Kd.C_below HR0_3.out HB.out) | (with_reducible refine Kd.C_alloc ?_ _) | (with_reducible refine Kd.C_drewN ?_ _) | (with_reducible refine Kd.C_drew ?_)))
        (case side2 => exact HC0_3.out)
        rintro e w47 ⟨v827, rfl, ho0, hb⟩
        refine ⟨_, rfl, ?_⟩
        have n0_ := Aside0.mk (Kd.R_elder' (by (with_reducible repeat (first | apply Kd.R_alloc | apply Kd.R_drewN | apply Kd.R_drew)); exact HO805.out) (Kd.R_base ho0) hb)
        have n1_ := Aside0.mk (Kd.R_below (by (with_reducible repeat (first | apply Kd.R_alloc | apply Kd.R_drewN | apply Kd.R_drew)); exact HO808.out) hb)
        have n2_ := Aside0.mk (Kd.R_elder' (by (with_reducible repeat (first | apply Kd.R_alloc | apply Kd.R_drewN | apply Kd.R_drew)); exact HO816.out) (Kd.R_base ho0) hb)
        have n3_ := Aside0.mk (Kd.R_below (by (with_reducible repeat (first | apply Kd.R_alloc | apply Kd.R_drewN | apply Kd.R_drew)); exact HO820.out) hb)
        have n4_ := Aside0.mk (Kd.R_lower (Kd.R_new' (Kd.R_new' ho0 (Kd.R_lt (by (with_reducible repeat (first | apply Kd.R_alloc | apply Kd.R_drewN | apply Kd.R_drew)); exact HO805.out))) (Kd.R_lt (by (with_reducible repeat (first | apply Kd.R_alloc | apply Kd.R_drewN | apply Kd.R_drew)); exact HO816.out))) (below_size (by repeat (first | (with_reducible first | exact HB.out | apply below_alloc | apply pw_below_drewN | apply below_drew1 | refine below_set ?_ GE797.out | refine below_set ?_ GE817.out) | exact HB.out))))
        have n5_ := Aside0.mk (blk_below (g := gb797) (o := .cells #[.int .i64 a0_0, .int .i64 a0_1, .int .i64 a0_2, .slice A0_3 l0_3.length c0_3] 63 (0, 0)) (by (with_reducible repeat (first | refine blk_drewN ?_ _ | refine blk_drew ?_ | refine blk_alloc ?_ _)); exact BK797.out) hb)
        have n6_ := Aside0.mk (blk_below (g := gb817) (o := .cells #[.int .i64 t811, .int .i64 t812, .int .i64 t813, .slice Ao41 t814.length co41] 66 (0, 0)) (by (with_reducible repeat (first | refine blk_drewN ?_ _ | refine blk_drew ?_ | refine blk_alloc ?_ _)); exact BK817.out) hb)
        have n7_ := Aside0.mk (below_step (by repeat (first | (with_reducible first | exact HB.out | apply below_alloc | apply pw_below_drewN | apply below_drew1 | refine below_set ?_ GE797.out | refine below_set ?_ GE817.out) | exact HB.out)) hb)
        clear HO805
        clear HO808
        clear HO816
        clear HO820
        clear BK797
        clear BK817
        clear HB
        have HO805 := n0_
        have HO808 := n1_
        have HO816 := n2_
        have HO820 := n3_
        have HO828 := n4_
        have BK797 := n5_
        have BK817 := n6_
        have HB := n7_
        clear n0_ n1_ n2_ n3_ n4_ n5_ n6_ n7_
        (try clear hb)
        (try clear hb2)
        (try clear hk)
        (try clear hi)
        (try clear ho0)
        obtain ⟨Ao48, co48, eo48⟩ := Kd.R_slice HO828.out
        (first | subst eo48 | (injection eo48 with f1_ f2_ f3_; have f4_ := f1_.symm; have f5_ := f3_.symm; clear f1_ f2_ f3_; subst f4_; subst f5_))
        refine hK.out _ _ ⟨(blk_cell BK817.out 0).trans rfl, (blk_cell BK817.out 1).trans rfl, (blk_cell BK817.out 2).trans rfl, (blk_cell BK817.out 3).trans rfl, (blk_cell BK797.out 0).trans rfl, (blk_cell BK797.out 1).trans rfl, (blk_cell BK797.out 2).trans rfl, (blk_cell BK797.out 3).trans rfl⟩ (fun hHeld => ?_)
        clear hK K
        refine norm_ (a' := ?_) ?_ ?_
        rotate_left
        ·show Act.put _ (some 50) _ = _
         simp only [Act.put, List.setIfInBounds_toArray, List.set_cons_zero, List.set_cons_succ, i64_w]
         rfl
        refine one_ (i := 3) (N := some 51) #[true, true, true, true, false] rfl rfl (by kernel_rfl) (by decide) (fun K hK => ?_)
        refine goes_ Try.func48 (by kernel_rfl) rfl #[.agg #[.int .i64 t811, .int .i64 t812, .int .i64 t813, .slice Ao41 t814.length co41], .agg #[.int .i64 t823, .int .i64 t824, .int .i64 t825, .slice Ao48 t826.length co48]] (by rfl) rfl rfl (by (try simp only [List.map_toArray, List.map_cons, List.map_nil]); first | done | rfl | (simp only [List.length_drop, List.length_take]; rfl)) ?_
        with_reducible refine (laws_eqOrdered.calls k t811 t812 t813 _ _ t814 t823 t824 t825 _ _ t826 true _ ?side1 ?side2 ?side3 ?side4 A22.out).mono ?_
        (case side1 => repeat (first | exact (Kd.R_reads' HO816.out).2.2 | (with_reducible refine Kd.C_alloc ?_ _) | (with_reducible refine Kd.C_drewN ?_ _) | (with_reducible refine Kd.C_drew ?_)))
        (case side2 => exact (Kd.R_reads' HO816.out).2.1)
        (case side3 => repeat (first | exact (Kd.R_reads' HO828.out).2.2 | (with_reducible refine Kd.C_alloc ?_ _) | (with_reducible refine Kd.C_drewN ?_ _) | (with_reducible refine Kd.C_drew ?_)))
        (case side4 => exact (Kd.R_reads' HO828.out).2.1)
        rintro e w49 ⟨rfl, hb⟩
        refine ⟨_, rfl, ?_⟩
        have n0_ := Aside0.mk (Kd.R_below (by (with_reducible repeat (first | apply Kd.R_alloc | apply Kd.R_drewN | apply Kd.R_drew)); exact HO805.out) hb)
        have n1_ := Aside0.mk (Kd.R_below (by (with_reducible repeat (first | apply Kd.R_alloc | apply Kd.R_drewN | apply Kd.R_drew)); exact HO808.out) hb)
        have n2_ := Aside0.mk (Kd.R_below (by (with_reducible repeat (first | apply Kd.R_alloc | apply Kd.R_drewN | apply Kd.R_drew)); exact HO816.out) hb)
        have n3_ := Aside0.mk (Kd.R_below (by (with_reducible repeat (first | apply Kd.R_alloc | apply Kd.R_drewN | apply Kd.R_drew)); exact HO820.out) hb)
        have n4_ := Aside0.mk (Kd.R_below (by (with_reducible repeat (first | apply Kd.R_alloc | apply Kd.R_drewN | apply Kd.R_drew)); exact HO828.out) hb)
        have n5_ := Aside0.mk (blk_below (g := gb797) (o := .cells #[.int .i64 a0_0, .int .i64 a0_1, .int .i64 a0_2, .slice A0_3 l0_3.length c0_3] 63 (0, 0)) (by (with_reducible repeat (first | refine blk_drewN ?_ _ | refine blk_drew ?_ | refine blk_alloc ?_ _)); exact BK797.out) hb)
        have n6_ := Aside0.mk (blk_below (g := gb817) (o := .cells #[.int .i64 t811, .int .i64 t812, .int .i64 t813, .slice Ao41 t814.length co41] 66 (0, 0)) (by (with_reducible repeat (first | refine blk_drewN ?_ _ | refine blk_drew ?_ | refine blk_alloc ?_ _)); exact BK817.out) hb)
        have n7_ := Aside0.mk (below_step (by repeat (first | (with_reducible first | exact HB.out | apply below_alloc | apply pw_below_drewN | apply below_drew1 | refine below_set ?_ GE797.out | refine below_set ?_ GE817.out) | exact HB.out)) hb)
        clear HO805
        clear HO808
        clear HO816
        clear HO820
        clear HO828
        clear BK797
        clear BK817
        clear HB
        have HO805 := n0_
        have HO808 := n1_
        have HO816 := n2_
        have HO820 := n3_
        have HO828 := n4_
        have BK797 := n5_
        have BK817 := n6_
        have HB := n7_
        clear n0_ n1_ n2_ n3_ n4_ n5_ n6_ n7_
        (try clear hb)
        (try clear hb2)
        (try clear hk)
        (try clear hi)
        refine hK.out _ _ ⟨(blk_cell BK817.out 0).trans rfl, (blk_cell BK817.out 1).trans rfl, (blk_cell BK817.out 2).trans rfl, (blk_cell BK817.out 3).trans rfl, (blk_cell BK797.out 0).trans rfl, (blk_cell BK797.out 1).trans rfl, (blk_cell BK797.out 2).trans rfl, (blk_cell BK797.out 3).trans rfl⟩ (fun hHeld => ?_)
        clear hK K
        refine norm_ (a' := ?_) ?_ ?_
        rotate_left
        ·show Act.put _ (some 51) _ = _
         simp only [Act.put, List.setIfInBounds_toArray, List.set_cons_zero, List.set_cons_succ, i64_w]
         rfl
        refine pure_ (i := 4) (N := some 52) (v := ?_) (a' := ?_) #[true, true, true, true, true] rfl rfl (by kernel_rfl) (fun _ _ _ h => h) (Or.inl ⟨by rfl, ?_⟩) ?_ ?_
        rotate_left
        ·intro w'
         go_simp
         with_reducible rfl
        rotate_left
        ·simp only [Act.put, List.setIfInBounds_toArray, List.set_cons_zero, List.set_cons_succ, i64_w]
         rfl
        refine done_ (by kernel_rfl) ?_
        try go_wp2_with (first | ((with_reducible refine gate_callee (f := 31) rfl ?_); refine goesL_ (some 55) rfl rfl Try.func31 (by kernel_rfl) rfl #[.slice A1 l1.length c1] rfl (by (try simp only [List.map_toArray, List.map_cons, List.map_nil]); first | done | rfl | (simp only [List.length_drop, List.length_take]; rfl)) ?_; (with_reducible refine (laws_toStringS.calls k _ _ l1 t830 _ ?side1 ?side2 A24.out).mono ?_); (case side1 => repeat (first | exact (Kd.C_below HR1.out HB.out) | (with_reducible refine Kd.C_alloc ?_ _) | (with_reducible refine Kd.C_drewN ?_ _) | (with_reducible refine Kd.C_drew ?_))); (case side2 => exact HC1.out); rintro e w50 ⟨v831, rfl, ho0, hb⟩; refine ⟨_, rfl, ?_⟩; have n0_ := Aside0.mk (Kd.R_below (by (with_reducible repeat (first | apply Kd.R_alloc | apply Kd.R_drewN | apply Kd.R_drew)); exact HO805.out) hb); have n1_ := Aside0.mk (Kd.R_elder' (by (with_reducible repeat (first | apply Kd.R_alloc | apply Kd.R_drewN | apply Kd.R_drew)); exact HO808.out) (Kd.R_base ho0) hb); have n2_ := Aside0.mk (Kd.R_below (by (with_reducible repeat (first | apply Kd.R_alloc | apply Kd.R_drewN | apply Kd.R_drew)); exact HO816.out) hb); have n3_ := Aside0.mk (Kd.R_elder' (by (with_reducible repeat (first | apply Kd.R_alloc | apply Kd.R_drewN | apply Kd.R_drew)); exact HO820.out) (Kd.R_base ho0) hb); have n4_ := Aside0.mk (Kd.R_below (by (with_reducible repeat (first | apply Kd.R_alloc | apply Kd.R_drewN | apply Kd.R_drew)); exact HO828.out) hb); have n5_ := Aside0.mk (Kd.R_lower (Kd.R_new' (Kd.R_new' ho0 (Kd.R_lt (by (with_reducible repeat (first | apply Kd.R_alloc | apply Kd.R_drewN | apply Kd.R_drew)); exact HO808.out))) (Kd.R_lt (by (with_reducible repeat (first | apply Kd.R_alloc | apply Kd.R_drewN | apply Kd.R_drew)); exact HO820.out))) (below_size (by repeat (first | (with_reducible first | exact HB.out | apply below_alloc | apply pw_below_drewN | apply below_drew1 | refine below_set ?_ GE797.out | refine below_set ?_ GE817.out) | exact HB.out)))); have n6_ := Aside0.mk (blk_below (g := gb797) (o := .cells #[.int .i64 a0_0, .int .i64 a0_1, .int .i64 a0_2, .slice A0_3 l0_3.length c0_3] 63 (0, 0)) (by (with_reducible repeat (first | refine blk_drewN ?_ _ | refine blk_drew ?_ | refine blk_alloc ?_ _)); exact BK797.out) hb); have n7_ := Aside0.mk (blk_below (g := gb817) (o := .cells #[.int .i64 t811, .int .i64 t812, .int .i64 t813, .slice Ao41 t814.length co41] 66 (0, 0)) (by (with_reducible repeat (first | refine blk_drewN ?_ _ | refine blk_drew ?_ | refine blk_alloc ?_ _)); exact BK817.out) hb); have n8_ := Aside0.mk (below_step (by repeat (first | (with_reducible first | exact HB.out | apply below_alloc | apply pw_below_drewN | apply below_drew1 | refine below_set ?_ GE797.out | refine below_set ?_ GE817.out) | exact HB.out)) hb); clear HO805; clear HO808; clear HO816; clear HO820; clear HO828; clear BK797; clear BK817; clear HB; have HO805 := n0_; have HO808 := n1_; have HO816 := n2_; have HO820 := n3_; have HO828 := n4_; have HO832 := n5_; have BK797 := n6_; have BK817 := n7_; have HB := n8_; clear n0_ n1_ n2_ n3_ n4_ n5_ n6_ n7_ n8_; (try clear hb); (try clear hb2); (try clear hk); (try clear hi); (try clear ho0); obtain ⟨Ao51, co51, eo51⟩ := Kd.R_slice HO832.out; subst eo51) | ((with_reducible refine gate_callee (f := 33) rfl ?_); refine goesL_ (some 56) rfl rfl Try.func33 (by kernel_rfl) rfl #[.slice Ao44 t818.length co44, .slice Ao51 t830.length co51] rfl (by (try simp only [List.map_toArray, List.map_cons, List.map_nil]); first | done | rfl | (simp only [List.length_drop, List.length_take]; rfl)) ?_; (with_reducible refine (laws_eqStringS.calls k _ _ t818 _ _ t830 true _ ?side1 ?side2 ?side3 ?side4 A25.out).mono ?_); (case side1 => repeat (first | exact (Kd.R_reads' HO820.out).2.2 | (with_reducible refine Kd.C_alloc ?_ _) | (with_reducible refine Kd.C_drewN ?_ _) | (with_reducible refine Kd.C_drew ?_))); (case side2 => exact (Kd.R_reads' HO820.out).2.1); (case side3 => repeat (first | exact (Kd.R_reads' HO832.out).2.2 | (with_reducible refine Kd.C_alloc ?_ _) | (with_reducible refine Kd.C_drewN ?_ _) | (with_reducible refine Kd.C_drew ?_))); (case side4 => exact (Kd.R_reads' HO832.out).2.1); rintro e w' ⟨rfl, ⟨nd, rfl⟩⟩; refine ⟨_, rfl, ?_⟩))
        go_ret
        exact ⟨by first | rfl | (simp [errW_none, errW_some] <;> rfl) | (simp [*, errW_none, errW_some] <;> rfl), by repeat (first | (with_reducible first | exact HB.out | apply below_alloc | apply pw_below_drewN | apply below_drew1 | refine below_set ?_ GE797.out | refine below_set ?_ GE817.out) | exact HB.out)⟩
       ·replace c26 := Bool.eq_false_iff.mpr c26
        subst c26
        have H1 : (none) = some r := by rw [if_neg (show ¬ (false = true) by decide)] at H; exact H
        clear H
        have H := H1
        clear H1
        exact absurd H (by simp)
      ·replace c23 := Bool.eq_false_iff.mpr c23
       subst c23
       have H1 : (none) = some r := by rw [if_neg (show ¬ (false = true) by decide)] at H; exact H
       clear H
       have H := H1
       clear H1
       exact absurd H (by simp)

/-- What is to be shown of laws_FnExactIsOrderedFor: plain. -/
def laws_FnExactIsOrderedFor.Pure : Prop := ∀ (a0_0 : Int) (a0_1 : Int) (a0_2 : Int) (l0_3 : List Int) (l1 : List ByteArray), (wfI .i64) a0_0 → (wfI .i64) a0_1 → (wfI .i64) a0_2 → (wfL (wfI .i64)) l0_3 → (wfL wfS) l1 → ∃ k, laws_FnExactIsOrderedFor.f k a0_0 a0_1 a0_2 l0_3 l1 = some true
theorem laws_FnExactIsOrderedFor.walk (P : laws_FnExactIsOrderedFor.Pure) (a0_0 : Int) (a0_1 : Int) (a0_2 : Int) (A0_3 : Option Addr) (c0_3 : Nat) (l0_3 : List Int) (A1 : Option Addr) (c1 : Nat) (l1 : List ByteArray) (w : World) (hr0_3 : Kd.C (Kd.int .i64) w A0_3 l0_3.length l0_3) (hc0_3 : l0_3.length ≤ c0_3) (hr1 : Kd.C Kd.string w A1 l1.length l1) (hc1 : l1.length ≤ c1) (hw0_0 : (wfI .i64) a0_0) (hw0_1 : (wfI .i64) a0_1) (hw0_2 : (wfI .i64) a0_2) (hw0_3 : (wfL (wfI .i64)) l0_3) (hw1 : (wfL wfS) l1) :
    Calls Try.prog 12 #[.agg #[.int .i64 a0_0, .int .i64 a0_1, .int .i64 a0_2, .slice A0_3 l0_3.length c0_3], .slice A1 l1.length c1] w fun e w' => e = .returned (.bool true) ∧ Below w.heap.size w w' := by
  obtain ⟨k, h⟩ := P a0_0 a0_1 a0_2 l0_3 l1 hw0_0 hw0_1 hw0_2 hw0_3 hw1
  refine (laws_FnExactIsOrderedFor.calls k a0_0 a0_1 a0_2 A0_3 c0_3 l0_3 A1 c1 l1 true w hr0_3 hc0_3 hr1 hc1 h).mono ?_
  rintro e w' ⟨rfl, hd⟩
  exact ⟨rfl, hd⟩
end Go.Proofs.Ytioncjcmfbndmaa.X
