/- Written by a program of this session: what functions of the given program compute, and that their calls do so. -/
import Derived.Test.YtioncjcmfbndmaaXx0
import Derived.Test.YtioncjcmfbndmaaXg210a
import Derived.Test.YtioncjcmfbndmaaXg2b9a
import Derived.Test.YtioncjcmfbndmaaXg2fba
import Derived.Test.YtioncjcmfbndmaaXg52a
namespace Go.Proofs.Ytioncjcmfbndmaa.X
open Go.RowKit Go.Proofs.YtioncjcmfbndmaaW.PrintWords Go.Proofs.YtioncjcmfbndmaaW.PrintLast Go.Proofs.YtioncjcmfbndmaaW.PrintMore
attribute [local go_sem] max2_int min2_int max_two min_two max_three min_three max_four min_four   -- for this text's walks alone
set_option linter.unusedVariables false
set_option linter.unusedSimpArgs false
/-! ### spec_biPlaces: function 97 -/
def spec_biPlaces.l0 : Nat → Int → Int → Int → List Int → List ByteArray → Int → Int → Option (List Int)
  | 0, _, _, _, _, _, _, _ => none
  | k + 1, x0, x1, x3, x9, x12, x13, x14 => if x14 < x13 then (if 0 ≤ x14 then (if x14 < (x12.length : Int) then ((spec_biPlace.f k x0 x1 (rdOf ByteArray.empty x12 x14) x3).bind fun t301 => (if x9.length < 17592186044416 then (spec_biPlaces.l0 k x0 x1 x3 (x9 ++ [t301]) x12 x13 (wrap64 (x14 + 1))) else (none))) else (none)) else (none)) else (some x9)
def spec_biPlaces.f (k : Nat) (a0 : Int) (a1 : Int) (l2 : List ByteArray) (a3 : Int) : Option (List Int) := spec_biPlaces.l0 k a0 a1 a3 ([] : List Int) l2 (l2.length : Int) 0
theorem spec_biPlaces.mono_l : ∀ k, (∀ y0 y1 y2 y3 y4 y5 y6, LeO (spec_biPlaces.l0 k y0 y1 y2 y3 y4 y5 y6) (spec_biPlaces.l0 (k + 1) y0 y1 y2 y3 y4 y5 y6))
  | 0 => fun _ _ _ _ _ _ _ r h => by simp [spec_biPlaces.l0] at h
  | k + 1 => by
    have ih0 := spec_biPlaces.mono_l k
    · intro y0 y1 y2 y3 y4 y5 y6
      unfold spec_biPlaces.l0
      repeat' first
      | (with_reducible exact ih0 _ _ _ _ _ _ _)
      | (with_reducible exact spec_biPlace.mono _ _ _ _ _)
      | (with_reducible exact LeO.refl _)
      | (with_reducible exact LeO.none _)
      | (with_reducible refine LeO.ite ?_ ?_)
      | (with_reducible refine LeO.bind ?_ (fun _ => ?_))
      | exact ih0 _ _ _ _ _ _ _
      | exact spec_biPlace.mono _ _ _ _ _
      | exact LeO.none _
      | refine LeO.ite ?_ ?_
      | refine LeO.bind ?_ (fun _ => ?_)
theorem spec_biPlaces.mono : ∀ a0 a1 a2 a3 k, LeO (spec_biPlaces.f k a0 a1 a2 a3) (spec_biPlaces.f (k + 1) a0 a1 a2 a3) := by
  intro a0 a1 a2 a3 k
  have ih0 := spec_biPlaces.mono_l k
  unfold spec_biPlaces.f
  repeat' first
      | (with_reducible exact ih0 _ _ _ _ _ _ _)
      | (with_reducible exact spec_biPlace.mono _ _ _ _ _)
      | (with_reducible exact LeO.refl _)
      | (with_reducible exact LeO.none _)
      | (with_reducible refine LeO.ite ?_ ?_)
      | (with_reducible refine LeO.bind ?_ (fun _ => ?_))
      | exact ih0 _ _ _ _ _ _ _
      | exact spec_biPlace.mono _ _ _ _ _
      | exact LeO.none _
      | refine LeO.ite ?_ ?_
      | refine LeO.bind ?_ (fun _ => ?_)
noncomputable def spec_biPlaces.L0 (y0 : Int) (y1 : Int) (y2 : Int) (y3 : List Int) (y4 : List ByteArray) (y5 : Int) (y6 : Int) : Option (List Int) := lim fun k => spec_biPlaces.l0 k y0 y1 y2 y3 y4 y5 y6
theorem spec_biPlaces.L0_sup (y0 : Int) (y1 : Int) (y2 : Int) (y3 : List Int) (y4 : List ByteArray) (y5 : Int) (y6 : Int) : Sup (fun k => spec_biPlaces.l0 k y0 y1 y2 y3 y4 y5 y6) (spec_biPlaces.L0 y0 y1 y2 y3 y4 y5 y6) := Sup.of_mono fun k => spec_biPlaces.mono_l k y0 y1 y2 y3 y4 y5 y6
noncomputable def spec_biPlaces.F (a0 : Int) (a1 : Int) (l2 : List ByteArray) (a3 : Int) : Option (List Int) := lim fun k => spec_biPlaces.f k a0 a1 l2 a3
theorem spec_biPlaces.F_sup (a0 : Int) (a1 : Int) (l2 : List ByteArray) (a3 : Int) : Sup (fun k => spec_biPlaces.f k a0 a1 l2 a3) (spec_biPlaces.F a0 a1 l2 a3) := Sup.of_mono fun k => spec_biPlaces.mono a0 a1 l2 a3 k
theorem spec_biPlaces.L0_eq (x0 : Int) (x1 : Int) (x3 : Int) (x9 : List Int) (x12 : List ByteArray) (x13 : Int) (x14 : Int) : spec_biPlaces.L0 x0 x1 x3 x9 x12 x13 x14 = if x14 < x13 then (if 0 ≤ x14 then (if x14 < (x12.length : Int) then ((spec_biPlace.F x0 x1 (rdOf ByteArray.empty x12 x14) x3).bind fun t301 => (if x9.length < 17592186044416 then (spec_biPlaces.L0 x0 x1 x3 (x9 ++ [t301]) x12 x13 (wrap64 (x14 + 1))) else (none))) else (none)) else (none)) else (some x9) := by
  refine Sup.unique (spec_biPlaces.L0_sup x0 x1 x3 x9 x12 x13 x14) (Sup.shift (fun k => spec_biPlaces.mono_l k x0 x1 x3 x9 x12 x13 x14) (Sup.congr (g' := fun k => if x14 < x13 then (if 0 ≤ x14 then (if x14 < (x12.length : Int) then ((spec_biPlace.f k x0 x1 (rdOf ByteArray.empty x12 x14) x3).bind fun t301 => (if x9.length < 17592186044416 then (spec_biPlaces.l0 k x0 x1 x3 (x9 ++ [t301]) x12 x13 (wrap64 (x14 + 1))) else (none))) else (none)) else (none)) else (some x9)) (fun k => by first | rfl | simp only [spec_biPlaces.l0]) ?_))
  repeat' first
    | (with_reducible exact spec_biPlaces.L0_sup _ _ _ _ _ _ _)
    | (with_reducible exact spec_biPlace.F_sup _ _ _ _)
    | (with_reducible refine Sup.ite ?_ ?_)
    | (with_reducible refine Sup.bind ?_ (fun _ => ?_))
    | (with_reducible exact Sup.const _)
    | exact spec_biPlaces.L0_sup _ _ _ _ _ _ _
    | exact spec_biPlace.F_sup _ _ _ _
    | exact Sup.const _
theorem spec_biPlaces.F_eq (a0 : Int) (a1 : Int) (l2 : List ByteArray) (a3 : Int) : spec_biPlaces.F a0 a1 l2 a3 = spec_biPlaces.L0 a0 a1 a3 ([] : List Int) l2 (l2.length : Int) 0 := by
  refine Sup.unique (spec_biPlaces.F_sup a0 a1 l2 a3) (Sup.congr (g' := fun k => spec_biPlaces.l0 k a0 a1 a3 ([] : List Int) l2 (l2.length : Int) 0) (fun k => by first | rfl | simp only [spec_biPlaces.f]) ?_)
  repeat' first
    | (with_reducible exact spec_biPlaces.L0_sup _ _ _ _ _ _ _)
    | (with_reducible exact spec_biPlace.F_sup _ _ _ _)
    | (with_reducible refine Sup.ite ?_ ?_)
    | (with_reducible refine Sup.bind ?_ (fun _ => ?_))
    | (with_reducible exact Sup.const _)
    | exact spec_biPlaces.L0_sup _ _ _ _ _ _ _
    | exact spec_biPlace.F_sup _ _ _ _
    | exact Sup.const _
set_option maxHeartbeats 8000000 in
set_option maxRecDepth 100000 in
theorem spec_biPlaces.calls (k : Nat) (a0 : Int) (a1 : Int) (A2 : Option Addr) (c2 : Nat) (l2 : List ByteArray) (a3 : Int) (r : List Int) (w : World) (hr2 : Kd.C Kd.string w A2 l2.length l2) (hc2 : l2.length ≤ c2) (h : spec_biPlaces.f k a0 a1 l2 a3 = some r) :
    Calls Try.prog 97 #[.int .i64 a0, .int .i64 a1, .slice A2 l2.length c2, .int .i64 a3] w fun e w' => ∃ v0_ : Value, e = .returned (v0_) ∧ Kd.R (Kd.int .i64) 3 w' w.heap.size (fun _ => True) v0_ r ∧ Below w.heap.size w w' := by
  have HR2 := Aside0.mk hr2
  have HC2 := Aside0.mk hc2
  clear hr2 hc2
  have HB := Aside0.mk (Below.refl w.heap.size w)
  have H : (spec_biPlaces.l0 k a0 a1 a3 ([] : List Int) l2 (l2.length : Int) 0) = some r := h
  clear h
  have H' := Aside0.mk H
  clear H
  go_enter Try.func97, Try.ntmps97
  go_wp2
  go_loopg [9, 14] k (fun kq v9 v14 w' => ∃ (x9_1 : List Int) (x14_1 : Int), v14 = .int .i64 x14_1 ∧ Aside0 (spec_biPlaces.l0 kq a0 a1 a3 x9_1 l2 (l2.length : Int) x14_1 = some r) ∧ Aside0 (kq ≤ k) ∧ Aside0 (Kd.R (Kd.int .i64) 3 w' w.heap.size (fun _ => True) v9 x9_1) ∧ Aside0 (Below w.heap.size w w'))
  case atStart => exact ⟨(([] : List Int)), (0), (by first | rfl | (simp; done) | (simp [*]; done)), H', ⟨Nat.le_refl _⟩, ⟨by first | exact Kd.R_nil _ _ _ _ _ | exact Kd.N_nil _ _ _ _ _ | exact Kd.V_nil _ _ _ _ _ | exact Kd.Q_nil _ _ _ _ _ | exact Kd.S_nil _ _ _ _ _⟩, ⟨by repeat (first | (with_reducible first | exact HB.out | apply below_alloc | apply pw_below_drewN | apply below_drew1) | exact HB.out)⟩⟩
  case round =>
   clear H'
   try clear c2
   try clear p2
   obtain ⟨x9_1, x14_1, rfl, HA, HK1, HO_9, HB⟩ := hrel
   cases gk with
   | zero => exact absurd HA.out (by simp [spec_biPlaces.l0])
   | succ k1 =>
    have H := HA.out
    clear HA
    simp only [spec_biPlaces.l0] at H
    by_cases c5 : x14_1 < (l2.length : Int)
    ·rw [if_pos c5] at H
     have c5b0 : decide (x14_1 < (l2.length : Int)) = true := decide_eq_true c5
     clear c5
     by_cases c6 : 0 ≤ x14_1
     ·rw [if_pos c6] at H
      have c6b0 : decide (0 ≤ x14_1) = true := decide_eq_true c6
      clear c6
      by_cases c7 : x14_1 < (l2.length : Int)
      ·rw [if_pos c7] at H
       have c7b0 : decide (x14_1 < (l2.length : Int)) = true := decide_eq_true c7
       clear c7
       replace H := Option.bind_eq_some_iff.mp H
       obtain ⟨t301, A80, H⟩ := H
       replace H : (if x9_1.length < 17592186044416 then (spec_biPlaces.l0 k1 a0 a1 a3 (x9_1 ++ [t301]) l2 (l2.length : Int) (wrap64 (x14_1 + 1))) else (none)) = some r := H
       have A8 := Aside0.mk A80
       clear A80
       by_cases c9 : x9_1.length < 17592186044416
       ·rw [if_pos c9] at H
        have LMc9 := Aside0.mk c9
        clear c9
        obtain ⟨y302, hy302⟩ : ∃ y_ : List Int, y_ = (x9_1 ++ [t301]) := ⟨_, rfl⟩
        replace H : (spec_biPlaces.l0 k1 a0 a1 a3 y302 l2 (l2.length : Int) (wrap64 (x14_1 + 1))) = some r := by first | (rw [hy302]; with_reducible exact H) | (have H2_ := (Option.bind_some _ _).symm.trans H; rw [hy302]; with_reducible exact H2_) | (have H2_ := (Option.bind_some _ _).symm.trans H; with_reducible exact H2_) | with_reducible exact H | (rw [hy302]; exact H) | exact H
        have Ny302 := Aside0.mk hy302
        clear hy302
        have H' := Aside0.mk H
        clear H
        have p300 : 0 ≤ (x14_1 : Int) := of_decide_eq_true (by first | (with_reducible assumption) | assumption)
        have q300 : x14_1 < (l2.length : Int) := of_decide_eq_true (by first | (with_reducible assumption) | assumption)
        obtain ⟨ad300, e300, hx300_0⟩ := Kd.at_string HR2.out x14_1 p300 q300
        cases e300
        replace hx300_0 := (HB.out.cell (World.block_lt_of_cell? w _ hx300_0)).trans hx300_0
        replace p300 := eq_true p300
        replace q300 := eq_true q300
        go_wp2_with (first | ((with_reducible refine gate_callee (f := 120) rfl ?_); refine goesL_ (some 23) rfl rfl Try.func120 (by kernel_rfl) rfl #[.int .i64 a0, .int .i64 a1, .string (rdOf ByteArray.empty l2 x14_1), .int .i64 a3] rfl (by (try simp only [List.map_toArray, List.map_cons, List.map_nil]); first | done | rfl | (simp only [List.length_drop, List.length_take]; rfl)) ?_; (with_reducible refine (spec_biPlace.calls k1 a0 a1 (rdOf ByteArray.empty l2 x14_1) a3 t301 _ A8.out).mono ?_); rintro e w' ⟨rfl, ⟨nd, rfl⟩⟩; refine ⟨_, rfl, ?_⟩) | ((with_reducible refine gate_builtin (b := .append) (xs := #[.tmp 18, .tmp 24]) rfl ?_); at_builtin; refine Kd.R_append (Kd.int .i64) (w0 := w) w.heap.size rfl (.tmp 18) (.tmp 24) 22 3 (.int .i64 0) 8 rfl Try.underlying22 info3 rfl (by decide) (by omega) u9 x9_1 t301 [.int .i64 t301] (fun _ => True) (fun _ => False) rfl rfl ?aP (fun _ hk => hk.elim) ?aF ?aO ?aB ?aS ?aL ?_; (case aP => exact rfl); (case aB => exact (by repeat (first | (with_reducible first | exact HB.out | apply below_alloc | apply pw_below_drewN | apply below_drew1) | exact HB.out))); (case aF => exact (fun _ _ => trivial)); (case aO => exact (by (with_reducible repeat (first | apply Kd.R_alloc | apply Kd.R_drewN | apply Kd.R_drew)); exact HO_9.out)); (case aS => exact (below_size (by repeat (first | (with_reducible first | exact HB.out | apply below_alloc | apply pw_below_drewN | apply below_drew1) | exact HB.out)))); (case aL => have := LMc9.out; omega); intro v303 w10 ho hb hg hat; rw [← Ny302.out] at ho; have n0_ := Aside0.mk (hb); have n1_ := Aside0.mk (ho); clear HB; clear HO_9; have HB := n0_; have HO304 := n1_; clear n0_ n1_; clear ho hb hg hat))
        go_roundg k1
        case measure => have := HK1.out; omega
        case rel => exact ⟨(y302), (wrap64 (x14_1 + 1)), (by first | rfl | (simp; done) | (simp [*]; done)), H', ⟨by have := HK1.out; omega⟩, ⟨by (with_reducible repeat (first | apply Kd.R_alloc | apply Kd.R_drewN | apply Kd.R_drew)); exact HO304.out⟩, ⟨by repeat (first | (with_reducible first | exact HB.out | apply below_alloc | apply pw_below_drewN | apply below_drew1) | exact HB.out)⟩⟩
       ·rw [if_neg c9] at H
        exact absurd H (by simp)
      ·rw [if_neg c7] at H
       exact absurd H (by simp)
     ·rw [if_neg c6] at H
      exact absurd H (by simp)
    ·rw [if_neg c5] at H
     have c5b0 : decide (x14_1 < (l2.length : Int)) = false := decide_eq_false c5
     clear c5
     obtain rfl := Option.some.inj H
     go_wp2
     go_ret
     exact ⟨_, by first | rfl | (simp [errW_none, errW_some] <;> rfl) | (simp [*, errW_none, errW_some] <;> rfl), by (with_reducible repeat (first | apply Kd.R_alloc | apply Kd.R_drewN | apply Kd.R_drew)); exact HO_9.out, by repeat (first | (with_reducible first | exact HB.out | apply below_alloc | apply pw_below_drewN | apply below_drew1) | exact HB.out)⟩
/-! ### spec_LoadsOf: function 38 -/
mutual
def spec_LoadsOf.j0 : Nat → Int → Int → List ByteArray → Int → Bool → Option (List Int × Bool)
  | 0, _, _, _, _, _ => none
  | k + 1, x0, x1, x2, x3, x26 => if x26 = true then (some (([] : List Int), false)) else (if 0 ≤ x3 then (if (x3 : Int).toNat ≤ 35184372088832 then ((spec_biPlaces.f k x0 x1 x2 x3).bind fun t429 => (spec_LoadsOf.l0 k (List.replicate (x3 : Int).toNat 0) t429 (t429.length : Int) 0)) else (none)) else (none))
def spec_LoadsOf.l0 : Nat → List Int → List Int → Int → Int → Option (List Int × Bool)
  | 0, _, _, _, _ => none
  | k + 1, x10, x33, x34, x35 => if x35 < x34 then (if 0 ≤ x35 then (if x35 < (x33.length : Int) then (if 0 ≤ (rd x33 x35) then (if (rd x33 x35) < (x10.length : Int) then (spec_LoadsOf.l0 k (x10.set ((rd x33 x35) : Int).toNat (wrap64 ((rd x10 (rd x33 x35)) + 1))) x33 x34 (wrap64 (x35 + 1))) else (none)) else (none)) else (none)) else (none)) else (some (x10, true))
end
def spec_LoadsOf.f (k : Nat) (a0 : Int) (a1 : Int) (l2 : List ByteArray) (a3 : Int) : Option (List Int × Bool) := (spec_biSeed.f a0 a1).bind fun t423 => (if t423 = true then ((spec_biKeys.f k l2).bind fun t424 => (if t424 = true then ((spec_l1In.f a3 1 64).bind fun t425 => (spec_LoadsOf.j0 k a0 a1 l2 a3 (!t425))) else (spec_LoadsOf.j0 k a0 a1 l2 a3 true))) else (spec_LoadsOf.j0 k a0 a1 l2 a3 true))
theorem spec_LoadsOf.mono_l : ∀ k, (∀ y0 y1 y2 y3 y4, LeO (spec_LoadsOf.j0 k y0 y1 y2 y3 y4) (spec_LoadsOf.j0 (k + 1) y0 y1 y2 y3 y4)) ∧ (∀ y0 y1 y2 y3, LeO (spec_LoadsOf.l0 k y0 y1 y2 y3) (spec_LoadsOf.l0 (k + 1) y0 y1 y2 y3))
  | 0 => ⟨fun _ _ _ _ _ r h => by simp [spec_LoadsOf.j0] at h, fun _ _ _ _ r h => by simp [spec_LoadsOf.l0] at h⟩
  | k + 1 => by
    obtain ⟨ih0, ih1⟩ := spec_LoadsOf.mono_l k
    refine ⟨?_, ?_⟩
    · intro y0 y1 y2 y3 y4
      unfold spec_LoadsOf.j0
      repeat' first
      | (with_reducible exact ih0 _ _ _ _ _)
      | (with_reducible exact ih1 _ _ _ _)
      | (with_reducible exact spec_biKeys.mono _ _)
      | (with_reducible exact spec_biPlaces.mono _ _ _ _ _)
      | (with_reducible exact LeO.refl _)
      | (with_reducible exact LeO.none _)
      | (with_reducible refine LeO.ite ?_ ?_)
      | (with_reducible refine LeO.bind ?_ (fun _ => ?_))
      | exact ih0 _ _ _ _ _
      | exact ih1 _ _ _ _
      | exact spec_biKeys.mono _ _
      | exact spec_biPlaces.mono _ _ _ _ _
      | exact LeO.none _
      | refine LeO.ite ?_ ?_
      | refine LeO.bind ?_ (fun _ => ?_)
    · intro y0 y1 y2 y3
      unfold spec_LoadsOf.l0
      repeat' first
      | (with_reducible exact ih0 _ _ _ _ _)
      | (with_reducible exact ih1 _ _ _ _)
      | (with_reducible exact spec_biKeys.mono _ _)
      | (with_reducible exact spec_biPlaces.mono _ _ _ _ _)
      | (with_reducible exact LeO.refl _)
      | (with_reducible exact LeO.none _)
      | (with_reducible refine LeO.ite ?_ ?_)
      | (with_reducible refine LeO.bind ?_ (fun _ => ?_))
      | exact ih0 _ _ _ _ _
      | exact ih1 _ _ _ _
      | exact spec_biKeys.mono _ _
      | exact spec_biPlaces.mono _ _ _ _ _
      | exact LeO.none _
      | refine LeO.ite ?_ ?_
      | refine LeO.bind ?_ (fun _ => ?_)
theorem spec_LoadsOf.mono : ∀ a0 a1 a2 a3 k, LeO (spec_LoadsOf.f k a0 a1 a2 a3) (spec_LoadsOf.f (k + 1) a0 a1 a2 a3) := by
  intro a0 a1 a2 a3 k
  obtain ⟨ih0, ih1⟩ := spec_LoadsOf.mono_l k
  unfold spec_LoadsOf.f
  repeat' first
      | (with_reducible exact ih0 _ _ _ _ _)
      | (with_reducible exact ih1 _ _ _ _)
      | (with_reducible exact spec_biKeys.mono _ _)
      | (with_reducible exact spec_biPlaces.mono _ _ _ _ _)
      | (with_reducible exact LeO.refl _)
      | (with_reducible exact LeO.none _)
      | (with_reducible refine LeO.ite ?_ ?_)
      | (with_reducible refine LeO.bind ?_ (fun _ => ?_))
      | exact ih0 _ _ _ _ _
      | exact ih1 _ _ _ _
      | exact spec_biKeys.mono _ _
      | exact spec_biPlaces.mono _ _ _ _ _
      | exact LeO.none _
      | refine LeO.ite ?_ ?_
      | refine LeO.bind ?_ (fun _ => ?_)
noncomputable def spec_LoadsOf.J0 (y0 : Int) (y1 : Int) (y2 : List ByteArray) (y3 : Int) (y4 : Bool) : Option (List Int × Bool) := lim fun k => spec_LoadsOf.j0 k y0 y1 y2 y3 y4
theorem spec_LoadsOf.J0_sup (y0 : Int) (y1 : Int) (y2 : List ByteArray) (y3 : Int) (y4 : Bool) : Sup (fun k => spec_LoadsOf.j0 k y0 y1 y2 y3 y4) (spec_LoadsOf.J0 y0 y1 y2 y3 y4) := Sup.of_mono fun k => (spec_LoadsOf.mono_l k).1 y0 y1 y2 y3 y4
noncomputable def spec_LoadsOf.L0 (y0 : List Int) (y1 : List Int) (y2 : Int) (y3 : Int) : Option (List Int × Bool) := lim fun k => spec_LoadsOf.l0 k y0 y1 y2 y3
theorem spec_LoadsOf.L0_sup (y0 : List Int) (y1 : List Int) (y2 : Int) (y3 : Int) : Sup (fun k => spec_LoadsOf.l0 k y0 y1 y2 y3) (spec_LoadsOf.L0 y0 y1 y2 y3) := Sup.of_mono fun k => (spec_LoadsOf.mono_l k).2 y0 y1 y2 y3
noncomputable def spec_LoadsOf.F (a0 : Int) (a1 : Int) (l2 : List ByteArray) (a3 : Int) : Option (List Int × Bool) := lim fun k => spec_LoadsOf.f k a0 a1 l2 a3
theorem spec_LoadsOf.F_sup (a0 : Int) (a1 : Int) (l2 : List ByteArray) (a3 : Int) : Sup (fun k => spec_LoadsOf.f k a0 a1 l2 a3) (spec_LoadsOf.F a0 a1 l2 a3) := Sup.of_mono fun k => spec_LoadsOf.mono a0 a1 l2 a3 k
theorem spec_LoadsOf.J0_eq (x0 : Int) (x1 : Int) (x2 : List ByteArray) (x3 : Int) (x26 : Bool) : spec_LoadsOf.J0 x0 x1 x2 x3 x26 = if x26 = true then (some (([] : List Int), false)) else (if 0 ≤ x3 then (if (x3 : Int).toNat ≤ 35184372088832 then ((spec_biPlaces.F x0 x1 x2 x3).bind fun t429 => (spec_LoadsOf.L0 (List.replicate (x3 : Int).toNat 0) t429 (t429.length : Int) 0)) else (none)) else (none)) := by
  refine Sup.unique (spec_LoadsOf.J0_sup x0 x1 x2 x3 x26) (Sup.shift (fun k => (spec_LoadsOf.mono_l k).1 x0 x1 x2 x3 x26) (Sup.congr (g' := fun k => if x26 = true then (some (([] : List Int), false)) else (if 0 ≤ x3 then (if (x3 : Int).toNat ≤ 35184372088832 then ((spec_biPlaces.f k x0 x1 x2 x3).bind fun t429 => (spec_LoadsOf.l0 k (List.replicate (x3 : Int).toNat 0) t429 (t429.length : Int) 0)) else (none)) else (none))) (fun k => by first | rfl | simp only [spec_LoadsOf.j0]) ?_))
  repeat' first
    | (with_reducible exact spec_LoadsOf.J0_sup _ _ _ _ _)
    | (with_reducible exact spec_LoadsOf.L0_sup _ _ _ _)
    | (with_reducible exact spec_biKeys.F_sup _)
    | (with_reducible exact spec_biPlaces.F_sup _ _ _ _)
    | (with_reducible refine Sup.ite ?_ ?_)
    | (with_reducible refine Sup.bind ?_ (fun _ => ?_))
    | (with_reducible exact Sup.const _)
    | exact spec_LoadsOf.J0_sup _ _ _ _ _
    | exact spec_LoadsOf.L0_sup _ _ _ _
    | exact spec_biKeys.F_sup _
    | exact spec_biPlaces.F_sup _ _ _ _
    | exact Sup.const _
theorem spec_LoadsOf.L0_eq (x10 : List Int) (x33 : List Int) (x34 : Int) (x35 : Int) : spec_LoadsOf.L0 x10 x33 x34 x35 = if x35 < x34 then (if 0 ≤ x35 then (if x35 < (x33.length : Int) then (if 0 ≤ (rd x33 x35) then (if (rd x33 x35) < (x10.length : Int) then (spec_LoadsOf.L0 (x10.set ((rd x33 x35) : Int).toNat (wrap64 ((rd x10 (rd x33 x35)) + 1))) x33 x34 (wrap64 (x35 + 1))) else (none)) else (none)) else (none)) else (none)) else (some (x10, true)) := by
  refine Sup.unique (spec_LoadsOf.L0_sup x10 x33 x34 x35) (Sup.shift (fun k => (spec_LoadsOf.mono_l k).2 x10 x33 x34 x35) (Sup.congr (g' := fun k => if x35 < x34 then (if 0 ≤ x35 then (if x35 < (x33.length : Int) then (if 0 ≤ (rd x33 x35) then (if (rd x33 x35) < (x10.length : Int) then (spec_LoadsOf.l0 k (x10.set ((rd x33 x35) : Int).toNat (wrap64 ((rd x10 (rd x33 x35)) + 1))) x33 x34 (wrap64 (x35 + 1))) else (none)) else (none)) else (none)) else (none)) else (some (x10, true))) (fun k => by first | rfl | simp only [spec_LoadsOf.l0]) ?_))
  repeat' first
    | (with_reducible exact spec_LoadsOf.J0_sup _ _ _ _ _)
    | (with_reducible exact spec_LoadsOf.L0_sup _ _ _ _)
    | (with_reducible exact spec_biKeys.F_sup _)
    | (with_reducible exact spec_biPlaces.F_sup _ _ _ _)
    | (with_reducible refine Sup.ite ?_ ?_)
    | (with_reducible refine Sup.bind ?_ (fun _ => ?_))
    | (with_reducible exact Sup.const _)
    | exact spec_LoadsOf.J0_sup _ _ _ _ _
    | exact spec_LoadsOf.L0_sup _ _ _ _
    | exact spec_biKeys.F_sup _
    | exact spec_biPlaces.F_sup _ _ _ _
    | exact Sup.const _
theorem spec_LoadsOf.F_eq (a0 : Int) (a1 : Int) (l2 : List ByteArray) (a3 : Int) : spec_LoadsOf.F a0 a1 l2 a3 = (spec_biSeed.f a0 a1).bind fun t423 => (if t423 = true then ((spec_biKeys.F l2).bind fun t424 => (if t424 = true then ((spec_l1In.f a3 1 64).bind fun t425 => (spec_LoadsOf.J0 a0 a1 l2 a3 (!t425))) else (spec_LoadsOf.J0 a0 a1 l2 a3 true))) else (spec_LoadsOf.J0 a0 a1 l2 a3 true)) := by
  refine Sup.unique (spec_LoadsOf.F_sup a0 a1 l2 a3) (Sup.congr (g' := fun k => (spec_biSeed.f a0 a1).bind fun t423 => (if t423 = true then ((spec_biKeys.f k l2).bind fun t424 => (if t424 = true then ((spec_l1In.f a3 1 64).bind fun t425 => (spec_LoadsOf.j0 k a0 a1 l2 a3 (!t425))) else (spec_LoadsOf.j0 k a0 a1 l2 a3 true))) else (spec_LoadsOf.j0 k a0 a1 l2 a3 true))) (fun k => by first | rfl | simp only [spec_LoadsOf.f]) ?_)
  repeat' first
    | (with_reducible exact spec_LoadsOf.J0_sup _ _ _ _ _)
    | (with_reducible exact spec_LoadsOf.L0_sup _ _ _ _)
    | (with_reducible exact spec_biKeys.F_sup _)
    | (with_reducible exact spec_biPlaces.F_sup _ _ _ _)
    | (with_reducible refine Sup.ite ?_ ?_)
    | (with_reducible refine Sup.bind ?_ (fun _ => ?_))
    | (with_reducible exact Sup.const _)
    | exact spec_LoadsOf.J0_sup _ _ _ _ _
    | exact spec_LoadsOf.L0_sup _ _ _ _
    | exact spec_biKeys.F_sup _
    | exact spec_biPlaces.F_sup _ _ _ _
    | exact Sup.const _
set_option maxHeartbeats 8000000 in
set_option maxRecDepth 100000 in
theorem spec_LoadsOf.calls (k : Nat) (a0 : Int) (a1 : Int) (A2 : Option Addr) (c2 : Nat) (l2 : List ByteArray) (a3 : Int) (r1 : List Int) (r2 : Bool) (w : World) (hr2 : Kd.C Kd.string w A2 l2.length l2) (hc2 : l2.length ≤ c2) (h : spec_LoadsOf.f k a0 a1 l2 a3 = some (r1, r2)) :
    Calls Try.prog 38 #[.int .i64 a0, .int .i64 a1, .slice A2 l2.length c2, .int .i64 a3] w fun e w' => ∃ v0_ : Value, e = .returned (.tuple #[v0_, .bool r2]) ∧ Kd.R (Kd.int .i64) 3 w' w.heap.size (fun _ => True) v0_ r1 ∧ Below w.heap.size w w' := by
  have HR2 := Aside0.mk hr2
  have HC2 := Aside0.mk hc2
  clear hr2 hc2
  have HB := Aside0.mk (Below.refl w.heap.size w)
  have H : ((spec_biSeed.f a0 a1).bind fun t423 => (if t423 = true then ((spec_biKeys.f k l2).bind fun t424 => (if t424 = true then ((spec_l1In.f a3 1 64).bind fun t425 => (spec_LoadsOf.j0 k a0 a1 l2 a3 (!t425))) else (spec_LoadsOf.j0 k a0 a1 l2 a3 true))) else (spec_LoadsOf.j0 k a0 a1 l2 a3 true))) = some (r1, r2) := h
  clear h
  have HC5 := Aside0.mk H
  clear H
  go_enter Try.func38, Try.ntmps38
  go_upto_region 1 with (fail)
  go_cut [26] (fun v26 wc => ∃ (kq : Nat) (x26_4 : Bool), v26 = .bool x26_4 ∧ Aside0 (spec_LoadsOf.j0 kq a0 a1 l2 a3 x26_4 = some (r1, r2)) ∧ Aside0 (kq ≤ k) ∧ Aside0 (Below w.heap.size w wc))
  case first =>
   have H := HC5.out
   clear HC5
   replace H := Option.bind_eq_some_iff.mp H
   obtain ⟨t423, A60, H⟩ := H
   replace H : (if t423 = true then ((spec_biKeys.f k l2).bind fun t424 => (if t424 = true then ((spec_l1In.f a3 1 64).bind fun t425 => (spec_LoadsOf.j0 k a0 a1 l2 a3 (!t425))) else (spec_LoadsOf.j0 k a0 a1 l2 a3 true))) else (spec_LoadsOf.j0 k a0 a1 l2 a3 true)) = some (r1, r2) := H
   have A6 := Aside0.mk A60
   clear A60
   by_cases c7 : t423 = true
   ·subst c7
    have H1 : ((spec_biKeys.f k l2).bind fun t424 => (if t424 = true then ((spec_l1In.f a3 1 64).bind fun t425 => (spec_LoadsOf.j0 k a0 a1 l2 a3 (!t425))) else (spec_LoadsOf.j0 k a0 a1 l2 a3 true))) = some (r1, r2) := by rw [if_pos rfl] at H; exact H
    clear H
    have H := H1
    clear H1
    replace H := Option.bind_eq_some_iff.mp H
    obtain ⟨t424, A80, H⟩ := H
    replace H : (if t424 = true then ((spec_l1In.f a3 1 64).bind fun t425 => (spec_LoadsOf.j0 k a0 a1 l2 a3 (!t425))) else (spec_LoadsOf.j0 k a0 a1 l2 a3 true)) = some (r1, r2) := H
    have A8 := Aside0.mk A80
    clear A80
    by_cases c9 : t424 = true
    ·subst c9
     have H1 : ((spec_l1In.f a3 1 64).bind fun t425 => (spec_LoadsOf.j0 k a0 a1 l2 a3 (!t425))) = some (r1, r2) := by rw [if_pos rfl] at H; exact H
     clear H
     have H := H1
     clear H1
     replace H := Option.bind_eq_some_iff.mp H
     obtain ⟨t425, A100, H⟩ := H
     replace H : (spec_LoadsOf.j0 k a0 a1 l2 a3 (!t425)) = some (r1, r2) := H
     have A10 := Aside0.mk A100
     clear A100
     have H' := Aside0.mk H
     clear H
     go_wp2_with (first | ((with_reducible refine gate_callee (f := 96) rfl ?_); refine goesL_ (some 15) rfl rfl Try.func96 (by kernel_rfl) rfl #[.int .i64 a0, .int .i64 a1] rfl (by (try simp only [List.map_toArray, List.map_cons, List.map_nil]); first | done | rfl | (simp only [List.length_drop, List.length_take]; rfl)) ?_; (with_reducible refine (spec_biSeed.calls a0 a1 true _ A6.out).mono ?_); rintro e w' ⟨rfl, ⟨nd, rfl⟩⟩; refine ⟨_, rfl, ?_⟩) | (go_at_call 83; (with_reducible refine (spec_biKeys.calls k _ _ l2 true _ ?side1 ?side2 A8.out).mono ?_); (case side1 => repeat (first | exact (Kd.C_below HR2.out (by repeat (first | (with_reducible first | exact HB.out | apply below_alloc | apply pw_below_drewN | apply below_drew1) | exact HB.out))) | (with_reducible refine Kd.C_alloc ?_ _) | (with_reducible refine Kd.C_drewN ?_ _) | (with_reducible refine Kd.C_drew ?_))); (case side2 => exact HC2.out); rintro e w' ⟨rfl, ⟨nd, rfl⟩⟩) | (go_at_call 76; (with_reducible refine (spec_l1In.calls a3 1 64 t425 _ A10.out).mono ?_); rintro e w' ⟨rfl, ⟨nd, rfl⟩⟩))
     go_meet
     case rel => exact ⟨_, (!t425), (by first | rfl | (simp; done) | (simp [*]; done)), H', ⟨by first | omega | exact Nat.le_refl _⟩, ⟨by repeat (first | (with_reducible first | exact HB.out | apply below_alloc | apply pw_below_drewN | apply below_drew1) | exact HB.out)⟩⟩
    ·replace c9 := Bool.eq_false_iff.mpr c9
     subst c9
     have H1 : (spec_LoadsOf.j0 k a0 a1 l2 a3 true) = some (r1, r2) := by rw [if_neg (show ¬ (false = true) by decide)] at H; exact H
     clear H
     have H := H1
     clear H1
     have H' := Aside0.mk H
     clear H
     go_wp2_with (first | ((with_reducible refine gate_callee (f := 96) rfl ?_); refine goesL_ (some 15) rfl rfl Try.func96 (by kernel_rfl) rfl #[.int .i64 a0, .int .i64 a1] rfl (by (try simp only [List.map_toArray, List.map_cons, List.map_nil]); first | done | rfl | (simp only [List.length_drop, List.length_take]; rfl)) ?_; (with_reducible refine (spec_biSeed.calls a0 a1 true _ A6.out).mono ?_); rintro e w' ⟨rfl, ⟨nd, rfl⟩⟩; refine ⟨_, rfl, ?_⟩) | (go_at_call 83; (with_reducible refine (spec_biKeys.calls k _ _ l2 false _ ?side1 ?side2 A8.out).mono ?_); (case side1 => repeat (first | exact (Kd.C_below HR2.out (by repeat (first | (with_reducible first | exact HB.out | apply below_alloc | apply pw_below_drewN | apply below_drew1) | exact HB.out))) | (with_reducible refine Kd.C_alloc ?_ _) | (with_reducible refine Kd.C_drewN ?_ _) | (with_reducible refine Kd.C_drew ?_))); (case side2 => exact HC2.out); rintro e w' ⟨rfl, ⟨nd, rfl⟩⟩))
     go_meet
     case rel => exact ⟨_, (true), (by first | rfl | (simp; done) | (simp [*]; done)), H', ⟨by first | omega | exact Nat.le_refl _⟩, ⟨by repeat (first | (with_reducible first | exact HB.out | apply below_alloc | apply pw_below_drewN | apply below_drew1) | exact HB.out)⟩⟩
   ·replace c7 := Bool.eq_false_iff.mpr c7
    subst c7
    have H1 : (spec_LoadsOf.j0 k a0 a1 l2 a3 true) = some (r1, r2) := by rw [if_neg (show ¬ (false = true) by decide)] at H; exact H
    clear H
    have H := H1
    clear H1
    have H' := Aside0.mk H
    clear H
    go_wp2_with (first | ((with_reducible refine gate_callee (f := 96) rfl ?_); refine goesL_ (some 15) rfl rfl Try.func96 (by kernel_rfl) rfl #[.int .i64 a0, .int .i64 a1] rfl (by (try simp only [List.map_toArray, List.map_cons, List.map_nil]); first | done | rfl | (simp only [List.length_drop, List.length_take]; rfl)) ?_; (with_reducible refine (spec_biSeed.calls a0 a1 false _ A6.out).mono ?_); rintro e w' ⟨rfl, ⟨nd, rfl⟩⟩; refine ⟨_, rfl, ?_⟩))
    go_meet
    case rel => exact ⟨_, (true), (by first | rfl | (simp; done) | (simp [*]; done)), H', ⟨by first | omega | exact Nat.le_refl _⟩, ⟨by repeat (first | (with_reducible first | exact HB.out | apply below_alloc | apply pw_below_drewN | apply below_drew1) | exact HB.out)⟩⟩
  case rest =>
   clear HC5
   try clear c2
   try clear p2
   try clear c3
   try clear c7
   try clear c9
   obtain ⟨kq, x26_4, rfl, HA, HJ4, HB⟩ := hcut
   cases kq with
   | zero => exact absurd HA.out (by simp [spec_LoadsOf.j0])
   | succ kj4 =>
    have H := HA.out
    clear HA
    simp only [spec_LoadsOf.j0] at H
    by_cases c11 : x26_4 = true
    ·subst c11
     have H1 : (some (([] : List Int), false)) = some (r1, r2) := by rw [if_pos rfl] at H; exact H
     clear H
     have H := H1
     clear H1
     simp only [Option.some.injEq, Prod.mk.injEq] at H
     obtain ⟨rfl, rfl⟩ := H
     go_wp2
     go_ret2
     exact ⟨_, by first | rfl | (simp [errW_none, errW_some] <;> rfl) | (simp [*, errW_none, errW_some] <;> rfl), by first | exact Kd.R_nil _ _ _ _ _ | exact Kd.N_nil _ _ _ _ _ | exact Kd.V_nil _ _ _ _ _ | exact Kd.Q_nil _ _ _ _ _ | exact Kd.S_nil _ _ _ _ _, by repeat (first | (with_reducible first | exact HB.out | apply below_alloc | apply pw_below_drewN | apply below_drew1) | exact HB.out)⟩
    ·replace c11 := Bool.eq_false_iff.mpr c11
     subst c11
     have H1 : (if 0 ≤ a3 then (if (a3 : Int).toNat ≤ 35184372088832 then ((spec_biPlaces.f kj4 a0 a1 l2 a3).bind fun t429 => (spec_LoadsOf.l0 kj4 (List.replicate (a3 : Int).toNat 0) t429 (t429.length : Int) 0)) else (none)) else (none)) = some (r1, r2) := by rw [if_neg (show ¬ (false = true) by decide)] at H; exact H
     clear H
     have H := H1
     clear H1
     by_cases c12 : 0 ≤ a3
     ·rw [if_pos c12] at H
      have c12b0 := eq_true c12
      have c12b1 : decide (0 ≤ a3) = true := decide_eq_true c12
      clear c12
      by_cases c13 : (a3 : Int).toNat ≤ 35184372088832
      ·rw [if_pos c13] at H
       have c13b0 := eq_true c13
       have c13b1 : decide ((a3 : Int).toNat ≤ 35184372088832) = true := decide_eq_true c13
       clear c13
       obtain ⟨y426, hy426⟩ : ∃ y_ : List Int, y_ = (List.replicate (a3 : Int).toNat 0) := ⟨_, rfl⟩
       replace H : ((spec_biPlaces.f kj4 a0 a1 l2 a3).bind fun t429 => (spec_LoadsOf.l0 kj4 y426 t429 (t429.length : Int) 0)) = some (r1, r2) := by first | (rw [hy426]; with_reducible exact H) | (have H2_ := (Option.bind_some _ _).symm.trans H; rw [hy426]; with_reducible exact H2_) | (have H2_ := (Option.bind_some _ _).symm.trans H; with_reducible exact H2_) | with_reducible exact H | (rw [hy426]; exact H) | exact H
       have Ny426 := Aside0.mk hy426
       clear hy426
       replace H := Option.bind_eq_some_iff.mp H
       obtain ⟨t429, A140, H⟩ := H
       replace H : (spec_LoadsOf.l0 kj4 y426 t429 (t429.length : Int) 0) = some (r1, r2) := H
       have A14 := Aside0.mk A140
       clear A140
       have H' := Aside0.mk H
       clear H
       go_wp2_with (first | ((with_reducible refine gate_dst (N := 28) rfl ?_); refine Kd.R_make (Kd.int .i64) _ 3 rfl (N := 28) rfl 22 _ _ rfl a3 rfl rfl Try.underlying22 (.int .i64 0) 8 info3 rfl (by decide) (by omega) 0 (ok := fun _ => True) (okp := fun _ => True) rfl (fun _ hk => hk) trivial (of_decide_eq_true (by first | (with_reducible assumption) | assumption)) (Nat.le_trans (Nat.mul_le_mul_right _ (of_decide_eq_true (by first | (with_reducible assumption) | assumption) : a3.toNat ≤ 35184372088832)) (by omega)) (Below.refl _ _) (Nat.le_refl _) ?_; intro v427 w15 ho16 hb hg_ hnew_; clear hg_ hnew_; (first | rw [← Ny426.out] at ho16 | (simp only [Int.reduceToNat] at ho16; rw [← Ny426.out] at ho16)); have n0_ := Aside0.mk (Kd.R_lower ho16 (below_size (by repeat (first | (with_reducible first | exact HB.out | apply below_alloc | apply pw_below_drewN | apply below_drew1) | exact HB.out)))); have n1_ := Aside0.mk (below_step (by repeat (first | (with_reducible first | exact HB.out | apply below_alloc | apply pw_below_drewN | apply below_drew1) | exact HB.out)) hb); clear HB; have HO428 := n0_; have HB := n1_; clear n0_ n1_; clear hb ho16) | ((with_reducible refine gate_callee (f := 97) rfl ?_); refine goesL_ (some 33) rfl rfl Try.func97 (by kernel_rfl) rfl #[.int .i64 a0, .int .i64 a1, .slice A2 l2.length c2, .int .i64 a3] rfl (by (try simp only [List.map_toArray, List.map_cons, List.map_nil]); first | done | rfl | (simp only [List.length_drop, List.length_take]; rfl)) ?_; (with_reducible refine (spec_biPlaces.calls kj4 a0 a1 _ _ l2 a3 t429 _ ?side1 ?side2 A14.out).mono ?_); (case side1 => repeat (first | exact (Kd.C_below HR2.out HB.out) | (with_reducible refine Kd.C_alloc ?_ _) | (with_reducible refine Kd.C_drewN ?_ _) | (with_reducible refine Kd.C_drew ?_))); (case side2 => exact HC2.out); rintro e w17 ⟨v430, rfl, ho0, hb⟩; refine ⟨_, rfl, ?_⟩; have n0_ := Aside0.mk (Kd.R_elder' (by (with_reducible repeat (first | apply Kd.R_alloc | apply Kd.R_drewN | apply Kd.R_drew)); exact HO428.out) (Kd.R_base ho0) hb); have n1_ := Aside0.mk (Kd.R_lower (Kd.R_new' ho0 (Kd.R_lt (by (with_reducible repeat (first | apply Kd.R_alloc | apply Kd.R_drewN | apply Kd.R_drew)); exact HO428.out))) (below_size (by repeat (first | (with_reducible first | exact HB.out | apply below_alloc | apply pw_below_drewN | apply below_drew1) | exact HB.out)))); have n2_ := Aside0.mk (below_step (by repeat (first | (with_reducible first | exact HB.out | apply below_alloc | apply pw_below_drewN | apply below_drew1) | exact HB.out)) hb); clear HO428; clear HB; have HO428 := n0_; have HO431 := n1_; have HB := n2_; clear n0_ n1_ n2_; (try clear hb); (try clear hb2); (try clear hk); (try clear hi); (try clear ho0); obtain ⟨Ao18, co18, eo18⟩ := Kd.R_slice HO431.out; subst eo18))
       go_loopg [35] kj4 (fun kq v35 w' => ∃ (x10_2 : List Int) (x35_2 : Int), v35 = .int .i64 x35_2 ∧ Aside0 (spec_LoadsOf.l0 kq x10_2 t429 (t429.length : Int) x35_2 = some (r1, r2)) ∧ Aside0 (kq ≤ kj4) ∧ Aside0 (Kd.R (Kd.int .i64) 3 w' w.heap.size (fun k_ => some k_ ≠ ((.slice Ao18 t429.length co18) : Value).ownBlock) v427 x10_2) ∧ Aside0 (Kd.R (Kd.int .i64) 3 w' w.heap.size (fun k_ => some k_ ≠ (v427 : Value).ownBlock) (.slice Ao18 t429.length co18) t429) ∧ Aside0 (Below w.heap.size w w'))
       case atStart => exact ⟨(y426), (0), (by first | rfl | (simp; done) | (simp [*]; done)), H', ⟨Nat.le_refl _⟩, ⟨by (with_reducible repeat (first | apply Kd.R_alloc | apply Kd.R_drewN | apply Kd.R_drew)); exact Kd.R_mono HO428.out (fun _ hk => hk.2)⟩, ⟨by (with_reducible repeat (first | apply Kd.R_alloc | apply Kd.R_drewN | apply Kd.R_drew)); exact Kd.R_mono HO431.out (fun _ hk => hk.2)⟩, ⟨by repeat (first | (with_reducible first | exact HB.out | apply below_alloc | apply pw_below_drewN | apply below_drew1) | exact HB.out)⟩⟩
       case round =>
        clear H'
        try clear c1
        try clear c2
        try clear p2
        try clear c3
        try clear c7
        try clear c9
        try clear c11
        try clear c12
        try clear c12b0
        try clear c12b1
        try clear c13
        try clear c13b0
        try clear c13b1
        try clear p2
        obtain ⟨x10_2, x35_2, rfl, HA, HK2, HO_10, HO_33, HB⟩ := hrel
        cases gk with
        | zero => exact absurd HA.out (by simp [spec_LoadsOf.l0])
        | succ k2 =>
         have H := HA.out
         clear HA
         simp only [spec_LoadsOf.l0] at H
         by_cases c19 : x35_2 < (t429.length : Int)
         ·rw [if_pos c19] at H
          have c19b0 : decide (x35_2 < (t429.length : Int)) = true := decide_eq_true c19
          clear c19
          by_cases c20 : 0 ≤ x35_2
          ·rw [if_pos c20] at H
           have c20b0 : decide (0 ≤ x35_2) = true := decide_eq_true c20
           clear c20
           by_cases c21 : x35_2 < (t429.length : Int)
           ·rw [if_pos c21] at H
            have c21b0 : decide (x35_2 < (t429.length : Int)) = true := decide_eq_true c21
            clear c21
            by_cases c22 : 0 ≤ (rd t429 x35_2)
            ·rw [if_pos c22] at H
             have c22b0 : decide (0 ≤ (rd t429 x35_2)) = true := decide_eq_true c22
             clear c22
             by_cases c23 : (rd t429 x35_2) < (x10_2.length : Int)
             ·rw [if_pos c23] at H
              have c23b0 : decide ((rd t429 x35_2) < (x10_2.length : Int)) = true := decide_eq_true c23
              clear c23
              obtain ⟨y434, hy434⟩ : ∃ y_ : List Int, y_ = (x10_2.set ((rd t429 x35_2) : Int).toNat (wrap64 ((rd x10_2 (rd t429 x35_2)) + 1))) := ⟨_, rfl⟩
              replace H : (spec_LoadsOf.l0 k2 y434 t429 (t429.length : Int) (wrap64 (x35_2 + 1))) = some (r1, r2) := by first | (rw [hy434]; with_reducible exact H) | (have H2_ := (Option.bind_some _ _).symm.trans H; rw [hy434]; with_reducible exact H2_) | (have H2_ := (Option.bind_some _ _).symm.trans H; with_reducible exact H2_) | with_reducible exact H | (rw [hy434]; exact H) | exact H
              have Ny434 := Aside0.mk hy434
              clear hy434
              have H' := Aside0.mk H
              clear H
              have p432 : 0 ≤ (x35_2 : Int) := of_decide_eq_true (by first | (with_reducible assumption) | assumption)
              have q432 : x35_2 < (t429.length : Int) := of_decide_eq_true (by first | (with_reducible assumption) | assumption)
              obtain ⟨ad432, e432, hx432_0⟩ := Kd.at_int (Kd.R_reads' HO_33.out).2.2 x35_2 p432 q432
              cases e432
              replace p432 := eq_true p432
              replace q432 := eq_true q432
              obtain ⟨Ao25, co25, eo25⟩ := Kd.R_slice HO_10.out
              subst eo25
              have p433 : 0 ≤ ((rd t429 x35_2) : Int) := of_decide_eq_true (by first | (with_reducible assumption) | assumption)
              have q433 : (rd t429 x35_2) < (x10_2.length : Int) := of_decide_eq_true (by first | (with_reducible assumption) | assumption)
              obtain ⟨ad433, e433, hx433_0⟩ := Kd.at_int (Kd.R_reads' HO_10.out).2.2 (rd t429 x35_2) p433 q433
              cases e433
              replace p433 := eq_true p433
              replace q433 := eq_true q433
              have p24 : 0 ≤ ((rd t429 x35_2) : Int) := of_decide_eq_true (by first | (with_reducible assumption) | assumption)
              have q24 : ((rd t429 x35_2) : Int) < ((x10_2.length : Int) : Int) := of_decide_eq_true (by first | (with_reducible assumption) | assumption)
              obtain ⟨go24, co24, eo24, gb24, gl24, cl24, HG24⟩ := Kd.R_form HO_10.out (by omega)
              (first | cases eo24 | (injection eo24 with ea_ en_ ec_; (first | subst ea_ | (injection ea_ with ea_; subst ea_)); subst ec_; clear en_))
              have GB24 := Aside0.mk gb24
              have GG24 := Aside0.mk HG24
              clear gb24 gl24 HG24
              (first | simp only [add_plain] at hx433_0 | skip)
              obtain ⟨hx24_0, hf24_0⟩ := Kd.R_celln 0 HO_10.out ((rd t429 x35_2) : Int) p24 q24
              replace p24 := eq_true p24
              replace q24 := eq_true q24
              have HP26 := Kd.R_putg HO_10.out ((rd t429 x35_2) : Int) (wrap64 ((rd x10_2 (rd t429 x35_2)) + 1))
              go_wp2_with (first | ((with_reducible refine gate_store (t := 3) (p := 44) rfl ?_); refine store_event (t := 3) (p := 44) (v := ?vo_w27) (w1 := (wr.setCell ⟨go24, ((rd t429 x35_2) : Int).toNat, none⟩ (.int .i64 (wrap64 ((rd x10_2 (rd t429 x35_2)) + 1))))) ?hg ?ho ?hn ?hr ?_; (case ho => rfl); (case hg => rfl); (case hn => rfl); (case hr => first | (go_simp; done) | (go_simp; rfl)); intro w27 hw; have hg : wr.grownBy w27 (some go24) := (by rw [hw]; exact HP26.2); have hp_ : Kd.R (Kd.int .i64) 3 w27 w.heap.size (fun k_ => some k_ ≠ (.slice (some ad432) t429.length co18 : Value).ownBlock) (.slice (some ⟨go24, 0, none⟩) x10_2.length co25) y434 := (by rw [hw, Ny434.out]; exact HP26.1); clear HP26; have n0_ := Aside0.mk (hp_); have n1_ := Aside0.mk (Kd.R_after (v := (.slice (some ⟨go24, 0, none⟩) x10_2.length co25)) (v1 := (.slice (some ⟨go24, 0, none⟩) x10_2.length co25)) (ok := (fun _ => True)) (by (with_reducible repeat (first | apply Kd.R_alloc | apply Kd.R_drewN | apply Kd.R_drew)); exact Kd.R_mono HO_33.out (fun _ hk => ⟨trivial, hk⟩)) hg (.inl rfl)); have n2_ := Aside0.mk ((by rw [hw]; exact below_set (HB.out) GB24.out : Below w.heap.size w w27)); clear HO_10; clear HO_33; clear HB; have HO_10 := n0_; have HO_33 := n1_; have HB := n2_; clear n0_ n1_ n2_; clear hg hw hp_))
              go_roundg k2
              case measure => have := HJ4.out; have := HK2.out; omega
              case rel => exact ⟨(y434), (wrap64 (x35_2 + 1)), (by first | rfl | (simp; done) | (simp [*]; done)), H', ⟨by have := HJ4.out; have := HK2.out; omega⟩, ⟨by (with_reducible repeat (first | apply Kd.R_alloc | apply Kd.R_drewN | apply Kd.R_drew)); exact HO_10.out⟩, ⟨by (with_reducible repeat (first | apply Kd.R_alloc | apply Kd.R_drewN | apply Kd.R_drew)); exact Kd.R_mono HO_33.out (fun _ hk => hk.2)⟩, ⟨by repeat (first | (with_reducible first | exact HB.out | apply below_alloc | apply pw_below_drewN | apply below_drew1) | exact HB.out)⟩⟩
             ·rw [if_neg c23] at H
              exact absurd H (by simp)
            ·rw [if_neg c22] at H
             exact absurd H (by simp)
           ·rw [if_neg c21] at H
            exact absurd H (by simp)
          ·rw [if_neg c20] at H
           exact absurd H (by simp)
         ·rw [if_neg c19] at H
          have c19b0 : decide (x35_2 < (t429.length : Int)) = false := decide_eq_false c19
          clear c19
          simp only [Option.some.injEq, Prod.mk.injEq] at H
          obtain ⟨rfl, rfl⟩ := H
          go_wp2
          go_ret2
          exact ⟨_, by first | rfl | (simp [errW_none, errW_some] <;> rfl) | (simp [*, errW_none, errW_some] <;> rfl), by (with_reducible repeat (first | apply Kd.R_alloc | apply Kd.R_drewN | apply Kd.R_drew)); exact Kd.R_mono HO_10.out (fun _ hk => trivial), by repeat (first | (with_reducible first | exact HB.out | apply below_alloc | apply pw_below_drewN | apply below_drew1) | exact HB.out)⟩
      ·rw [if_neg c13] at H
       exact absurd H (by simp)
     ·rw [if_neg c12] at H
      exact absurd H (by simp)
/-! ### impl_hashesOk: function 98 -/
def impl_hashesOk.f (k : Nat) (a0 : Int) (a1 : Int) (l2 : List ByteArray) : Option (Bool) := (impl_isSeed.f a0).bind fun t435 => (if t435 = true then ((impl_in.f a1 0 9).bind fun t436 => (if t436 = true then ((impl_AreKeys.f k l2).bind fun t437 => (some t437)) else (some false))) else (some false))
theorem impl_hashesOk.mono : ∀ a0 a1 a2 k, LeO (impl_hashesOk.f k a0 a1 a2) (impl_hashesOk.f (k + 1) a0 a1 a2) := by
  intro a0 a1 a2 k
  unfold impl_hashesOk.f
  repeat' first
      | (with_reducible exact impl_AreKeys.mono _ _)
      | (with_reducible exact LeO.refl _)
      | (with_reducible exact LeO.none _)
      | (with_reducible refine LeO.ite ?_ ?_)
      | (with_reducible refine LeO.bind ?_ (fun _ => ?_))
      | exact impl_AreKeys.mono _ _
      | exact LeO.none _
      | refine LeO.ite ?_ ?_
      | refine LeO.bind ?_ (fun _ => ?_)
noncomputable def impl_hashesOk.F (a0 : Int) (a1 : Int) (l2 : List ByteArray) : Option (Bool) := lim fun k => impl_hashesOk.f k a0 a1 l2
theorem impl_hashesOk.F_sup (a0 : Int) (a1 : Int) (l2 : List ByteArray) : Sup (fun k => impl_hashesOk.f k a0 a1 l2) (impl_hashesOk.F a0 a1 l2) := Sup.of_mono fun k => impl_hashesOk.mono a0 a1 l2 k
theorem impl_hashesOk.F_eq (a0 : Int) (a1 : Int) (l2 : List ByteArray) : impl_hashesOk.F a0 a1 l2 = (impl_isSeed.f a0).bind fun t435 => (if t435 = true then ((impl_in.f a1 0 9).bind fun t436 => (if t436 = true then ((impl_AreKeys.F l2).bind fun t437 => (some t437)) else (some false))) else (some false)) := by
  refine Sup.unique (impl_hashesOk.F_sup a0 a1 l2) (Sup.congr (g' := fun k => (impl_isSeed.f a0).bind fun t435 => (if t435 = true then ((impl_in.f a1 0 9).bind fun t436 => (if t436 = true then ((impl_AreKeys.f k l2).bind fun t437 => (some t437)) else (some false))) else (some false))) (fun k => by first | rfl | simp only [impl_hashesOk.f]) ?_)
  repeat' first
    | (with_reducible exact impl_AreKeys.F_sup _)
    | (with_reducible refine Sup.ite ?_ ?_)
    | (with_reducible refine Sup.bind ?_ (fun _ => ?_))
    | (with_reducible exact Sup.const _)
    | exact impl_AreKeys.F_sup _
    | exact Sup.const _
set_option maxHeartbeats 8000000 in
set_option maxRecDepth 100000 in
theorem impl_hashesOk.calls (k : Nat) (a0 : Int) (a1 : Int) (A2 : Option Addr) (c2 : Nat) (l2 : List ByteArray) (r : Bool) (w : World) (hr2 : Kd.C Kd.string w A2 l2.length l2) (hc2 : l2.length ≤ c2) (h : impl_hashesOk.f k a0 a1 l2 = some r) :
    Calls Try.prog 98 #[.int .i64 a0, .int .i64 a1, .slice A2 l2.length c2] w fun e w' => e = .returned (.bool r) ∧ Drawn0 w w' := by
  have HR2 := Aside0.mk hr2
  have HC2 := Aside0.mk hc2
  clear hr2 hc2
  have H : ((impl_isSeed.f a0).bind fun t435 => (if t435 = true then ((impl_in.f a1 0 9).bind fun t436 => (if t436 = true then ((impl_AreKeys.f k l2).bind fun t437 => (some t437)) else (some false))) else (some false))) = some r := h
  clear h
  replace H := Option.bind_eq_some_iff.mp H
  obtain ⟨t435, A40, H⟩ := H
  replace H : (if t435 = true then ((impl_in.f a1 0 9).bind fun t436 => (if t436 = true then ((impl_AreKeys.f k l2).bind fun t437 => (some t437)) else (some false))) else (some false)) = some r := H
  have A4 := Aside0.mk A40
  clear A40
  by_cases c5 : t435 = true
  ·subst c5
   have H1 : ((impl_in.f a1 0 9).bind fun t436 => (if t436 = true then ((impl_AreKeys.f k l2).bind fun t437 => (some t437)) else (some false))) = some r := by rw [if_pos rfl] at H; exact H
   clear H
   have H := H1
   clear H1
   replace H := Option.bind_eq_some_iff.mp H
   obtain ⟨t436, A60, H⟩ := H
   replace H : (if t436 = true then ((impl_AreKeys.f k l2).bind fun t437 => (some t437)) else (some false)) = some r := H
   have A6 := Aside0.mk A60
   clear A60
   by_cases c7 : t436 = true
   ·subst c7
    have H1 : ((impl_AreKeys.f k l2).bind fun t437 => (some t437)) = some r := by rw [if_pos rfl] at H; exact H
    clear H
    have H := H1
    clear H1
    replace H := Option.bind_eq_some_iff.mp H
    obtain ⟨t437, A80, H⟩ := H
    replace H : (some t437) = some r := H
    have A8 := Aside0.mk A80
    clear A80
    obtain rfl := Option.some.inj H
    go_enter Try.func98, Try.ntmps98
    go_wp2_with (first | ((with_reducible refine gate_callee (f := 80) rfl ?_); refine goesL_ (some 8) rfl rfl Try.func80 (by kernel_rfl) rfl #[.int .i64 a0] rfl (by (try simp only [List.map_toArray, List.map_cons, List.map_nil]); first | done | rfl | (simp only [List.length_drop, List.length_take]; rfl)) ?_; (with_reducible refine (impl_isSeed.calls a0 true _ A4.out).mono ?_); rintro e w' ⟨rfl, ⟨nd, rfl⟩⟩; refine ⟨_, rfl, ?_⟩) | (go_at_call 87; (with_reducible refine (impl_in.calls a1 0 9 true _ A6.out).mono ?_); rintro e w' ⟨rfl, ⟨nd, rfl⟩⟩) | (go_at_call 86; (with_reducible refine (impl_AreKeys.calls k _ _ l2 t437 _ ?side1 ?side2 A8.out).mono ?_); (case side1 => repeat (first | exact HR2.out | (with_reducible refine Kd.C_alloc ?_ _) | (with_reducible refine Kd.C_drewN ?_ _) | (with_reducible refine Kd.C_drew ?_))); (case side2 => exact HC2.out); rintro e w' ⟨rfl, ⟨nd, rfl⟩⟩))
    go_ret
    exact ⟨by first | rfl | (simp; done) | (simp [*]; done), by repeat (first | exact Drawn0.refl _ | apply Drawn0.step)⟩
   ·replace c7 := Bool.eq_false_iff.mpr c7
    subst c7
    have H1 : (some false) = some r := by rw [if_neg (show ¬ (false = true) by decide)] at H; exact H
    clear H
    have H := H1
    clear H1
    obtain rfl := Option.some.inj H
    go_enter Try.func98, Try.ntmps98
    go_wp2_with (first | ((with_reducible refine gate_callee (f := 80) rfl ?_); refine goesL_ (some 8) rfl rfl Try.func80 (by kernel_rfl) rfl #[.int .i64 a0] rfl (by (try simp only [List.map_toArray, List.map_cons, List.map_nil]); first | done | rfl | (simp only [List.length_drop, List.length_take]; rfl)) ?_; (with_reducible refine (impl_isSeed.calls a0 true _ A4.out).mono ?_); rintro e w' ⟨rfl, ⟨nd, rfl⟩⟩; refine ⟨_, rfl, ?_⟩) | (go_at_call 87; (with_reducible refine (impl_in.calls a1 0 9 false _ A6.out).mono ?_); rintro e w' ⟨rfl, ⟨nd, rfl⟩⟩))
    go_ret
    exact ⟨by first | rfl | (simp; done) | (simp [*]; done), by repeat (first | exact Drawn0.refl _ | apply Drawn0.step)⟩
  ·replace c5 := Bool.eq_false_iff.mpr c5
   subst c5
   have H1 : (some false) = some r := by rw [if_neg (show ¬ (false = true) by decide)] at H; exact H
   clear H
   have H := H1
   clear H1
   obtain rfl := Option.some.inj H
   go_enter Try.func98, Try.ntmps98
   go_wp2_with (first | ((with_reducible refine gate_callee (f := 80) rfl ?_); refine goesL_ (some 8) rfl rfl Try.func80 (by kernel_rfl) rfl #[.int .i64 a0] rfl (by (try simp only [List.map_toArray, List.map_cons, List.map_nil]); first | done | rfl | (simp only [List.length_drop, List.length_take]; rfl)) ?_; (with_reducible refine (impl_isSeed.calls a0 false _ A4.out).mono ?_); rintro e w' ⟨rfl, ⟨nd, rfl⟩⟩; refine ⟨_, rfl, ?_⟩))
   go_ret
   exact ⟨by first | rfl | (simp; done) | (simp [*]; done), by repeat (first | exact Drawn0.refl _ | apply Drawn0.step)⟩
/-! ### impl_LoadsOf: function 39 -/
mutual
def impl_LoadsOf.j0 : Nat → Int → Int → List ByteArray → Int → Bool → Option (List Int × Bool)
  | 0, _, _, _, _, _ => none
  | k + 1, x0, x1, x2, x3, x22 => if x22 = true then (some (([] : List Int), false)) else (if 0 ≤ x3 then (if (x3 : Int).toNat ≤ 35184372088832 then (impl_LoadsOf.l0 k x0 x1 x3 (List.replicate (x3 : Int).toNat 0) x2 (x2.length : Int) 0) else (none)) else (none))
def impl_LoadsOf.l0 : Nat → Int → Int → Int → List Int → List ByteArray → Int → Int → Option (List Int × Bool)
  | 0, _, _, _, _, _, _, _ => none
  | k + 1, x0, x1, x3, x10, x25, x26, x27 => if x27 < x26 then (if 0 ≤ x27 then (if x27 < (x25.length : Int) then ((impl_place.f k x0 x1 (rdOf ByteArray.empty x25 x27) x3).bind fun t444 => (if 0 ≤ t444 then (if t444 < (x10.length : Int) then (impl_LoadsOf.l0 k x0 x1 x3 (x10.set (t444 : Int).toNat (wrap64 ((rd x10 t444) + 1))) x25 x26 (wrap64 (x27 + 1))) else (none)) else (none))) else (none)) else (none)) else (some (x10, true))
end
def impl_LoadsOf.f (k : Nat) (a0 : Int) (a1 : Int) (l2 : List ByteArray) (a3 : Int) : Option (List Int × Bool) := (impl_hashesOk.f k a0 a1 l2).bind fun t438 => (if t438 = true then ((impl_in.f a3 1 64).bind fun t439 => (impl_LoadsOf.j0 k a0 a1 l2 a3 (!t439))) else (impl_LoadsOf.j0 k a0 a1 l2 a3 true))
theorem impl_LoadsOf.mono_l : ∀ k, (∀ y0 y1 y2 y3 y4, LeO (impl_LoadsOf.j0 k y0 y1 y2 y3 y4) (impl_LoadsOf.j0 (k + 1) y0 y1 y2 y3 y4)) ∧ (∀ y0 y1 y2 y3 y4 y5 y6, LeO (impl_LoadsOf.l0 k y0 y1 y2 y3 y4 y5 y6) (impl_LoadsOf.l0 (k + 1) y0 y1 y2 y3 y4 y5 y6))
  | 0 => ⟨fun _ _ _ _ _ r h => by simp [impl_LoadsOf.j0] at h, fun _ _ _ _ _ _ _ r h => by simp [impl_LoadsOf.l0] at h⟩
  | k + 1 => by
    obtain ⟨ih0, ih1⟩ := impl_LoadsOf.mono_l k
    refine ⟨?_, ?_⟩
    · intro y0 y1 y2 y3 y4
      unfold impl_LoadsOf.j0
      repeat' first
      | (with_reducible exact ih0 _ _ _ _ _)
      | (with_reducible exact ih1 _ _ _ _ _ _ _)
      | (with_reducible exact impl_hashesOk.mono _ _ _ _)
      | (with_reducible exact impl_place.mono _ _ _ _ _)
      | (with_reducible exact LeO.refl _)
      | (with_reducible exact LeO.none _)
      | (with_reducible refine LeO.ite ?_ ?_)
      | (with_reducible refine LeO.bind ?_ (fun _ => ?_))
      | exact ih0 _ _ _ _ _
      | exact ih1 _ _ _ _ _ _ _
      | exact impl_hashesOk.mono _ _ _ _
      | exact impl_place.mono _ _ _ _ _
      | exact LeO.none _
      | refine LeO.ite ?_ ?_
      | refine LeO.bind ?_ (fun _ => ?_)
    · intro y0 y1 y2 y3 y4 y5 y6
      unfold impl_LoadsOf.l0
      repeat' first
      | (with_reducible exact ih0 _ _ _ _ _)
      | (with_reducible exact ih1 _ _ _ _ _ _ _)
      | (with_reducible exact impl_hashesOk.mono _ _ _ _)
      | (with_reducible exact impl_place.mono _ _ _ _ _)
      | (with_reducible exact LeO.refl _)
      | (with_reducible exact LeO.none _)
      | (with_reducible refine LeO.ite ?_ ?_)
      | (with_reducible refine LeO.bind ?_ (fun _ => ?_))
      | exact ih0 _ _ _ _ _
      | exact ih1 _ _ _ _ _ _ _
      | exact impl_hashesOk.mono _ _ _ _
      | exact impl_place.mono _ _ _ _ _
      | exact LeO.none _
      | refine LeO.ite ?_ ?_
      | refine LeO.bind ?_ (fun _ => ?_)
theorem impl_LoadsOf.mono : ∀ a0 a1 a2 a3 k, LeO (impl_LoadsOf.f k a0 a1 a2 a3) (impl_LoadsOf.f (k + 1) a0 a1 a2 a3) := by
  intro a0 a1 a2 a3 k
  obtain ⟨ih0, ih1⟩ := impl_LoadsOf.mono_l k
  unfold impl_LoadsOf.f
  repeat' first
      | (with_reducible exact ih0 _ _ _ _ _)
      | (with_reducible exact ih1 _ _ _ _ _ _ _)
      | (with_reducible exact impl_hashesOk.mono _ _ _ _)
      | (with_reducible exact impl_place.mono _ _ _ _ _)
      | (with_reducible exact LeO.refl _)
      | (with_reducible exact LeO.none _)
      | (with_reducible refine LeO.ite ?_ ?_)
      | (with_reducible refine LeO.bind ?_ (fun _ => ?_))
      | exact ih0 _ _ _ _ _
      | exact ih1 _ _ _ _ _ _ _
      | exact impl_hashesOk.mono _ _ _ _
      | exact impl_place.mono _ _ _ _ _
      | exact LeO.none _
      | refine LeO.ite ?_ ?_
      | refine LeO.bind ?_ (fun _ => ?_)
noncomputable def impl_LoadsOf.J0 (y0 : Int) (y1 : Int) (y2 : List ByteArray) (y3 : Int) (y4 : Bool) : Option (List Int × Bool) := lim fun k => impl_LoadsOf.j0 k y0 y1 y2 y3 y4
theorem impl_LoadsOf.J0_sup (y0 : Int) (y1 : Int) (y2 : List ByteArray) (y3 : Int) (y4 : Bool) : Sup (fun k => impl_LoadsOf.j0 k y0 y1 y2 y3 y4) (impl_LoadsOf.J0 y0 y1 y2 y3 y4) := Sup.of_mono fun k => (impl_LoadsOf.mono_l k).1 y0 y1 y2 y3 y4
noncomputable def impl_LoadsOf.L0 (y0 : Int) (y1 : Int) (y2 : Int) (y3 : List Int) (y4 : List ByteArray) (y5 : Int) (y6 : Int) : Option (List Int × Bool) := lim fun k => impl_LoadsOf.l0 k y0 y1 y2 y3 y4 y5 y6
theorem impl_LoadsOf.L0_sup (y0 : Int) (y1 : Int) (y2 : Int) (y3 : List Int) (y4 : List ByteArray) (y5 : Int) (y6 : Int) : Sup (fun k => impl_LoadsOf.l0 k y0 y1 y2 y3 y4 y5 y6) (impl_LoadsOf.L0 y0 y1 y2 y3 y4 y5 y6) := Sup.of_mono fun k => (impl_LoadsOf.mono_l k).2 y0 y1 y2 y3 y4 y5 y6
noncomputable def impl_LoadsOf.F (a0 : Int) (a1 : Int) (l2 : List ByteArray) (a3 : Int) : Option (List Int × Bool) := lim fun k => impl_LoadsOf.f k a0 a1 l2 a3
theorem impl_LoadsOf.F_sup (a0 : Int) (a1 : Int) (l2 : List ByteArray) (a3 : Int) : Sup (fun k => impl_LoadsOf.f k a0 a1 l2 a3) (impl_LoadsOf.F a0 a1 l2 a3) := Sup.of_mono fun k => impl_LoadsOf.mono a0 a1 l2 a3 k
theorem impl_LoadsOf.J0_eq (x0 : Int) (x1 : Int) (x2 : List ByteArray) (x3 : Int) (x22 : Bool) : impl_LoadsOf.J0 x0 x1 x2 x3 x22 = if x22 = true then (some (([] : List Int), false)) else (if 0 ≤ x3 then (if (x3 : Int).toNat ≤ 35184372088832 then (impl_LoadsOf.L0 x0 x1 x3 (List.replicate (x3 : Int).toNat 0) x2 (x2.length : Int) 0) else (none)) else (none)) := by
  refine Sup.unique (impl_LoadsOf.J0_sup x0 x1 x2 x3 x22) (Sup.shift (fun k => (impl_LoadsOf.mono_l k).1 x0 x1 x2 x3 x22) (Sup.congr (g' := fun k => if x22 = true then (some (([] : List Int), false)) else (if 0 ≤ x3 then (if (x3 : Int).toNat ≤ 35184372088832 then (impl_LoadsOf.l0 k x0 x1 x3 (List.replicate (x3 : Int).toNat 0) x2 (x2.length : Int) 0) else (none)) else (none))) (fun k => by first | rfl | simp only [impl_LoadsOf.j0]) ?_))
  repeat' first
    | (with_reducible exact impl_LoadsOf.J0_sup _ _ _ _ _)
    | (with_reducible exact impl_LoadsOf.L0_sup _ _ _ _ _ _ _)
    | (with_reducible exact impl_place.F_sup _ _ _ _)
    | (with_reducible exact impl_hashesOk.F_sup _ _ _)
    | (with_reducible refine Sup.ite ?_ ?_)
    | (with_reducible refine Sup.bind ?_ (fun _ => ?_))
    | (with_reducible exact Sup.const _)
    | exact impl_LoadsOf.J0_sup _ _ _ _ _
    | exact impl_LoadsOf.L0_sup _ _ _ _ _ _ _
    | exact impl_place.F_sup _ _ _ _
    | exact impl_hashesOk.F_sup _ _ _
    | exact Sup.const _
theorem impl_LoadsOf.L0_eq (x0 : Int) (x1 : Int) (x3 : Int) (x10 : List Int) (x25 : List ByteArray) (x26 : Int) (x27 : Int) : impl_LoadsOf.L0 x0 x1 x3 x10 x25 x26 x27 = if x27 < x26 then (if 0 ≤ x27 then (if x27 < (x25.length : Int) then ((impl_place.F x0 x1 (rdOf ByteArray.empty x25 x27) x3).bind fun t444 => (if 0 ≤ t444 then (if t444 < (x10.length : Int) then (impl_LoadsOf.L0 x0 x1 x3 (x10.set (t444 : Int).toNat (wrap64 ((rd x10 t444) + 1))) x25 x26 (wrap64 (x27 + 1))) else (none)) else (none))) else (none)) else (none)) else (some (x10, true)) := by
  refine Sup.unique (impl_LoadsOf.L0_sup x0 x1 x3 x10 x25 x26 x27) (Sup.shift (fun k => (impl_LoadsOf.mono_l k).2 x0 x1 x3 x10 x25 x26 x27) (Sup.congr (g' := fun k => if x27 < x26 then (if 0 ≤ x27 then (if x27 < (x25.length : Int) then ((impl_place.f k x0 x1 (rdOf ByteArray.empty x25 x27) x3).bind fun t444 => (if 0 ≤ t444 then (if t444 < (x10.length : Int) then (impl_LoadsOf.l0 k x0 x1 x3 (x10.set (t444 : Int).toNat (wrap64 ((rd x10 t444) + 1))) x25 x26 (wrap64 (x27 + 1))) else (none)) else (none))) else (none)) else (none)) else (some (x10, true))) (fun k => by first | rfl | simp only [impl_LoadsOf.l0]) ?_))
  repeat' first
    | (with_reducible exact impl_LoadsOf.J0_sup _ _ _ _ _)
    | (with_reducible exact impl_LoadsOf.L0_sup _ _ _ _ _ _ _)
    | (with_reducible exact impl_place.F_sup _ _ _ _)
    | (with_reducible exact impl_hashesOk.F_sup _ _ _)
    | (with_reducible refine Sup.ite ?_ ?_)
    | (with_reducible refine Sup.bind ?_ (fun _ => ?_))
    | (with_reducible exact Sup.const _)
    | exact impl_LoadsOf.J0_sup _ _ _ _ _
    | exact impl_LoadsOf.L0_sup _ _ _ _ _ _ _
    | exact impl_place.F_sup _ _ _ _
    | exact impl_hashesOk.F_sup _ _ _
    | exact Sup.const _
theorem impl_LoadsOf.F_eq (a0 : Int) (a1 : Int) (l2 : List ByteArray) (a3 : Int) : impl_LoadsOf.F a0 a1 l2 a3 = (impl_hashesOk.F a0 a1 l2).bind fun t438 => (if t438 = true then ((impl_in.f a3 1 64).bind fun t439 => (impl_LoadsOf.J0 a0 a1 l2 a3 (!t439))) else (impl_LoadsOf.J0 a0 a1 l2 a3 true)) := by
  refine Sup.unique (impl_LoadsOf.F_sup a0 a1 l2 a3) (Sup.congr (g' := fun k => (impl_hashesOk.f k a0 a1 l2).bind fun t438 => (if t438 = true then ((impl_in.f a3 1 64).bind fun t439 => (impl_LoadsOf.j0 k a0 a1 l2 a3 (!t439))) else (impl_LoadsOf.j0 k a0 a1 l2 a3 true))) (fun k => by first | rfl | simp only [impl_LoadsOf.f]) ?_)
  repeat' first
    | (with_reducible exact impl_LoadsOf.J0_sup _ _ _ _ _)
    | (with_reducible exact impl_LoadsOf.L0_sup _ _ _ _ _ _ _)
    | (with_reducible exact impl_place.F_sup _ _ _ _)
    | (with_reducible exact impl_hashesOk.F_sup _ _ _)
    | (with_reducible refine Sup.ite ?_ ?_)
    | (with_reducible refine Sup.bind ?_ (fun _ => ?_))
    | (with_reducible exact Sup.const _)
    | exact impl_LoadsOf.J0_sup _ _ _ _ _
    | exact impl_LoadsOf.L0_sup _ _ _ _ _ _ _
    | exact impl_place.F_sup _ _ _ _
    | exact impl_hashesOk.F_sup _ _ _
    | exact Sup.const _
set_option maxHeartbeats 8000000 in
set_option maxRecDepth 100000 in
theorem impl_LoadsOf.calls (k : Nat) (a0 : Int) (a1 : Int) (A2 : Option Addr) (c2 : Nat) (l2 : List ByteArray) (a3 : Int) (r1 : List Int) (r2 : Bool) (w : World) (hr2 : Kd.C Kd.string w A2 l2.length l2) (hc2 : l2.length ≤ c2) (h : impl_LoadsOf.f k a0 a1 l2 a3 = some (r1, r2)) :
    Calls Try.prog 39 #[.int .i64 a0, .int .i64 a1, .slice A2 l2.length c2, .int .i64 a3] w fun e w' => ∃ v0_ : Value, e = .returned (.tuple #[v0_, .bool r2]) ∧ Kd.R (Kd.int .i64) 3 w' w.heap.size (fun _ => True) v0_ r1 ∧ Below w.heap.size w w' := by
  have HR2 := Aside0.mk hr2
  have HC2 := Aside0.mk hc2
  clear hr2 hc2
  have HB := Aside0.mk (Below.refl w.heap.size w)
  have H : ((impl_hashesOk.f k a0 a1 l2).bind fun t438 => (if t438 = true then ((impl_in.f a3 1 64).bind fun t439 => (impl_LoadsOf.j0 k a0 a1 l2 a3 (!t439))) else (impl_LoadsOf.j0 k a0 a1 l2 a3 true))) = some (r1, r2) := h
  clear h
  have HC5 := Aside0.mk H
  clear H
  go_enter Try.func39, Try.ntmps39
  go_upto_region 1 with (fail)
  go_cut [22] (fun v22 wc => ∃ (kq : Nat) (x22_4 : Bool), v22 = .bool x22_4 ∧ Aside0 (impl_LoadsOf.j0 kq a0 a1 l2 a3 x22_4 = some (r1, r2)) ∧ Aside0 (kq ≤ k) ∧ Aside0 (Below w.heap.size w wc))
  case first =>
   have H := HC5.out
   clear HC5
   replace H := Option.bind_eq_some_iff.mp H
   obtain ⟨t438, A60, H⟩ := H
   replace H : (if t438 = true then ((impl_in.f a3 1 64).bind fun t439 => (impl_LoadsOf.j0 k a0 a1 l2 a3 (!t439))) else (impl_LoadsOf.j0 k a0 a1 l2 a3 true)) = some (r1, r2) := H
   have A6 := Aside0.mk A60
   clear A60
   by_cases c7 : t438 = true
   ·subst c7
    have H1 : ((impl_in.f a3 1 64).bind fun t439 => (impl_LoadsOf.j0 k a0 a1 l2 a3 (!t439))) = some (r1, r2) := by rw [if_pos rfl] at H; exact H
    clear H
    have H := H1
    clear H1
    replace H := Option.bind_eq_some_iff.mp H
    obtain ⟨t439, A80, H⟩ := H
    replace H : (impl_LoadsOf.j0 k a0 a1 l2 a3 (!t439)) = some (r1, r2) := H
    have A8 := Aside0.mk A80
    clear A80
    have H' := Aside0.mk H
    clear H
    go_wp2_with (first | ((with_reducible refine gate_callee (f := 98) rfl ?_); refine goesL_ (some 16) rfl rfl Try.func98 (by kernel_rfl) rfl #[.int .i64 a0, .int .i64 a1, .slice A2 l2.length c2] rfl (by (try simp only [List.map_toArray, List.map_cons, List.map_nil]); first | done | rfl | (simp only [List.length_drop, List.length_take]; rfl)) ?_; (with_reducible refine (impl_hashesOk.calls k a0 a1 _ _ l2 true _ ?side1 ?side2 A6.out).mono ?_); (case side1 => repeat (first | exact (Kd.C_below HR2.out HB.out) | (with_reducible refine Kd.C_alloc ?_ _) | (with_reducible refine Kd.C_drewN ?_ _) | (with_reducible refine Kd.C_drew ?_))); (case side2 => exact HC2.out); rintro e w' ⟨rfl, ⟨nd, rfl⟩⟩; refine ⟨_, rfl, ?_⟩) | (go_at_call 87; (with_reducible refine (impl_in.calls a3 1 64 t439 _ A8.out).mono ?_); rintro e w' ⟨rfl, ⟨nd, rfl⟩⟩))
    go_meet
    case rel => exact ⟨_, (!t439), (by first | rfl | (simp; done) | (simp [*]; done)), H', ⟨by first | omega | exact Nat.le_refl _⟩, ⟨by repeat (first | (with_reducible first | exact HB.out | apply below_alloc | apply pw_below_drewN | apply below_drew1) | exact HB.out)⟩⟩
   ·replace c7 := Bool.eq_false_iff.mpr c7
    subst c7
    have H1 : (impl_LoadsOf.j0 k a0 a1 l2 a3 true) = some (r1, r2) := by rw [if_neg (show ¬ (false = true) by decide)] at H; exact H
    clear H
    have H := H1
    clear H1
    have H' := Aside0.mk H
    clear H
    go_wp2_with (first | ((with_reducible refine gate_callee (f := 98) rfl ?_); refine goesL_ (some 16) rfl rfl Try.func98 (by kernel_rfl) rfl #[.int .i64 a0, .int .i64 a1, .slice A2 l2.length c2] rfl (by (try simp only [List.map_toArray, List.map_cons, List.map_nil]); first | done | rfl | (simp only [List.length_drop, List.length_take]; rfl)) ?_; (with_reducible refine (impl_hashesOk.calls k a0 a1 _ _ l2 false _ ?side1 ?side2 A6.out).mono ?_); (case side1 => repeat (first | exact (Kd.C_below HR2.out HB.out) | (with_reducible refine Kd.C_alloc ?_ _) | (with_reducible refine Kd.C_drewN ?_ _) | (with_reducible refine Kd.C_drew ?_))); (case side2 => exact HC2.out); rintro e w' ⟨rfl, ⟨nd, rfl⟩⟩; refine ⟨_, rfl, ?_⟩))
    go_meet
    case rel => exact ⟨_, (true), (by first | rfl | (simp; done) | (simp [*]; done)), H', ⟨by first | omega | exact Nat.le_refl _⟩, ⟨by repeat (first | (with_reducible first | exact HB.out | apply below_alloc | apply pw_below_drewN | apply below_drew1) | exact HB.out)⟩⟩
  case rest =>
   clear HC5
   try clear c2
   try clear p2
   try clear c3
   try clear c7
   obtain ⟨kq, x22_4, rfl, HA, HJ4, HB⟩ := hcut
   cases kq with
   | zero => exact absurd HA.out (by simp [impl_LoadsOf.j0])
   | succ kj4 =>
    have H := HA.out
    clear HA
    simp only [impl_LoadsOf.j0] at H
    by_cases c9 : x22_4 = true
    ·subst c9
     have H1 : (some (([] : List Int), false)) = some (r1, r2) := by rw [if_pos rfl] at H; exact H
     clear H
     have H := H1
     clear H1
     simp only [Option.some.injEq, Prod.mk.injEq] at H
     obtain ⟨rfl, rfl⟩ := H
     go_wp2
     go_ret2
     exact ⟨_, by first | rfl | (simp [errW_none, errW_some] <;> rfl) | (simp [*, errW_none, errW_some] <;> rfl), by first | exact Kd.R_nil _ _ _ _ _ | exact Kd.N_nil _ _ _ _ _ | exact Kd.V_nil _ _ _ _ _ | exact Kd.Q_nil _ _ _ _ _ | exact Kd.S_nil _ _ _ _ _, by repeat (first | (with_reducible first | exact HB.out | apply below_alloc | apply pw_below_drewN | apply below_drew1) | exact HB.out)⟩
    ·replace c9 := Bool.eq_false_iff.mpr c9
     subst c9
     have H1 : (if 0 ≤ a3 then (if (a3 : Int).toNat ≤ 35184372088832 then (impl_LoadsOf.l0 kj4 a0 a1 a3 (List.replicate (a3 : Int).toNat 0) l2 (l2.length : Int) 0) else (none)) else (none)) = some (r1, r2) := by rw [if_neg (show ¬ (false = true) by decide)] at H; exact H
     clear H
     have H := H1
     clear H1
     by_cases c10 : 0 ≤ a3
     ·rw [if_pos c10] at H
      have c10b0 := eq_true c10
      have c10b1 : decide (0 ≤ a3) = true := decide_eq_true c10
      clear c10
      by_cases c11 : (a3 : Int).toNat ≤ 35184372088832
      ·rw [if_pos c11] at H
       have c11b0 := eq_true c11
       have c11b1 : decide ((a3 : Int).toNat ≤ 35184372088832) = true := decide_eq_true c11
       clear c11
       obtain ⟨y440, hy440⟩ : ∃ y_ : List Int, y_ = (List.replicate (a3 : Int).toNat 0) := ⟨_, rfl⟩
       replace H : (impl_LoadsOf.l0 kj4 a0 a1 a3 y440 l2 (l2.length : Int) 0) = some (r1, r2) := by first | (rw [hy440]; with_reducible exact H) | (have H2_ := (Option.bind_some _ _).symm.trans H; rw [hy440]; with_reducible exact H2_) | (have H2_ := (Option.bind_some _ _).symm.trans H; with_reducible exact H2_) | with_reducible exact H | (rw [hy440]; exact H) | exact H
       have Ny440 := Aside0.mk hy440
       clear hy440
       have H' := Aside0.mk H
       clear H
       go_wp2_with (first | ((with_reducible refine gate_dst (N := 24) rfl ?_); refine Kd.R_make (Kd.int .i64) _ 3 rfl (N := 24) rfl 22 _ _ rfl a3 rfl rfl Try.underlying22 (.int .i64 0) 8 info3 rfl (by decide) (by omega) 0 (ok := fun _ => True) (okp := fun _ => True) rfl (fun _ hk => hk) trivial (of_decide_eq_true (by first | (with_reducible assumption) | assumption)) (Nat.le_trans (Nat.mul_le_mul_right _ (of_decide_eq_true (by first | (with_reducible assumption) | assumption) : a3.toNat ≤ 35184372088832)) (by omega)) (Below.refl _ _) (Nat.le_refl _) ?_; intro v441 w12 ho13 hb hg_ hnew_; clear hg_ hnew_; (first | rw [← Ny440.out] at ho13 | (simp only [Int.reduceToNat] at ho13; rw [← Ny440.out] at ho13)); have n0_ := Aside0.mk (Kd.R_lower ho13 (below_size (by repeat (first | (with_reducible first | exact HB.out | apply below_alloc | apply pw_below_drewN | apply below_drew1) | exact HB.out)))); have n1_ := Aside0.mk (below_step (by repeat (first | (with_reducible first | exact HB.out | apply below_alloc | apply pw_below_drewN | apply below_drew1) | exact HB.out)) hb); clear HB; have HO442 := n0_; have HB := n1_; clear n0_ n1_; clear hb ho13))
       go_loopg [27] kj4 (fun kq v27 w' => ∃ (x10_2 : List Int) (x27_2 : Int), v27 = .int .i64 x27_2 ∧ Aside0 (impl_LoadsOf.l0 kq a0 a1 a3 x10_2 l2 (l2.length : Int) x27_2 = some (r1, r2)) ∧ Aside0 (kq ≤ kj4) ∧ Aside0 (Kd.R (Kd.int .i64) 3 w' w.heap.size (fun _ => True) v441 x10_2) ∧ Aside0 (Below w.heap.size w w'))
       case atStart => exact ⟨(y440), (0), (by first | rfl | (simp; done) | (simp [*]; done)), H', ⟨Nat.le_refl _⟩, ⟨by (with_reducible repeat (first | apply Kd.R_alloc | apply Kd.R_drewN | apply Kd.R_drew)); exact HO442.out⟩, ⟨by repeat (first | (with_reducible first | exact HB.out | apply below_alloc | apply pw_below_drewN | apply below_drew1) | exact HB.out)⟩⟩
       case round =>
        clear H'
        try clear c1
        try clear c2
        try clear p2
        try clear c3
        try clear c7
        try clear c9
        try clear c10
        try clear c10b0
        try clear c10b1
        try clear c11
        try clear c11b0
        try clear c11b1
        try clear p2
        obtain ⟨x10_2, x27_2, rfl, HA, HK2, HO_10, HB⟩ := hrel
        cases gk with
        | zero => exact absurd HA.out (by simp [impl_LoadsOf.l0])
        | succ k2 =>
         have H := HA.out
         clear HA
         simp only [impl_LoadsOf.l0] at H
         by_cases c14 : x27_2 < (l2.length : Int)
         ·rw [if_pos c14] at H
          have c14b0 : decide (x27_2 < (l2.length : Int)) = true := decide_eq_true c14
          clear c14
          by_cases c15 : 0 ≤ x27_2
          ·rw [if_pos c15] at H
           have c15b0 : decide (0 ≤ x27_2) = true := decide_eq_true c15
           clear c15
           by_cases c16 : x27_2 < (l2.length : Int)
           ·rw [if_pos c16] at H
            have c16b0 : decide (x27_2 < (l2.length : Int)) = true := decide_eq_true c16
            clear c16
            replace H := Option.bind_eq_some_iff.mp H
            obtain ⟨t444, A170, H⟩ := H
            replace H : (if 0 ≤ t444 then (if t444 < (x10_2.length : Int) then (impl_LoadsOf.l0 k2 a0 a1 a3 (x10_2.set (t444 : Int).toNat (wrap64 ((rd x10_2 t444) + 1))) l2 (l2.length : Int) (wrap64 (x27_2 + 1))) else (none)) else (none)) = some (r1, r2) := H
            have A17 := Aside0.mk A170
            clear A170
            by_cases c18 : 0 ≤ t444
            ·rw [if_pos c18] at H
             have c18b0 : decide (0 ≤ t444) = true := decide_eq_true c18
             clear c18
             by_cases c19 : t444 < (x10_2.length : Int)
             ·rw [if_pos c19] at H
              have c19b0 : decide (t444 < (x10_2.length : Int)) = true := decide_eq_true c19
              clear c19
              obtain ⟨y446, hy446⟩ : ∃ y_ : List Int, y_ = (x10_2.set (t444 : Int).toNat (wrap64 ((rd x10_2 t444) + 1))) := ⟨_, rfl⟩
              replace H : (impl_LoadsOf.l0 k2 a0 a1 a3 y446 l2 (l2.length : Int) (wrap64 (x27_2 + 1))) = some (r1, r2) := by first | (rw [hy446]; with_reducible exact H) | (have H2_ := (Option.bind_some _ _).symm.trans H; rw [hy446]; with_reducible exact H2_) | (have H2_ := (Option.bind_some _ _).symm.trans H; with_reducible exact H2_) | with_reducible exact H | (rw [hy446]; exact H) | exact H
              have Ny446 := Aside0.mk hy446
              clear hy446
              have H' := Aside0.mk H
              clear H
              have p443 : 0 ≤ (x27_2 : Int) := of_decide_eq_true (by first | (with_reducible assumption) | assumption)
              have q443 : x27_2 < (l2.length : Int) := of_decide_eq_true (by first | (with_reducible assumption) | assumption)
              obtain ⟨ad443, e443, hx443_0⟩ := Kd.at_string HR2.out x27_2 p443 q443
              cases e443
              replace hx443_0 := (HB.out.cell (World.block_lt_of_cell? w _ hx443_0)).trans hx443_0
              replace p443 := eq_true p443
              replace q443 := eq_true q443
              go_wp2_with (first | ((with_reducible refine gate_callee (f := 90) rfl ?_); refine goesL_ (some 36) rfl rfl Try.func90 (by kernel_rfl) rfl #[.int .i64 a0, .int .i64 a1, .string (rdOf ByteArray.empty l2 x27_2), .int .i64 a3] rfl (by (try simp only [List.map_toArray, List.map_cons, List.map_nil]); first | done | rfl | (simp only [List.length_drop, List.length_take]; rfl)) ?_; (with_reducible refine (impl_place.calls k2 a0 a1 (rdOf ByteArray.empty l2 x27_2) a3 t444 _ A17.out).mono ?_); rintro e w' ⟨rfl, ⟨nd, rfl⟩⟩; refine ⟨_, rfl, ?_⟩; (try (rw [drewN_self wr]; generalize hq_ : World.drewN wr _ = wr; have n0_ : Aside0 (Kd.R (Kd.int .i64) 3 wr w.heap.size (fun _ => True) v441 x10_2) := ⟨by rw [← hq_]; exact (by (with_reducible repeat (first | apply Kd.R_alloc | apply Kd.R_drewN | apply Kd.R_drew)); exact HO_10.out)⟩; have n1_ : Aside0 (Below w.heap.size w wr) := ⟨by rw [← hq_]; exact (by repeat (first | (with_reducible first | exact HB.out | apply below_alloc | apply pw_below_drewN | apply below_drew1) | exact HB.out))⟩; clear HO_10 HB hq_; have HO_10 := n0_; have HB := n1_; clear n0_ n1_)); obtain ⟨Ao21, co21, eo21⟩ := Kd.R_slice HO_10.out; subst eo21; have p445 : 0 ≤ (t444 : Int) := of_decide_eq_true (by first | (with_reducible assumption) | assumption); have q445 : t444 < (x10_2.length : Int) := of_decide_eq_true (by first | (with_reducible assumption) | assumption); obtain ⟨ad445, e445, hx445_0⟩ := Kd.at_int (Kd.R_reads' HO_10.out).2.2 t444 p445 q445; cases e445; replace p445 := eq_true p445; replace q445 := eq_true q445; have p20 : 0 ≤ (t444 : Int) := of_decide_eq_true (by first | (with_reducible assumption) | assumption); have q20 : (t444 : Int) < ((x10_2.length : Int) : Int) := of_decide_eq_true (by first | (with_reducible assumption) | assumption); obtain ⟨go20, co20, eo20, gb20, gl20, cl20, HG20⟩ := Kd.R_form HO_10.out (by omega); (first | cases eo20 | (injection eo20 with ea_ en_ ec_; (first | subst ea_ | (injection ea_ with ea_; subst ea_)); subst ec_; clear en_)); have GB20 := Aside0.mk gb20; have GG20 := Aside0.mk HG20; clear gb20 gl20 HG20; (first | simp only [add_plain] at hx445_0 | skip); obtain ⟨hx20_0, hf20_0⟩ := Kd.R_celln 0 HO_10.out (t444 : Int) p20 q20; replace p20 := eq_true p20; replace q20 := eq_true q20; obtain ⟨hy22_, hz22_⟩ := Kd.R_celln 0 HO_10.out (t444 : Int) (of_decide_eq_true (by first | (with_reducible assumption) | assumption)) (of_decide_eq_true (by first | (with_reducible assumption) | assumption)); have HP22 := Kd.R_putg HO_10.out (t444 : Int) (wrap64 ((rd x10_2 t444) + 1))) | ((with_reducible refine gate_store (t := 3) (p := 40) rfl ?_); refine store_event (t := 3) (p := 40) (v := ?vo_w23) (w1 := (wr.setCell ⟨go20, (t444 : Int).toNat, none⟩ (.int .i64 (wrap64 ((rd x10_2 t444) + 1))))) ?hg ?ho ?hn ?hr ?_; (case ho => rfl); (case hg => rfl); (case hn => rfl); (case hr => first | (go_simp; done) | (go_simp; rfl)); intro w23 hw; have hg : wr.grownBy w23 (some go20) := (by rw [hw]; exact HP22.2); have hp_ : Kd.R (Kd.int .i64) 3 w23 w.heap.size (fun _ => True) (.slice (some ⟨go20, 0, none⟩) x10_2.length co21) y446 := (by rw [hw, Ny446.out]; exact HP22.1); clear HP22; have n0_ := Aside0.mk (hp_); have n1_ := Aside0.mk ((by rw [hw]; exact below_set (HB.out) GB20.out : Below w.heap.size w w23)); clear HO_10; clear HB; have HO_10 := n0_; have HB := n1_; clear n0_ n1_; clear hg hw hp_))
              go_roundg k2
              case measure => have := HJ4.out; have := HK2.out; omega
              case rel => exact ⟨(y446), (wrap64 (x27_2 + 1)), (by first | rfl | (simp; done) | (simp [*]; done)), H', ⟨by have := HJ4.out; have := HK2.out; omega⟩, ⟨by (with_reducible repeat (first | apply Kd.R_alloc | apply Kd.R_drewN | apply Kd.R_drew)); exact HO_10.out⟩, ⟨by repeat (first | (with_reducible first | exact HB.out | apply below_alloc | apply pw_below_drewN | apply below_drew1) | exact HB.out)⟩⟩
             ·rw [if_neg c19] at H
              exact absurd H (by simp)
            ·rw [if_neg c18] at H
             exact absurd H (by simp)
           ·rw [if_neg c16] at H
            exact absurd H (by simp)
          ·rw [if_neg c15] at H
           exact absurd H (by simp)
         ·rw [if_neg c14] at H
          have c14b0 : decide (x27_2 < (l2.length : Int)) = false := decide_eq_false c14
          clear c14
          simp only [Option.some.injEq, Prod.mk.injEq] at H
          obtain ⟨rfl, rfl⟩ := H
          go_wp2
          go_ret2
          exact ⟨_, by first | rfl | (simp [errW_none, errW_some] <;> rfl) | (simp [*, errW_none, errW_some] <;> rfl), by (with_reducible repeat (first | apply Kd.R_alloc | apply Kd.R_drewN | apply Kd.R_drew)); exact HO_10.out, by repeat (first | (with_reducible first | exact HB.out | apply below_alloc | apply pw_below_drewN | apply below_drew1) | exact HB.out)⟩
      ·rw [if_neg c11] at H
       exact absurd H (by simp)
     ·rw [if_neg c10] at H
      exact absurd H (by simp)
/-! ### laws_markText: function 99 -/
def laws_markText.l0 : Nat → Int → ByteArray → Option (ByteArray)
  | 0, _, _ => none
  | k + 1, x0, x3 => if x0 > 0 then ((some (([(wrap64 (48 + (Int.tmod x0 10))) % 256] : List Int) : List Int)).bind fun y447 => (if (strOfNums y447).size + x3.size ≤ 9223372036854775807 then (laws_markText.l0 k (wrap64 (Int.tdiv x0 10)) ((strOfNums y447) ++ x3)) else (none))) else (if 1 + x3.size ≤ 9223372036854775807 then (some ((⟨#[109]⟩ : ByteArray) ++ x3)) else (none))
def laws_markText.f (k : Nat) (a0 : Int) : Option (ByteArray) := if a0 ≤ 0 then (some (⟨#[109, 48]⟩ : ByteArray)) else (laws_markText.l0 k a0 (⟨#[]⟩ : ByteArray))
theorem laws_markText.mono_l : ∀ k, (∀ y0 y1, LeO (laws_markText.l0 k y0 y1) (laws_markText.l0 (k + 1) y0 y1))
  | 0 => fun _ _ r h => by simp [laws_markText.l0] at h
  | k + 1 => by
    have ih0 := laws_markText.mono_l k
    · intro y0 y1
      unfold laws_markText.l0
      repeat' first
      | (with_reducible exact ih0 _ _)
      | (with_reducible exact LeO.refl _)
      | (with_reducible exact LeO.none _)
      | (with_reducible refine LeO.ite ?_ ?_)
      | (with_reducible refine LeO.bind ?_ (fun _ => ?_))
      | exact ih0 _ _
      | exact LeO.none _
      | refine LeO.ite ?_ ?_
      | refine LeO.bind ?_ (fun _ => ?_)
theorem laws_markText.mono : ∀ a0 k, LeO (laws_markText.f k a0) (laws_markText.f (k + 1) a0) := by
  intro a0 k
  have ih0 := laws_markText.mono_l k
  unfold laws_markText.f
  repeat' first
      | (with_reducible exact ih0 _ _)
      | (with_reducible exact LeO.refl _)
      | (with_reducible exact LeO.none _)
      | (with_reducible refine LeO.ite ?_ ?_)
      | (with_reducible refine LeO.bind ?_ (fun _ => ?_))
      | exact ih0 _ _
      | exact LeO.none _
      | refine LeO.ite ?_ ?_
      | refine LeO.bind ?_ (fun _ => ?_)
noncomputable def laws_markText.L0 (y0 : Int) (y1 : ByteArray) : Option (ByteArray) := lim fun k => laws_markText.l0 k y0 y1
theorem laws_markText.L0_sup (y0 : Int) (y1 : ByteArray) : Sup (fun k => laws_markText.l0 k y0 y1) (laws_markText.L0 y0 y1) := Sup.of_mono fun k => laws_markText.mono_l k y0 y1
noncomputable def laws_markText.F (a0 : Int) : Option (ByteArray) := lim fun k => laws_markText.f k a0
theorem laws_markText.F_sup (a0 : Int) : Sup (fun k => laws_markText.f k a0) (laws_markText.F a0) := Sup.of_mono fun k => laws_markText.mono a0 k
theorem laws_markText.L0_eq (x0 : Int) (x3 : ByteArray) : laws_markText.L0 x0 x3 = if x0 > 0 then ((some (([(wrap64 (48 + (Int.tmod x0 10))) % 256] : List Int) : List Int)).bind fun y447 => (if (strOfNums y447).size + x3.size ≤ 9223372036854775807 then (laws_markText.L0 (wrap64 (Int.tdiv x0 10)) ((strOfNums y447) ++ x3)) else (none))) else (if 1 + x3.size ≤ 9223372036854775807 then (some ((⟨#[109]⟩ : ByteArray) ++ x3)) else (none)) := by
  refine Sup.unique (laws_markText.L0_sup x0 x3) (Sup.shift (fun k => laws_markText.mono_l k x0 x3) (Sup.congr (g' := fun k => if x0 > 0 then ((some (([(wrap64 (48 + (Int.tmod x0 10))) % 256] : List Int) : List Int)).bind fun y447 => (if (strOfNums y447).size + x3.size ≤ 9223372036854775807 then (laws_markText.l0 k (wrap64 (Int.tdiv x0 10)) ((strOfNums y447) ++ x3)) else (none))) else (if 1 + x3.size ≤ 9223372036854775807 then (some ((⟨#[109]⟩ : ByteArray) ++ x3)) else (none))) (fun k => by first | rfl | simp only [laws_markText.l0]) ?_))
  repeat' first
    | (with_reducible exact laws_markText.L0_sup _ _)
    | (with_reducible refine Sup.ite ?_ ?_)
    | (with_reducible refine Sup.bind ?_ (fun _ => ?_))
    | (with_reducible exact Sup.const _)
    | exact laws_markText.L0_sup _ _
    | exact Sup.const _
theorem laws_markText.F_eq (a0 : Int) : laws_markText.F a0 = if a0 ≤ 0 then (some (⟨#[109, 48]⟩ : ByteArray)) else (laws_markText.L0 a0 (⟨#[]⟩ : ByteArray)) := by
  refine Sup.unique (laws_markText.F_sup a0) (Sup.congr (g' := fun k => if a0 ≤ 0 then (some (⟨#[109, 48]⟩ : ByteArray)) else (laws_markText.l0 k a0 (⟨#[]⟩ : ByteArray))) (fun k => by first | rfl | simp only [laws_markText.f]) ?_)
  repeat' first
    | (with_reducible exact laws_markText.L0_sup _ _)
    | (with_reducible refine Sup.ite ?_ ?_)
    | (with_reducible refine Sup.bind ?_ (fun _ => ?_))
    | (with_reducible exact Sup.const _)
    | exact laws_markText.L0_sup _ _
    | exact Sup.const _
set_option maxHeartbeats 8000000 in
set_option maxRecDepth 100000 in
theorem laws_markText.calls (k : Nat) (a0 : Int) (r : ByteArray) (w : World) (h : laws_markText.f k a0 = some r) :
    Calls Try.prog 99 #[.int .i64 a0] w fun e w' => e = .returned (.string r) ∧ Below w.heap.size w w' := by
  have HB := Aside0.mk (Below.refl w.heap.size w)
  have H : (if a0 ≤ 0 then (some (⟨#[109, 48]⟩ : ByteArray)) else (laws_markText.l0 k a0 (⟨#[]⟩ : ByteArray))) = some r := h
  clear h
  by_cases c2 : a0 ≤ 0
  ·rw [if_pos c2] at H
   have c2b0 : decide (a0 ≤ 0) = true := decide_eq_true c2
   clear c2
   obtain rfl := Option.some.inj H
   go_enter Try.func99, Try.ntmps99
   go_wp2
   go_ret
   exact ⟨by first | rfl | (simp [errW_none, errW_some] <;> rfl) | (simp [*, errW_none, errW_some] <;> rfl), by repeat (first | (with_reducible first | exact HB.out | apply below_alloc | apply pw_below_drewN | apply below_drew1) | exact HB.out)⟩
  ·rw [if_neg c2] at H
   have c2b0 : decide (a0 ≤ 0) = false := decide_eq_false c2
   clear c2
   have H' := Aside0.mk H
   clear H
   go_enter Try.func99, Try.ntmps99
   go_wp2
   go_loopg [0, 3] k (fun kq v0 v3 w' => ∃ (x0_1 : Int) (x3_1 : ByteArray), v0 = .int .i64 x0_1 ∧ v3 = .string x3_1 ∧ Aside0 (laws_markText.l0 kq x0_1 x3_1 = some r) ∧ Aside0 (kq ≤ k) ∧ Aside0 (Below w.heap.size w w'))
   case atStart => exact ⟨(a0), ((⟨#[]⟩ : ByteArray)), (by first | rfl | (simp; done) | (simp [*]; done)), (by first | rfl | (simp; done) | (simp [*]; done)), H', ⟨Nat.le_refl _⟩, ⟨by repeat (first | (with_reducible first | exact HB.out | apply below_alloc | apply pw_below_drewN | apply below_drew1) | exact HB.out)⟩⟩
   case round =>
    clear H'
    try clear c2
    try clear c2b0
    try clear p2
    obtain ⟨x0_1, x3_1, rfl, rfl, HA, HK1, HB⟩ := hrel
    cases gk with
    | zero => exact absurd HA.out (by simp [laws_markText.l0])
    | succ k1 =>
     have H := HA.out
     clear HA
     simp only [laws_markText.l0] at H
     by_cases c3 : x0_1 > 0
     ·rw [if_pos c3] at H
      have c3b0 : decide (0 < x0_1) = true := decide_eq_true c3
      clear c3
      obtain ⟨y447, hy447⟩ : ∃ y_ : List Int, y_ = (([(wrap64 (48 + (Int.tmod x0_1 10))) % 256] : List Int)) := ⟨_, rfl⟩
      replace H : (if (strOfNums y447).size + x3_1.size ≤ 9223372036854775807 then (laws_markText.l0 k1 (wrap64 (Int.tdiv x0_1 10)) ((strOfNums y447) ++ x3_1)) else (none)) = some r := by first | (rw [hy447]; with_reducible exact H) | (have H2_ := (Option.bind_some _ _).symm.trans H; rw [hy447]; with_reducible exact H2_) | (have H2_ := (Option.bind_some _ _).symm.trans H; with_reducible exact H2_) | with_reducible exact H | (rw [hy447]; exact H) | exact H
      have Ny447 := Aside0.mk hy447
      clear hy447
      by_cases c4 : (strOfNums y447).size + x3_1.size ≤ 9223372036854775807
      ·rw [if_pos c4] at H
       have c4b0 := eq_true c4
       have c4b1 : decide ((strOfNums y447).size + x3_1.size ≤ 9223372036854775807) = true := decide_eq_true c4
       try have c4b2 : (9223372036854775807 < (strOfNums y447).size + x3_1.size) = False := eq_false (Nat.not_lt.2 c4)
       have H' := Aside0.mk H
       clear H
       go_wp2_with (first | ((with_reducible refine gate_dst (N := 12) rfl ?_); refine Kd.R_lit (Kd.int .u8) _ 5 ?hg (N := 12) ?hd (xs := ([(wrap64 (48 + (Int.tmod x0_1 10))) % 256] : List Int)) (inner := [.int .u8 ((wrap64 (48 + (Int.tmod x0_1 10))) % 256)]) (ok := fun _ => True) (okp := fun _ => True) ?hr ?hp (fun _ hk => hk) trivial (Below.refl _ _) (Nat.le_refl _) (by simp) ?_; (case hd => rfl); (case hg => rfl); (case hr => first | (go_simp; done) | (go_simp; rfl)); (case hp => exact (Reps.one (show Kd.M (Kd.int .u8) _ _ _ ((wrap64 (48 + (Int.tmod x0_1 10))) % 256) [.int .u8 ((wrap64 (48 + (Int.tmod x0_1 10))) % 256)] from rfl) (Reps.none _ _))); intro v448 w5 ho6 hb hg_ hnew_; clear hg_ hnew_; (first | rw [← Ny447.out] at ho6 | (simp only [Int.reduceToNat] at ho6; rw [← Ny447.out] at ho6)); have n0_ := Aside0.mk (Kd.R_lower ho6 (below_size (by repeat (first | (with_reducible first | exact HB.out | apply below_alloc | apply pw_below_drewN | apply below_drew1) | exact HB.out)))); have n1_ := Aside0.mk (below_step (by repeat (first | (with_reducible first | exact HB.out | apply below_alloc | apply pw_below_drewN | apply below_drew1) | exact HB.out)) hb); clear HB; have HO449 := n0_; have HB := n1_; clear n0_ n1_; clear hb ho6; have hcv7 := own_string (P := Try.prog) Try.underlying136 Try.underlying5 Try.underlying9 (Kd.own_of_R HO449.out)))
       go_roundg k1
       case measure => have := HK1.out; omega
       case rel => exact ⟨(wrap64 (Int.tdiv x0_1 10)), ((strOfNums y447) ++ x3_1), (by first | rfl | (simp; done) | (simp [*]; done)), (by first | rfl | (simp; done) | (simp [*]; done)), H', ⟨by have := HK1.out; omega⟩, ⟨by repeat (first | (with_reducible first | exact HB.out | apply below_alloc | apply pw_below_drewN | apply below_drew1) | exact HB.out)⟩⟩
      ·rw [if_neg c4] at H
       exact absurd H (by simp)
     ·rw [if_neg c3] at H
      have c3b0 : decide (0 < x0_1) = false := decide_eq_false c3
      clear c3
      by_cases c8 : 1 + x3_1.size ≤ 9223372036854775807
      ·rw [if_pos c8] at H
       have c8b0 := eq_true c8
       have c8b1 : decide (1 + x3_1.size ≤ 9223372036854775807) = true := decide_eq_true c8
       try have c8b2 : (9223372036854775807 < 1 + x3_1.size) = False := eq_false (Nat.not_lt.2 c8)
       obtain rfl := Option.some.inj H
       go_wp2
       go_ret
       exact ⟨by first | rfl | (simp [errW_none, errW_some] <;> rfl) | (simp [*, errW_none, errW_some] <;> rfl), by repeat (first | (with_reducible first | exact HB.out | apply below_alloc | apply pw_below_drewN | apply below_drew1) | exact HB.out)⟩
      ·rw [if_neg c8] at H
       exact absurd H (by simp)
/-! ### laws_markStringS: function 41 -/
def laws_markStringS.l0 : Nat → List ByteArray → Int → Int → Option (Int × List ByteArray)
  | 0, _, _, _ => none
  | k + 1, x0, x1, x5 => if x5 < (x0.length : Int) then ((laws_markText.f k x1).bind fun t450 => (if 0 ≤ x5 then (laws_markStringS.l0 k (x0.set (x5 : Int).toNat t450) (wrap64 (x1 + 1)) (wrap64 (x5 + 1))) else (none))) else (some (x1, x0))
def laws_markStringS.f (k : Nat) (l0 : List ByteArray) (a1 : Int) : Option (Int × List ByteArray) := laws_markStringS.l0 k l0 a1 0
theorem laws_markStringS.mono_l : ∀ k, (∀ y0 y1 y2, LeO (laws_markStringS.l0 k y0 y1 y2) (laws_markStringS.l0 (k + 1) y0 y1 y2))
  | 0 => fun _ _ _ r h => by simp [laws_markStringS.l0] at h
  | k + 1 => by
    have ih0 := laws_markStringS.mono_l k
    · intro y0 y1 y2
      unfold laws_markStringS.l0
      repeat' first
      | (with_reducible exact ih0 _ _ _)
      | (with_reducible exact laws_markText.mono _ _)
      | (with_reducible exact LeO.refl _)
      | (with_reducible exact LeO.none _)
      | (with_reducible refine LeO.ite ?_ ?_)
      | (with_reducible refine LeO.bind ?_ (fun _ => ?_))
      | exact ih0 _ _ _
      | exact laws_markText.mono _ _
      | exact LeO.none _
      | refine LeO.ite ?_ ?_
      | refine LeO.bind ?_ (fun _ => ?_)
theorem laws_markStringS.mono : ∀ a0 a1 k, LeO (laws_markStringS.f k a0 a1) (laws_markStringS.f (k + 1) a0 a1) := by
  intro a0 a1 k
  have ih0 := laws_markStringS.mono_l k
  unfold laws_markStringS.f
  repeat' first
      | (with_reducible exact ih0 _ _ _)
      | (with_reducible exact laws_markText.mono _ _)
      | (with_reducible exact LeO.refl _)
      | (with_reducible exact LeO.none _)
      | (with_reducible refine LeO.ite ?_ ?_)
      | (with_reducible refine LeO.bind ?_ (fun _ => ?_))
      | exact ih0 _ _ _
      | exact laws_markText.mono _ _
      | exact LeO.none _
      | refine LeO.ite ?_ ?_
      | refine LeO.bind ?_ (fun _ => ?_)
noncomputable def laws_markStringS.L0 (y0 : List ByteArray) (y1 : Int) (y2 : Int) : Option (Int × List ByteArray) := lim fun k => laws_markStringS.l0 k y0 y1 y2
theorem laws_markStringS.L0_sup (y0 : List ByteArray) (y1 : Int) (y2 : Int) : Sup (fun k => laws_markStringS.l0 k y0 y1 y2) (laws_markStringS.L0 y0 y1 y2) := Sup.of_mono fun k => laws_markStringS.mono_l k y0 y1 y2
noncomputable def laws_markStringS.F (l0 : List ByteArray) (a1 : Int) : Option (Int × List ByteArray) := lim fun k => laws_markStringS.f k l0 a1
theorem laws_markStringS.F_sup (l0 : List ByteArray) (a1 : Int) : Sup (fun k => laws_markStringS.f k l0 a1) (laws_markStringS.F l0 a1) := Sup.of_mono fun k => laws_markStringS.mono l0 a1 k
theorem laws_markStringS.L0_eq (x0 : List ByteArray) (x1 : Int) (x5 : Int) : laws_markStringS.L0 x0 x1 x5 = if x5 < (x0.length : Int) then ((laws_markText.F x1).bind fun t450 => (if 0 ≤ x5 then (laws_markStringS.L0 (x0.set (x5 : Int).toNat t450) (wrap64 (x1 + 1)) (wrap64 (x5 + 1))) else (none))) else (some (x1, x0)) := by
  refine Sup.unique (laws_markStringS.L0_sup x0 x1 x5) (Sup.shift (fun k => laws_markStringS.mono_l k x0 x1 x5) (Sup.congr (g' := fun k => if x5 < (x0.length : Int) then ((laws_markText.f k x1).bind fun t450 => (if 0 ≤ x5 then (laws_markStringS.l0 k (x0.set (x5 : Int).toNat t450) (wrap64 (x1 + 1)) (wrap64 (x5 + 1))) else (none))) else (some (x1, x0))) (fun k => by first | rfl | simp only [laws_markStringS.l0]) ?_))
  repeat' first
    | (with_reducible exact laws_markStringS.L0_sup _ _ _)
    | (with_reducible exact laws_markText.F_sup _)
    | (with_reducible refine Sup.ite ?_ ?_)
    | (with_reducible refine Sup.bind ?_ (fun _ => ?_))
    | (with_reducible exact Sup.const _)
    | exact laws_markStringS.L0_sup _ _ _
    | exact laws_markText.F_sup _
    | exact Sup.const _
theorem laws_markStringS.F_eq (l0 : List ByteArray) (a1 : Int) : laws_markStringS.F l0 a1 = laws_markStringS.L0 l0 a1 0 := by
  refine Sup.unique (laws_markStringS.F_sup l0 a1) (Sup.congr (g' := fun k => laws_markStringS.l0 k l0 a1 0) (fun k => by first | rfl | simp only [laws_markStringS.f]) ?_)
  repeat' first
    | (with_reducible exact laws_markStringS.L0_sup _ _ _)
    | (with_reducible exact laws_markText.F_sup _)
    | (with_reducible refine Sup.ite ?_ ?_)
    | (with_reducible refine Sup.bind ?_ (fun _ => ?_))
    | (with_reducible exact Sup.const _)
    | exact laws_markStringS.L0_sup _ _ _
    | exact laws_markText.F_sup _
    | exact Sup.const _
set_option maxHeartbeats 8000000 in
set_option maxRecDepth 100000 in
theorem laws_markStringS.calls (k : Nat) (P0_ : Nat → Prop) (u9000_ : Value) (l0 : List ByteArray) (a1 : Int) (r1 : Int) (r2 : List ByteArray) (w0 w : World) (hB : Below w0.heap.size w0 w) (ho0 : Kd.R Kd.string 9 w w0.heap.size P0_ u9000_ l0) (h : laws_markStringS.f k l0 a1 = some (r1, r2)) :
    Calls Try.prog 41 #[u9000_, .int .i64 a1] w fun e w' => e = .returned (.int .i64 r1) ∧ Kd.R Kd.string 9 w' w0.heap.size (fun k_ => (P0_ k_ ∨ w.heap.size ≤ k_)) u9000_ r2 ∧ Below w0.heap.size w0 w' ∧ Kept w w' (fun k_ => P0_ k_) := by
  have HO0 := Aside0.mk (show Kd.R Kd.string 9 w w0.heap.size (fun k_ => (P0_ k_ ∨ w.heap.size ≤ k_)) u9000_ l0 from Kd.R_mono ho0 (fun k_ hk => (.inl hk)))
  have HK := Aside0.mk (Kept.refl w (fun k_ => P0_ k_))
  have HW0 := Aside0.mk hB.size
  have HB := Aside0.mk hB
  clear hB
  have H : (laws_markStringS.l0 k l0 a1 0) = some (r1, r2) := h
  clear h
  have H' := Aside0.mk H
  clear H
  go_enter Try.func41, Try.ntmps41
  go_wp2
  go_loopg [1, 5] k (fun kq v1 v5 w' => ∃ (x0_1 : List ByteArray) (x1_1 : Int) (x5_1 : Int), v1 = .int .i64 x1_1 ∧ v5 = .int .i64 x5_1 ∧ Aside0 (laws_markStringS.l0 kq x0_1 x1_1 x5_1 = some (r1, r2)) ∧ Aside0 (kq ≤ k) ∧ Aside0 (Kd.R Kd.string 9 w' w0.heap.size (fun k_ => (P0_ k_ ∨ w.heap.size ≤ k_)) u9000_ x0_1) ∧ Aside0 (Kept w w' (fun k_ => P0_ k_)) ∧ Aside0 (Below w0.heap.size w0 w'))
  case atStart => exact ⟨(l0), (a1), (0), (by first | rfl | (simp; done) | (simp [*]; done)), (by first | rfl | (simp; done) | (simp [*]; done)), H', ⟨Nat.le_refl _⟩, ⟨by (with_reducible repeat (first | apply Kd.R_alloc | apply Kd.R_drewN | apply Kd.R_drew)); exact HO0.out⟩, ⟨by repeat (first | (with_reducible first | exact HK.out | apply Kept.alloc | apply Kept.drewN | apply Kept.drew) | exact HK.out)⟩, ⟨by repeat (first | (with_reducible first | exact HB.out | apply below_alloc | apply pw_below_drewN | apply below_drew1) | exact HB.out)⟩⟩
  case round =>
   clear H'
   try clear p2
   obtain ⟨x0_1, x1_1, x5_1, rfl, rfl, HA, HK1, HO_0, HK, HB⟩ := hrel
   cases gk with
   | zero => exact absurd HA.out (by simp [laws_markStringS.l0])
   | succ k1 =>
    have H := HA.out
    clear HA
    simp only [laws_markStringS.l0] at H
    by_cases c3 : x5_1 < (x0_1.length : Int)
    ·rw [if_pos c3] at H
     have c3b0 : decide (x5_1 < (x0_1.length : Int)) = true := decide_eq_true c3
     clear c3
     replace H := Option.bind_eq_some_iff.mp H
     obtain ⟨t450, A40, H⟩ := H
     replace H : (if 0 ≤ x5_1 then (laws_markStringS.l0 k1 (x0_1.set (x5_1 : Int).toNat t450) (wrap64 (x1_1 + 1)) (wrap64 (x5_1 + 1))) else (none)) = some (r1, r2) := H
     have A4 := Aside0.mk A40
     clear A40
     by_cases c5 : 0 ≤ x5_1
     ·rw [if_pos c5] at H
      have c5b0 : decide (0 ≤ x5_1) = true := decide_eq_true c5
      clear c5
      obtain ⟨y451, hy451⟩ : ∃ y_ : List ByteArray, y_ = (x0_1.set (x5_1 : Int).toNat t450) := ⟨_, rfl⟩
      replace H : (laws_markStringS.l0 k1 y451 (wrap64 (x1_1 + 1)) (wrap64 (x5_1 + 1))) = some (r1, r2) := by first | (rw [hy451]; with_reducible exact H) | (have H2_ := (Option.bind_some _ _).symm.trans H; rw [hy451]; with_reducible exact H2_) | (have H2_ := (Option.bind_some _ _).symm.trans H; with_reducible exact H2_) | with_reducible exact H | (rw [hy451]; exact H) | exact H
      have Ny451 := Aside0.mk hy451
      clear hy451
      have H' := Aside0.mk H
      clear H
      obtain ⟨Ao7, co7, eo7⟩ := Kd.R_slice HO_0.out
      subst eo7
      go_wp2_with (first | ((with_reducible refine gate_callee (f := 99) rfl ?_); refine goesL_ (some 15) rfl rfl Try.func99 (by kernel_rfl) rfl #[.int .i64 x1_1] rfl (by (try simp only [List.map_toArray, List.map_cons, List.map_nil]); first | done | rfl | (simp only [List.length_drop, List.length_take]; rfl)) ?_; (with_reducible refine (laws_markText.calls k1 x1_1 t450 _ A4.out).mono ?_); rintro e w8 ⟨rfl, hb⟩; refine ⟨_, rfl, ?_⟩; have n0_ := Aside0.mk (Kd.R_below (by (with_reducible repeat (first | apply Kd.R_alloc | apply Kd.R_drewN | apply Kd.R_drew)); exact HO_0.out) hb); have n1_ := Aside0.mk (Kept.below (S := (fun k_ => P0_ k_)) (by repeat (first | (with_reducible first | exact HK.out | apply Kept.alloc | apply Kept.drewN | apply Kept.drew) | exact HK.out)) hb); have n2_ := Aside0.mk (below_step (by repeat (first | (with_reducible first | exact HB.out | apply below_alloc | apply pw_below_drewN | apply below_drew1) | exact HB.out)) hb); clear HO_0; clear HK; clear HB; have HO_0 := n0_; have HK := n1_; have HB := n2_; clear n0_ n1_ n2_; (try clear hb); (try clear hb2); (try clear hk); (try clear hi); have p6 : 0 ≤ (x5_1 : Int) := of_decide_eq_true (by first | (with_reducible assumption) | assumption); have q6 : (x5_1 : Int) < ((x0_1.length : Int) : Int) := of_decide_eq_true (by first | (with_reducible assumption) | assumption); obtain ⟨go6, co6, eo6, gb6, gl6, cl6, HG6⟩ := Kd.R_form HO_0.out (by omega); (first | cases eo6 | (injection eo6 with ea_ en_ ec_; (first | subst ea_ | (injection ea_ with ea_; subst ea_)); subst ec_; clear en_)); have GB6 := Aside0.mk gb6; have GG6 := Aside0.mk HG6; clear gb6 gl6 HG6; have HMgo6 := Aside0.mk (show (P0_ go6 ∨ w.heap.size ≤ go6) from (HO_0.out.1 _ rfl)); obtain ⟨hx6_0, hf6_0⟩ := Kd.R_celln (⟨#[]⟩ : ByteArray) HO_0.out (x5_1 : Int) p6 q6; replace p6 := eq_true p6; replace q6 := eq_true q6; obtain ⟨hy9_, hz9_⟩ := Kd.R_celln (⟨#[]⟩ : ByteArray) HO_0.out (x5_1 : Int) (of_decide_eq_true (by first | (with_reducible assumption) | assumption)) (of_decide_eq_true (by first | (with_reducible assumption) | assumption)); have HP9 := Kd.R_putg HO_0.out (x5_1 : Int) t450) | ((with_reducible refine gate_store (t := 9) (p := 16) rfl ?_); refine store_event (t := 9) (p := 16) (v := ?vo_w10) (w1 := (w8.setCell ⟨go6, (x5_1 : Int).toNat, none⟩ (.string t450))) ?hg ?ho ?hn ?hr ?_; (case ho => rfl); (case hg => rfl); (case hn => rfl); (case hr => first | (go_simp; done) | (go_simp; rfl)); intro w10 hw; have hg : w8.grownBy w10 (some go6) := (by rw [hw]; exact HP9.2); have hp_ : Kd.R Kd.string 9 w10 w0.heap.size (fun k_ => (P0_ k_ ∨ w.heap.size ≤ k_)) (.slice (some ⟨go6, 0, none⟩) x0_1.length co7) y451 := (by rw [hw, Ny451.out]; exact HP9.1); clear HP9; have n0_ := Aside0.mk (hp_); have n1_ := Aside0.mk ((by rw [hw]; exact below_set (HB.out) GB6.out : Below w0.heap.size w0 w10)); have n2_ := Aside0.mk (Kept.of_grown (S := (fun k_ => P0_ k_)) hg (by repeat (first | (with_reducible first | exact HK.out | apply Kept.alloc | apply Kept.drewN | apply Kept.drew) | exact HK.out)) (fun k_ e_ => (HO_0.out.1 k_ e_))); clear HO_0; clear HB; clear HK; have HO_0 := n0_; have HB := n1_; have HK := n2_; clear n0_ n1_ n2_; clear hg hw hp_))
      go_roundg k1
      case measure => have := HK1.out; omega
      case rel => exact ⟨(y451), (wrap64 (x1_1 + 1)), (wrap64 (x5_1 + 1)), (by first | rfl | (simp; done) | (simp [*]; done)), (by first | rfl | (simp; done) | (simp [*]; done)), H', ⟨by have := HK1.out; omega⟩, ⟨by (with_reducible repeat (first | apply Kd.R_alloc | apply Kd.R_drewN | apply Kd.R_drew)); exact HO_0.out⟩, ⟨by repeat (first | (with_reducible first | exact HK.out | apply Kept.alloc | apply Kept.drewN | apply Kept.drew) | exact HK.out)⟩, ⟨by repeat (first | (with_reducible first | exact HB.out | apply below_alloc | apply pw_below_drewN | apply below_drew1) | exact HB.out)⟩⟩
     ·rw [if_neg c5] at H
      exact absurd H (by simp)
    ·rw [if_neg c3] at H
     have c3b0 : decide (x5_1 < (x0_1.length : Int)) = false := decide_eq_false c3
     clear c3
     simp only [Option.some.injEq, Prod.mk.injEq] at H
     obtain ⟨rfl, rfl⟩ := H
     obtain ⟨Ao11, co11, eo11⟩ := Kd.R_slice HO_0.out
     subst eo11
     go_wp2
     go_ret
     exact ⟨by first | rfl | (simp [errW_none, errW_some] <;> rfl) | (simp [*, errW_none, errW_some] <;> rfl), by (with_reducible repeat (first | apply Kd.R_alloc | apply Kd.R_drewN | apply Kd.R_drew)); exact HO_0.out, by repeat (first | (with_reducible first | exact HB.out | apply below_alloc | apply pw_below_drewN | apply below_drew1) | exact HB.out), by repeat (first | (with_reducible first | exact HK.out | apply Kept.alloc | apply Kept.drewN | apply Kept.drew) | exact HK.out)⟩
/-! ### laws_FnExactLoadsOf: function 7 -/
def laws_FnExactLoadsOf.f (k : Nat) (a0 : Int) (a1 : Int) (l2 : List ByteArray) (a3 : Int) : Option (Bool) := (laws_szStringS.f k l2 1048576).bind fun t452 => (if t452 < 0 then (some true) else ((laws_toStringS.f k l2).bind fun t453 => ((spec_LoadsOf.f k a0 a1 t453 a3).bind fun bt456 => ((laws_toStringS.f k l2).bind fun t460 => ((impl_LoadsOf.f k a0 a1 t460 a3).bind fun bt463 => ((laws_eqIntS.f k bt463.1 bt456.1).bind fun t467 => (if t467 = true then (if (bt463.2 != bt456.2) = true then (none) else ((laws_toStringS.f k l2).bind fun t468 => ((laws_eqStringS.f k t460 t468).bind fun t471 => (if t471 = true then ((laws_markStringS.f k t460 1).bind fun bt472 => (if bt472.1 < 0 then (none) else ((laws_eqIntS.f k bt463.1 bt456.1).bind fun t474 => (if t474 = true then ((laws_markIntS.f k bt463.1 1).bind fun bt475 => ((laws_heldIntS.f k bt475.2 1).bind fun t477 => (if t477 < 0 then (none) else (if t477 = bt475.1 then ((laws_toStringS.f k l2).bind fun t478 => ((impl_LoadsOf.f k a0 a1 t478 a3).bind fun bt481 => ((laws_eqIntS.f k bt481.1 bt456.1).bind fun t485 => (if t485 = true then (if (bt481.2 != bt456.2) = true then (none) else ((laws_heldIntS.f k bt475.2 1).bind fun t486 => (if t486 < 0 then (none) else (if t486 = bt475.1 then (some true) else (none))))) else (none))))) else (none))))) else (none))))) else (none))))) else (none))))))))
theorem laws_FnExactLoadsOf.mono : ∀ a0 a1 a2 a3 k, LeO (laws_FnExactLoadsOf.f k a0 a1 a2 a3) (laws_FnExactLoadsOf.f (k + 1) a0 a1 a2 a3) := by
  intro a0 a1 a2 a3 k
  unfold laws_FnExactLoadsOf.f
  repeat' first
      | (with_reducible exact impl_LoadsOf.mono _ _ _ _ _)
      | (with_reducible exact laws_eqIntS.mono _ _ _)
      | (with_reducible exact laws_eqStringS.mono _ _ _)
      | (with_reducible exact laws_heldIntS.mono _ _ _)
      | (with_reducible exact laws_markIntS.mono _ _ _)
      | (with_reducible exact laws_markStringS.mono _ _ _)
      | (with_reducible exact laws_szStringS.mono _ _ _)
      | (with_reducible exact laws_toStringS.mono _ _)
      | (with_reducible exact spec_LoadsOf.mono _ _ _ _ _)
      | (with_reducible exact LeO.refl _)
      | (with_reducible exact LeO.none _)
      | (with_reducible refine LeO.ite ?_ ?_)
      | (with_reducible refine LeO.bind ?_ (fun _ => ?_))
      | exact impl_LoadsOf.mono _ _ _ _ _
      | exact laws_eqIntS.mono _ _ _
      | exact laws_eqStringS.mono _ _ _
      | exact laws_heldIntS.mono _ _ _
      | exact laws_markIntS.mono _ _ _
      | exact laws_markStringS.mono _ _ _
      | exact laws_szStringS.mono _ _ _
      | exact laws_toStringS.mono _ _
      | exact spec_LoadsOf.mono _ _ _ _ _
      | exact LeO.none _
      | refine LeO.ite ?_ ?_
      | refine LeO.bind ?_ (fun _ => ?_)
noncomputable def laws_FnExactLoadsOf.F (a0 : Int) (a1 : Int) (l2 : List ByteArray) (a3 : Int) : Option (Bool) := lim fun k => laws_FnExactLoadsOf.f k a0 a1 l2 a3
theorem laws_FnExactLoadsOf.F_sup (a0 : Int) (a1 : Int) (l2 : List ByteArray) (a3 : Int) : Sup (fun k => laws_FnExactLoadsOf.f k a0 a1 l2 a3) (laws_FnExactLoadsOf.F a0 a1 l2 a3) := Sup.of_mono fun k => laws_FnExactLoadsOf.mono a0 a1 l2 a3 k
theorem laws_FnExactLoadsOf.F_eq (a0 : Int) (a1 : Int) (l2 : List ByteArray) (a3 : Int) : laws_FnExactLoadsOf.F a0 a1 l2 a3 = (laws_szStringS.F l2 1048576).bind fun t452 => (if t452 < 0 then (some true) else ((laws_toStringS.F l2).bind fun t453 => ((spec_LoadsOf.F a0 a1 t453 a3).bind fun bt456 => ((laws_toStringS.F l2).bind fun t460 => ((impl_LoadsOf.F a0 a1 t460 a3).bind fun bt463 => ((laws_eqIntS.F bt463.1 bt456.1).bind fun t467 => (if t467 = true then (if (bt463.2 != bt456.2) = true then (none) else ((laws_toStringS.F l2).bind fun t468 => ((laws_eqStringS.F t460 t468).bind fun t471 => (if t471 = true then ((laws_markStringS.F t460 1).bind fun bt472 => (if bt472.1 < 0 then (none) else ((laws_eqIntS.F bt463.1 bt456.1).bind fun t474 => (if t474 = true then ((laws_markIntS.F bt463.1 1).bind fun bt475 => ((laws_heldIntS.F bt475.2 1).bind fun t477 => (if t477 < 0 then (none) else (if t477 = bt475.1 then ((laws_toStringS.F l2).bind fun t478 => ((impl_LoadsOf.F a0 a1 t478 a3).bind fun bt481 => ((laws_eqIntS.F bt481.1 bt456.1).bind fun t485 => (if t485 = true then (if (bt481.2 != bt456.2) = true then (none) else ((laws_heldIntS.F bt475.2 1).bind fun t486 => (if t486 < 0 then (none) else (if t486 = bt475.1 then (some true) else (none))))) else (none))))) else (none))))) else (none))))) else (none))))) else (none)))))))) := by
  refine Sup.unique (laws_FnExactLoadsOf.F_sup a0 a1 l2 a3) (Sup.congr (g' := fun k => (laws_szStringS.f k l2 1048576).bind fun t452 => (if t452 < 0 then (some true) else ((laws_toStringS.f k l2).bind fun t453 => ((spec_LoadsOf.f k a0 a1 t453 a3).bind fun bt456 => ((laws_toStringS.f k l2).bind fun t460 => ((impl_LoadsOf.f k a0 a1 t460 a3).bind fun bt463 => ((laws_eqIntS.f k bt463.1 bt456.1).bind fun t467 => (if t467 = true then (if (bt463.2 != bt456.2) = true then (none) else ((laws_toStringS.f k l2).bind fun t468 => ((laws_eqStringS.f k t460 t468).bind fun t471 => (if t471 = true then ((laws_markStringS.f k t460 1).bind fun bt472 => (if bt472.1 < 0 then (none) else ((laws_eqIntS.f k bt463.1 bt456.1).bind fun t474 => (if t474 = true then ((laws_markIntS.f k bt463.1 1).bind fun bt475 => ((laws_heldIntS.f k bt475.2 1).bind fun t477 => (if t477 < 0 then (none) else (if t477 = bt475.1 then ((laws_toStringS.f k l2).bind fun t478 => ((impl_LoadsOf.f k a0 a1 t478 a3).bind fun bt481 => ((laws_eqIntS.f k bt481.1 bt456.1).bind fun t485 => (if t485 = true then (if (bt481.2 != bt456.2) = true then (none) else ((laws_heldIntS.f k bt475.2 1).bind fun t486 => (if t486 < 0 then (none) else (if t486 = bt475.1 then (some true) else (none))))) else (none))))) else (none))))) else (none))))) else (none))))) else (none))))))))) (fun k => by first | rfl | simp only [laws_FnExactLoadsOf.f]) ?_)
  repeat' first
    | (with_reducible exact laws_szStringS.F_sup _ _)
    | (with_reducible exact laws_toStringS.F_sup _)
    | (with_reducible exact laws_eqStringS.F_sup _ _)
    | (with_reducible exact spec_LoadsOf.F_sup _ _ _ _)
    | (with_reducible exact impl_LoadsOf.F_sup _ _ _ _)
    | (with_reducible exact laws_eqIntS.F_sup _ _)
    | (with_reducible exact laws_markStringS.F_sup _ _)
    | (with_reducible exact laws_markIntS.F_sup _ _)
    | (with_reducible exact laws_heldIntS.F_sup _ _)
    | (with_reducible refine Sup.ite ?_ ?_)
    | (with_reducible refine Sup.bind ?_ (fun _ => ?_))
    | (with_reducible exact Sup.const _)
    | exact laws_szStringS.F_sup _ _
    | exact laws_toStringS.F_sup _
    | exact laws_eqStringS.F_sup _ _
    | exact spec_LoadsOf.F_sup _ _ _ _
    | exact impl_LoadsOf.F_sup _ _ _ _
    | exact laws_eqIntS.F_sup _ _
    | exact laws_markStringS.F_sup _ _
    | exact laws_markIntS.F_sup _ _
    | exact laws_heldIntS.F_sup _ _
    | exact Sup.const _
set_option maxHeartbeats 8000000 in
set_option maxRecDepth 100000 in
theorem laws_FnExactLoadsOf.calls (k : Nat) (a0 : Int) (a1 : Int) (A2 : Option Addr) (c2 : Nat) (l2 : List ByteArray) (a3 : Int) (r : Bool) (w : World) (hr2 : Kd.C Kd.string w A2 l2.length l2) (hc2 : l2.length ≤ c2) (h : laws_FnExactLoadsOf.f k a0 a1 l2 a3 = some r) :
    Calls Try.prog 7 #[.int .i64 a0, .int .i64 a1, .slice A2 l2.length c2, .int .i64 a3] w fun e w' => e = .returned (.bool r) ∧ Below w.heap.size w w' := by
  have HR2 := Aside0.mk hr2
  have HC2 := Aside0.mk hc2
  clear hr2 hc2
  have HB := Aside0.mk (Below.refl w.heap.size w)
  have H : ((laws_szStringS.f k l2 1048576).bind fun t452 => (if t452 < 0 then (some true) else ((laws_toStringS.f k l2).bind fun t453 => ((spec_LoadsOf.f k a0 a1 t453 a3).bind fun bt456 => ((laws_toStringS.f k l2).bind fun t460 => ((impl_LoadsOf.f k a0 a1 t460 a3).bind fun bt463 => ((laws_eqIntS.f k bt463.1 bt456.1).bind fun t467 => (if t467 = true then (if (bt463.2 != bt456.2) = true then (none) else ((laws_toStringS.f k l2).bind fun t468 => ((laws_eqStringS.f k t460 t468).bind fun t471 => (if t471 = true then ((laws_markStringS.f k t460 1).bind fun bt472 => (if bt472.1 < 0 then (none) else ((laws_eqIntS.f k bt463.1 bt456.1).bind fun t474 => (if t474 = true then ((laws_markIntS.f k bt463.1 1).bind fun bt475 => ((laws_heldIntS.f k bt475.2 1).bind fun t477 => (if t477 < 0 then (none) else (if t477 = bt475.1 then ((laws_toStringS.f k l2).bind fun t478 => ((impl_LoadsOf.f k a0 a1 t478 a3).bind fun bt481 => ((laws_eqIntS.f k bt481.1 bt456.1).bind fun t485 => (if t485 = true then (if (bt481.2 != bt456.2) = true then (none) else ((laws_heldIntS.f k bt475.2 1).bind fun t486 => (if t486 < 0 then (none) else (if t486 = bt475.1 then (some true) else (none))))) else (none))))) else (none))))) else (none))))) else (none))))) else (none))))))))) = some r := h
  clear h
  replace H := Option.bind_eq_some_iff.mp H
  obtain ⟨t452, A50, H⟩ := H
  replace H : (if t452 < 0 then (some true) else ((laws_toStringS.f k l2).bind fun t453 => ((spec_LoadsOf.f k a0 a1 t453 a3).bind fun bt456 => ((laws_toStringS.f k l2).bind fun t460 => ((impl_LoadsOf.f k a0 a1 t460 a3).bind fun bt463 => ((laws_eqIntS.f k bt463.1 bt456.1).bind fun t467 => (if t467 = true then (if (bt463.2 != bt456.2) = true then (none) else ((laws_toStringS.f k l2).bind fun t468 => ((laws_eqStringS.f k t460 t468).bind fun t471 => (if t471 = true then ((laws_markStringS.f k t460 1).bind fun bt472 => (if bt472.1 < 0 then (none) else ((laws_eqIntS.f k bt463.1 bt456.1).bind fun t474 => (if t474 = true then ((laws_markIntS.f k bt463.1 1).bind fun bt475 => ((laws_heldIntS.f k bt475.2 1).bind fun t477 => (if t477 < 0 then (none) else (if t477 = bt475.1 then ((laws_toStringS.f k l2).bind fun t478 => ((impl_LoadsOf.f k a0 a1 t478 a3).bind fun bt481 => ((laws_eqIntS.f k bt481.1 bt456.1).bind fun t485 => (if t485 = true then (if (bt481.2 != bt456.2) = true then (none) else ((laws_heldIntS.f k bt475.2 1).bind fun t486 => (if t486 < 0 then (none) else (if t486 = bt475.1 then (some true) else (none))))) else (none))))) else (none))))) else (none))))) else (none))))) else (none)))))))) = some r := H
  have A5 := Aside0.mk A50
  clear A50
  by_cases c6 : t452 < 0
  ·rw [if_pos c6] at H
   have c6b0 : decide (t452 < 0) = true := decide_eq_true c6
   clear c6
   obtain rfl := Option.some.inj H
   go_enter Try.func7, Try.ntmps7
   go_wp2_with (first | ((with_reducible refine gate_callee (f := 29) rfl ?_); refine goesL_ (some 22) rfl rfl Try.func29 (by kernel_rfl) rfl #[.slice A2 l2.length c2, .int .i64 1048576] rfl (by (try simp only [List.map_toArray, List.map_cons, List.map_nil]); first | done | rfl | (simp only [List.length_drop, List.length_take]; rfl)) ?_; (with_reducible refine (laws_szStringS.calls k _ _ l2 1048576 t452 _ ?side1 ?side2 A5.out).mono ?_); (case side1 => repeat (first | exact HR2.out | (with_reducible refine Kd.C_alloc ?_ _) | (with_reducible refine Kd.C_drewN ?_ _) | (with_reducible refine Kd.C_drew ?_))); (case side2 => exact HC2.out); rintro e w' ⟨rfl, ⟨nd, rfl⟩⟩; refine ⟨_, rfl, ?_⟩))
   go_ret
   exact ⟨by first | rfl | (simp [errW_none, errW_some] <;> rfl) | (simp [*, errW_none, errW_some] <;> rfl), by repeat (first | (with_reducible first | exact HB.out | apply below_alloc | apply pw_below_drewN | apply below_drew1) | exact HB.out)⟩
  ·rw [if_neg c6] at H
   have c6b0 : decide (t452 < 0) = false := decide_eq_false c6
   clear c6
   replace H := Option.bind_eq_some_iff.mp H
   obtain ⟨t453, A70, H⟩ := H
   replace H : ((spec_LoadsOf.f k a0 a1 t453 a3).bind fun bt456 => ((laws_toStringS.f k l2).bind fun t460 => ((impl_LoadsOf.f k a0 a1 t460 a3).bind fun bt463 => ((laws_eqIntS.f k bt463.1 bt456.1).bind fun t467 => (if t467 = true then (if (bt463.2 != bt456.2) = true then (none) else ((laws_toStringS.f k l2).bind fun t468 => ((laws_eqStringS.f k t460 t468).bind fun t471 => (if t471 = true then ((laws_markStringS.f k t460 1).bind fun bt472 => (if bt472.1 < 0 then (none) else ((laws_eqIntS.f k bt463.1 bt456.1).bind fun t474 => (if t474 = true then ((laws_markIntS.f k bt463.1 1).bind fun bt475 => ((laws_heldIntS.f k bt475.2 1).bind fun t477 => (if t477 < 0 then (none) else (if t477 = bt475.1 then ((laws_toStringS.f k l2).bind fun t478 => ((impl_LoadsOf.f k a0 a1 t478 a3).bind fun bt481 => ((laws_eqIntS.f k bt481.1 bt456.1).bind fun t485 => (if t485 = true then (if (bt481.2 != bt456.2) = true then (none) else ((laws_heldIntS.f k bt475.2 1).bind fun t486 => (if t486 < 0 then (none) else (if t486 = bt475.1 then (some true) else (none))))) else (none))))) else (none))))) else (none))))) else (none))))) else (none)))))) = some r := H
   have A7 := Aside0.mk A70
   clear A70
   replace H := Option.bind_eq_some_iff.mp H
   obtain ⟨⟨t456, t457⟩, A80, H⟩ := H
   replace H : ((laws_toStringS.f k l2).bind fun t460 => ((impl_LoadsOf.f k a0 a1 t460 a3).bind fun bt463 => ((laws_eqIntS.f k bt463.1 t456).bind fun t467 => (if t467 = true then (if (bt463.2 != t457) = true then (none) else ((laws_toStringS.f k l2).bind fun t468 => ((laws_eqStringS.f k t460 t468).bind fun t471 => (if t471 = true then ((laws_markStringS.f k t460 1).bind fun bt472 => (if bt472.1 < 0 then (none) else ((laws_eqIntS.f k bt463.1 t456).bind fun t474 => (if t474 = true then ((laws_markIntS.f k bt463.1 1).bind fun bt475 => ((laws_heldIntS.f k bt475.2 1).bind fun t477 => (if t477 < 0 then (none) else (if t477 = bt475.1 then ((laws_toStringS.f k l2).bind fun t478 => ((impl_LoadsOf.f k a0 a1 t478 a3).bind fun bt481 => ((laws_eqIntS.f k bt481.1 t456).bind fun t485 => (if t485 = true then (if (bt481.2 != t457) = true then (none) else ((laws_heldIntS.f k bt475.2 1).bind fun t486 => (if t486 < 0 then (none) else (if t486 = bt475.1 then (some true) else (none))))) else (none))))) else (none))))) else (none))))) else (none))))) else (none))))) = some r := H
   have A8 := Aside0.mk A80
   clear A80
   replace H := Option.bind_eq_some_iff.mp H
   obtain ⟨t460, A90, H⟩ := H
   replace H : ((impl_LoadsOf.f k a0 a1 t460 a3).bind fun bt463 => ((laws_eqIntS.f k bt463.1 t456).bind fun t467 => (if t467 = true then (if (bt463.2 != t457) = true then (none) else ((laws_toStringS.f k l2).bind fun t468 => ((laws_eqStringS.f k t460 t468).bind fun t471 => (if t471 = true then ((laws_markStringS.f k t460 1).bind fun bt472 => (if bt472.1 < 0 then (none) else ((laws_eqIntS.f k bt463.1 t456).bind fun t474 => (if t474 = true then ((laws_markIntS.f k bt463.1 1).bind fun bt475 => ((laws_heldIntS.f k bt475.2 1).bind fun t477 => (if t477 < 0 then (none) else (if t477 = bt475.1 then ((laws_toStringS.f k l2).bind fun t478 => ((impl_LoadsOf.f k a0 a1 t478 a3).bind fun bt481 => ((laws_eqIntS.f k bt481.1 t456).bind fun t485 => (if t485 = true then (if (bt481.2 != t457) = true then (none) else ((laws_heldIntS.f k bt475.2 1).bind fun t486 => (if t486 < 0 then (none) else (if t486 = bt475.1 then (some true) else (none))))) else (none))))) else (none))))) else (none))))) else (none))))) else (none)))) = some r := H
   have A9 := Aside0.mk A90
   clear A90
   replace H := Option.bind_eq_some_iff.mp H
   obtain ⟨⟨t463, t464⟩, A100, H⟩ := H
   replace H : ((laws_eqIntS.f k t463 t456).bind fun t467 => (if t467 = true then (if (t464 != t457) = true then (none) else ((laws_toStringS.f k l2).bind fun t468 => ((laws_eqStringS.f k t460 t468).bind fun t471 => (if t471 = true then ((laws_markStringS.f k t460 1).bind fun bt472 => (if bt472.1 < 0 then (none) else ((laws_eqIntS.f k t463 t456).bind fun t474 => (if t474 = true then ((laws_markIntS.f k t463 1).bind fun bt475 => ((laws_heldIntS.f k bt475.2 1).bind fun t477 => (if t477 < 0 then (none) else (if t477 = bt475.1 then ((laws_toStringS.f k l2).bind fun t478 => ((impl_LoadsOf.f k a0 a1 t478 a3).bind fun bt481 => ((laws_eqIntS.f k bt481.1 t456).bind fun t485 => (if t485 = true then (if (bt481.2 != t457) = true then (none) else ((laws_heldIntS.f k bt475.2 1).bind fun t486 => (if t486 < 0 then (none) else (if t486 = bt475.1 then (some true) else (none))))) else (none))))) else (none))))) else (none))))) else (none))))) else (none))) = some r := H
   have A10 := Aside0.mk A100
   clear A100
   replace H := Option.bind_eq_some_iff.mp H
   obtain ⟨t467, A110, H⟩ := H
   replace H : (if t467 = true then (if (t464 != t457) = true then (none) else ((laws_toStringS.f k l2).bind fun t468 => ((laws_eqStringS.f k t460 t468).bind fun t471 => (if t471 = true then ((laws_markStringS.f k t460 1).bind fun bt472 => (if bt472.1 < 0 then (none) else ((laws_eqIntS.f k t463 t456).bind fun t474 => (if t474 = true then ((laws_markIntS.f k t463 1).bind fun bt475 => ((laws_heldIntS.f k bt475.2 1).bind fun t477 => (if t477 < 0 then (none) else (if t477 = bt475.1 then ((laws_toStringS.f k l2).bind fun t478 => ((impl_LoadsOf.f k a0 a1 t478 a3).bind fun bt481 => ((laws_eqIntS.f k bt481.1 t456).bind fun t485 => (if t485 = true then (if (bt481.2 != t457) = true then (none) else ((laws_heldIntS.f k bt475.2 1).bind fun t486 => (if t486 < 0 then (none) else (if t486 = bt475.1 then (some true) else (none))))) else (none))))) else (none))))) else (none))))) else (none))))) else (none)) = some r := H
   have A11 := Aside0.mk A110
   clear A110
   by_cases c12 : t467 = true
   ·subst c12
    have H1 : (if (t464 != t457) = true then (none) else ((laws_toStringS.f k l2).bind fun t468 => ((laws_eqStringS.f k t460 t468).bind fun t471 => (if t471 = true then ((laws_markStringS.f k t460 1).bind fun bt472 => (if bt472.1 < 0 then (none) else ((laws_eqIntS.f k t463 t456).bind fun t474 => (if t474 = true then ((laws_markIntS.f k t463 1).bind fun bt475 => ((laws_heldIntS.f k bt475.2 1).bind fun t477 => (if t477 < 0 then (none) else (if t477 = bt475.1 then ((laws_toStringS.f k l2).bind fun t478 => ((impl_LoadsOf.f k a0 a1 t478 a3).bind fun bt481 => ((laws_eqIntS.f k bt481.1 t456).bind fun t485 => (if t485 = true then (if (bt481.2 != t457) = true then (none) else ((laws_heldIntS.f k bt475.2 1).bind fun t486 => (if t486 < 0 then (none) else (if t486 = bt475.1 then (some true) else (none))))) else (none))))) else (none))))) else (none))))) else (none))))) = some r := by rw [if_pos rfl] at H; exact H
    clear H
    have H := H1
    clear H1
    by_cases c13 : (t464 != t457) = true
    ·rw [if_pos c13] at H
     exact absurd H (by simp)
    ·rw [if_neg c13] at H
     have c13b0 : (t464 != t457) = false := by simpa using c13
     (try (have c13b1 : decide (t464 = t457) = true := by simpa using c13))
     (try (have c13b2 : (t464 == t457) = true := by simpa using c13))
     clear c13
     replace H := Option.bind_eq_some_iff.mp H
     obtain ⟨t468, A140, H⟩ := H
     replace H : ((laws_eqStringS.f k t460 t468).bind fun t471 => (if t471 = true then ((laws_markStringS.f k t460 1).bind fun bt472 => (if bt472.1 < 0 then (none) else ((laws_eqIntS.f k t463 t456).bind fun t474 => (if t474 = true then ((laws_markIntS.f k t463 1).bind fun bt475 => ((laws_heldIntS.f k bt475.2 1).bind fun t477 => (if t477 < 0 then (none) else (if t477 = bt475.1 then ((laws_toStringS.f k l2).bind fun t478 => ((impl_LoadsOf.f k a0 a1 t478 a3).bind fun bt481 => ((laws_eqIntS.f k bt481.1 t456).bind fun t485 => (if t485 = true then (if (bt481.2 != t457) = true then (none) else ((laws_heldIntS.f k bt475.2 1).bind fun t486 => (if t486 < 0 then (none) else (if t486 = bt475.1 then (some true) else (none))))) else (none))))) else (none))))) else (none))))) else (none))) = some r := H
     have A14 := Aside0.mk A140
     clear A140
     replace H := Option.bind_eq_some_iff.mp H
     obtain ⟨t471, A150, H⟩ := H
     replace H : (if t471 = true then ((laws_markStringS.f k t460 1).bind fun bt472 => (if bt472.1 < 0 then (none) else ((laws_eqIntS.f k t463 t456).bind fun t474 => (if t474 = true then ((laws_markIntS.f k t463 1).bind fun bt475 => ((laws_heldIntS.f k bt475.2 1).bind fun t477 => (if t477 < 0 then (none) else (if t477 = bt475.1 then ((laws_toStringS.f k l2).bind fun t478 => ((impl_LoadsOf.f k a0 a1 t478 a3).bind fun bt481 => ((laws_eqIntS.f k bt481.1 t456).bind fun t485 => (if t485 = true then (if (bt481.2 != t457) = true then (none) else ((laws_heldIntS.f k bt475.2 1).bind fun t486 => (if t486 < 0 then (none) else (if t486 = bt475.1 then (some true) else (none))))) else (none))))) else (none))))) else (none))))) else (none)) = some r := H
     have A15 := Aside0.mk A150
     clear A150
     by_cases c16 : t471 = true
     ·subst c16
      have H1 : ((laws_markStringS.f k t460 1).bind fun bt472 => (if bt472.1 < 0 then (none) else ((laws_eqIntS.f k t463 t456).bind fun t474 => (if t474 = true then ((laws_markIntS.f k t463 1).bind fun bt475 => ((laws_heldIntS.f k bt475.2 1).bind fun t477 => (if t477 < 0 then (none) else (if t477 = bt475.1 then ((laws_toStringS.f k l2).bind fun t478 => ((impl_LoadsOf.f k a0 a1 t478 a3).bind fun bt481 => ((laws_eqIntS.f k bt481.1 t456).bind fun t485 => (if t485 = true then (if (bt481.2 != t457) = true then (none) else ((laws_heldIntS.f k bt475.2 1).bind fun t486 => (if t486 < 0 then (none) else (if t486 = bt475.1 then (some true) else (none))))) else (none))))) else (none))))) else (none))))) = some r := by rw [if_pos rfl] at H; exact H
      clear H
      have H := H1
      clear H1
      replace H := Option.bind_eq_some_iff.mp H
      obtain ⟨⟨t472, t473⟩, A170, H⟩ := H
      replace H : (if t472 < 0 then (none) else ((laws_eqIntS.f k t463 t456).bind fun t474 => (if t474 = true then ((laws_markIntS.f k t463 1).bind fun bt475 => ((laws_heldIntS.f k bt475.2 1).bind fun t477 => (if t477 < 0 then (none) else (if t477 = bt475.1 then ((laws_toStringS.f k l2).bind fun t478 => ((impl_LoadsOf.f k a0 a1 t478 a3).bind fun bt481 => ((laws_eqIntS.f k bt481.1 t456).bind fun t485 => (if t485 = true then (if (bt481.2 != t457) = true then (none) else ((laws_heldIntS.f k bt475.2 1).bind fun t486 => (if t486 < 0 then (none) else (if t486 = bt475.1 then (some true) else (none))))) else (none))))) else (none))))) else (none)))) = some r := H
      have A17 := Aside0.mk A170
      clear A170
      by_cases c18 : t472 < 0
      ·rw [if_pos c18] at H
       exact absurd H (by simp)
      ·rw [if_neg c18] at H
       have c18b0 : decide (t472 < 0) = false := decide_eq_false c18
       clear c18
       replace H := Option.bind_eq_some_iff.mp H
       obtain ⟨t474, A190, H⟩ := H
       replace H : (if t474 = true then ((laws_markIntS.f k t463 1).bind fun bt475 => ((laws_heldIntS.f k bt475.2 1).bind fun t477 => (if t477 < 0 then (none) else (if t477 = bt475.1 then ((laws_toStringS.f k l2).bind fun t478 => ((impl_LoadsOf.f k a0 a1 t478 a3).bind fun bt481 => ((laws_eqIntS.f k bt481.1 t456).bind fun t485 => (if t485 = true then (if (bt481.2 != t457) = true then (none) else ((laws_heldIntS.f k bt475.2 1).bind fun t486 => (if t486 < 0 then (none) else (if t486 = bt475.1 then (some true) else (none))))) else (none))))) else (none))))) else (none)) = some r := H
       have A19 := Aside0.mk A190
       clear A190
       by_cases c20 : t474 = true
       ·subst c20
        have H1 : ((laws_markIntS.f k t463 1).bind fun bt475 => ((laws_heldIntS.f k bt475.2 1).bind fun t477 => (if t477 < 0 then (none) else (if t477 = bt475.1 then ((laws_toStringS.f k l2).bind fun t478 => ((impl_LoadsOf.f k a0 a1 t478 a3).bind fun bt481 => ((laws_eqIntS.f k bt481.1 t456).bind fun t485 => (if t485 = true then (if (bt481.2 != t457) = true then (none) else ((laws_heldIntS.f k bt475.2 1).bind fun t486 => (if t486 < 0 then (none) else (if t486 = bt475.1 then (some true) else (none))))) else (none))))) else (none))))) = some r := by rw [if_pos rfl] at H; exact H
        clear H
        have H := H1
        clear H1
        replace H := Option.bind_eq_some_iff.mp H
        obtain ⟨⟨t475, t476⟩, A210, H⟩ := H
        replace H : ((laws_heldIntS.f k t476 1).bind fun t477 => (if t477 < 0 then (none) else (if t477 = t475 then ((laws_toStringS.f k l2).bind fun t478 => ((impl_LoadsOf.f k a0 a1 t478 a3).bind fun bt481 => ((laws_eqIntS.f k bt481.1 t456).bind fun t485 => (if t485 = true then (if (bt481.2 != t457) = true then (none) else ((laws_heldIntS.f k t476 1).bind fun t486 => (if t486 < 0 then (none) else (if t486 = t475 then (some true) else (none))))) else (none))))) else (none)))) = some r := H
        have A21 := Aside0.mk A210
        clear A210
        replace H := Option.bind_eq_some_iff.mp H
        obtain ⟨t477, A220, H⟩ := H
        replace H : (if t477 < 0 then (none) else (if t477 = t475 then ((laws_toStringS.f k l2).bind fun t478 => ((impl_LoadsOf.f k a0 a1 t478 a3).bind fun bt481 => ((laws_eqIntS.f k bt481.1 t456).bind fun t485 => (if t485 = true then (if (bt481.2 != t457) = true then (none) else ((laws_heldIntS.f k t476 1).bind fun t486 => (if t486 < 0 then (none) else (if t486 = t475 then (some true) else (none))))) else (none))))) else (none))) = some r := H
        have A22 := Aside0.mk A220
        clear A220
        by_cases c23 : t477 < 0
        ·rw [if_pos c23] at H
         exact absurd H (by simp)
        ·rw [if_neg c23] at H
         have c23b0 : decide (t477 < 0) = false := decide_eq_false c23
         clear c23
         by_cases c24 : t477 = t475
         ·rw [if_pos c24] at H
          have c24b0 : (t477 == t475) = true := beq_iff_eq.mpr c24
          have c24b1 : (t477 != t475) = false := bne_eq_false_iff_eq.mpr c24
          clear c24
          replace H := Option.bind_eq_some_iff.mp H
          obtain ⟨t478, A250, H⟩ := H
          replace H : ((impl_LoadsOf.f k a0 a1 t478 a3).bind fun bt481 => ((laws_eqIntS.f k bt481.1 t456).bind fun t485 => (if t485 = true then (if (bt481.2 != t457) = true then (none) else ((laws_heldIntS.f k t476 1).bind fun t486 => (if t486 < 0 then (none) else (if t486 = t475 then (some true) else (none))))) else (none)))) = some r := H
          have A25 := Aside0.mk A250
          clear A250
          replace H := Option.bind_eq_some_iff.mp H
          obtain ⟨⟨t481, t482⟩, A260, H⟩ := H
          replace H : ((laws_eqIntS.f k t481 t456).bind fun t485 => (if t485 = true then (if (t482 != t457) = true then (none) else ((laws_heldIntS.f k t476 1).bind fun t486 => (if t486 < 0 then (none) else (if t486 = t475 then (some true) else (none))))) else (none))) = some r := H
          have A26 := Aside0.mk A260
          clear A260
          replace H := Option.bind_eq_some_iff.mp H
          obtain ⟨t485, A270, H⟩ := H
          replace H : (if t485 = true then (if (t482 != t457) = true then (none) else ((laws_heldIntS.f k t476 1).bind fun t486 => (if t486 < 0 then (none) else (if t486 = t475 then (some true) else (none))))) else (none)) = some r := H
          have A27 := Aside0.mk A270
          clear A270
          by_cases c28 : t485 = true
          ·subst c28
           have H1 : (if (t482 != t457) = true then (none) else ((laws_heldIntS.f k t476 1).bind fun t486 => (if t486 < 0 then (none) else (if t486 = t475 then (some true) else (none))))) = some r := by rw [if_pos rfl] at H; exact H
           clear H
           have H := H1
           clear H1
           by_cases c29 : (t482 != t457) = true
           ·rw [if_pos c29] at H
            exact absurd H (by simp)
           ·rw [if_neg c29] at H
            have c29b0 : (t482 != t457) = false := by simpa using c29
            (try (have c29b1 : decide (t482 = t457) = true := by simpa using c29))
            (try (have c29b2 : (t482 == t457) = true := by simpa using c29))
            clear c29
            replace H := Option.bind_eq_some_iff.mp H
            obtain ⟨t486, A300, H⟩ := H
            replace H : (if t486 < 0 then (none) else (if t486 = t475 then (some true) else (none))) = some r := H
            have A30 := Aside0.mk A300
            clear A300
            by_cases c31 : t486 < 0
            ·rw [if_pos c31] at H
             exact absurd H (by simp)
            ·rw [if_neg c31] at H
             have c31b0 : decide (t486 < 0) = false := decide_eq_false c31
             clear c31
             by_cases c32 : t486 = t475
             ·rw [if_pos c32] at H
              have c32b0 : (t486 == t475) = true := beq_iff_eq.mpr c32
              have c32b1 : (t486 != t475) = false := bne_eq_false_iff_eq.mpr c32
              clear c32
              obtain rfl := Option.some.inj H
              go_enter Try.func7, Try.ntmps7
              go_wp2_with (first | ((with_reducible refine gate_callee (f := 29) rfl ?_); refine goesL_ (some 22) rfl rfl Try.func29 (by kernel_rfl) rfl #[.slice A2 l2.length c2, .int .i64 1048576] rfl (by (try simp only [List.map_toArray, List.map_cons, List.map_nil]); first | done | rfl | (simp only [List.length_drop, List.length_take]; rfl)) ?_; (with_reducible refine (laws_szStringS.calls k _ _ l2 1048576 t452 _ ?side1 ?side2 A5.out).mono ?_); (case side1 => repeat (first | exact HR2.out | (with_reducible refine Kd.C_alloc ?_ _) | (with_reducible refine Kd.C_drewN ?_ _) | (with_reducible refine Kd.C_drew ?_))); (case side2 => exact HC2.out); rintro e w' ⟨rfl, ⟨nd, rfl⟩⟩; refine ⟨_, rfl, ?_⟩) | ((with_reducible refine gate_callee (f := 31) rfl ?_); refine goesL_ (some 29) rfl rfl Try.func31 (by kernel_rfl) rfl #[.slice A2 l2.length c2] rfl (by (try simp only [List.map_toArray, List.map_cons, List.map_nil]); first | done | rfl | (simp only [List.length_drop, List.length_take]; rfl)) ?_; (with_reducible refine (laws_toStringS.calls k _ _ l2 t453 _ ?side1 ?side2 A7.out).mono ?_); (case side1 => repeat (first | exact HR2.out | (with_reducible refine Kd.C_alloc ?_ _) | (with_reducible refine Kd.C_drewN ?_ _) | (with_reducible refine Kd.C_drew ?_))); (case side2 => exact HC2.out); rintro e w33 ⟨v454, rfl, ho0, hb⟩; refine ⟨_, rfl, ?_⟩; have n0_ := Aside0.mk (Kd.R_lower ho0 (below_size (by repeat (first | (with_reducible first | exact HB.out | apply below_alloc | apply pw_below_drewN | apply below_drew1) | exact HB.out)))); have n1_ := Aside0.mk (below_step (by repeat (first | (with_reducible first | exact HB.out | apply below_alloc | apply pw_below_drewN | apply below_drew1) | exact HB.out)) hb); clear HB; have HO455 := n0_; have HB := n1_; clear n0_ n1_; (try clear hb); (try clear hb2); (try clear hk); (try clear hi); (try clear ho0); obtain ⟨Ao34, co34, eo34⟩ := Kd.R_slice HO455.out; subst eo34) | ((with_reducible refine gate_callee (f := 38) rfl ?_); refine goesL_ (some 31) rfl rfl Try.func38 (by kernel_rfl) rfl #[.int .i64 a0, .int .i64 a1, .slice Ao34 t453.length co34, .int .i64 a3] rfl (by (try simp only [List.map_toArray, List.map_cons, List.map_nil]); first | done | rfl | (simp only [List.length_drop, List.length_take]; rfl)) ?_; (with_reducible refine (spec_LoadsOf.calls k a0 a1 _ _ t453 a3 t456 t457 _ ?side1 ?side2 A8.out).mono ?_); (case side1 => repeat (first | exact (Kd.R_reads' HO455.out).2.2 | (with_reducible refine Kd.C_alloc ?_ _) | (with_reducible refine Kd.C_drewN ?_ _) | (with_reducible refine Kd.C_drew ?_))); (case side2 => exact (Kd.R_reads' HO455.out).2.1); rintro e w35 ⟨v458, rfl, ho0, hb⟩; refine ⟨_, rfl, ?_⟩; have n0_ := Aside0.mk (Kd.R_below (by (with_reducible repeat (first | apply Kd.R_alloc | apply Kd.R_drewN | apply Kd.R_drew)); exact HO455.out) hb); have n1_ := Aside0.mk (Kd.R_lower ho0 (below_size (by repeat (first | (with_reducible first | exact HB.out | apply below_alloc | apply pw_below_drewN | apply below_drew1) | exact HB.out)))); have n2_ := Aside0.mk (below_step (by repeat (first | (with_reducible first | exact HB.out | apply below_alloc | apply pw_below_drewN | apply below_drew1) | exact HB.out)) hb); clear HO455; clear HB; have HO455 := n0_; have HO459 := n1_; have HB := n2_; clear n0_ n1_ n2_; (try clear hb); (try clear hb2); (try clear hk); (try clear hi); (try clear ho0)) | ((with_reducible refine gate_callee (f := 31) rfl ?_); refine goesL_ (some 35) rfl rfl Try.func31 (by kernel_rfl) rfl #[.slice A2 l2.length c2] rfl (by (try simp only [List.map_toArray, List.map_cons, List.map_nil]); first | done | rfl | (simp only [List.length_drop, List.length_take]; rfl)) ?_; (with_reducible refine (laws_toStringS.calls k _ _ l2 t460 _ ?side1 ?side2 A9.out).mono ?_); (case side1 => repeat (first | exact (Kd.C_below HR2.out HB.out) | (with_reducible refine Kd.C_alloc ?_ _) | (with_reducible refine Kd.C_drewN ?_ _) | (with_reducible refine Kd.C_drew ?_))); (case side2 => exact HC2.out); rintro e w36 ⟨v461, rfl, ho0, hb⟩; refine ⟨_, rfl, ?_⟩; have n0_ := Aside0.mk (Kd.R_elder' (by (with_reducible repeat (first | apply Kd.R_alloc | apply Kd.R_drewN | apply Kd.R_drew)); exact HO455.out) (Kd.R_base ho0) hb); have n1_ := Aside0.mk (Kd.R_below (by (with_reducible repeat (first | apply Kd.R_alloc | apply Kd.R_drewN | apply Kd.R_drew)); exact HO459.out) hb); have n2_ := Aside0.mk (Kd.R_lower (Kd.R_new' ho0 (Kd.R_lt (by (with_reducible repeat (first | apply Kd.R_alloc | apply Kd.R_drewN | apply Kd.R_drew)); exact HO455.out))) (below_size (by repeat (first | (with_reducible first | exact HB.out | apply below_alloc | apply pw_below_drewN | apply below_drew1) | exact HB.out)))); have n3_ := Aside0.mk (below_step (by repeat (first | (with_reducible first | exact HB.out | apply below_alloc | apply pw_below_drewN | apply below_drew1) | exact HB.out)) hb); clear HO455; clear HO459; clear HB; have HO455 := n0_; have HO459 := n1_; have HO462 := n2_; have HB := n3_; clear n0_ n1_ n2_ n3_; (try clear hb); (try clear hb2); (try clear hk); (try clear hi); (try clear ho0); obtain ⟨Ao37, co37, eo37⟩ := Kd.R_slice HO462.out; subst eo37) | ((with_reducible refine gate_callee (f := 39) rfl ?_); refine goesL_ (some 41) rfl rfl Try.func39 (by kernel_rfl) rfl #[.int .i64 a0, .int .i64 a1, .slice Ao37 t460.length co37, .int .i64 a3] rfl (by (try simp only [List.map_toArray, List.map_cons, List.map_nil]); first | done | rfl | (simp only [List.length_drop, List.length_take]; rfl)) ?_; (with_reducible refine (impl_LoadsOf.calls k a0 a1 _ _ t460 a3 t463 t464 _ ?side1 ?side2 A10.out).mono ?_); (case side1 => repeat (first | exact (Kd.R_reads' HO462.out).2.2 | (with_reducible refine Kd.C_alloc ?_ _) | (with_reducible refine Kd.C_drewN ?_ _) | (with_reducible refine Kd.C_drew ?_))); (case side2 => exact (Kd.R_reads' HO462.out).2.1); rintro e w38 ⟨v465, rfl, ho0, hb⟩; refine ⟨_, rfl, ?_⟩; have n0_ := Aside0.mk (Kd.R_below (by (with_reducible repeat (first | apply Kd.R_alloc | apply Kd.R_drewN | apply Kd.R_drew)); exact HO455.out) hb); have n1_ := Aside0.mk (Kd.R_elder' (by (with_reducible repeat (first | apply Kd.R_alloc | apply Kd.R_drewN | apply Kd.R_drew)); exact HO459.out) (Kd.R_base ho0) hb); have n2_ := Aside0.mk (Kd.R_below (by (with_reducible repeat (first | apply Kd.R_alloc | apply Kd.R_drewN | apply Kd.R_drew)); exact HO462.out) hb); have n3_ := Aside0.mk (Kd.R_lower (Kd.R_new' ho0 (Kd.R_lt (by (with_reducible repeat (first | apply Kd.R_alloc | apply Kd.R_drewN | apply Kd.R_drew)); exact HO459.out))) (below_size (by repeat (first | (with_reducible first | exact HB.out | apply below_alloc | apply pw_below_drewN | apply below_drew1) | exact HB.out)))); have n4_ := Aside0.mk (below_step (by repeat (first | (with_reducible first | exact HB.out | apply below_alloc | apply pw_below_drewN | apply below_drew1) | exact HB.out)) hb); clear HO455; clear HO459; clear HO462; clear HB; have HO455 := n0_; have HO459 := n1_; have HO462 := n2_; have HO466 := n3_; have HB := n4_; clear n0_ n1_ n2_ n3_ n4_; (try clear hb); (try clear hb2); (try clear hk); (try clear hi); (try clear ho0); obtain ⟨Ao39, co39, eo39⟩ := Kd.R_slice HO466.out; subst eo39; obtain ⟨Ao40, co40, eo40⟩ := Kd.R_slice HO459.out; subst eo40) | ((with_reducible refine gate_callee (f := 40) rfl ?_); refine goesL_ (some 46) rfl rfl Try.func40 (by kernel_rfl) rfl #[.slice Ao39 t463.length co39, .slice Ao40 t456.length co40] rfl (by (try simp only [List.map_toArray, List.map_cons, List.map_nil]); first | done | rfl | (simp only [List.length_drop, List.length_take]; rfl)) ?_; (with_reducible refine (laws_eqIntS.calls k _ _ t463 _ _ t456 true _ ?side1 ?side2 ?side3 ?side4 A11.out).mono ?_); (case side1 => repeat (first | exact (Kd.R_reads' HO466.out).2.2 | (with_reducible refine Kd.C_alloc ?_ _) | (with_reducible refine Kd.C_drewN ?_ _) | (with_reducible refine Kd.C_drew ?_))); (case side2 => exact (Kd.R_reads' HO466.out).2.1); (case side3 => repeat (first | exact (Kd.R_reads' HO459.out).2.2 | (with_reducible refine Kd.C_alloc ?_ _) | (with_reducible refine Kd.C_drewN ?_ _) | (with_reducible refine Kd.C_drew ?_))); (case side4 => exact (Kd.R_reads' HO459.out).2.1); rintro e w' ⟨rfl, ⟨nd, rfl⟩⟩; refine ⟨_, rfl, ?_⟩) | ((with_reducible refine gate_callee (f := 31) rfl ?_); refine goesL_ (some 55) rfl rfl Try.func31 (by kernel_rfl) rfl #[.slice A2 l2.length c2] rfl (by (try simp only [List.map_toArray, List.map_cons, List.map_nil]); first | done | rfl | (simp only [List.length_drop, List.length_take]; rfl)) ?_; (with_reducible refine (laws_toStringS.calls k _ _ l2 t468 _ ?side1 ?side2 A14.out).mono ?_); (case side1 => repeat (first | exact (Kd.C_below HR2.out (by repeat (first | (with_reducible first | exact HB.out | apply below_alloc | apply pw_below_drewN | apply below_drew1) | exact HB.out))) | (with_reducible refine Kd.C_alloc ?_ _) | (with_reducible refine Kd.C_drewN ?_ _) | (with_reducible refine Kd.C_drew ?_))); (case side2 => exact HC2.out); rintro e w41 ⟨v469, rfl, ho0, hb⟩; refine ⟨_, rfl, ?_⟩; have n0_ := Aside0.mk (Kd.R_elder' (by (with_reducible repeat (first | apply Kd.R_alloc | apply Kd.R_drewN | apply Kd.R_drew)); exact HO455.out) (Kd.R_base ho0) hb); have n1_ := Aside0.mk (Kd.R_below (by (with_reducible repeat (first | apply Kd.R_alloc | apply Kd.R_drewN | apply Kd.R_drew)); exact HO459.out) hb); have n2_ := Aside0.mk (Kd.R_elder' (by (with_reducible repeat (first | apply Kd.R_alloc | apply Kd.R_drewN | apply Kd.R_drew)); exact HO462.out) (Kd.R_base ho0) hb); have n3_ := Aside0.mk (Kd.R_below (by (with_reducible repeat (first | apply Kd.R_alloc | apply Kd.R_drewN | apply Kd.R_drew)); exact HO466.out) hb); have n4_ := Aside0.mk (Kd.R_lower (Kd.R_new' (Kd.R_new' ho0 (Kd.R_lt (by (with_reducible repeat (first | apply Kd.R_alloc | apply Kd.R_drewN | apply Kd.R_drew)); exact HO455.out))) (Kd.R_lt (by (with_reducible repeat (first | apply Kd.R_alloc | apply Kd.R_drewN | apply Kd.R_drew)); exact HO462.out))) (below_size (by repeat (first | (with_reducible first | exact HB.out | apply below_alloc | apply pw_below_drewN | apply below_drew1) | exact HB.out)))); have n5_ := Aside0.mk (below_step (by repeat (first | (with_reducible first | exact HB.out | apply below_alloc | apply pw_below_drewN | apply below_drew1) | exact HB.out)) hb); clear HO455; clear HO459; clear HO462; clear HO466; clear HB; have HO455 := n0_; have HO459 := n1_; have HO462 := n2_; have HO466 := n3_; have HO470 := n4_; have HB := n5_; clear n0_ n1_ n2_ n3_ n4_ n5_; (try clear hb); (try clear hb2); (try clear hk); (try clear hi); (try clear ho0); obtain ⟨Ao42, co42, eo42⟩ := Kd.R_slice HO470.out; subst eo42) | ((with_reducible refine gate_callee (f := 33) rfl ?_); refine goesL_ (some 56) rfl rfl Try.func33 (by kernel_rfl) rfl #[.slice Ao37 t460.length co37, .slice Ao42 t468.length co42] rfl (by (try simp only [List.map_toArray, List.map_cons, List.map_nil]); first | done | rfl | (simp only [List.length_drop, List.length_take]; rfl)) ?_; (with_reducible refine (laws_eqStringS.calls k _ _ t460 _ _ t468 true _ ?side1 ?side2 ?side3 ?side4 A15.out).mono ?_); (case side1 => repeat (first | exact (Kd.R_reads' HO462.out).2.2 | (with_reducible refine Kd.C_alloc ?_ _) | (with_reducible refine Kd.C_drewN ?_ _) | (with_reducible refine Kd.C_drew ?_))); (case side2 => exact (Kd.R_reads' HO462.out).2.1); (case side3 => repeat (first | exact (Kd.R_reads' HO470.out).2.2 | (with_reducible refine Kd.C_alloc ?_ _) | (with_reducible refine Kd.C_drewN ?_ _) | (with_reducible refine Kd.C_drew ?_))); (case side4 => exact (Kd.R_reads' HO470.out).2.1); rintro e w' ⟨rfl, ⟨nd, rfl⟩⟩; refine ⟨_, rfl, ?_⟩) | ((with_reducible refine gate_callee (f := 41) rfl ?_); refine goesL_ (some 60) rfl rfl Try.func41 (by kernel_rfl) rfl #[.slice Ao37 t460.length co37, .int .i64 1] rfl (by (try simp only [List.map_toArray, List.map_cons, List.map_nil]); first | done | rfl | (simp only [List.length_drop, List.length_take]; rfl)) ?_; (with_reducible refine (laws_markStringS.calls k (fun k_ => some k_ = (.slice Ao37 t460.length co37 : Value).ownBlock) (.slice Ao37 t460.length co37) t460 1 t472 t473 w _ ?side1 ?side2 A17.out).mono ?_); (case side1 => repeat (first | (with_reducible first | exact HB.out | apply below_alloc | apply pw_below_drewN | apply below_drew1) | exact HB.out)); (case side2 => exact Kd.R_tight rfl HO462.out); rintro e w43 ⟨rfl, hy0, hb, hkp⟩; refine ⟨_, rfl, ?_⟩; have n0_ := Aside0.mk (Kd.R_mono (ok' := fun k_ => some k_ ≠ (.slice Ao37 t460.length co37 : Value).ownBlock ∧ some k_ ≠ (.slice Ao42 t468.length co42 : Value).ownBlock) (Kd.R_keptB (HO455.out) hkp (fun k_ hk_ hs_ => (hk_.1.2) hs_)) (fun k_ hk_ => ⟨hk_.1.1.2, hk_.1.2⟩)); have n1_ := Aside0.mk (Kd.R_mono (ok' := fun k_ => some k_ ≠ (.slice Ao39 t463.length co39 : Value).ownBlock) (Kd.R_keptB ((Kd.R_apart' HO459.out (Kd.R_typed HO462.out) (by decide))) hkp (fun k_ hk_ hs_ => (hk_.2) hs_)) (fun k_ hk_ => hk_.1.1.2)); have n2_ := Aside0.mk (Kd.R_reok rfl hy0 (fun k_ e_ => HO462.out.1 k_ e_)); have n3_ := Aside0.mk (Kd.R_mono (ok' := fun k_ => some k_ ≠ (.slice Ao40 t456.length co40 : Value).ownBlock) (Kd.R_keptB ((Kd.R_apart' HO466.out (Kd.R_typed HO462.out) (by decide))) hkp (fun k_ hk_ hs_ => (hk_.2) hs_)) (fun k_ hk_ => hk_.1.1.2)); have n4_ := Aside0.mk (Kd.R_mono (ok' := fun k_ => some k_ ≠ (.slice Ao34 t453.length co34 : Value).ownBlock ∧ some k_ ≠ (.slice Ao37 t460.length co37 : Value).ownBlock) (Kd.R_keptB (HO470.out) hkp (fun k_ hk_ hs_ => (hk_.2) hs_)) (fun k_ hk_ => ⟨hk_.1.1.2, hk_.1.2⟩)); have n5_ := Aside0.mk (hb); clear HO455; clear HO459; clear HO462; clear HO466; clear HO470; clear HB; have HO455 := n0_; have HO459 := n1_; have HO462 := n2_; have HO466 := n3_; have HO470 := n4_; have HB := n5_; clear n0_ n1_ n2_ n3_ n4_ n5_; (try clear hb); (try clear hkp); (try clear hy0)) | (go_at_call 40; (with_reducible refine (laws_eqIntS.calls k _ _ t463 _ _ t456 true _ ?side1 ?side2 ?side3 ?side4 A19.out).mono ?_); (case side1 => repeat (first | exact (Kd.R_reads' HO466.out).2.2 | (with_reducible refine Kd.C_alloc ?_ _) | (with_reducible refine Kd.C_drewN ?_ _) | (with_reducible refine Kd.C_drew ?_))); (case side2 => exact (Kd.R_reads' HO466.out).2.1); (case side3 => repeat (first | exact (Kd.R_reads' HO459.out).2.2 | (with_reducible refine Kd.C_alloc ?_ _) | (with_reducible refine Kd.C_drewN ?_ _) | (with_reducible refine Kd.C_drew ?_))); (case side4 => exact (Kd.R_reads' HO459.out).2.1); rintro e w' ⟨rfl, ⟨nd, rfl⟩⟩) | ((with_reducible refine gate_callee (f := 42) rfl ?_); refine goesL_ (some 76) rfl rfl Try.func42 (by kernel_rfl) rfl #[.slice Ao39 t463.length co39, .int .i64 1] rfl (by (try simp only [List.map_toArray, List.map_cons, List.map_nil]); first | done | rfl | (simp only [List.length_drop, List.length_take]; rfl)) ?_; (with_reducible refine (laws_markIntS.calls k (fun k_ => some k_ = (.slice Ao39 t463.length co39 : Value).ownBlock) (.slice Ao39 t463.length co39) t463 1 t475 t476 w _ ?side1 ?side2 A21.out).mono ?_); (case side1 => repeat (first | (with_reducible first | exact HB.out | apply below_alloc | apply pw_below_drewN | apply below_drew1) | exact HB.out)); (case side2 => exact Kd.R_tight rfl HO466.out); rintro e w44 ⟨rfl, hy0, hb, hkp⟩; refine ⟨_, rfl, ?_⟩; have n0_ := Aside0.mk (Kd.R_mono (ok' := fun k_ => some k_ ≠ (.slice Ao37 t460.length co37 : Value).ownBlock ∧ some k_ ≠ (.slice Ao42 t468.length co42 : Value).ownBlock) (Kd.R_keptB ((Kd.R_apart' HO455.out (Kd.R_typed HO466.out) (by decide))) hkp (fun k_ hk_ hs_ => (hk_.2) hs_)) (fun k_ hk_ => ⟨hk_.1.1.1, hk_.1.1.2⟩)); have n1_ := Aside0.mk (Kd.R_mono (ok' := fun k_ => some k_ ≠ (.slice Ao39 t463.length co39 : Value).ownBlock) (Kd.R_keptB (HO459.out) hkp (fun k_ hk_ hs_ => (hk_) hs_)) (fun k_ hk_ => hk_.1)); have n2_ := Aside0.mk (Kd.R_mono (ok' := fun k_ => some k_ ≠ (.slice Ao34 t453.length co34 : Value).ownBlock ∧ some k_ ≠ (.slice Ao42 t468.length co42 : Value).ownBlock) (Kd.R_keptB ((Kd.R_apart' HO462.out (Kd.R_typed HO466.out) (by decide))) hkp (fun k_ hk_ hs_ => (hk_.2) hs_)) (fun k_ hk_ => ⟨hk_.1.1.1.2, hk_.1.1.2⟩)); have n3_ := Aside0.mk (Kd.R_reok rfl hy0 (fun k_ e_ => HO466.out.1 k_ e_)); have n4_ := Aside0.mk (Kd.R_mono (ok' := fun k_ => some k_ ≠ (.slice Ao34 t453.length co34 : Value).ownBlock ∧ some k_ ≠ (.slice Ao37 t460.length co37 : Value).ownBlock) (Kd.R_keptB ((Kd.R_apart' HO470.out (Kd.R_typed HO466.out) (by decide))) hkp (fun k_ hk_ hs_ => (hk_.2) hs_)) (fun k_ hk_ => ⟨hk_.1.1.1, hk_.1.1.2⟩)); have n5_ := Aside0.mk (hb); clear HO455; clear HO459; clear HO462; clear HO466; clear HO470; clear HB; have HO455 := n0_; have HO459 := n1_; have HO462 := n2_; have HO466 := n3_; have HO470 := n4_; have HB := n5_; clear n0_ n1_ n2_ n3_ n4_ n5_; (try clear hb); (try clear hkp); (try clear hy0)) | ((with_reducible refine gate_callee (f := 43) rfl ?_); refine goesL_ (some 79) rfl rfl Try.func43 (by kernel_rfl) rfl #[.slice Ao39 t476.length co39, .int .i64 1] rfl (by (try simp only [List.map_toArray, List.map_cons, List.map_nil]); first | done | (rw [show t476.length = t463.length from (Kd.R_reads' HO466.out).1.symm] <;> rfl) | rfl | (simp only [List.length_drop, List.length_take]; rfl)) ?_; (with_reducible refine (laws_heldIntS.calls k _ _ t476 1 t477 _ ?side1 ?side2 A22.out).mono ?_); (case side1 => repeat (first | exact (Kd.R_reads' HO466.out).2.2 | (with_reducible refine Kd.C_alloc ?_ _) | (with_reducible refine Kd.C_drewN ?_ _) | (with_reducible refine Kd.C_drew ?_))); (case side2 => rw [show t476.length = t463.length from (Kd.R_reads' HO466.out).1.symm]; exact (Kd.R_reads' HO466.out).2.1); rintro e w' ⟨rfl, ⟨nd, rfl⟩⟩; refine ⟨_, rfl, ?_⟩) | ((with_reducible refine gate_callee (f := 31) rfl ?_); refine goesL_ (some 89) rfl rfl Try.func31 (by kernel_rfl) rfl #[.slice A2 l2.length c2] rfl (by (try simp only [List.map_toArray, List.map_cons, List.map_nil]); first | done | rfl | (simp only [List.length_drop, List.length_take]; rfl)) ?_; (with_reducible refine (laws_toStringS.calls k _ _ l2 t478 _ ?side1 ?side2 A25.out).mono ?_); (case side1 => repeat (first | exact (Kd.C_below HR2.out (by repeat (first | (with_reducible first | exact HB.out | apply below_alloc | apply pw_below_drewN | apply below_drew1) | exact HB.out))) | (with_reducible refine Kd.C_alloc ?_ _) | (with_reducible refine Kd.C_drewN ?_ _) | (with_reducible refine Kd.C_drew ?_))); (case side2 => exact HC2.out); rintro e w45 ⟨v479, rfl, ho0, hb⟩; refine ⟨_, rfl, ?_⟩; have n0_ := Aside0.mk (Kd.R_elder' (by (with_reducible repeat (first | apply Kd.R_alloc | apply Kd.R_drewN | apply Kd.R_drew)); exact HO455.out) (Kd.R_base ho0) hb); have n1_ := Aside0.mk (Kd.R_below (by (with_reducible repeat (first | apply Kd.R_alloc | apply Kd.R_drewN | apply Kd.R_drew)); exact HO459.out) hb); have n2_ := Aside0.mk (Kd.R_elder' (by (with_reducible repeat (first | apply Kd.R_alloc | apply Kd.R_drewN | apply Kd.R_drew)); exact HO462.out) (Kd.R_base ho0) hb); have n3_ := Aside0.mk (Kd.R_below (by (with_reducible repeat (first | apply Kd.R_alloc | apply Kd.R_drewN | apply Kd.R_drew)); exact HO466.out) hb); have n4_ := Aside0.mk (Kd.R_elder' (by (with_reducible repeat (first | apply Kd.R_alloc | apply Kd.R_drewN | apply Kd.R_drew)); exact HO470.out) (Kd.R_base ho0) hb); have n5_ := Aside0.mk (Kd.R_lower (Kd.R_new' (Kd.R_new' (Kd.R_new' ho0 (Kd.R_lt (by (with_reducible repeat (first | apply Kd.R_alloc | apply Kd.R_drewN | apply Kd.R_drew)); exact HO455.out))) (Kd.R_lt (by (with_reducible repeat (first | apply Kd.R_alloc | apply Kd.R_drewN | apply Kd.R_drew)); exact HO462.out))) (Kd.R_lt (by (with_reducible repeat (first | apply Kd.R_alloc | apply Kd.R_drewN | apply Kd.R_drew)); exact HO470.out))) (below_size (by repeat (first | (with_reducible first | exact HB.out | apply below_alloc | apply pw_below_drewN | apply below_drew1) | exact HB.out)))); have n6_ := Aside0.mk (below_step (by repeat (first | (with_reducible first | exact HB.out | apply below_alloc | apply pw_below_drewN | apply below_drew1) | exact HB.out)) hb); clear HO455; clear HO459; clear HO462; clear HO466; clear HO470; clear HB; have HO455 := n0_; have HO459 := n1_; have HO462 := n2_; have HO466 := n3_; have HO470 := n4_; have HO480 := n5_; have HB := n6_; clear n0_ n1_ n2_ n3_ n4_ n5_ n6_; (try clear hb); (try clear hb2); (try clear hk); (try clear hi); (try clear ho0); obtain ⟨Ao46, co46, eo46⟩ := Kd.R_slice HO480.out; subst eo46) | ((with_reducible refine gate_callee (f := 39) rfl ?_); refine goesL_ (some 91) rfl rfl Try.func39 (by kernel_rfl) rfl #[.int .i64 a0, .int .i64 a1, .slice Ao46 t478.length co46, .int .i64 a3] rfl (by (try simp only [List.map_toArray, List.map_cons, List.map_nil]); first | done | rfl | (simp only [List.length_drop, List.length_take]; rfl)) ?_; (with_reducible refine (impl_LoadsOf.calls k a0 a1 _ _ t478 a3 t481 t482 _ ?side1 ?side2 A26.out).mono ?_); (case side1 => repeat (first | exact (Kd.R_reads' HO480.out).2.2 | (with_reducible refine Kd.C_alloc ?_ _) | (with_reducible refine Kd.C_drewN ?_ _) | (with_reducible refine Kd.C_drew ?_))); (case side2 => exact (Kd.R_reads' HO480.out).2.1); rintro e w47 ⟨v483, rfl, ho0, hb⟩; refine ⟨_, rfl, ?_⟩; have n0_ := Aside0.mk (Kd.R_below (by (with_reducible repeat (first | apply Kd.R_alloc | apply Kd.R_drewN | apply Kd.R_drew)); exact HO455.out) hb); have n1_ := Aside0.mk (Kd.R_elder' (by (with_reducible repeat (first | apply Kd.R_alloc | apply Kd.R_drewN | apply Kd.R_drew)); exact HO459.out) (Kd.R_base ho0) hb); have n2_ := Aside0.mk (Kd.R_below (by (with_reducible repeat (first | apply Kd.R_alloc | apply Kd.R_drewN | apply Kd.R_drew)); exact HO462.out) hb); have n3_ := Aside0.mk (Kd.R_elder' (by (with_reducible repeat (first | apply Kd.R_alloc | apply Kd.R_drewN | apply Kd.R_drew)); exact HO466.out) (Kd.R_base ho0) hb); have n4_ := Aside0.mk (Kd.R_below (by (with_reducible repeat (first | apply Kd.R_alloc | apply Kd.R_drewN | apply Kd.R_drew)); exact HO470.out) hb); have n5_ := Aside0.mk (Kd.R_below (by (with_reducible repeat (first | apply Kd.R_alloc | apply Kd.R_drewN | apply Kd.R_drew)); exact HO480.out) hb); have n6_ := Aside0.mk (Kd.R_lower (Kd.R_new' (Kd.R_new' ho0 (Kd.R_lt (by (with_reducible repeat (first | apply Kd.R_alloc | apply Kd.R_drewN | apply Kd.R_drew)); exact HO459.out))) (Kd.R_lt (by (with_reducible repeat (first | apply Kd.R_alloc | apply Kd.R_drewN | apply Kd.R_drew)); exact HO466.out))) (below_size (by repeat (first | (with_reducible first | exact HB.out | apply below_alloc | apply pw_below_drewN | apply below_drew1) | exact HB.out)))); have n7_ := Aside0.mk (below_step (by repeat (first | (with_reducible first | exact HB.out | apply below_alloc | apply pw_below_drewN | apply below_drew1) | exact HB.out)) hb); clear HO455; clear HO459; clear HO462; clear HO466; clear HO470; clear HO480; clear HB; have HO455 := n0_; have HO459 := n1_; have HO462 := n2_; have HO466 := n3_; have HO470 := n4_; have HO480 := n5_; have HO484 := n6_; have HB := n7_; clear n0_ n1_ n2_ n3_ n4_ n5_ n6_ n7_; (try clear hb); (try clear hb2); (try clear hk); (try clear hi); (try clear ho0); obtain ⟨Ao48, co48, eo48⟩ := Kd.R_slice HO484.out; subst eo48) | ((with_reducible refine gate_callee (f := 40) rfl ?_); refine goesL_ (some 96) rfl rfl Try.func40 (by kernel_rfl) rfl #[.slice Ao48 t481.length co48, .slice Ao40 t456.length co40] rfl (by (try simp only [List.map_toArray, List.map_cons, List.map_nil]); first | done | rfl | (simp only [List.length_drop, List.length_take]; rfl)) ?_; (with_reducible refine (laws_eqIntS.calls k _ _ t481 _ _ t456 true _ ?side1 ?side2 ?side3 ?side4 A27.out).mono ?_); (case side1 => repeat (first | exact (Kd.R_reads' HO484.out).2.2 | (with_reducible refine Kd.C_alloc ?_ _) | (with_reducible refine Kd.C_drewN ?_ _) | (with_reducible refine Kd.C_drew ?_))); (case side2 => exact (Kd.R_reads' HO484.out).2.1); (case side3 => repeat (first | exact (Kd.R_reads' HO459.out).2.2 | (with_reducible refine Kd.C_alloc ?_ _) | (with_reducible refine Kd.C_drewN ?_ _) | (with_reducible refine Kd.C_drew ?_))); (case side4 => exact (Kd.R_reads' HO459.out).2.1); rintro e w' ⟨rfl, ⟨nd, rfl⟩⟩; refine ⟨_, rfl, ?_⟩) | ((with_reducible refine gate_callee (f := 43) rfl ?_); refine goesL_ (some 105) rfl rfl Try.func43 (by kernel_rfl) rfl #[.slice Ao39 t476.length co39, .int .i64 1] rfl (by (try simp only [List.map_toArray, List.map_cons, List.map_nil]); first | done | (rw [show t476.length = t463.length from (Kd.R_reads' HO466.out).1.symm] <;> rfl) | rfl | (simp only [List.length_drop, List.length_take]; rfl)) ?_; (with_reducible refine (laws_heldIntS.calls k _ _ t476 1 t486 _ ?side1 ?side2 A30.out).mono ?_); (case side1 => repeat (first | exact (Kd.R_reads' HO466.out).2.2 | (with_reducible refine Kd.C_alloc ?_ _) | (with_reducible refine Kd.C_drewN ?_ _) | (with_reducible refine Kd.C_drew ?_))); (case side2 => rw [show t476.length = t463.length from (Kd.R_reads' HO466.out).1.symm]; exact (Kd.R_reads' HO466.out).2.1); rintro e w' ⟨rfl, ⟨nd, rfl⟩⟩; refine ⟨_, rfl, ?_⟩))
              go_ret
              exact ⟨by first | rfl | (simp [errW_none, errW_some] <;> rfl) | (simp [*, errW_none, errW_some] <;> rfl), by repeat (first | (with_reducible first | exact HB.out | apply below_alloc | apply pw_below_drewN | apply below_drew1) | exact HB.out)⟩
             ·rw [if_neg c32] at H
              exact absurd H (by simp)
          ·replace c28 := Bool.eq_false_iff.mpr c28
           subst c28
           have H1 : (none) = some r := by rw [if_neg (show ¬ (false = true) by decide)] at H; exact H
           clear H
           have H := H1
           clear H1
           exact absurd H (by simp)
         ·rw [if_neg c24] at H
          exact absurd H (by simp)
       ·replace c20 := Bool.eq_false_iff.mpr c20
        subst c20
        have H1 : (none) = some r := by rw [if_neg (show ¬ (false = true) by decide)] at H; exact H
        clear H
        have H := H1
        clear H1
        exact absurd H (by simp)
     ·replace c16 := Bool.eq_false_iff.mpr c16
      subst c16
      have H1 : (none) = some r := by rw [if_neg (show ¬ (false = true) by decide)] at H; exact H
      clear H
      have H := H1
      clear H1
      exact absurd H (by simp)
   ·replace c12 := Bool.eq_false_iff.mpr c12
    subst c12
    have H1 : (none) = some r := by rw [if_neg (show ¬ (false = true) by decide)] at H; exact H
    clear H
    have H := H1
    clear H1
    exact absurd H (by simp)

/-- What is to be shown of laws_FnExactLoadsOf: plain. -/
def laws_FnExactLoadsOf.Pure : Prop := ∀ (a0 : Int) (a1 : Int) (l2 : List ByteArray) (a3 : Int), (wfI .i64) a0 → (wfI .i64) a1 → (wfL wfS) l2 → (wfI .i64) a3 → ∃ k, laws_FnExactLoadsOf.f k a0 a1 l2 a3 = some true
theorem laws_FnExactLoadsOf.walk (P : laws_FnExactLoadsOf.Pure) (a0 : Int) (a1 : Int) (A2 : Option Addr) (c2 : Nat) (l2 : List ByteArray) (a3 : Int) (w : World) (hr2 : Kd.C Kd.string w A2 l2.length l2) (hc2 : l2.length ≤ c2) (hw0 : (wfI .i64) a0) (hw1 : (wfI .i64) a1) (hw2 : (wfL wfS) l2) (hw3 : (wfI .i64) a3) :
    Calls Try.prog 7 #[.int .i64 a0, .int .i64 a1, .slice A2 l2.length c2, .int .i64 a3] w fun e w' => e = .returned (.bool true) ∧ Below w.heap.size w w' := by
  obtain ⟨k, h⟩ := P a0 a1 l2 a3 hw0 hw1 hw2 hw3
  refine (laws_FnExactLoadsOf.calls k a0 a1 A2 c2 l2 a3 true w hr2 hc2 h).mono ?_
  rintro e w' ⟨rfl, hd⟩
  exact ⟨rfl, hd⟩
end Go.Proofs.Ytioncjcmfbndmaa.X
