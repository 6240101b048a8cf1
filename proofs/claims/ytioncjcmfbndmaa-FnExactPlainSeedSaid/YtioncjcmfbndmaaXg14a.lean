/- Written by a program of this session: what functions of the given program compute, and that their calls do so. -/
import Derived.Test.YtioncjcmfbndmaaXx0
import Derived.Test.YtioncjcmfbndmaaXg7bda
namespace Go.Proofs.Ytioncjcmfbndmaa.X
open Go.RowKit Go.Proofs.YtioncjcmfbndmaaW.PrintWords Go.Proofs.YtioncjcmfbndmaaW.PrintLast Go.Proofs.YtioncjcmfbndmaaW.PrintMore
attribute [local go_sem] max2_int min2_int max_two min_two max_three min_three max_four min_four   -- for this text's walks alone
set_option linter.unusedVariables false
set_option linter.unusedSimpArgs false
/-! ### spec_biPlaces: function 97 -/
def spec_biPlaces.l0 : Nat → Int → Int → Int → List Int → List ByteArray → Int → Int → Option (List Int)
  | 0, _, _, _, _, _, _, _ => none
  | k + 1, x0, x1, x3, x9, x12, x13, x14 => if x14 < x13 then (if 0 ≤ x14 then (if x14 < (x12.length : Int) then ((spec_biPlace.f k x0 x1 (rdOf ByteArray.empty x12 x14) x3).bind fun t301 => (if x9.length < 17592186044416 then (spec_biPlaces.l0 k x0 x1 x3 (x9 ++ [t301]) x12 x13 (wrap64 (x14 + 1))) else (none))) else (none)) else (none)) else (some x9)
def spec_biPlaces.f (k : Nat) (a0 : Int) (a1 : Int) (l2 : List ByteArray) (a3 : Int) : Option (List Int) := spec_biPlaces.l0 k a0 a1 a3 ([] : List Int) l2 (l2.length : Int) 0
theorem spec_biPlaces.mono_l : ∀ k, (∀ y0 y1 y2 y3 y4 y5 y6, LeO (spec_biPlaces.l0 k y0 y1 y2 y3 y4 y5 y6) (spec_biPlaces.l0 (k + 1) y0 y1 y2 y3 y4 y5 y6))
  | 0 => fun _ _ _ _ _ _ _ r h => by simp [spec_biPlaces.l0] at h
  | k + 1 => by
    have ih0 := spec_biPlaces.mono_l k
    · intro y0 y1 y2 y3 y4 y5 y6
      unfold spec_biPlaces.l0
      repeat' first
      | (with_reducible exact ih0 _ _ _ _ _ _ _)
      | (with_reducible exact spec_biPlace.mono _ _ _ _ _)
      | (with_reducible exact LeO.refl _)
      | (with_reducible exact LeO.none _)
      | (with_reducible refine LeO.ite ?_ ?_)
      | (with_reducible refine LeO.bind ?_ (fun _ => ?_))
      | exact ih0 _ _ _ _ _ _ _
      | exact spec_biPlace.mono _ _ _ _ _
      | exact LeO.none _
      | refine LeO.ite ?_ ?_
      | refine LeO.bind ?_ (fun _ => ?_)
theorem spec_biPlaces.mono : ∀ a0 a1 a2 a3 k, LeO (spec_biPlaces.f k a0 a1 a2 a3) (spec_biPlaces.f (k + 1) a0 a1 a2 a3) := by
  intro a0 a1 a2 a3 k
  have ih0 := spec_biPlaces.mono_l k
  unfold spec_biPlaces.f
  repeat' first
      | (with_reducible exact ih0 _ _ _ _ _ _ _)
      | (with_reducible exact spec_biPlace.mono _ _ _ _ _)
      | (with_reducible exact LeO.refl _)
      | (with_reducible exact LeO.none _)
      | (with_reducible refine LeO.ite ?_ ?_)
      | (with_reducible refine LeO.bind ?_ (fun _ => ?_))
      | exact ih0 _ _ _ _ _ _ _
      | exact spec_biPlace.mono _ _ _ _ _
      | exact LeO.none _
      | refine LeO.ite ?_ ?_
      | refine LeO.bind ?_ (fun _ => ?_)
noncomputable def spec_biPlaces.L0 (y0 : Int) (y1 : Int) (y2 : Int) (y3 : List Int) (y4 : List ByteArray) (y5 : Int) (y6 : Int) : Option (List Int) := lim fun k => spec_biPlaces.l0 k y0 y1 y2 y3 y4 y5 y6
theorem spec_biPlaces.L0_sup (y0 : Int) (y1 : Int) (y2 : Int) (y3 : List Int) (y4 : List ByteArray) (y5 : Int) (y6 : Int) : Sup (fun k => spec_biPlaces.l0 k y0 y1 y2 y3 y4 y5 y6) (spec_biPlaces.L0 y0 y1 y2 y3 y4 y5 y6) := Sup.of_mono fun k => spec_biPlaces.mono_l k y0 y1 y2 y3 y4 y5 y6
noncomputable def spec_biPlaces.F (a0 : Int) (a1 : Int) (l2 : List ByteArray) (a3 : Int) : Option (List Int) := lim fun k => spec_biPlaces.f k a0 a1 l2 a3
theorem spec_biPlaces.F_sup (a0 : Int) (a1 : Int) (l2 : List ByteArray) (a3 : Int) : Sup (fun k => spec_biPlaces.f k a0 a1 l2 a3) (spec_biPlaces.F a0 a1 l2 a3) := Sup.of_mono fun k => spec_biPlaces.mono a0 a1 l2 a3 k
theorem spec_biPlaces.L0_eq (x0 : Int) (x1 : Int) (x3 : Int) (x9 : List Int) (x12 : List ByteArray) (x13 : Int) (x14 : Int) : spec_biPlaces.L0 x0 x1 x3 x9 x12 x13 x14 = if x14 < x13 then (if 0 ≤ x14 then (if x14 < (x12.length : Int) then ((spec_biPlace.F x0 x1 (rdOf ByteArray.empty x12 x14) x3).bind fun t301 => (if x9.length < 17592186044416 then (spec_biPlaces.L0 x0 x1 x3 (x9 ++ [t301]) x12 x13 (wrap64 (x14 + 1))) else (none))) else (none)) else (none)) else (some x9) := by
  refine Sup.unique (spec_biPlaces.L0_sup x0 x1 x3 x9 x12 x13 x14) (Sup.shift (fun k => spec_biPlaces.mono_l k x0 x1 x3 x9 x12 x13 x14) (Sup.congr (g' := fun k => if x14 < x13 then (if 0 ≤ x14 then (if x14 < (x12.length : Int) then ((spec_biPlace.f k x0 x1 (rdOf ByteArray.empty x12 x14) x3).bind fun t301 => (if x9.length < 17592186044416 then (spec_biPlaces.l0 k x0 x1 x3 (x9 ++ [t301]) x12 x13 (wrap64 (x14 + 1))) else (none))) else (none)) else (none)) else (some x9)) (fun k => by first | rfl | simp only [spec_biPlaces.l0]) ?_))
  repeat' first
    | (with_reducible exact spec_biPlaces.L0_sup _ _ _ _ _ _ _)
    | (with_reducible exact spec_biPlace.F_sup _ _ _ _)
    | (with_reducible refine Sup.ite ?_ ?_)
    | (with_reducible refine Sup.bind ?_ (fun _ => ?_))
    | (with_reducible exact Sup.const _)
    | exact spec_biPlaces.L0_sup _ _ _ _ _ _ _
    | exact spec_biPlace.F_sup _ _ _ _
    | exact Sup.const _
theorem spec_biPlaces.F_eq (a0 : Int) (a1 : Int) (l2 : List ByteArray) (a3 : Int) : spec_biPlaces.F a0 a1 l2 a3 = spec_biPlaces.L0 a0 a1 a3 ([] : List Int) l2 (l2.length : Int) 0 := by
  refine Sup.unique (spec_biPlaces.F_sup a0 a1 l2 a3) (Sup.congr (g' := fun k => spec_biPlaces.l0 k a0 a1 a3 ([] : List Int) l2 (l2.length : Int) 0) (fun k => by first | rfl | simp only [spec_biPlaces.f]) ?_)
  repeat' first
    | (with_reducible exact spec_biPlaces.L0_sup _ _ _ _ _ _ _)
    | (with_reducible exact spec_biPlace.F_sup _ _ _ _)
    | (with_reducible refine Sup.ite ?_ ?_)
    | (with_reducible refine Sup.bind ?_ (fun _ => ?_))
    | (with_reducible exact Sup.const _)
    | exact spec_biPlaces.L0_sup _ _ _ _ _ _ _
    | exact spec_biPlace.F_sup _ _ _ _
    | exact Sup.const _
set_option maxHeartbeats 8000000 in
set_option maxRecDepth 100000 in
theorem spec_biPlaces.calls (k : Nat) (a0 : Int) (a1 : Int) (A2 : Option Addr) (c2 : Nat) (l2 : List ByteArray) (a3 : Int) (r : List Int) (w : World) (hr2 : Kd.C Kd.string w A2 l2.length l2) (hc2 : l2.length ≤ c2) (h : spec_biPlaces.f k a0 a1 l2 a3 = some r) :
    Calls Try.prog 97 #[.int .i64 a0, .int .i64 a1, .slice A2 l2.length c2, .int .i64 a3] w fun e w' => ∃ v0_ : Value, e = .returned (v0_) ∧ Kd.R (Kd.int .i64) 3 w' w.heap.size (fun _ => True) v0_ r ∧ Below w.heap.size w w' := by
  have HR2 := Aside0.mk hr2
  have HC2 := Aside0.mk hc2
  clear hr2 hc2
  have HB := Aside0.mk (Below.refl w.heap.size w)
  have H : (spec_biPlaces.l0 k a0 a1 a3 ([] : List Int) l2 (l2.length : Int) 0) = some r := h
  clear h
  have H' := Aside0.mk H
  clear H
  go_enter Try.func97, Try.ntmps97
  go_wp2
  go_loopg [9, 14] k (fun kq v9 v14 w' => ∃ (x9_1 : List Int) (x14_1 : Int), v14 = .int .i64 x14_1 ∧ Aside0 (spec_biPlaces.l0 kq a0 a1 a3 x9_1 l2 (l2.length : Int) x14_1 = some r) ∧ Aside0 (kq ≤ k) ∧ Aside0 (Kd.R (Kd.int .i64) 3 w' w.heap.size (fun _ => True) v9 x9_1) ∧ Aside0 (Below w.heap.size w w'))
  case atStart => exact ⟨(([] : List Int)), (0), (by first | rfl | (simp; done) | (simp [*]; done)), H', ⟨Nat.le_refl _⟩, ⟨by first | exact Kd.R_nil _ _ _ _ _ | exact Kd.N_nil _ _ _ _ _ | exact Kd.V_nil _ _ _ _ _ | exact Kd.Q_nil _ _ _ _ _ | exact Kd.S_nil _ _ _ _ _⟩, ⟨by repeat (first | (with_reducible first | exact HB.out | apply below_alloc | apply pw_below_drewN | apply below_drew1) | exact HB.out)⟩⟩
  case round =>
   clear H'
   try clear c2
   try clear p2
   obtain ⟨x9_1, x14_1, rfl, HA, HK1, HO_9, HB⟩ := hrel
   cases gk with
   | zero => exact absurd HA.out (by simp [spec_biPlaces.l0])
   | succ k1 =>
    have H := HA.out
    clear HA
    simp only [spec_biPlaces.l0] at H
    by_cases c5 : x14_1 < (l2.length : Int)
    ·rw [if_pos c5] at H
     have c5b0 : decide (x14_1 < (l2.length : Int)) = true := decide_eq_true c5
     clear c5
     by_cases c6 : 0 ≤ x14_1
     ·rw [if_pos c6] at H
      have c6b0 : decide (0 ≤ x14_1) = true := decide_eq_true c6
      clear c6
      by_cases c7 : x14_1 < (l2.length : Int)
      ·rw [if_pos c7] at H
       have c7b0 : decide (x14_1 < (l2.length : Int)) = true := decide_eq_true c7
       clear c7
       replace H := Option.bind_eq_some_iff.mp H
       obtain ⟨t301, A80, H⟩ := H
       replace H : (if x9_1.length < 17592186044416 then (spec_biPlaces.l0 k1 a0 a1 a3 (x9_1 ++ [t301]) l2 (l2.length : Int) (wrap64 (x14_1 + 1))) else (none)) = some r := H
       have A8 := Aside0.mk A80
       clear A80
       by_cases c9 : x9_1.length < 17592186044416
       ·rw [if_pos c9] at H
        have LMc9 := Aside0.mk c9
        clear c9
        obtain ⟨y302, hy302⟩ : ∃ y_ : List Int, y_ = (x9_1 ++ [t301]) := ⟨_, rfl⟩
        replace H : (spec_biPlaces.l0 k1 a0 a1 a3 y302 l2 (l2.length : Int) (wrap64 (x14_1 + 1))) = some r := by first | (rw [hy302]; with_reducible exact H) | (have H2_ := (Option.bind_some _ _).symm.trans H; rw [hy302]; with_reducible exact H2_) | (have H2_ := (Option.bind_some _ _).symm.trans H; with_reducible exact H2_) | with_reducible exact H | (rw [hy302]; exact H) | exact H
        have Ny302 := Aside0.mk hy302
        clear hy302
        have H' := Aside0.mk H
        clear H
        have p300 : 0 ≤ (x14_1 : Int) := of_decide_eq_true (by first | (with_reducible assumption) | assumption)
        have q300 : x14_1 < (l2.length : Int) := of_decide_eq_true (by first | (with_reducible assumption) | assumption)
        obtain ⟨ad300, e300, hx300_0⟩ := Kd.at_string HR2.out x14_1 p300 q300
        cases e300
        replace hx300_0 := (HB.out.cell (World.block_lt_of_cell? w _ hx300_0)).trans hx300_0
        replace p300 := eq_true p300
        replace q300 := eq_true q300
        go_wp2_with (first | ((with_reducible refine gate_callee (f := 120) rfl ?_); refine goesL_ (some 23) rfl rfl Try.func120 (by kernel_rfl) rfl #[.int .i64 a0, .int .i64 a1, .string (rdOf ByteArray.empty l2 x14_1), .int .i64 a3] rfl (by (try simp only [List.map_toArray, List.map_cons, List.map_nil]); first | done | rfl | (simp only [List.length_drop, List.length_take]; rfl)) ?_; (with_reducible refine (spec_biPlace.calls k1 a0 a1 (rdOf ByteArray.empty l2 x14_1) a3 t301 _ A8.out).mono ?_); rintro e w' ⟨rfl, ⟨nd, rfl⟩⟩; refine ⟨_, rfl, ?_⟩) | ((with_reducible refine gate_builtin (b := .append) (xs := #[.tmp 18, .tmp 24]) rfl ?_); at_builtin; refine Kd.R_append (Kd.int .i64) (w0 := w) w.heap.size rfl (.tmp 18) (.tmp 24) 22 3 (.int .i64 0) 8 rfl Try.underlying22 info3 rfl (by decide) (by omega) u9 x9_1 t301 [.int .i64 t301] (fun _ => True) (fun _ => False) rfl rfl ?aP (fun _ hk => hk.elim) ?aF ?aO ?aB ?aS ?aL ?_; (case aP => exact rfl); (case aB => exact (by repeat (first | (with_reducible first | exact HB.out | apply below_alloc | apply pw_below_drewN | apply below_drew1) | exact HB.out))); (case aF => exact (fun _ _ => trivial)); (case aO => exact (by (with_reducible repeat (first | apply Kd.R_alloc | apply Kd.R_drewN | apply Kd.R_drew)); exact HO_9.out)); (case aS => exact (below_size (by repeat (first | (with_reducible first | exact HB.out | apply below_alloc | apply pw_below_drewN | apply below_drew1) | exact HB.out)))); (case aL => have := LMc9.out; omega); intro v303 w10 ho hb hg hat; rw [← Ny302.out] at ho; have n0_ := Aside0.mk (hb); have n1_ := Aside0.mk (ho); clear HB; clear HO_9; have HB := n0_; have HO304 := n1_; clear n0_ n1_; clear ho hb hg hat))
        go_roundg k1
        case measure => have := HK1.out; omega
        case rel => exact ⟨(y302), (wrap64 (x14_1 + 1)), (by first | rfl | (simp; done) | (simp [*]; done)), H', ⟨by have := HK1.out; omega⟩, ⟨by (with_reducible repeat (first | apply Kd.R_alloc | apply Kd.R_drewN | apply Kd.R_drew)); exact HO304.out⟩, ⟨by repeat (first | (with_reducible first | exact HB.out | apply below_alloc | apply pw_below_drewN | apply below_drew1) | exact HB.out)⟩⟩
       ·rw [if_neg c9] at H
        exact absurd H (by simp)
      ·rw [if_neg c7] at H
       exact absurd H (by simp)
     ·rw [if_neg c6] at H
      exact absurd H (by simp)
    ·rw [if_neg c5] at H
     have c5b0 : decide (x14_1 < (l2.length : Int)) = false := decide_eq_false c5
     clear c5
     obtain rfl := Option.some.inj H
     go_wp2
     go_ret
     exact ⟨_, by first | rfl | (simp [errW_none, errW_some] <;> rfl) | (simp [*, errW_none, errW_some] <;> rfl), by (with_reducible repeat (first | apply Kd.R_alloc | apply Kd.R_drewN | apply Kd.R_drew)); exact HO_9.out, by repeat (first | (with_reducible first | exact HB.out | apply below_alloc | apply pw_below_drewN | apply below_drew1) | exact HB.out)⟩
end Go.Proofs.Ytioncjcmfbndmaa.X
