/- Written by a program of this session: what functions of the given program compute, and that their calls do so. -/
import Derived.Test.YtioncjcmfbndmaaXx0
import Derived.Test.YtioncjcmfbndmaaXg2b9a
namespace Go.Proofs.Ytioncjcmfbndmaa.X
open Go.RowKit Go.Proofs.YtioncjcmfbndmaaW.PrintWords Go.Proofs.YtioncjcmfbndmaaW.PrintLast Go.Proofs.YtioncjcmfbndmaaW.PrintMore
attribute [local go_sem] max2_int min2_int max_two min_two max_three min_three max_four min_four   -- for this text's walks alone
set_option linter.unusedVariables false
set_option linter.unusedSimpArgs false
/-! ### spec_peTriple: function 129 -/
def spec_peTriple.l0 : Nat → Int → ByteArray → Int → List Int → Int → Option (List Int)
  | 0, _, _, _, _, _ => none
  | k + 1, x0, x1, x2, x7, x8 => if x8 < 3 then ((spec_biPlace.f k x0 x8 x1 x2).bind fun t346 => (if x7.length < 17592186044416 then (spec_peTriple.l0 k x0 x1 x2 (x7 ++ [wrap64 (t346 + (wrap64 (x8 * x2)))]) (wrap64 (x8 + 1))) else (none))) else (some x7)
def spec_peTriple.f (k : Nat) (a0 : Int) (a1 : ByteArray) (a2 : Int) : Option (List Int) := spec_peTriple.l0 k a0 a1 a2 ([] : List Int) 0
theorem spec_peTriple.mono_l : ∀ k, (∀ y0 y1 y2 y3 y4, LeO (spec_peTriple.l0 k y0 y1 y2 y3 y4) (spec_peTriple.l0 (k + 1) y0 y1 y2 y3 y4))
  | 0 => fun _ _ _ _ _ r h => by simp [spec_peTriple.l0] at h
  | k + 1 => by
    have ih0 := spec_peTriple.mono_l k
    · intro y0 y1 y2 y3 y4
      unfold spec_peTriple.l0
      repeat' first
      | (with_reducible exact ih0 _ _ _ _ _)
      | (with_reducible exact spec_biPlace.mono _ _ _ _ _)
      | (with_reducible exact LeO.refl _)
      | (with_reducible exact LeO.none _)
      | (with_reducible refine LeO.ite ?_ ?_)
      | (with_reducible refine LeO.bind ?_ (fun _ => ?_))
      | exact ih0 _ _ _ _ _
      | exact spec_biPlace.mono _ _ _ _ _
      | exact LeO.none _
      | refine LeO.ite ?_ ?_
      | refine LeO.bind ?_ (fun _ => ?_)
theorem spec_peTriple.mono : ∀ a0 a1 a2 k, LeO (spec_peTriple.f k a0 a1 a2) (spec_peTriple.f (k + 1) a0 a1 a2) := by
  intro a0 a1 a2 k
  have ih0 := spec_peTriple.mono_l k
  unfold spec_peTriple.f
  repeat' first
      | (with_reducible exact ih0 _ _ _ _ _)
      | (with_reducible exact spec_biPlace.mono _ _ _ _ _)
      | (with_reducible exact LeO.refl _)
      | (with_reducible exact LeO.none _)
      | (with_reducible refine LeO.ite ?_ ?_)
      | (with_reducible refine LeO.bind ?_ (fun _ => ?_))
      | exact ih0 _ _ _ _ _
      | exact spec_biPlace.mono _ _ _ _ _
      | exact LeO.none _
      | refine LeO.ite ?_ ?_
      | refine LeO.bind ?_ (fun _ => ?_)
noncomputable def spec_peTriple.L0 (y0 : Int) (y1 : ByteArray) (y2 : Int) (y3 : List Int) (y4 : Int) : Option (List Int) := lim fun k => spec_peTriple.l0 k y0 y1 y2 y3 y4
theorem spec_peTriple.L0_sup (y0 : Int) (y1 : ByteArray) (y2 : Int) (y3 : List Int) (y4 : Int) : Sup (fun k => spec_peTriple.l0 k y0 y1 y2 y3 y4) (spec_peTriple.L0 y0 y1 y2 y3 y4) := Sup.of_mono fun k => spec_peTriple.mono_l k y0 y1 y2 y3 y4
noncomputable def spec_peTriple.F (a0 : Int) (a1 : ByteArray) (a2 : Int) : Option (List Int) := lim fun k => spec_peTriple.f k a0 a1 a2
theorem spec_peTriple.F_sup (a0 : Int) (a1 : ByteArray) (a2 : Int) : Sup (fun k => spec_peTriple.f k a0 a1 a2) (spec_peTriple.F a0 a1 a2) := Sup.of_mono fun k => spec_peTriple.mono a0 a1 a2 k
theorem spec_peTriple.L0_eq (x0 : Int) (x1 : ByteArray) (x2 : Int) (x7 : List Int) (x8 : Int) : spec_peTriple.L0 x0 x1 x2 x7 x8 = if x8 < 3 then ((spec_biPlace.F x0 x8 x1 x2).bind fun t346 => (if x7.length < 17592186044416 then (spec_peTriple.L0 x0 x1 x2 (x7 ++ [wrap64 (t346 + (wrap64 (x8 * x2)))]) (wrap64 (x8 + 1))) else (none))) else (some x7) := by
  refine Sup.unique (spec_peTriple.L0_sup x0 x1 x2 x7 x8) (Sup.shift (fun k => spec_peTriple.mono_l k x0 x1 x2 x7 x8) (Sup.congr (g' := fun k => if x8 < 3 then ((spec_biPlace.f k x0 x8 x1 x2).bind fun t346 => (if x7.length < 17592186044416 then (spec_peTriple.l0 k x0 x1 x2 (x7 ++ [wrap64 (t346 + (wrap64 (x8 * x2)))]) (wrap64 (x8 + 1))) else (none))) else (some x7)) (fun k => by first | rfl | simp only [spec_peTriple.l0]) ?_))
  repeat' first
    | (with_reducible exact spec_peTriple.L0_sup _ _ _ _ _)
    | (with_reducible exact spec_biPlace.F_sup _ _ _ _)
    | (with_reducible refine Sup.ite ?_ ?_)
    | (with_reducible refine Sup.bind ?_ (fun _ => ?_))
    | (with_reducible exact Sup.const _)
    | exact spec_peTriple.L0_sup _ _ _ _ _
    | exact spec_biPlace.F_sup _ _ _ _
    | exact Sup.const _
theorem spec_peTriple.F_eq (a0 : Int) (a1 : ByteArray) (a2 : Int) : spec_peTriple.F a0 a1 a2 = spec_peTriple.L0 a0 a1 a2 ([] : List Int) 0 := by
  refine Sup.unique (spec_peTriple.F_sup a0 a1 a2) (Sup.congr (g' := fun k => spec_peTriple.l0 k a0 a1 a2 ([] : List Int) 0) (fun k => by first | rfl | simp only [spec_peTriple.f]) ?_)
  repeat' first
    | (with_reducible exact spec_peTriple.L0_sup _ _ _ _ _)
    | (with_reducible exact spec_biPlace.F_sup _ _ _ _)
    | (with_reducible refine Sup.ite ?_ ?_)
    | (with_reducible refine Sup.bind ?_ (fun _ => ?_))
    | (with_reducible exact Sup.const _)
    | exact spec_peTriple.L0_sup _ _ _ _ _
    | exact spec_biPlace.F_sup _ _ _ _
    | exact Sup.const _
set_option maxHeartbeats 8000000 in
set_option maxRecDepth 100000 in
theorem spec_peTriple.calls (k : Nat) (a0 : Int) (a1 : ByteArray) (a2 : Int) (r : List Int) (w : World) (h : spec_peTriple.f k a0 a1 a2 = some r) :
    Calls Try.prog 129 #[.int .i64 a0, .string a1, .int .i64 a2] w fun e w' => ∃ v0_ : Value, e = .returned (v0_) ∧ Kd.R (Kd.int .i64) 3 w' w.heap.size (fun _ => True) v0_ r ∧ Below w.heap.size w w' := by
  have HB := Aside0.mk (Below.refl w.heap.size w)
  have H : (spec_peTriple.l0 k a0 a1 a2 ([] : List Int) 0) = some r := h
  clear h
  have H' := Aside0.mk H
  clear H
  go_enter Try.func129, Try.ntmps129
  go_wp2
  go_loopg [7, 8] k (fun kq v7 v8 w' => ∃ (x7_1 : List Int) (x8_1 : Int), v8 = .int .i64 x8_1 ∧ Aside0 (spec_peTriple.l0 kq a0 a1 a2 x7_1 x8_1 = some r) ∧ Aside0 (kq ≤ k) ∧ Aside0 (Kd.R (Kd.int .i64) 3 w' w.heap.size (fun _ => True) v7 x7_1) ∧ Aside0 (Below w.heap.size w w'))
  case atStart => exact ⟨(([] : List Int)), (0), (by first | rfl | (simp; done) | (simp [*]; done)), H', ⟨Nat.le_refl _⟩, ⟨by first | exact Kd.R_nil _ _ _ _ _ | exact Kd.N_nil _ _ _ _ _ | exact Kd.V_nil _ _ _ _ _ | exact Kd.Q_nil _ _ _ _ _ | exact Kd.S_nil _ _ _ _ _⟩, ⟨by repeat (first | (with_reducible first | exact HB.out | apply below_alloc | apply pw_below_drewN | apply below_drew1) | exact HB.out)⟩⟩
  case round =>
   clear H'
   try clear c1
   try clear p2
   obtain ⟨x7_1, x8_1, rfl, HA, HK1, HO_7, HB⟩ := hrel
   cases gk with
   | zero => exact absurd HA.out (by simp [spec_peTriple.l0])
   | succ k1 =>
    have H := HA.out
    clear HA
    simp only [spec_peTriple.l0] at H
    by_cases c4 : x8_1 < 3
    ·rw [if_pos c4] at H
     have c4b0 : decide (x8_1 < 3) = true := decide_eq_true c4
     clear c4
     replace H := Option.bind_eq_some_iff.mp H
     obtain ⟨t346, A50, H⟩ := H
     replace H : (if x7_1.length < 17592186044416 then (spec_peTriple.l0 k1 a0 a1 a2 (x7_1 ++ [wrap64 (t346 + (wrap64 (x8_1 * a2)))]) (wrap64 (x8_1 + 1))) else (none)) = some r := H
     have A5 := Aside0.mk A50
     clear A50
     by_cases c6 : x7_1.length < 17592186044416
     ·rw [if_pos c6] at H
      have LMc6 := Aside0.mk c6
      clear c6
      obtain ⟨y347, hy347⟩ : ∃ y_ : List Int, y_ = (x7_1 ++ [wrap64 (t346 + (wrap64 (x8_1 * a2)))]) := ⟨_, rfl⟩
      replace H : (spec_peTriple.l0 k1 a0 a1 a2 y347 (wrap64 (x8_1 + 1))) = some r := by first | (rw [hy347]; with_reducible exact H) | (have H2_ := (Option.bind_some _ _).symm.trans H; rw [hy347]; with_reducible exact H2_) | (have H2_ := (Option.bind_some _ _).symm.trans H; with_reducible exact H2_) | with_reducible exact H | (rw [hy347]; exact H) | exact H
      have Ny347 := Aside0.mk hy347
      clear hy347
      have H' := Aside0.mk H
      clear H
      go_wp2_with (first | ((with_reducible refine gate_callee (f := 120) rfl ?_); refine goesL_ (some 18) rfl rfl Try.func120 (by kernel_rfl) rfl #[.int .i64 a0, .int .i64 x8_1, .string a1, .int .i64 a2] rfl (by (try simp only [List.map_toArray, List.map_cons, List.map_nil]); first | done | rfl | (simp only [List.length_drop, List.length_take]; rfl)) ?_; (with_reducible refine (spec_biPlace.calls k1 a0 x8_1 a1 a2 t346 _ A5.out).mono ?_); rintro e w' ⟨rfl, ⟨nd, rfl⟩⟩; refine ⟨_, rfl, ?_⟩) | ((with_reducible refine gate_builtin (b := .append) (xs := #[.tmp 13, .tmp 23]) rfl ?_); at_builtin; refine Kd.R_append (Kd.int .i64) (w0 := w) w.heap.size rfl (.tmp 13) (.tmp 23) 22 3 (.int .i64 0) 8 rfl Try.underlying22 info3 rfl (by decide) (by omega) u7 x7_1 (wrap64 (t346 + (wrap64 (x8_1 * a2)))) [.int .i64 (wrap64 (t346 + (wrap64 (x8_1 * a2))))] (fun _ => True) (fun _ => False) rfl rfl ?aP (fun _ hk => hk.elim) ?aF ?aO ?aB ?aS ?aL ?_; (case aP => exact rfl); (case aB => exact (by repeat (first | (with_reducible first | exact HB.out | apply below_alloc | apply pw_below_drewN | apply below_drew1) | exact HB.out))); (case aF => exact (fun _ _ => trivial)); (case aO => exact (by (with_reducible repeat (first | apply Kd.R_alloc | apply Kd.R_drewN | apply Kd.R_drew)); exact HO_7.out)); (case aS => exact (below_size (by repeat (first | (with_reducible first | exact HB.out | apply below_alloc | apply pw_below_drewN | apply below_drew1) | exact HB.out)))); (case aL => have := LMc6.out; omega); intro v348 w7 ho hb hg hat; rw [← Ny347.out] at ho; have n0_ := Aside0.mk (hb); have n1_ := Aside0.mk (ho); clear HB; clear HO_7; have HB := n0_; have HO349 := n1_; clear n0_ n1_; clear ho hb hg hat))
      go_roundg k1
      case measure => have := HK1.out; omega
      case rel => exact ⟨(y347), (wrap64 (x8_1 + 1)), (by first | rfl | (simp; done) | (simp [*]; done)), H', ⟨by have := HK1.out; omega⟩, ⟨by (with_reducible repeat (first | apply Kd.R_alloc | apply Kd.R_drewN | apply Kd.R_drew)); exact HO349.out⟩, ⟨by repeat (first | (with_reducible first | exact HB.out | apply below_alloc | apply pw_below_drewN | apply below_drew1) | exact HB.out)⟩⟩
     ·rw [if_neg c6] at H
      exact absurd H (by simp)
    ·rw [if_neg c4] at H
     have c4b0 : decide (x8_1 < 3) = false := decide_eq_false c4
     clear c4
     obtain rfl := Option.some.inj H
     go_wp2
     go_ret
     exact ⟨_, by first | rfl | (simp [errW_none, errW_some] <;> rfl) | (simp [*, errW_none, errW_some] <;> rfl), by (with_reducible repeat (first | apply Kd.R_alloc | apply Kd.R_drewN | apply Kd.R_drew)); exact HO_7.out, by repeat (first | (with_reducible first | exact HB.out | apply below_alloc | apply pw_below_drewN | apply below_drew1) | exact HB.out)⟩
/-! ### spec_pfSum: function 130 -/
def spec_pfSum.l0 : Nat → List Int → Int → List Int → Int → Int → Option (Int)
  | 0, _, _, _, _, _ => none
  | k + 1, x0, x5, x8, x9, x10 => if x10 < x9 then (if 0 ≤ x10 then (if x10 < (x8.length : Int) then (if 0 ≤ (rd x8 x10) then (if (rd x8 x10) < (x0.length : Int) then (spec_pfSum.l0 k x0 (wrap64 (x5 + (rd x0 (rd x8 x10)))) x8 x9 (wrap64 (x10 + 1))) else (none)) else (none)) else (none)) else (none)) else (some x5)
def spec_pfSum.f (k : Nat) (l0 : List Int) (l1 : List Int) : Option (Int) := spec_pfSum.l0 k l0 0 l1 (l1.length : Int) 0
theorem spec_pfSum.mono_l : ∀ k, (∀ y0 y1 y2 y3 y4, LeO (spec_pfSum.l0 k y0 y1 y2 y3 y4) (spec_pfSum.l0 (k + 1) y0 y1 y2 y3 y4))
  | 0 => fun _ _ _ _ _ r h => by simp [spec_pfSum.l0] at h
  | k + 1 => by
    have ih0 := spec_pfSum.mono_l k
    · intro y0 y1 y2 y3 y4
      unfold spec_pfSum.l0
      repeat' first
      | (with_reducible exact ih0 _ _ _ _ _)
      | (with_reducible exact LeO.refl _)
      | (with_reducible exact LeO.none _)
      | (with_reducible refine LeO.ite ?_ ?_)
      | (with_reducible refine LeO.bind ?_ (fun _ => ?_))
      | exact ih0 _ _ _ _ _
      | exact LeO.none _
      | refine LeO.ite ?_ ?_
      | refine LeO.bind ?_ (fun _ => ?_)
theorem spec_pfSum.mono : ∀ a0 a1 k, LeO (spec_pfSum.f k a0 a1) (spec_pfSum.f (k + 1) a0 a1) := by
  intro a0 a1 k
  have ih0 := spec_pfSum.mono_l k
  unfold spec_pfSum.f
  repeat' first
      | (with_reducible exact ih0 _ _ _ _ _)
      | (with_reducible exact LeO.refl _)
      | (with_reducible exact LeO.none _)
      | (with_reducible refine LeO.ite ?_ ?_)
      | (with_reducible refine LeO.bind ?_ (fun _ => ?_))
      | exact ih0 _ _ _ _ _
      | exact LeO.none _
      | refine LeO.ite ?_ ?_
      | refine LeO.bind ?_ (fun _ => ?_)
noncomputable def spec_pfSum.L0 (y0 : List Int) (y1 : Int) (y2 : List Int) (y3 : Int) (y4 : Int) : Option (Int) := lim fun k => spec_pfSum.l0 k y0 y1 y2 y3 y4
theorem spec_pfSum.L0_sup (y0 : List Int) (y1 : Int) (y2 : List Int) (y3 : Int) (y4 : Int) : Sup (fun k => spec_pfSum.l0 k y0 y1 y2 y3 y4) (spec_pfSum.L0 y0 y1 y2 y3 y4) := Sup.of_mono fun k => spec_pfSum.mono_l k y0 y1 y2 y3 y4
noncomputable def spec_pfSum.F (l0 : List Int) (l1 : List Int) : Option (Int) := lim fun k => spec_pfSum.f k l0 l1
theorem spec_pfSum.F_sup (l0 : List Int) (l1 : List Int) : Sup (fun k => spec_pfSum.f k l0 l1) (spec_pfSum.F l0 l1) := Sup.of_mono fun k => spec_pfSum.mono l0 l1 k
theorem spec_pfSum.L0_eq (x0 : List Int) (x5 : Int) (x8 : List Int) (x9 : Int) (x10 : Int) : spec_pfSum.L0 x0 x5 x8 x9 x10 = if x10 < x9 then (if 0 ≤ x10 then (if x10 < (x8.length : Int) then (if 0 ≤ (rd x8 x10) then (if (rd x8 x10) < (x0.length : Int) then (spec_pfSum.L0 x0 (wrap64 (x5 + (rd x0 (rd x8 x10)))) x8 x9 (wrap64 (x10 + 1))) else (none)) else (none)) else (none)) else (none)) else (some x5) := by
  refine Sup.unique (spec_pfSum.L0_sup x0 x5 x8 x9 x10) (Sup.shift (fun k => spec_pfSum.mono_l k x0 x5 x8 x9 x10) (Sup.congr (g' := fun k => if x10 < x9 then (if 0 ≤ x10 then (if x10 < (x8.length : Int) then (if 0 ≤ (rd x8 x10) then (if (rd x8 x10) < (x0.length : Int) then (spec_pfSum.l0 k x0 (wrap64 (x5 + (rd x0 (rd x8 x10)))) x8 x9 (wrap64 (x10 + 1))) else (none)) else (none)) else (none)) else (none)) else (some x5)) (fun k => by first | rfl | simp only [spec_pfSum.l0]) ?_))
  repeat' first
    | (with_reducible exact spec_pfSum.L0_sup _ _ _ _ _)
    | (with_reducible refine Sup.ite ?_ ?_)
    | (with_reducible refine Sup.bind ?_ (fun _ => ?_))
    | (with_reducible exact Sup.const _)
    | exact spec_pfSum.L0_sup _ _ _ _ _
    | exact Sup.const _
theorem spec_pfSum.F_eq (l0 : List Int) (l1 : List Int) : spec_pfSum.F l0 l1 = spec_pfSum.L0 l0 0 l1 (l1.length : Int) 0 := by
  refine Sup.unique (spec_pfSum.F_sup l0 l1) (Sup.congr (g' := fun k => spec_pfSum.l0 k l0 0 l1 (l1.length : Int) 0) (fun k => by first | rfl | simp only [spec_pfSum.f]) ?_)
  repeat' first
    | (with_reducible exact spec_pfSum.L0_sup _ _ _ _ _)
    | (with_reducible refine Sup.ite ?_ ?_)
    | (with_reducible refine Sup.bind ?_ (fun _ => ?_))
    | (with_reducible exact Sup.const _)
    | exact spec_pfSum.L0_sup _ _ _ _ _
    | exact Sup.const _
set_option maxHeartbeats 8000000 in
set_option maxRecDepth 100000 in
theorem spec_pfSum.calls (k : Nat) (A0 : Option Addr) (c0 : Nat) (l0 : List Int) (A1 : Option Addr) (c1 : Nat) (l1 : List Int) (r : Int) (w : World) (hr0 : Kd.C (Kd.int .i64) w A0 l0.length l0) (hc0 : l0.length ≤ c0) (hr1 : Kd.C (Kd.int .i64) w A1 l1.length l1) (hc1 : l1.length ≤ c1) (h : spec_pfSum.f k l0 l1 = some r) :
    Calls Try.prog 130 #[.slice A0 l0.length c0, .slice A1 l1.length c1] w fun e w' => e = .returned (.int .i64 r) ∧ Drawn0 w w' := by
  have HR0 := Aside0.mk hr0
  have HC0 := Aside0.mk hc0
  clear hr0 hc0
  have HR1 := Aside0.mk hr1
  have HC1 := Aside0.mk hc1
  clear hr1 hc1
  have H : (spec_pfSum.l0 k l0 0 l1 (l1.length : Int) 0) = some r := h
  clear h
  have H' := Aside0.mk H
  clear H
  go_enter Try.func130, Try.ntmps130
  go_wp2
  go_loopg [5, 10] k (fun kq v5 v10 w' => ∃ (x5_1 : Int) (x10_1 : Int), v5 = .int .i64 x5_1 ∧ v10 = .int .i64 x10_1 ∧ Aside0 (spec_pfSum.l0 kq l0 x5_1 l1 (l1.length : Int) x10_1 = some r) ∧ Aside0 (kq ≤ k) ∧ Drawn0 w w')
  case atStart => exact ⟨(0), (0), (by first | rfl | (simp; done) | (simp [*]; done)), (by first | rfl | (simp; done) | (simp [*]; done)), H', ⟨Nat.le_refl _⟩, by repeat (first | exact Drawn0.refl _ | apply Drawn0.step)⟩
  case round =>
   clear H'
   try clear c1
   try clear p2
   obtain ⟨x5_1, x10_1, rfl, rfl, HA, HK1, ⟨m1, rfl⟩⟩ := hrel
   cases gk with
   | zero => exact absurd HA.out (by simp [spec_pfSum.l0])
   | succ k1 =>
    have H := HA.out
    clear HA
    simp only [spec_pfSum.l0] at H
    by_cases c3 : x10_1 < (l1.length : Int)
    ·rw [if_pos c3] at H
     have c3b0 : decide (x10_1 < (l1.length : Int)) = true := decide_eq_true c3
     clear c3
     by_cases c4 : 0 ≤ x10_1
     ·rw [if_pos c4] at H
      have c4b0 : decide (0 ≤ x10_1) = true := decide_eq_true c4
      clear c4
      by_cases c5 : x10_1 < (l1.length : Int)
      ·rw [if_pos c5] at H
       have c5b0 : decide (x10_1 < (l1.length : Int)) = true := decide_eq_true c5
       clear c5
       by_cases c6 : 0 ≤ (rd l1 x10_1)
       ·rw [if_pos c6] at H
        have c6b0 : decide (0 ≤ (rd l1 x10_1)) = true := decide_eq_true c6
        clear c6
        by_cases c7 : (rd l1 x10_1) < (l0.length : Int)
        ·rw [if_pos c7] at H
         have c7b0 : decide ((rd l1 x10_1) < (l0.length : Int)) = true := decide_eq_true c7
         clear c7
         have H' := Aside0.mk H
         clear H
         have p350 : 0 ≤ (x10_1 : Int) := of_decide_eq_true (by first | (with_reducible assumption) | assumption)
         have q350 : x10_1 < (l1.length : Int) := of_decide_eq_true (by first | (with_reducible assumption) | assumption)
         obtain ⟨ad350, e350, hx350_0⟩ := Kd.at_int HR1.out x10_1 p350 q350
         cases e350
         replace p350 := eq_true p350
         replace q350 := eq_true q350
         have p351 : 0 ≤ ((rd l1 x10_1) : Int) := of_decide_eq_true (by first | (with_reducible assumption) | assumption)
         have q351 : (rd l1 x10_1) < (l0.length : Int) := of_decide_eq_true (by first | (with_reducible assumption) | assumption)
         obtain ⟨ad351, e351, hx351_0⟩ := Kd.at_int HR0.out (rd l1 x10_1) p351 q351
         cases e351
         replace p351 := eq_true p351
         replace q351 := eq_true q351
         go_wp2
         go_roundg k1
         case measure => have := HK1.out; omega
         case rel => exact ⟨(wrap64 (x5_1 + (rd l0 (rd l1 x10_1)))), (wrap64 (x10_1 + 1)), (by first | rfl | (simp; done) | (simp [*]; done)), (by first | rfl | (simp; done) | (simp [*]; done)), H', ⟨by have := HK1.out; omega⟩, by repeat (first | exact Drawn0.refl _ | apply Drawn0.step)⟩
        ·rw [if_neg c7] at H
         exact absurd H (by simp)
       ·rw [if_neg c6] at H
        exact absurd H (by simp)
      ·rw [if_neg c5] at H
       exact absurd H (by simp)
     ·rw [if_neg c4] at H
      exact absurd H (by simp)
    ·rw [if_neg c3] at H
     have c3b0 : decide (x10_1 < (l1.length : Int)) = false := decide_eq_false c3
     clear c3
     obtain rfl := Option.some.inj H
     go_wp2
     go_ret
     exact ⟨by first | rfl | (simp; done) | (simp [*]; done), by repeat (first | exact Drawn0.refl _ | apply Drawn0.step)⟩
/-! ### impl_threePlaces: function 104 -/
def impl_threePlaces.l0 : Nat → Int → ByteArray → Int → List Int → Int → Option (List Int)
  | 0, _, _, _, _, _ => none
  | k + 1, x0, x1, x2, x7, x10 => if x10 < 3 then ((impl_place.f k x0 x10 x1 x2).bind fun t379 => (if x7.length < 17592186044416 then (impl_threePlaces.l0 k x0 x1 x2 (x7 ++ [wrap64 (t379 + (wrap64 (x10 * x2)))]) (wrap64 (x10 + 1))) else (none))) else (some x7)
def impl_threePlaces.f (k : Nat) (a0 : Int) (a1 : ByteArray) (a2 : Int) : Option (List Int) := impl_threePlaces.l0 k a0 a1 a2 (([] : List Int)) 0
theorem impl_threePlaces.mono_l : ∀ k, (∀ y0 y1 y2 y3 y4, LeO (impl_threePlaces.l0 k y0 y1 y2 y3 y4) (impl_threePlaces.l0 (k + 1) y0 y1 y2 y3 y4))
  | 0 => fun _ _ _ _ _ r h => by simp [impl_threePlaces.l0] at h
  | k + 1 => by
    have ih0 := impl_threePlaces.mono_l k
    · intro y0 y1 y2 y3 y4
      unfold impl_threePlaces.l0
      repeat' first
      | (with_reducible exact ih0 _ _ _ _ _)
      | (with_reducible exact impl_place.mono _ _ _ _ _)
      | (with_reducible exact LeO.refl _)
      | (with_reducible exact LeO.none _)
      | (with_reducible refine LeO.ite ?_ ?_)
      | (with_reducible refine LeO.bind ?_ (fun _ => ?_))
      | exact ih0 _ _ _ _ _
      | exact impl_place.mono _ _ _ _ _
      | exact LeO.none _
      | refine LeO.ite ?_ ?_
      | refine LeO.bind ?_ (fun _ => ?_)
theorem impl_threePlaces.mono : ∀ a0 a1 a2 k, LeO (impl_threePlaces.f k a0 a1 a2) (impl_threePlaces.f (k + 1) a0 a1 a2) := by
  intro a0 a1 a2 k
  have ih0 := impl_threePlaces.mono_l k
  unfold impl_threePlaces.f
  repeat' first
      | (with_reducible exact ih0 _ _ _ _ _)
      | (with_reducible exact impl_place.mono _ _ _ _ _)
      | (with_reducible exact LeO.refl _)
      | (with_reducible exact LeO.none _)
      | (with_reducible refine LeO.ite ?_ ?_)
      | (with_reducible refine LeO.bind ?_ (fun _ => ?_))
      | exact ih0 _ _ _ _ _
      | exact impl_place.mono _ _ _ _ _
      | exact LeO.none _
      | refine LeO.ite ?_ ?_
      | refine LeO.bind ?_ (fun _ => ?_)
noncomputable def impl_threePlaces.L0 (y0 : Int) (y1 : ByteArray) (y2 : Int) (y3 : List Int) (y4 : Int) : Option (List Int) := lim fun k => impl_threePlaces.l0 k y0 y1 y2 y3 y4
theorem impl_threePlaces.L0_sup (y0 : Int) (y1 : ByteArray) (y2 : Int) (y3 : List Int) (y4 : Int) : Sup (fun k => impl_threePlaces.l0 k y0 y1 y2 y3 y4) (impl_threePlaces.L0 y0 y1 y2 y3 y4) := Sup.of_mono fun k => impl_threePlaces.mono_l k y0 y1 y2 y3 y4
noncomputable def impl_threePlaces.F (a0 : Int) (a1 : ByteArray) (a2 : Int) : Option (List Int) := lim fun k => impl_threePlaces.f k a0 a1 a2
theorem impl_threePlaces.F_sup (a0 : Int) (a1 : ByteArray) (a2 : Int) : Sup (fun k => impl_threePlaces.f k a0 a1 a2) (impl_threePlaces.F a0 a1 a2) := Sup.of_mono fun k => impl_threePlaces.mono a0 a1 a2 k
theorem impl_threePlaces.L0_eq (x0 : Int) (x1 : ByteArray) (x2 : Int) (x7 : List Int) (x10 : Int) : impl_threePlaces.L0 x0 x1 x2 x7 x10 = if x10 < 3 then ((impl_place.F x0 x10 x1 x2).bind fun t379 => (if x7.length < 17592186044416 then (impl_threePlaces.L0 x0 x1 x2 (x7 ++ [wrap64 (t379 + (wrap64 (x10 * x2)))]) (wrap64 (x10 + 1))) else (none))) else (some x7) := by
  refine Sup.unique (impl_threePlaces.L0_sup x0 x1 x2 x7 x10) (Sup.shift (fun k => impl_threePlaces.mono_l k x0 x1 x2 x7 x10) (Sup.congr (g' := fun k => if x10 < 3 then ((impl_place.f k x0 x10 x1 x2).bind fun t379 => (if x7.length < 17592186044416 then (impl_threePlaces.l0 k x0 x1 x2 (x7 ++ [wrap64 (t379 + (wrap64 (x10 * x2)))]) (wrap64 (x10 + 1))) else (none))) else (some x7)) (fun k => by first | rfl | simp only [impl_threePlaces.l0]) ?_))
  repeat' first
    | (with_reducible exact impl_threePlaces.L0_sup _ _ _ _ _)
    | (with_reducible exact impl_place.F_sup _ _ _ _)
    | (with_reducible refine Sup.ite ?_ ?_)
    | (with_reducible refine Sup.bind ?_ (fun _ => ?_))
    | (with_reducible exact Sup.const _)
    | exact impl_threePlaces.L0_sup _ _ _ _ _
    | exact impl_place.F_sup _ _ _ _
    | exact Sup.const _
theorem impl_threePlaces.F_eq (a0 : Int) (a1 : ByteArray) (a2 : Int) : impl_threePlaces.F a0 a1 a2 = impl_threePlaces.L0 a0 a1 a2 (([] : List Int)) 0 := by
  refine Sup.unique (impl_threePlaces.F_sup a0 a1 a2) (Sup.congr (g' := fun k => impl_threePlaces.l0 k a0 a1 a2 (([] : List Int)) 0) (fun k => by first | rfl | simp only [impl_threePlaces.f]) ?_)
  repeat' first
    | (with_reducible exact impl_threePlaces.L0_sup _ _ _ _ _)
    | (with_reducible exact impl_place.F_sup _ _ _ _)
    | (with_reducible refine Sup.ite ?_ ?_)
    | (with_reducible refine Sup.bind ?_ (fun _ => ?_))
    | (with_reducible exact Sup.const _)
    | exact impl_threePlaces.L0_sup _ _ _ _ _
    | exact impl_place.F_sup _ _ _ _
    | exact Sup.const _
set_option maxHeartbeats 8000000 in
set_option maxRecDepth 100000 in
theorem impl_threePlaces.calls (k : Nat) (a0 : Int) (a1 : ByteArray) (a2 : Int) (r : List Int) (w : World) (h : impl_threePlaces.f k a0 a1 a2 = some r) :
    Calls Try.prog 104 #[.int .i64 a0, .string a1, .int .i64 a2] w fun e w' => ∃ v0_ : Value, e = .returned (v0_) ∧ Kd.R (Kd.int .i64) 3 w' w.heap.size (fun _ => True) v0_ r ∧ Below w.heap.size w w' := by
  have HB := Aside0.mk (Below.refl w.heap.size w)
  have H : (impl_threePlaces.l0 k a0 a1 a2 (([] : List Int)) 0) = some r := h
  clear h
  obtain ⟨y376, hy376⟩ : ∃ y_ : List Int, y_ = (([] : List Int)) := ⟨_, rfl⟩
  replace H : (impl_threePlaces.l0 k a0 a1 a2 y376 0) = some r := by first | (rw [hy376]; with_reducible exact H) | (have H2_ := (Option.bind_some _ _).symm.trans H; rw [hy376]; with_reducible exact H2_) | (have H2_ := (Option.bind_some _ _).symm.trans H; with_reducible exact H2_) | with_reducible exact H | (rw [hy376]; exact H) | exact H
  have Ny376 := Aside0.mk hy376
  clear hy376
  have H' := Aside0.mk H
  clear H
  go_enter Try.func104, Try.ntmps104
  go_wp2_with (first | ((with_reducible refine gate_dst (N := 9) rfl ?_); refine Kd.R_lit (Kd.int .i64) _ 3 ?hg (N := 9) ?hd (xs := ([] : List Int)) (inner := []) (ok := fun _ => True) (okp := fun _ => True) ?hr ?hp (fun _ hk => hk) trivial (Below.refl _ _) (Nat.le_refl _) (by simp) ?_; (case hd => rfl); (case hg => rfl); (case hr => first | (go_simp; done) | (go_simp; rfl)); (case hp => exact (Reps.none _ _)); intro v377 w4 ho5 hb hg_ hnew_; clear hg_ hnew_; (first | rw [← Ny376.out] at ho5 | (simp only [Int.reduceToNat] at ho5; rw [← Ny376.out] at ho5)); have n0_ := Aside0.mk (Kd.R_lower ho5 (below_size (by repeat (first | (with_reducible first | exact HB.out | apply below_alloc | apply pw_below_drewN | apply below_drew1) | exact HB.out)))); have n1_ := Aside0.mk (below_step (by repeat (first | (with_reducible first | exact HB.out | apply below_alloc | apply pw_below_drewN | apply below_drew1) | exact HB.out)) hb); clear HB; have HO378 := n0_; have HB := n1_; clear n0_ n1_; clear hb ho5))
  go_loopg [7, 10] k (fun kq v7 v10 w' => ∃ (x7_1 : List Int) (x10_1 : Int), v10 = .int .i64 x10_1 ∧ Aside0 (impl_threePlaces.l0 kq a0 a1 a2 x7_1 x10_1 = some r) ∧ Aside0 (kq ≤ k) ∧ Aside0 (Kd.R (Kd.int .i64) 3 w' w.heap.size (fun _ => True) v7 x7_1) ∧ Aside0 (Below w.heap.size w w'))
  case atStart => exact ⟨(y376), (0), (by first | rfl | (simp; done) | (simp [*]; done)), H', ⟨Nat.le_refl _⟩, ⟨by (with_reducible repeat (first | apply Kd.R_alloc | apply Kd.R_drewN | apply Kd.R_drew)); exact HO378.out⟩, ⟨by repeat (first | (with_reducible first | exact HB.out | apply below_alloc | apply pw_below_drewN | apply below_drew1) | exact HB.out)⟩⟩
  case round =>
   clear H'
   try clear c1
   try clear p2
   obtain ⟨x7_1, x10_1, rfl, HA, HK1, HO_7, HB⟩ := hrel
   cases gk with
   | zero => exact absurd HA.out (by simp [impl_threePlaces.l0])
   | succ k1 =>
    have H := HA.out
    clear HA
    simp only [impl_threePlaces.l0] at H
    by_cases c6 : x10_1 < 3
    ·rw [if_pos c6] at H
     have c6b0 : decide (x10_1 < 3) = true := decide_eq_true c6
     clear c6
     replace H := Option.bind_eq_some_iff.mp H
     obtain ⟨t379, A70, H⟩ := H
     replace H : (if x7_1.length < 17592186044416 then (impl_threePlaces.l0 k1 a0 a1 a2 (x7_1 ++ [wrap64 (t379 + (wrap64 (x10_1 * a2)))]) (wrap64 (x10_1 + 1))) else (none)) = some r := H
     have A7 := Aside0.mk A70
     clear A70
     by_cases c8 : x7_1.length < 17592186044416
     ·rw [if_pos c8] at H
      have LMc8 := Aside0.mk c8
      clear c8
      obtain ⟨y380, hy380⟩ : ∃ y_ : List Int, y_ = (x7_1 ++ [wrap64 (t379 + (wrap64 (x10_1 * a2)))]) := ⟨_, rfl⟩
      replace H : (impl_threePlaces.l0 k1 a0 a1 a2 y380 (wrap64 (x10_1 + 1))) = some r := by first | (rw [hy380]; with_reducible exact H) | (have H2_ := (Option.bind_some _ _).symm.trans H; rw [hy380]; with_reducible exact H2_) | (have H2_ := (Option.bind_some _ _).symm.trans H; with_reducible exact H2_) | with_reducible exact H | (rw [hy380]; exact H) | exact H
      have Ny380 := Aside0.mk hy380
      clear hy380
      have H' := Aside0.mk H
      clear H
      go_wp2_with (first | ((with_reducible refine gate_callee (f := 90) rfl ?_); refine goesL_ (some 18) rfl rfl Try.func90 (by kernel_rfl) rfl #[.int .i64 a0, .int .i64 x10_1, .string a1, .int .i64 a2] rfl (by (try simp only [List.map_toArray, List.map_cons, List.map_nil]); first | done | rfl | (simp only [List.length_drop, List.length_take]; rfl)) ?_; (with_reducible refine (impl_place.calls k1 a0 x10_1 a1 a2 t379 _ A7.out).mono ?_); rintro e w' ⟨rfl, ⟨nd, rfl⟩⟩; refine ⟨_, rfl, ?_⟩) | ((with_reducible refine gate_builtin (b := .append) (xs := #[.tmp 13, .tmp 23]) rfl ?_); at_builtin; refine Kd.R_append (Kd.int .i64) (w0 := w) w.heap.size rfl (.tmp 13) (.tmp 23) 22 3 (.int .i64 0) 8 rfl Try.underlying22 info3 rfl (by decide) (by omega) u7 x7_1 (wrap64 (t379 + (wrap64 (x10_1 * a2)))) [.int .i64 (wrap64 (t379 + (wrap64 (x10_1 * a2))))] (fun _ => True) (fun _ => False) rfl rfl ?aP (fun _ hk => hk.elim) ?aF ?aO ?aB ?aS ?aL ?_; (case aP => exact rfl); (case aB => exact (by repeat (first | (with_reducible first | exact HB.out | apply below_alloc | apply pw_below_drewN | apply below_drew1) | exact HB.out))); (case aF => exact (fun _ _ => trivial)); (case aO => exact (by (with_reducible repeat (first | apply Kd.R_alloc | apply Kd.R_drewN | apply Kd.R_drew)); exact HO_7.out)); (case aS => exact (below_size (by repeat (first | (with_reducible first | exact HB.out | apply below_alloc | apply pw_below_drewN | apply below_drew1) | exact HB.out)))); (case aL => have := LMc8.out; omega); intro v381 w9 ho hb hg hat; rw [← Ny380.out] at ho; have n0_ := Aside0.mk (hb); have n1_ := Aside0.mk (ho); clear HB; clear HO_7; have HB := n0_; have HO382 := n1_; clear n0_ n1_; clear ho hb hg hat))
      go_roundg k1
      case measure => have := HK1.out; omega
      case rel => exact ⟨(y380), (wrap64 (x10_1 + 1)), (by first | rfl | (simp; done) | (simp [*]; done)), H', ⟨by have := HK1.out; omega⟩, ⟨by (with_reducible repeat (first | apply Kd.R_alloc | apply Kd.R_drewN | apply Kd.R_drew)); exact HO382.out⟩, ⟨by repeat (first | (with_reducible first | exact HB.out | apply below_alloc | apply pw_below_drewN | apply below_drew1) | exact HB.out)⟩⟩
     ·rw [if_neg c8] at H
      exact absurd H (by simp)
    ·rw [if_neg c6] at H
     have c6b0 : decide (x10_1 < 3) = false := decide_eq_false c6
     clear c6
     obtain rfl := Option.some.inj H
     go_wp2
     go_ret
     exact ⟨_, by first | rfl | (simp [errW_none, errW_some] <;> rfl) | (simp [*, errW_none, errW_some] <;> rfl), by (with_reducible repeat (first | apply Kd.R_alloc | apply Kd.R_drewN | apply Kd.R_drew)); exact HO_7.out, by repeat (first | (with_reducible first | exact HB.out | apply below_alloc | apply pw_below_drewN | apply below_drew1) | exact HB.out)⟩
end Go.Proofs.Ytioncjcmfbndmaa.X
