/- Written by a program of this session: what functions of the given program compute, and that their calls do so. -/
import Derived.Test.YtkechjheiakibaaXx0
import Derived.Test.YtkechjheiakibaaXg7fa
import Derived.Test.YtkechjheiakibaaXs
namespace Go.Proofs.Ytkechjheiakibaa.X
open Go.RowKit Go.Proofs.YtkechjheiakibaaW.PrintWords Go.Proofs.YtkechjheiakibaaW.PrintLast Go.Proofs.YtkechjheiakibaaW.PrintMore
attribute [local go_sem] max2_int min2_int max_two min_two max_three min_three max_four min_four   -- for this text's walks alone
set_option linter.unusedVariables false
set_option linter.unusedSimpArgs false
/-! ### spec_spCoded: function 44 -/
def spec_spCoded.f (k : Nat) (l0 : List Int) : Option (Bool) := if (l0.length : Int) ≤ 60 then ((spec_l1All.f k l0 1 100000).bind fun t103 => (some t103)) else (some false)
theorem spec_spCoded.mono : ∀ a0 k, LeO (spec_spCoded.f k a0) (spec_spCoded.f (k + 1) a0) := by
  intro a0 k
  unfold spec_spCoded.f
  repeat' first
      | (with_reducible exact spec_l1All.mono _ _ _ _)
      | (with_reducible exact LeO.refl _)
      | (with_reducible exact LeO.none _)
      | (with_reducible refine LeO.ite ?_ ?_)
      | (with_reducible refine LeO.bind ?_ (fun _ => ?_))
      | exact spec_l1All.mono _ _ _ _
      | exact LeO.none _
      | refine LeO.ite ?_ ?_
      | refine LeO.bind ?_ (fun _ => ?_)
noncomputable def spec_spCoded.F (l0 : List Int) : Option (Bool) := lim fun k => spec_spCoded.f k l0
theorem spec_spCoded.F_sup (l0 : List Int) : Sup (fun k => spec_spCoded.f k l0) (spec_spCoded.F l0) := Sup.of_mono fun k => spec_spCoded.mono l0 k
theorem spec_spCoded.F_eq (l0 : List Int) : spec_spCoded.F l0 = if (l0.length : Int) ≤ 60 then ((spec_l1All.F l0 1 100000).bind fun t103 => (some t103)) else (some false) := by
  refine Sup.unique (spec_spCoded.F_sup l0) (Sup.congr (g' := fun k => if (l0.length : Int) ≤ 60 then ((spec_l1All.f k l0 1 100000).bind fun t103 => (some t103)) else (some false)) (fun k => by first | rfl | simp only [spec_spCoded.f]) ?_)
  repeat' first
    | (with_reducible exact spec_l1All.F_sup _ _ _)
    | (with_reducible refine Sup.ite ?_ ?_)
    | (with_reducible refine Sup.bind ?_ (fun _ => ?_))
    | (with_reducible exact Sup.const _)
    | exact spec_l1All.F_sup _ _ _
    | exact Sup.const _
set_option maxHeartbeats 8000000 in
set_option maxRecDepth 100000 in
theorem spec_spCoded.calls (k : Nat) (A0 : Option Addr) (c0 : Nat) (l0 : List Int) (r : Bool) (w : World) (hr0 : Kd.C (Kd.int .i64) w A0 l0.length l0) (hc0 : l0.length ≤ c0) (h : spec_spCoded.f k l0 = some r) :
    Calls Try.prog 44 #[.slice A0 l0.length c0] w fun e w' => e = .returned (.bool r) ∧ Drawn0 w w' := by
  have HR0 := Aside0.mk hr0
  have HC0 := Aside0.mk hc0
  clear hr0 hc0
  have H : (if (l0.length : Int) ≤ 60 then ((spec_l1All.f k l0 1 100000).bind fun t103 => (some t103)) else (some false)) = some r := h
  clear h
  by_cases c2 : (l0.length : Int) ≤ 60
  ·rw [if_pos c2] at H
   have c2b0 : decide ((l0.length : Int) ≤ 60) = true := decide_eq_true c2
   have c2b1 : decide (l0.length ≤ 60) = true := decide_eq_true (by omega)
   clear c2
   replace H := Option.bind_eq_some_iff.mp H
   obtain ⟨t103, A30, H⟩ := H
   replace H : (some t103) = some r := H
   have A3 := Aside0.mk A30
   clear A30
   obtain rfl := Option.some.inj H
   go_enter Try.func44, Try.ntmps44
   go_wp2_with (first | (go_at_call 79; (with_reducible refine (spec_l1All.calls k _ _ l0 1 100000 t103 _ ?side1 ?side2 A3.out).mono ?_); (case side1 => exact kE_ HR0); (case side2 => exact HC0.out); rintro e w' ⟨rfl, ⟨nd, rfl⟩⟩))
   go_ret
   exact ⟨rg_, by repeat (first | exact Drawn0.refl _ | apply Drawn0.step)⟩
  ·rw [if_neg c2] at H
   have c2b0 : decide ((l0.length : Int) ≤ 60) = false := decide_eq_false c2
   have c2b1 : decide (l0.length ≤ 60) = false := decide_eq_false (by omega)
   clear c2
   obtain rfl := Option.some.inj H
   go_enter Try.func44, Try.ntmps44
   go_wp2
   go_ret
   exact ⟨rg_, by repeat (first | exact Drawn0.refl _ | apply Drawn0.step)⟩
/-! ### spec_spDigits: function 104 -/
def spec_spDigits.l0 : Nat → Int → Int → Option (Int)
  | 0, _, _ => none
  | k + 1, x0, x3 => if 0 ≤ x3 then (if (shl .i64 2 x3) ≤ x0 then (spec_spDigits.l0 k x0 (wrap64 (x3 + 1))) else (some x3)) else (none)
def spec_spDigits.f (k : Nat) (a0 : Int) : Option (Int) := spec_spDigits.l0 k a0 0
theorem spec_spDigits.mono_l : ∀ k, (∀ y0 y1, LeO (spec_spDigits.l0 k y0 y1) (spec_spDigits.l0 (k + 1) y0 y1))
  | 0 => fun _ _ r h => by simp [spec_spDigits.l0] at h
  | k + 1 => by
    have ih0 := spec_spDigits.mono_l k
    · intro y0 y1
      unfold spec_spDigits.l0
      repeat' first
      | (with_reducible exact ih0 _ _)
      | (with_reducible exact LeO.refl _)
      | (with_reducible exact LeO.none _)
      | (with_reducible refine LeO.ite ?_ ?_)
      | (with_reducible refine LeO.bind ?_ (fun _ => ?_))
      | exact ih0 _ _
      | exact LeO.none _
      | refine LeO.ite ?_ ?_
      | refine LeO.bind ?_ (fun _ => ?_)
theorem spec_spDigits.mono : ∀ a0 k, LeO (spec_spDigits.f k a0) (spec_spDigits.f (k + 1) a0) := by
  intro a0 k
  have ih0 := spec_spDigits.mono_l k
  unfold spec_spDigits.f
  repeat' first
      | (with_reducible exact ih0 _ _)
      | (with_reducible exact LeO.refl _)
      | (with_reducible exact LeO.none _)
      | (with_reducible refine LeO.ite ?_ ?_)
      | (with_reducible refine LeO.bind ?_ (fun _ => ?_))
      | exact ih0 _ _
      | exact LeO.none _
      | refine LeO.ite ?_ ?_
      | refine LeO.bind ?_ (fun _ => ?_)
noncomputable def spec_spDigits.L0 (y0 : Int) (y1 : Int) : Option (Int) := lim fun k => spec_spDigits.l0 k y0 y1
theorem spec_spDigits.L0_sup (y0 : Int) (y1 : Int) : Sup (fun k => spec_spDigits.l0 k y0 y1) (spec_spDigits.L0 y0 y1) := Sup.of_mono fun k => spec_spDigits.mono_l k y0 y1
noncomputable def spec_spDigits.F (a0 : Int) : Option (Int) := lim fun k => spec_spDigits.f k a0
theorem spec_spDigits.F_sup (a0 : Int) : Sup (fun k => spec_spDigits.f k a0) (spec_spDigits.F a0) := Sup.of_mono fun k => spec_spDigits.mono a0 k
theorem spec_spDigits.L0_eq (x0 : Int) (x3 : Int) : spec_spDigits.L0 x0 x3 = if 0 ≤ x3 then (if (shl .i64 2 x3) ≤ x0 then (spec_spDigits.L0 x0 (wrap64 (x3 + 1))) else (some x3)) else (none) := by
  refine Sup.unique (spec_spDigits.L0_sup x0 x3) (Sup.shift (fun k => spec_spDigits.mono_l k x0 x3) (Sup.congr (g' := fun k => if 0 ≤ x3 then (if (shl .i64 2 x3) ≤ x0 then (spec_spDigits.l0 k x0 (wrap64 (x3 + 1))) else (some x3)) else (none)) (fun k => by first | rfl | simp only [spec_spDigits.l0]) ?_))
  repeat' first
    | (with_reducible exact spec_spDigits.L0_sup _ _)
    | (with_reducible refine Sup.ite ?_ ?_)
    | (with_reducible refine Sup.bind ?_ (fun _ => ?_))
    | (with_reducible exact Sup.const _)
    | exact spec_spDigits.L0_sup _ _
    | exact Sup.const _
theorem spec_spDigits.F_eq (a0 : Int) : spec_spDigits.F a0 = spec_spDigits.L0 a0 0 := by
  refine Sup.unique (spec_spDigits.F_sup a0) (Sup.congr (g' := fun k => spec_spDigits.l0 k a0 0) (fun k => by first | rfl | simp only [spec_spDigits.f]) ?_)
  repeat' first
    | (with_reducible exact spec_spDigits.L0_sup _ _)
    | (with_reducible refine Sup.ite ?_ ?_)
    | (with_reducible refine Sup.bind ?_ (fun _ => ?_))
    | (with_reducible exact Sup.const _)
    | exact spec_spDigits.L0_sup _ _
    | exact Sup.const _
set_option maxHeartbeats 8000000 in
set_option maxRecDepth 100000 in
theorem spec_spDigits.calls (k : Nat) (a0 : Int) (r : Int) (w : World) (h : spec_spDigits.f k a0 = some r) :
    Calls Try.prog 104 #[.int .i64 a0] w fun e w' => e = .returned (.int .i64 r) ∧ Drawn0 w w' := by
  have H : (spec_spDigits.l0 k a0 0) = some r := h
  clear h
  have H' := Aside0.mk H
  clear H
  go_enter Try.func104, Try.ntmps104
  go_wp2
  go_loopg [3] k (fun kq v3 w' => ∃ (x3_1 : Int), v3 = .int .i64 x3_1 ∧ Aside0 (spec_spDigits.l0 kq a0 x3_1 = some r) ∧ Aside0 (kq ≤ k) ∧ Drawn0 w w')
  case atStart => exact ⟨(0), rg_, H', ⟨Nat.le_refl _⟩, by repeat (first | exact Drawn0.refl _ | apply Drawn0.step)⟩
  case round =>
   clear H'
   try clear c1
   obtain ⟨x3_1, rfl, HA, HK1, ⟨m1, rfl⟩⟩ := hrel
   cases gk with
   | zero => exact absurd HA.out (by simp [spec_spDigits.l0])
   | succ k1 =>
    have H := HA.out
    clear HA
    simp only [spec_spDigits.l0] at H
    by_cases c2 : 0 ≤ x3_1
    ·rw [if_pos c2] at H
     have c2b0 := eq_true c2
     have c2b1 : decide (0 ≤ x3_1) = true := decide_eq_true c2
     clear c2
     obtain ⟨ji3, hji3⟩ : ∃ j_ : Int, (shl .i64 2 x3_1) = j_ := ⟨_, rfl⟩
     replace H : (if (ji3) ≤ a0 then (spec_spDigits.l0 k1 a0 (wrap64 (x3_1 + 1))) else (some x3_1)) = some r := by first | (rw [hji3] at H; exact H) | (simp only [hji3] at H ⊢; exact H)
     have hji3_ : (IntKind.i64.wrap (2 * 2 ^ min x3_1.toNat 64)) = ji3 := hji3
     have hji3z : x3_1 ≤ 64 → (IntKind.i64.wrap (2 * 2 ^ x3_1.toNat)) = ji3 := shl_small hji3
     have hji3y : (wrap64 (2 * 2 ^ min x3_1.toNat 64)) = ji3 := (i64_w _).symm.trans hji3_
     have hji3x : x3_1 ≤ 64 → (wrap64 (2 * 2 ^ x3_1.toNat)) = ji3 := fun h_ => (i64_w _).symm.trans (hji3z h_)
     by_cases c4 : (ji3) ≤ a0
     ·rw [if_pos c4] at H
      have c4b0 : decide ((ji3) ≤ a0) = true := decide_eq_true c4
      clear c4
      have H' := Aside0.mk H
      clear H
      go_wp2
      go_roundg k1
      case measure => have := HK1.out; omega
      case rel => exact ⟨(wrap64 (x3_1 + 1)), rg_, H', ⟨by have := HK1.out; omega⟩, by repeat (first | exact Drawn0.refl _ | apply Drawn0.step)⟩
     ·rw [if_neg c4] at H
      have c4b0 : decide ((ji3) ≤ a0) = false := decide_eq_false c4
      clear c4
      obtain rfl := Option.some.inj H
      go_wp2
      go_ret
      exact ⟨by first | rfl | (simp; done) | (simp only [← hji3] <;> (first | rfl | simp)) | (simp [*]; done), by repeat (first | exact Drawn0.refl _ | apply Drawn0.step)⟩
    ·rw [if_neg c2] at H
     exact absurd H (by simp)
/-! ### spec_spTail: function 105 -/
def spec_spTail.f (k : Nat) (a0 : Int) : Option (List Bool) := (spec_spDigits.f k a0).bind fun t120 => (if 0 ≤ t120 then (if (t120 : Int).toNat ≤ 281474976710656 then ((spec_biPut.f k (List.replicate (t120 : Int).toNat false) 0 t120 (wrap64 (a0 - (shl .i64 1 t120)))).bind fun t124 => (some t124)) else (none)) else (none))
theorem spec_spTail.mono : ∀ a0 k, LeO (spec_spTail.f k a0) (spec_spTail.f (k + 1) a0) := by
  intro a0 k
  unfold spec_spTail.f
  repeat' first
      | (with_reducible exact spec_biPut.mono _ _ _ _ _)
      | (with_reducible exact spec_spDigits.mono _ _)
      | (with_reducible exact LeO.refl _)
      | (with_reducible exact LeO.none _)
      | (with_reducible refine LeO.ite ?_ ?_)
      | (with_reducible refine LeO.bind ?_ (fun _ => ?_))
      | exact spec_biPut.mono _ _ _ _ _
      | exact spec_spDigits.mono _ _
      | exact LeO.none _
      | refine LeO.ite ?_ ?_
      | refine LeO.bind ?_ (fun _ => ?_)
noncomputable def spec_spTail.F (a0 : Int) : Option (List Bool) := lim fun k => spec_spTail.f k a0
theorem spec_spTail.F_sup (a0 : Int) : Sup (fun k => spec_spTail.f k a0) (spec_spTail.F a0) := Sup.of_mono fun k => spec_spTail.mono a0 k
theorem spec_spTail.F_eq (a0 : Int) : spec_spTail.F a0 = (spec_spDigits.F a0).bind fun t120 => (if 0 ≤ t120 then (if (t120 : Int).toNat ≤ 281474976710656 then ((spec_biPut.F (List.replicate (t120 : Int).toNat false) 0 t120 (wrap64 (a0 - (shl .i64 1 t120)))).bind fun t124 => (some t124)) else (none)) else (none)) := by
  refine Sup.unique (spec_spTail.F_sup a0) (Sup.congr (g' := fun k => (spec_spDigits.f k a0).bind fun t120 => (if 0 ≤ t120 then (if (t120 : Int).toNat ≤ 281474976710656 then ((spec_biPut.f k (List.replicate (t120 : Int).toNat false) 0 t120 (wrap64 (a0 - (shl .i64 1 t120)))).bind fun t124 => (some t124)) else (none)) else (none))) (fun k => by first | rfl | simp only [spec_spTail.f]) ?_)
  repeat' first
    | (with_reducible exact spec_biPut.F_sup _ _ _ _)
    | (with_reducible exact spec_spDigits.F_sup _)
    | (with_reducible refine Sup.ite ?_ ?_)
    | (with_reducible refine Sup.bind ?_ (fun _ => ?_))
    | (with_reducible exact Sup.const _)
    | exact spec_biPut.F_sup _ _ _ _
    | exact spec_spDigits.F_sup _
    | exact Sup.const _
set_option maxHeartbeats 8000000 in
set_option maxRecDepth 100000 in
theorem spec_spTail.calls (k : Nat) (a0 : Int) (r : List Bool) (w : World) (h : spec_spTail.f k a0 = some r) :
    Calls Try.prog 105 #[.int .i64 a0] w fun e w' => ∃ v0_ : Value, e = .returned (v0_) ∧ Kd.R Kd.bool 4 w' w.heap.size (fun _ => True) v0_ r ∧ Below w.heap.size w w' := by
  have HB := Aside0.mk (Below.refl w.heap.size w)
  have H : ((spec_spDigits.f k a0).bind fun t120 => (if 0 ≤ t120 then (if (t120 : Int).toNat ≤ 281474976710656 then ((spec_biPut.f k (List.replicate (t120 : Int).toNat false) 0 t120 (wrap64 (a0 - (shl .i64 1 t120)))).bind fun t124 => (some t124)) else (none)) else (none))) = some r := h
  clear h
  replace H := Option.bind_eq_some_iff.mp H
  obtain ⟨t120, A20, H⟩ := H
  replace H : (if 0 ≤ t120 then (if (t120 : Int).toNat ≤ 281474976710656 then ((spec_biPut.f k (List.replicate (t120 : Int).toNat false) 0 t120 (wrap64 (a0 - (shl .i64 1 t120)))).bind fun t124 => (some t124)) else (none)) else (none)) = some r := H
  have A2 := Aside0.mk A20
  clear A20
  by_cases c3 : 0 ≤ t120
  ·rw [if_pos c3] at H
   have c3b0 := eq_true c3
   have c3b1 : decide (0 ≤ t120) = true := decide_eq_true c3
   clear c3
   by_cases c4 : (t120 : Int).toNat ≤ 281474976710656
   ·rw [if_pos c4] at H
    have c4b0 := eq_true c4
    have c4b1 : decide ((t120 : Int).toNat ≤ 281474976710656) = true := decide_eq_true c4
    clear c4
    obtain ⟨y121, hy121⟩ : ∃ y_ : List Bool, y_ = (List.replicate (t120 : Int).toNat false) := ⟨_, rfl⟩
    replace H : ((spec_biPut.f k y121 0 t120 (wrap64 (a0 - (shl .i64 1 t120)))).bind fun t124 => (some t124)) = some r := by first | (rw [hy121]; with_reducible exact H) | (have H2_ := (Option.bind_some _ _).symm.trans H; rw [hy121]; with_reducible exact H2_) | (have H2_ := (Option.bind_some _ _).symm.trans H; with_reducible exact H2_) | with_reducible exact H | (rw [hy121]; exact H) | exact H
    have Ny121 := Aside0.mk hy121
    clear hy121
    have c5b0 := eq_true (of_decide_eq_true as_ : 0 ≤ t120)
    obtain ⟨ji6, hji6⟩ : ∃ j_ : Int, (shl .i64 1 t120) = j_ := ⟨_, rfl⟩
    replace H : ((spec_biPut.f k y121 0 t120 (wrap64 (a0 - (ji6)))).bind fun t124 => (some t124)) = some r := by first | (rw [hji6] at H; exact H) | (simp only [hji6] at H ⊢; exact H)
    (try rw [hji6] at A2)
    have hji6_ : (IntKind.i64.wrap (1 * 2 ^ min t120.toNat 64)) = ji6 := hji6
    have hji6z : t120 ≤ 64 → (IntKind.i64.wrap (1 * 2 ^ t120.toNat)) = ji6 := shl_small hji6
    have hji6u : (IntKind.i64.wrap (2 ^ min t120.toNat 64)) = ji6 := by have h_ := hji6_; rw [Int.one_mul] at h_; exact h_
    have hji6v : t120 ≤ 64 → (IntKind.i64.wrap (2 ^ t120.toNat)) = ji6 := fun hle_ => by have h_ := hji6z hle_; rw [Int.one_mul] at h_; exact h_
    have hji6y : (wrap64 (1 * 2 ^ min t120.toNat 64)) = ji6 := (i64_w _).symm.trans hji6_
    have hji6x : t120 ≤ 64 → (wrap64 (1 * 2 ^ t120.toNat)) = ji6 := fun h_ => (i64_w _).symm.trans (hji6z h_)
    replace H := Option.bind_eq_some_iff.mp H
    obtain ⟨t124, A70, H⟩ := H
    replace H : (some t124) = some r := H
    have A7 := Aside0.mk A70
    clear A70
    obtain rfl := Option.some.inj H
    go_enter Try.func105, Try.ntmps105
    go_wp2_with (first | ((with_reducible refine gate_callee (f := 104) rfl ?_); refine gl_ 6 Try.func104 #[.int .i64 a0] ?_; (with_reducible refine (spec_spDigits.calls k a0 t120 _ A2.out).mono ?_); rintro e w' ⟨rfl, ⟨nd, rfl⟩⟩; refine ⟨_, rfl, ?_⟩) | ((with_reducible refine gate_dst (N := 8) rfl ?_); refine Kd.R_make Kd.bool _ 4 rfl (N := 8) rfl 80 _ _ rfl t120 rfl rfl Try.underlying80 (.bool false) 1 info4 rfl (by decide) (by omega) false (ok := fun _ => True) (okp := fun _ => True) rfl (fun _ hk => hk) trivial (of_decide_eq_true as_) (Nat.le_trans (Nat.mul_le_mul_right _ (of_decide_eq_true as_ : t120.toNat ≤ 281474976710656)) (by omega)) (Below.refl _ _) (Nat.le_refl _) ?_; intro v122 w8 ho9 hb hg_ hnew_; clear hg_ hnew_; (first | rw [← Ny121.out] at ho9 | (simp only [Int.reduceToNat] at ho9; rw [← Ny121.out] at ho9)); have HO123 := Aside0.mk (Kd.R_lower ho9 (below_size hB_)); replace HB := Aside0.mk (below_step hB_ hb); clear hb ho9; obtain ⟨Ao10, co10, eo10⟩ := Kd.R_slice HO123.out; subst eo10) | ((with_reducible refine gate_callee (f := 75) rfl ?_); refine goesL_ (some 15) rfl rfl Try.func75 (by kernel_rfl) rfl #[.slice Ao10 y121.length co10, .int .i64 0, .int .i64 t120, .int .i64 (wrap64 (a0 - (ji6)))] rfl (by (try simp only [List.map_toArray, List.map_cons, List.map_nil]); first | done | (simp only [hji6]; rfl) | rfl | (simp only [List.length_drop, List.length_take]; rfl)) ?_; (with_reducible refine (spec_biPut.calls k (fun k_ => some k_ = (.slice Ao10 y121.length co10 : Value).ownBlock) (.slice Ao10 y121.length co10) y121 0 t120 (wrap64 (a0 - (ji6))) t124 w _ ?side1 ?side2 A7.out).mono ?_); (case side1 => exact hB_); (case side2 => exact Kd.R_tight rfl HO123.out); rintro e w11 ⟨rfl, hy0, hb, hkp⟩; refine ⟨_, rfl, ?_⟩; replace HO123 := Aside0.mk (Kd.R_reok rfl hy0 (fun k_ e_ => HO123.out.1 k_ e_)); replace HB := Aside0.mk (hb); (try clear hb); (try clear hkp); (try clear hy0)))
    go_ret
    exact ⟨_, by first | rfl | (simp [errW_none, errW_some] <;> rfl) | (simp only [← hji6]; first | rfl | (simp [errW_none, errW_some] <;> rfl)) | (simp [*, errW_none, errW_some] <;> rfl), kR_ HO123, hB_⟩
   ·rw [if_neg c4] at H
    exact absurd H (by simp)
  ·rw [if_neg c3] at H
   exact absurd H (by simp)
/-! ### spec_spGamma: function 81 -/
def spec_spGamma.f (k : Nat) (a0 : Int) : Option (List Bool) := (spec_spDigits.f k a0).bind fun t125 => (if 0 ≤ t125 then (if (t125 : Int).toNat ≤ 281474976710656 then ((some (List.replicate (t125 : Int).toNat false : List Bool)).bind fun y126 => (if y126.length < 140737488355328 then ((some (y126 ++ [true] : List Bool)).bind fun y129 => ((spec_spTail.f k a0).bind fun t132 => (if y129.length + t132.length < 140737488355328 then (some (y129 ++ t132)) else (none)))) else (none))) else (none)) else (none))
theorem spec_spGamma.mono : ∀ a0 k, LeO (spec_spGamma.f k a0) (spec_spGamma.f (k + 1) a0) := by
  intro a0 k
  unfold spec_spGamma.f
  repeat' first
      | (with_reducible exact spec_spDigits.mono _ _)
      | (with_reducible exact spec_spTail.mono _ _)
      | (with_reducible exact LeO.refl _)
      | (with_reducible exact LeO.none _)
      | (with_reducible refine LeO.ite ?_ ?_)
      | (with_reducible refine LeO.bind ?_ (fun _ => ?_))
      | exact spec_spDigits.mono _ _
      | exact spec_spTail.mono _ _
      | exact LeO.none _
      | refine LeO.ite ?_ ?_
      | refine LeO.bind ?_ (fun _ => ?_)
noncomputable def spec_spGamma.F (a0 : Int) : Option (List Bool) := lim fun k => spec_spGamma.f k a0
theorem spec_spGamma.F_sup (a0 : Int) : Sup (fun k => spec_spGamma.f k a0) (spec_spGamma.F a0) := Sup.of_mono fun k => spec_spGamma.mono a0 k
theorem spec_spGamma.F_eq (a0 : Int) : spec_spGamma.F a0 = (spec_spDigits.F a0).bind fun t125 => (if 0 ≤ t125 then (if (t125 : Int).toNat ≤ 281474976710656 then ((some (List.replicate (t125 : Int).toNat false : List Bool)).bind fun y126 => (if y126.length < 140737488355328 then ((some (y126 ++ [true] : List Bool)).bind fun y129 => ((spec_spTail.F a0).bind fun t132 => (if y129.length + t132.length < 140737488355328 then (some (y129 ++ t132)) else (none)))) else (none))) else (none)) else (none)) := by
  refine Sup.unique (spec_spGamma.F_sup a0) (Sup.congr (g' := fun k => (spec_spDigits.f k a0).bind fun t125 => (if 0 ≤ t125 then (if (t125 : Int).toNat ≤ 281474976710656 then ((some (List.replicate (t125 : Int).toNat false : List Bool)).bind fun y126 => (if y126.length < 140737488355328 then ((some (y126 ++ [true] : List Bool)).bind fun y129 => ((spec_spTail.f k a0).bind fun t132 => (if y129.length + t132.length < 140737488355328 then (some (y129 ++ t132)) else (none)))) else (none))) else (none)) else (none))) (fun k => by first | rfl | simp only [spec_spGamma.f]) ?_)
  repeat' first
    | (with_reducible exact spec_spDigits.F_sup _)
    | (with_reducible exact spec_spTail.F_sup _)
    | (with_reducible refine Sup.ite ?_ ?_)
    | (with_reducible refine Sup.bind ?_ (fun _ => ?_))
    | (with_reducible exact Sup.const _)
    | exact spec_spDigits.F_sup _
    | exact spec_spTail.F_sup _
    | exact Sup.const _
set_option maxHeartbeats 8000000 in
set_option maxRecDepth 100000 in
theorem spec_spGamma.calls (k : Nat) (a0 : Int) (r : List Bool) (w : World) (h : spec_spGamma.f k a0 = some r) :
    Calls Try.prog 81 #[.int .i64 a0] w fun e w' => ∃ v0_ : Value, e = .returned (v0_) ∧ Kd.R Kd.bool 4 w' w.heap.size (fun _ => True) v0_ r ∧ Below w.heap.size w w' := by
  have HB := Aside0.mk (Below.refl w.heap.size w)
  have H : ((spec_spDigits.f k a0).bind fun t125 => (if 0 ≤ t125 then (if (t125 : Int).toNat ≤ 281474976710656 then ((some (List.replicate (t125 : Int).toNat false : List Bool)).bind fun y126 => (if y126.length < 140737488355328 then ((some (y126 ++ [true] : List Bool)).bind fun y129 => ((spec_spTail.f k a0).bind fun t132 => (if y129.length + t132.length < 140737488355328 then (some (y129 ++ t132)) else (none)))) else (none))) else (none)) else (none))) = some r := h
  clear h
  replace H := Option.bind_eq_some_iff.mp H
  obtain ⟨t125, A20, H⟩ := H
  replace H : (if 0 ≤ t125 then (if (t125 : Int).toNat ≤ 281474976710656 then ((some (List.replicate (t125 : Int).toNat false : List Bool)).bind fun y126 => (if y126.length < 140737488355328 then ((some (y126 ++ [true] : List Bool)).bind fun y129 => ((spec_spTail.f k a0).bind fun t132 => (if y129.length + t132.length < 140737488355328 then (some (y129 ++ t132)) else (none)))) else (none))) else (none)) else (none)) = some r := H
  have A2 := Aside0.mk A20
  clear A20
  by_cases c3 : 0 ≤ t125
  ·rw [if_pos c3] at H
   have c3b0 := eq_true c3
   have c3b1 : decide (0 ≤ t125) = true := decide_eq_true c3
   clear c3
   by_cases c4 : (t125 : Int).toNat ≤ 281474976710656
   ·rw [if_pos c4] at H
    have c4b0 := eq_true c4
    have c4b1 : decide ((t125 : Int).toNat ≤ 281474976710656) = true := decide_eq_true c4
    clear c4
    obtain ⟨y126, hy126⟩ : ∃ y_ : List Bool, y_ = (List.replicate (t125 : Int).toNat false) := ⟨_, rfl⟩
    replace H : (if y126.length < 140737488355328 then ((some (y126 ++ [true] : List Bool)).bind fun y129 => ((spec_spTail.f k a0).bind fun t132 => (if y129.length + t132.length < 140737488355328 then (some (y129 ++ t132)) else (none)))) else (none)) = some r := by first | (rw [hy126]; with_reducible exact H) | (have H2_ := (Option.bind_some _ _).symm.trans H; rw [hy126]; with_reducible exact H2_) | (have H2_ := (Option.bind_some _ _).symm.trans H; with_reducible exact H2_) | with_reducible exact H | (rw [hy126]; exact H) | exact H
    have Ny126 := Aside0.mk hy126
    clear hy126
    by_cases c5 : y126.length < 140737488355328
    ·rw [if_pos c5] at H
     have LMc5 := Aside0.mk c5
     clear c5
     obtain ⟨y129, hy129⟩ : ∃ y_ : List Bool, y_ = (y126 ++ [true]) := ⟨_, rfl⟩
     replace H : ((spec_spTail.f k a0).bind fun t132 => (if y129.length + t132.length < 140737488355328 then (some (y129 ++ t132)) else (none))) = some r := by first | (rw [hy129]; with_reducible exact H) | (have H2_ := (Option.bind_some _ _).symm.trans H; rw [hy129]; with_reducible exact H2_) | (have H2_ := (Option.bind_some _ _).symm.trans H; with_reducible exact H2_) | with_reducible exact H | (rw [hy129]; exact H) | exact H
     have Ny129 := Aside0.mk hy129
     clear hy129
     replace H := Option.bind_eq_some_iff.mp H
     obtain ⟨t132, A60, H⟩ := H
     replace H : (if y129.length + t132.length < 140737488355328 then (some (y129 ++ t132)) else (none)) = some r := H
     have A6 := Aside0.mk A60
     clear A60
     by_cases c7 : y129.length + t132.length < 140737488355328
     ·rw [if_pos c7] at H
      have LMc7 := Aside0.mk c7
      clear c7
      obtain ⟨y135, hy135⟩ : ∃ y_ : List Bool, y_ = (y129 ++ t132) := ⟨_, rfl⟩
      replace H : (some y135) = some r := by first | (rw [hy135]; with_reducible exact H) | (have H2_ := (Option.bind_some _ _).symm.trans H; rw [hy135]; with_reducible exact H2_) | (have H2_ := (Option.bind_some _ _).symm.trans H; with_reducible exact H2_) | with_reducible exact H | (rw [hy135]; exact H) | exact H
      have Ny135 := Aside0.mk hy135
      clear hy135
      obtain rfl := Option.some.inj H
      go_enter Try.func81, Try.ntmps81
      go_wp2_with (first | ((with_reducible refine gate_callee (f := 104) rfl ?_); refine gl_ 5 Try.func104 #[.int .i64 a0] ?_; (with_reducible refine (spec_spDigits.calls k a0 t125 _ A2.out).mono ?_); rintro e w' ⟨rfl, ⟨nd, rfl⟩⟩; refine ⟨_, rfl, ?_⟩) | ((with_reducible refine gate_dst (N := 6) rfl ?_); refine Kd.R_make Kd.bool _ 4 rfl (N := 6) rfl 80 _ _ rfl t125 rfl rfl Try.underlying80 (.bool false) 1 info4 rfl (by decide) (by omega) false (ok := fun _ => True) (okp := fun _ => True) rfl (fun _ hk => hk) trivial (of_decide_eq_true as_) (Nat.le_trans (Nat.mul_le_mul_right _ (of_decide_eq_true as_ : t125.toNat ≤ 281474976710656)) (by omega)) (Below.refl _ _) (Nat.le_refl _) ?_; intro v127 w8 ho9 hb hg_ hnew_; clear hg_ hnew_; (first | rw [← Ny126.out] at ho9 | (simp only [Int.reduceToNat] at ho9; rw [← Ny126.out] at ho9)); have HO128 := Aside0.mk (Kd.R_lower ho9 (below_size hB_)); replace HB := Aside0.mk (below_step hB_ hb); clear hb ho9) | ((with_reducible refine gate_builtin (b := .append) (xs := #[.tmp 6, .tmp 7]) rfl ?_); at_builtin; refine Kd.R_append Kd.bool (w0 := w) w.heap.size rfl (.tmp 6) (.tmp 7) 80 4 (.bool false) 1 rfl Try.underlying80 info4 rfl (by decide) (by omega) v127 y126 true [.bool true] (fun _ => True) (fun _ => False) rfl rfl ?aP (fun _ hk => hk.elim) ?aF ?aO ?aB ?aS ?aL ?_; (case aP => exact rfl); (case aB => exact hB_); (case aF => exact (fun _ _ => trivial)); (case aO => exact (kR_ HO128)); (case aS => exact (below_size hB_)); (case aL => have := LMc5.out; omega); intro v130 w10 ho hb hg hat; rw [← Ny129.out] at ho; have n0_ := Aside0.mk (hb); have n1_ := Aside0.mk (ho); clear HB; clear HO128; have HB := n0_; have HO131 := n1_; clear n0_ n1_; clear ho hb hg hat) | ((with_reducible refine gate_callee (f := 105) rfl ?_); refine gl_ 11 Try.func105 #[.int .i64 a0] ?_; (with_reducible refine (spec_spTail.calls k a0 t132 _ A6.out).mono ?_); rintro e w11 ⟨v133, rfl, ho0, hb⟩; refine ⟨_, rfl, ?_⟩; have HO134 := Aside0.mk (Kd.R_lower (Kd.R_new' ho0 (Kd.R_lt (kR_ HO131))) (below_size hB_)); replace HO131 := Aside0.mk (Kd.R_elder' (kR_ HO131) (Kd.R_base ho0) hb); replace HB := Aside0.mk (below_step hB_ hb); (try clear hb); (try clear hb2); (try clear hk); (try clear hi); (try clear ho0); obtain ⟨Ao13, co13, eo13⟩ := Kd.R_slice HO134.out; subst eo13) | ((with_reducible refine gate_builtin (b := .append) (xs := #[.tmp 9, .tmp 11]) rfl ?_); at_builtin; refine Kd.R_append_rows Kd.bool (w0 := w) w.heap.size rfl (.tmp 9) (.tmp 11) 80 4 (.bool false) 1 rfl Try.underlying80 info4 rfl (by decide) (by omega) v130 y129 t132 _ _ _ (fun k_ => some k_ ≠ (.slice Ao13 t132.length co13 : Value).ownBlock) (fun _ => False) rfl rfl ?aO ?aR (fun _ _ h => h) (fun _ h => h.elim) ?aF ?aB ?aS ?aL ?_; (case aR => repeat (first | exact (Kd.R_reads' HO134.out).2.2 | (with_reducible refine Kd.C_alloc ?_ _) | (with_reducible refine Kd.C_drewN ?_ _) | (with_reducible refine Kd.C_drew ?_))); (case aB => exact hB_); (case aF => exact (fun k_ hk => Kd.fresh' (Kd.R_lt (kR_ HO134)) k_ hk)); (case aO => exact (by (with_reducible repeat (first | apply Kd.R_alloc | apply Kd.R_drewN | apply Kd.R_drew)); exact Kd.R_mono HO131.out (fun _ hk => hk.2))); (case aS => exact (below_size hB_)); (case aL => have := LMc7.out; omega); intro v136 w12 ho hb hg hat; rw [← Ny135.out] at ho; have n0_ := Aside0.mk (Kd.R_after (ok := (fun _ => True)) (kR_ HO134) hg hat); have n1_ := Aside0.mk (hb); have n2_ := Aside0.mk (ho); clear HO134; clear HB; clear HO131; have HO134 := n0_; have HB := n1_; have HO137 := n2_; clear n0_ n1_ n2_; clear ho hb hg hat))
      go_ret
      exact ⟨_, rf_, by (with_reducible repeat (first | apply Kd.R_alloc | apply Kd.R_drewN | apply Kd.R_drew)); exact Kd.R_mono HO137.out (fun _ hk => trivial), hB_⟩
     ·rw [if_neg c7] at H
      exact absurd H (by simp)
    ·rw [if_neg c5] at H
     exact absurd H (by simp)
   ·rw [if_neg c4] at H
    exact absurd H (by simp)
  ·rw [if_neg c3] at H
   exact absurd H (by simp)
/-! ### spec_spDelta: function 80 -/
def spec_spDelta.f (k : Nat) (a0 : Int) : Option (List Bool) := (spec_spDigits.f k a0).bind fun t138 => ((spec_spGamma.f k (wrap64 (t138 + 1))).bind fun t139 => ((spec_spTail.f k a0).bind fun t142 => (if t139.length + t142.length < 140737488355328 then (some (t139 ++ t142)) else (none))))
theorem spec_spDelta.mono : ∀ a0 k, LeO (spec_spDelta.f k a0) (spec_spDelta.f (k + 1) a0) := by
  intro a0 k
  unfold spec_spDelta.f
  repeat' first
      | (with_reducible exact spec_spDigits.mono _ _)
      | (with_reducible exact spec_spGamma.mono _ _)
      | (with_reducible exact spec_spTail.mono _ _)
      | (with_reducible exact LeO.refl _)
      | (with_reducible exact LeO.none _)
      | (with_reducible refine LeO.ite ?_ ?_)
      | (with_reducible refine LeO.bind ?_ (fun _ => ?_))
      | exact spec_spDigits.mono _ _
      | exact spec_spGamma.mono _ _
      | exact spec_spTail.mono _ _
      | exact LeO.none _
      | refine LeO.ite ?_ ?_
      | refine LeO.bind ?_ (fun _ => ?_)
noncomputable def spec_spDelta.F (a0 : Int) : Option (List Bool) := lim fun k => spec_spDelta.f k a0
theorem spec_spDelta.F_sup (a0 : Int) : Sup (fun k => spec_spDelta.f k a0) (spec_spDelta.F a0) := Sup.of_mono fun k => spec_spDelta.mono a0 k
theorem spec_spDelta.F_eq (a0 : Int) : spec_spDelta.F a0 = (spec_spDigits.F a0).bind fun t138 => ((spec_spGamma.F (wrap64 (t138 + 1))).bind fun t139 => ((spec_spTail.F a0).bind fun t142 => (if t139.length + t142.length < 140737488355328 then (some (t139 ++ t142)) else (none)))) := by
  refine Sup.unique (spec_spDelta.F_sup a0) (Sup.congr (g' := fun k => (spec_spDigits.f k a0).bind fun t138 => ((spec_spGamma.f k (wrap64 (t138 + 1))).bind fun t139 => ((spec_spTail.f k a0).bind fun t142 => (if t139.length + t142.length < 140737488355328 then (some (t139 ++ t142)) else (none))))) (fun k => by first | rfl | simp only [spec_spDelta.f]) ?_)
  repeat' first
    | (with_reducible exact spec_spGamma.F_sup _)
    | (with_reducible exact spec_spDigits.F_sup _)
    | (with_reducible exact spec_spTail.F_sup _)
    | (with_reducible refine Sup.ite ?_ ?_)
    | (with_reducible refine Sup.bind ?_ (fun _ => ?_))
    | (with_reducible exact Sup.const _)
    | exact spec_spGamma.F_sup _
    | exact spec_spDigits.F_sup _
    | exact spec_spTail.F_sup _
    | exact Sup.const _
set_option maxHeartbeats 8000000 in
set_option maxRecDepth 100000 in
theorem spec_spDelta.calls (k : Nat) (a0 : Int) (r : List Bool) (w : World) (h : spec_spDelta.f k a0 = some r) :
    Calls Try.prog 80 #[.int .i64 a0] w fun e w' => ∃ v0_ : Value, e = .returned (v0_) ∧ Kd.R Kd.bool 4 w' w.heap.size (fun _ => True) v0_ r ∧ Below w.heap.size w w' := by
  have HB := Aside0.mk (Below.refl w.heap.size w)
  have H : ((spec_spDigits.f k a0).bind fun t138 => ((spec_spGamma.f k (wrap64 (t138 + 1))).bind fun t139 => ((spec_spTail.f k a0).bind fun t142 => (if t139.length + t142.length < 140737488355328 then (some (t139 ++ t142)) else (none))))) = some r := h
  clear h
  replace H := Option.bind_eq_some_iff.mp H
  obtain ⟨t138, A20, H⟩ := H
  replace H : ((spec_spGamma.f k (wrap64 (t138 + 1))).bind fun t139 => ((spec_spTail.f k a0).bind fun t142 => (if t139.length + t142.length < 140737488355328 then (some (t139 ++ t142)) else (none)))) = some r := H
  have A2 := Aside0.mk A20
  clear A20
  replace H := Option.bind_eq_some_iff.mp H
  obtain ⟨t139, A30, H⟩ := H
  replace H : ((spec_spTail.f k a0).bind fun t142 => (if t139.length + t142.length < 140737488355328 then (some (t139 ++ t142)) else (none))) = some r := H
  have A3 := Aside0.mk A30
  clear A30
  replace H := Option.bind_eq_some_iff.mp H
  obtain ⟨t142, A40, H⟩ := H
  replace H : (if t139.length + t142.length < 140737488355328 then (some (t139 ++ t142)) else (none)) = some r := H
  have A4 := Aside0.mk A40
  clear A40
  by_cases c5 : t139.length + t142.length < 140737488355328
  ·rw [if_pos c5] at H
   have LMc5 := Aside0.mk c5
   clear c5
   obtain ⟨y145, hy145⟩ : ∃ y_ : List Bool, y_ = (t139 ++ t142) := ⟨_, rfl⟩
   replace H : (some y145) = some r := by first | (rw [hy145]; with_reducible exact H) | (have H2_ := (Option.bind_some _ _).symm.trans H; rw [hy145]; with_reducible exact H2_) | (have H2_ := (Option.bind_some _ _).symm.trans H; with_reducible exact H2_) | with_reducible exact H | (rw [hy145]; exact H) | exact H
   have Ny145 := Aside0.mk hy145
   clear hy145
   obtain rfl := Option.some.inj H
   go_enter Try.func80, Try.ntmps80
   go_wp2_with (first | ((with_reducible refine gate_callee (f := 104) rfl ?_); refine gl_ 4 Try.func104 #[.int .i64 a0] ?_; (with_reducible refine (spec_spDigits.calls k a0 t138 _ A2.out).mono ?_); rintro e w' ⟨rfl, ⟨nd, rfl⟩⟩; refine ⟨_, rfl, ?_⟩) | ((with_reducible refine gate_callee (f := 81) rfl ?_); refine gl_ 6 Try.func81 #[.int .i64 (wrap64 (t138 + 1))] ?_; (with_reducible refine (spec_spGamma.calls k (wrap64 (t138 + 1)) t139 _ A3.out).mono ?_); rintro e w6 ⟨v140, rfl, ho0, hb⟩; refine ⟨_, rfl, ?_⟩; have HO141 := Aside0.mk (Kd.R_lower ho0 (below_size hB_)); replace HB := Aside0.mk (below_step hB_ hb); (try clear hb); (try clear hb2); (try clear hk); (try clear hi); (try clear ho0)) | ((with_reducible refine gate_callee (f := 105) rfl ?_); refine gl_ 8 Try.func105 #[.int .i64 a0] ?_; (with_reducible refine (spec_spTail.calls k a0 t142 _ A4.out).mono ?_); rintro e w7 ⟨v143, rfl, ho0, hb⟩; refine ⟨_, rfl, ?_⟩; have HO144 := Aside0.mk (Kd.R_lower (Kd.R_new' ho0 (Kd.R_lt (kR_ HO141))) (below_size hB_)); replace HO141 := Aside0.mk (Kd.R_elder' (kR_ HO141) (Kd.R_base ho0) hb); replace HB := Aside0.mk (below_step hB_ hb); (try clear hb); (try clear hb2); (try clear hk); (try clear hi); (try clear ho0); obtain ⟨Ao9, co9, eo9⟩ := Kd.R_slice HO144.out; subst eo9) | ((with_reducible refine gate_builtin (b := .append) (xs := #[.tmp 6, .tmp 8]) rfl ?_); at_builtin; refine Kd.R_append_rows Kd.bool (w0 := w) w.heap.size rfl (.tmp 6) (.tmp 8) 80 4 (.bool false) 1 rfl Try.underlying80 info4 rfl (by decide) (by omega) v140 t139 t142 _ _ _ (fun k_ => some k_ ≠ (.slice Ao9 t142.length co9 : Value).ownBlock) (fun _ => False) rfl rfl ?aO ?aR (fun _ _ h => h) (fun _ h => h.elim) ?aF ?aB ?aS ?aL ?_; (case aR => repeat (first | exact (Kd.R_reads' HO144.out).2.2 | (with_reducible refine Kd.C_alloc ?_ _) | (with_reducible refine Kd.C_drewN ?_ _) | (with_reducible refine Kd.C_drew ?_))); (case aB => exact hB_); (case aF => exact (fun k_ hk => Kd.fresh' (Kd.R_lt (kR_ HO144)) k_ hk)); (case aO => exact (by (with_reducible repeat (first | apply Kd.R_alloc | apply Kd.R_drewN | apply Kd.R_drew)); exact Kd.R_mono HO141.out (fun _ hk => hk.2))); (case aS => exact (below_size hB_)); (case aL => have := LMc5.out; omega); intro v146 w8 ho hb hg hat; rw [← Ny145.out] at ho; have n0_ := Aside0.mk (Kd.R_after (ok := (fun _ => True)) (kR_ HO144) hg hat); have n1_ := Aside0.mk (hb); have n2_ := Aside0.mk (ho); clear HO144; clear HB; clear HO141; have HO144 := n0_; have HB := n1_; have HO147 := n2_; clear n0_ n1_ n2_; clear ho hb hg hat))
   go_ret
   exact ⟨_, rf_, by (with_reducible repeat (first | apply Kd.R_alloc | apply Kd.R_drewN | apply Kd.R_drew)); exact Kd.R_mono HO147.out (fun _ hk => trivial), hB_⟩
  ·rw [if_neg c5] at H
   exact absurd H (by simp)
/-! ### spec_spEncode: function 45 -/
def spec_spEncode.l0 : Nat → Bool → List Bool → List Int → Int → Int → Option (Int × List Int)
  | 0, _, _, _, _, _ => none
  | k + 1, x1, x5, x8, x9, x10 => if x10 < x9 then (if 0 ≤ x10 then (if x10 < (x8.length : Int) then (if x1 = true then ((spec_spDelta.f k (rd x8 x10)).bind fun t154 => (if x5.length + t154.length < 140737488355328 then (spec_spEncode.l0 k x1 (x5 ++ t154) x8 x9 (wrap64 (x10 + 1))) else (none))) else ((spec_spGamma.f k (rd x8 x10)).bind fun t160 => (if x5.length + t160.length < 140737488355328 then (spec_spEncode.l0 k x1 (x5 ++ t160) x8 x9 (wrap64 (x10 + 1))) else (none)))) else (none)) else (none)) else ((spec_biSome.f k x5).bind fun bt149 => (some (bt149.1, bt149.2)))
def spec_spEncode.f (k : Nat) (l0 : List Int) (a1 : Bool) : Option (Int × List Int) := spec_spEncode.l0 k a1 ([] : List Bool) l0 (l0.length : Int) 0
theorem spec_spEncode.mono_l : ∀ k, (∀ y0 y1 y2 y3 y4, LeO (spec_spEncode.l0 k y0 y1 y2 y3 y4) (spec_spEncode.l0 (k + 1) y0 y1 y2 y3 y4))
  | 0 => fun _ _ _ _ _ r h => by simp [spec_spEncode.l0] at h
  | k + 1 => by
    have ih0 := spec_spEncode.mono_l k
    · intro y0 y1 y2 y3 y4
      unfold spec_spEncode.l0
      repeat' first
      | (with_reducible exact ih0 _ _ _ _ _)
      | (with_reducible exact spec_biSome.mono _ _)
      | (with_reducible exact spec_spDelta.mono _ _)
      | (with_reducible exact spec_spGamma.mono _ _)
      | (with_reducible exact LeO.refl _)
      | (with_reducible exact LeO.none _)
      | (with_reducible refine LeO.ite ?_ ?_)
      | (with_reducible refine LeO.bind ?_ (fun _ => ?_))
      | exact ih0 _ _ _ _ _
      | exact spec_biSome.mono _ _
      | exact spec_spDelta.mono _ _
      | exact spec_spGamma.mono _ _
      | exact LeO.none _
      | refine LeO.ite ?_ ?_
      | refine LeO.bind ?_ (fun _ => ?_)
theorem spec_spEncode.mono : ∀ a0 a1 k, LeO (spec_spEncode.f k a0 a1) (spec_spEncode.f (k + 1) a0 a1) := by
  intro a0 a1 k
  have ih0 := spec_spEncode.mono_l k
  unfold spec_spEncode.f
  repeat' first
      | (with_reducible exact ih0 _ _ _ _ _)
      | (with_reducible exact spec_biSome.mono _ _)
      | (with_reducible exact spec_spDelta.mono _ _)
      | (with_reducible exact spec_spGamma.mono _ _)
      | (with_reducible exact LeO.refl _)
      | (with_reducible exact LeO.none _)
      | (with_reducible refine LeO.ite ?_ ?_)
      | (with_reducible refine LeO.bind ?_ (fun _ => ?_))
      | exact ih0 _ _ _ _ _
      | exact spec_biSome.mono _ _
      | exact spec_spDelta.mono _ _
      | exact spec_spGamma.mono _ _
      | exact LeO.none _
      | refine LeO.ite ?_ ?_
      | refine LeO.bind ?_ (fun _ => ?_)
noncomputable def spec_spEncode.L0 (y0 : Bool) (y1 : List Bool) (y2 : List Int) (y3 : Int) (y4 : Int) : Option (Int × List Int) := lim fun k => spec_spEncode.l0 k y0 y1 y2 y3 y4
theorem spec_spEncode.L0_sup (y0 : Bool) (y1 : List Bool) (y2 : List Int) (y3 : Int) (y4 : Int) : Sup (fun k => spec_spEncode.l0 k y0 y1 y2 y3 y4) (spec_spEncode.L0 y0 y1 y2 y3 y4) := Sup.of_mono fun k => spec_spEncode.mono_l k y0 y1 y2 y3 y4
noncomputable def spec_spEncode.F (l0 : List Int) (a1 : Bool) : Option (Int × List Int) := lim fun k => spec_spEncode.f k l0 a1
theorem spec_spEncode.F_sup (l0 : List Int) (a1 : Bool) : Sup (fun k => spec_spEncode.f k l0 a1) (spec_spEncode.F l0 a1) := Sup.of_mono fun k => spec_spEncode.mono l0 a1 k
theorem spec_spEncode.L0_eq (x1 : Bool) (x5 : List Bool) (x8 : List Int) (x9 : Int) (x10 : Int) : spec_spEncode.L0 x1 x5 x8 x9 x10 = if x10 < x9 then (if 0 ≤ x10 then (if x10 < (x8.length : Int) then (if x1 = true then ((spec_spDelta.F (rd x8 x10)).bind fun t154 => (if x5.length + t154.length < 140737488355328 then (spec_spEncode.L0 x1 (x5 ++ t154) x8 x9 (wrap64 (x10 + 1))) else (none))) else ((spec_spGamma.F (rd x8 x10)).bind fun t160 => (if x5.length + t160.length < 140737488355328 then (spec_spEncode.L0 x1 (x5 ++ t160) x8 x9 (wrap64 (x10 + 1))) else (none)))) else (none)) else (none)) else ((spec_biSome.F x5).bind fun bt149 => (some (bt149.1, bt149.2))) := by
  refine Sup.unique (spec_spEncode.L0_sup x1 x5 x8 x9 x10) (Sup.shift (fun k => spec_spEncode.mono_l k x1 x5 x8 x9 x10) (Sup.congr (g' := fun k => if x10 < x9 then (if 0 ≤ x10 then (if x10 < (x8.length : Int) then (if x1 = true then ((spec_spDelta.f k (rd x8 x10)).bind fun t154 => (if x5.length + t154.length < 140737488355328 then (spec_spEncode.l0 k x1 (x5 ++ t154) x8 x9 (wrap64 (x10 + 1))) else (none))) else ((spec_spGamma.f k (rd x8 x10)).bind fun t160 => (if x5.length + t160.length < 140737488355328 then (spec_spEncode.l0 k x1 (x5 ++ t160) x8 x9 (wrap64 (x10 + 1))) else (none)))) else (none)) else (none)) else ((spec_biSome.f k x5).bind fun bt149 => (some (bt149.1, bt149.2)))) (fun k => by first | rfl | simp only [spec_spEncode.l0]) ?_))
  repeat' first
    | (with_reducible exact spec_spEncode.L0_sup _ _ _ _ _)
    | (with_reducible exact spec_biSome.F_sup _)
    | (with_reducible exact spec_spDelta.F_sup _)
    | (with_reducible exact spec_spGamma.F_sup _)
    | (with_reducible refine Sup.ite ?_ ?_)
    | (with_reducible refine Sup.bind ?_ (fun _ => ?_))
    | (with_reducible exact Sup.const _)
    | exact spec_spEncode.L0_sup _ _ _ _ _
    | exact spec_biSome.F_sup _
    | exact spec_spDelta.F_sup _
    | exact spec_spGamma.F_sup _
    | exact Sup.const _
theorem spec_spEncode.F_eq (l0 : List Int) (a1 : Bool) : spec_spEncode.F l0 a1 = spec_spEncode.L0 a1 ([] : List Bool) l0 (l0.length : Int) 0 := by
  refine Sup.unique (spec_spEncode.F_sup l0 a1) (Sup.congr (g' := fun k => spec_spEncode.l0 k a1 ([] : List Bool) l0 (l0.length : Int) 0) (fun k => by first | rfl | simp only [spec_spEncode.f]) ?_)
  repeat' first
    | (with_reducible exact spec_spEncode.L0_sup _ _ _ _ _)
    | (with_reducible exact spec_biSome.F_sup _)
    | (with_reducible exact spec_spDelta.F_sup _)
    | (with_reducible exact spec_spGamma.F_sup _)
    | (with_reducible refine Sup.ite ?_ ?_)
    | (with_reducible refine Sup.bind ?_ (fun _ => ?_))
    | (with_reducible exact Sup.const _)
    | exact spec_spEncode.L0_sup _ _ _ _ _
    | exact spec_biSome.F_sup _
    | exact spec_spDelta.F_sup _
    | exact spec_spGamma.F_sup _
    | exact Sup.const _
set_option maxHeartbeats 8000000 in
set_option maxRecDepth 100000 in
theorem spec_spEncode.calls (k : Nat) (A0 : Option Addr) (c0 : Nat) (l0 : List Int) (a1 : Bool) (r1 : Int) (r2 : List Int) (w : World) (hr0 : Kd.C (Kd.int .i64) w A0 l0.length l0) (hc0 : l0.length ≤ c0) (h : spec_spEncode.f k l0 a1 = some (r1, r2)) :
    Calls Try.prog 45 #[.slice A0 l0.length c0, .bool a1] w fun e w' => ∃ v1_ : Value, e = .returned (.agg #[.int .i64 r1, v1_]) ∧ Kd.R (Kd.int .i64) 3 w' w.heap.size (fun _ => True) v1_ r2 ∧ Below w.heap.size w w' := by
  have hu24 := Try.underlying24
  have HR0 := Aside0.mk hr0
  have HC0 := Aside0.mk hc0
  clear hr0 hc0
  have HB := Aside0.mk (Below.refl w.heap.size w)
  have H : (spec_spEncode.l0 k a1 ([] : List Bool) l0 (l0.length : Int) 0) = some (r1, r2) := h
  clear h
  have H' := Aside0.mk H
  clear H
  go_enter Try.func45, Try.ntmps45
  go_wp2_with (first | ((with_reducible refine gate_dst (N := 4) rfl ?_); refine bx_ 4 #[.int .i64 0, .slice none 0 0] 24 ?_; intro gb148 hg w3 hbox hb; have BK148 := Aside0.mk (hbox); have GW148 := Aside0.mk ((ge_ hg)); have GE148 := Aside0.mk ((ge_ hg)); replace HB := Aside0.mk (below_step hB_ hb); clear hb hbox hg))
  go_loopg [5, 10] k (fun kq v5 v10 w' => ∃ (x5_1 : List Bool) (x10_1 : Int), v10 = .int .i64 x10_1 ∧ Aside0 (spec_spEncode.l0 kq a1 x5_1 l0 (l0.length : Int) x10_1 = some (r1, r2)) ∧ Aside0 (kq ≤ k) ∧ Aside0 (Kd.R Kd.bool 4 w' w.heap.size (fun _ => True) v5 x5_1) ∧ Aside0 (w'.heap[gb148]? = some (.cells #[.int .i64 0, (.slice none 0 0)] 24 (0, 0))) ∧ Aside0 (Below w.heap.size w w'))
  case atStart => exact ⟨(([] : List Bool)), (0), rg_, H', ⟨Nat.le_refl _⟩, ⟨by first | exact Kd.R_nil _ _ _ _ _ | exact Kd.N_nil _ _ _ _ _ | exact Kd.V_nil _ _ _ _ _ | exact Kd.Q_nil _ _ _ _ _ | exact Kd.S_nil _ _ _ _ _⟩, ⟨kB_ BK148⟩, ⟨hB_⟩⟩
  case round =>
   clear H'
   try clear p2
   obtain ⟨x5_1, x10_1, rfl, HA, HK1, HO_5, BK148, HB⟩ := hrel
   cases gk with
   | zero => exact absurd HA.out (by simp [spec_spEncode.l0])
   | succ k1 =>
    have H := HA.out
    clear HA
    simp only [spec_spEncode.l0] at H
    by_cases c4 : x10_1 < (l0.length : Int)
    ·rw [if_pos c4] at H
     have c4b0 : decide (x10_1 < (l0.length : Int)) = true := decide_eq_true c4
     clear c4
     by_cases c5 : 0 ≤ x10_1
     ·rw [if_pos c5] at H
      have c5b0 : decide (0 ≤ x10_1) = true := decide_eq_true c5
      clear c5
      by_cases c6 : x10_1 < (l0.length : Int)
      ·rw [if_pos c6] at H
       have c6b0 : decide (x10_1 < (l0.length : Int)) = true := decide_eq_true c6
       clear c6
       by_cases c7 : a1 = true
       ·subst c7
        have H1 : ((spec_spDelta.f k1 (rd l0 x10_1)).bind fun t154 => (if x5_1.length + t154.length < 140737488355328 then (spec_spEncode.l0 k1 true (x5_1 ++ t154) l0 (l0.length : Int) (wrap64 (x10_1 + 1))) else (none))) = some (r1, r2) := by rw [if_pos rfl] at H; exact H
        clear H
        have H := H1
        clear H1
        replace H := Option.bind_eq_some_iff.mp H
        obtain ⟨t154, A80, H⟩ := H
        replace H : (if x5_1.length + t154.length < 140737488355328 then (spec_spEncode.l0 k1 true (x5_1 ++ t154) l0 (l0.length : Int) (wrap64 (x10_1 + 1))) else (none)) = some (r1, r2) := H
        have A8 := Aside0.mk A80
        clear A80
        by_cases c9 : x5_1.length + t154.length < 140737488355328
        ·rw [if_pos c9] at H
         have LMc9 := Aside0.mk c9
         clear c9
         obtain ⟨y157, hy157⟩ : ∃ y_ : List Bool, y_ = (x5_1 ++ t154) := ⟨_, rfl⟩
         replace H : (spec_spEncode.l0 k1 true y157 l0 (l0.length : Int) (wrap64 (x10_1 + 1))) = some (r1, r2) := by first | (rw [hy157]; with_reducible exact H) | (have H2_ := (Option.bind_some _ _).symm.trans H; rw [hy157]; with_reducible exact H2_) | (have H2_ := (Option.bind_some _ _).symm.trans H; with_reducible exact H2_) | with_reducible exact H | (rw [hy157]; exact H) | exact H
         have Ny157 := Aside0.mk hy157
         clear hy157
         have H' := Aside0.mk H
         clear H
         have p153 : 0 ≤ (x10_1 : Int) := of_decide_eq_true as_
         have q153 : x10_1 < (l0.length : Int) := of_decide_eq_true as_
         obtain ⟨ad153, e153, hx153_0⟩ := Kd.at_int HR0.out x10_1 p153 q153
         cases e153
         replace hx153_0 := (HB.out.cell (World.block_lt_of_cell? w _ hx153_0)).trans hx153_0
         replace p153 := eq_true p153
         replace q153 := eq_true q153
         go_wp2_with (first | ((with_reducible refine gate_callee (f := 80) rfl ?_); refine gl_ 17 Try.func80 #[.int .i64 (rd l0 x10_1)] ?_; (with_reducible refine (spec_spDelta.calls k1 (rd l0 x10_1) t154 _ A8.out).mono ?_); rintro e w10 ⟨v155, rfl, ho0, hb⟩; refine ⟨_, rfl, ?_⟩; have HO156 := Aside0.mk (Kd.R_lower (Kd.R_new' ho0 (Kd.R_lt (kR_ HO_5))) (below_size hB_)); replace HO_5 := Aside0.mk (Kd.R_elder' (kR_ HO_5) (Kd.R_base ho0) hb); replace BK148 := Aside0.mk (blk_below (kB_ BK148) hb); replace HB := Aside0.mk (below_step hB_ hb); (try clear hb); (try clear hb2); (try clear hk); (try clear hi); (try clear ho0); obtain ⟨Ao12, co12, eo12⟩ := Kd.R_slice HO156.out; subst eo12) | ((with_reducible refine gate_builtin (b := .append) (xs := #[.tmp 15, .tmp 17]) rfl ?_); at_builtin; refine Kd.R_append_rows Kd.bool (w0 := w) w.heap.size rfl (.tmp 15) (.tmp 17) 80 4 (.bool false) 1 rfl Try.underlying80 info4 rfl (by decide) (by omega) u5 x5_1 t154 _ _ _ (fun k_ => some k_ ≠ (.slice Ao12 t154.length co12 : Value).ownBlock) (fun _ => False) rfl rfl ?aO ?aR (fun _ _ h => h) (fun _ h => h.elim) ?aF ?aB ?aS ?aL ?_; (case aR => repeat (first | exact (Kd.R_reads' HO156.out).2.2 | (with_reducible refine Kd.C_alloc ?_ _) | (with_reducible refine Kd.C_drewN ?_ _) | (with_reducible refine Kd.C_drew ?_))); (case aB => exact hB_); (case aF => exact (fun k_ hk => Kd.fresh' (Kd.R_lt (kR_ HO156)) k_ hk)); (case aO => exact (by (with_reducible repeat (first | apply Kd.R_alloc | apply Kd.R_drewN | apply Kd.R_drew)); exact Kd.R_mono HO_5.out (fun _ hk => hk.2))); (case aS => exact (below_size hB_)); (case aL => have := LMc9.out; omega); intro v158 w11 ho hb hg hat; rw [← Ny157.out] at ho; have n0_ := Aside0.mk (blk_grown (kB_ BK148) hg (Kd.R_ne HO_5.out BK148.out (by decide))); have n1_ := Aside0.mk (Kd.R_after (ok := (fun _ => True)) (kR_ HO156) hg hat); have n2_ := Aside0.mk (hb); have n3_ := Aside0.mk (ho); clear BK148; clear HO156; clear HB; clear HO_5; have BK148 := n0_; have HO156 := n1_; have HB := n2_; have HO159 := n3_; clear n0_ n1_ n2_ n3_; clear ho hb hg hat))
         go_roundg k1
         case measure => have := HK1.out; omega
         case rel => exact ⟨(y157), (wrap64 (x10_1 + 1)), rg_, H', ⟨by have := HK1.out; omega⟩, ⟨by (with_reducible repeat (first | apply Kd.R_alloc | apply Kd.R_drewN | apply Kd.R_drew)); exact Kd.R_mono HO159.out (fun _ hk => trivial)⟩, ⟨kB_ BK148⟩, ⟨hB_⟩⟩
        ·rw [if_neg c9] at H
         exact absurd H (by simp)
       ·replace c7 := Bool.eq_false_iff.mpr c7
        subst c7
        have H1 : ((spec_spGamma.f k1 (rd l0 x10_1)).bind fun t160 => (if x5_1.length + t160.length < 140737488355328 then (spec_spEncode.l0 k1 false (x5_1 ++ t160) l0 (l0.length : Int) (wrap64 (x10_1 + 1))) else (none))) = some (r1, r2) := by rw [if_neg (show ¬ (false = true) by decide)] at H; exact H
        clear H
        have H := H1
        clear H1
        replace H := Option.bind_eq_some_iff.mp H
        obtain ⟨t160, A130, H⟩ := H
        replace H : (if x5_1.length + t160.length < 140737488355328 then (spec_spEncode.l0 k1 false (x5_1 ++ t160) l0 (l0.length : Int) (wrap64 (x10_1 + 1))) else (none)) = some (r1, r2) := H
        have A13 := Aside0.mk A130
        clear A130
        by_cases c14 : x5_1.length + t160.length < 140737488355328
        ·rw [if_pos c14] at H
         have LMc14 := Aside0.mk c14
         clear c14
         obtain ⟨y163, hy163⟩ : ∃ y_ : List Bool, y_ = (x5_1 ++ t160) := ⟨_, rfl⟩
         replace H : (spec_spEncode.l0 k1 false y163 l0 (l0.length : Int) (wrap64 (x10_1 + 1))) = some (r1, r2) := by first | (rw [hy163]; with_reducible exact H) | (have H2_ := (Option.bind_some _ _).symm.trans H; rw [hy163]; with_reducible exact H2_) | (have H2_ := (Option.bind_some _ _).symm.trans H; with_reducible exact H2_) | with_reducible exact H | (rw [hy163]; exact H) | exact H
         have Ny163 := Aside0.mk hy163
         clear hy163
         have H' := Aside0.mk H
         clear H
         have p153 : 0 ≤ (x10_1 : Int) := of_decide_eq_true as_
         have q153 : x10_1 < (l0.length : Int) := of_decide_eq_true as_
         obtain ⟨ad153, e153, hx153_0⟩ := Kd.at_int HR0.out x10_1 p153 q153
         cases e153
         replace hx153_0 := (HB.out.cell (World.block_lt_of_cell? w _ hx153_0)).trans hx153_0
         replace p153 := eq_true p153
         replace q153 := eq_true q153
         go_wp2_with (first | ((with_reducible refine gate_callee (f := 81) rfl ?_); refine gl_ 21 Try.func81 #[.int .i64 (rd l0 x10_1)] ?_; (with_reducible refine (spec_spGamma.calls k1 (rd l0 x10_1) t160 _ A13.out).mono ?_); rintro e w15 ⟨v161, rfl, ho0, hb⟩; refine ⟨_, rfl, ?_⟩; have HO162 := Aside0.mk (Kd.R_lower (Kd.R_new' ho0 (Kd.R_lt (kR_ HO_5))) (below_size hB_)); replace HO_5 := Aside0.mk (Kd.R_elder' (kR_ HO_5) (Kd.R_base ho0) hb); replace BK148 := Aside0.mk (blk_below (kB_ BK148) hb); replace HB := Aside0.mk (below_step hB_ hb); (try clear hb); (try clear hb2); (try clear hk); (try clear hi); (try clear ho0); obtain ⟨Ao17, co17, eo17⟩ := Kd.R_slice HO162.out; subst eo17) | ((with_reducible refine gate_builtin (b := .append) (xs := #[.tmp 19, .tmp 21]) rfl ?_); at_builtin; refine Kd.R_append_rows Kd.bool (w0 := w) w.heap.size rfl (.tmp 19) (.tmp 21) 80 4 (.bool false) 1 rfl Try.underlying80 info4 rfl (by decide) (by omega) u5 x5_1 t160 _ _ _ (fun k_ => some k_ ≠ (.slice Ao17 t160.length co17 : Value).ownBlock) (fun _ => False) rfl rfl ?aO ?aR (fun _ _ h => h) (fun _ h => h.elim) ?aF ?aB ?aS ?aL ?_; (case aR => repeat (first | exact (Kd.R_reads' HO162.out).2.2 | (with_reducible refine Kd.C_alloc ?_ _) | (with_reducible refine Kd.C_drewN ?_ _) | (with_reducible refine Kd.C_drew ?_))); (case aB => exact hB_); (case aF => exact (fun k_ hk => Kd.fresh' (Kd.R_lt (kR_ HO162)) k_ hk)); (case aO => exact (by (with_reducible repeat (first | apply Kd.R_alloc | apply Kd.R_drewN | apply Kd.R_drew)); exact Kd.R_mono HO_5.out (fun _ hk => hk.2))); (case aS => exact (below_size hB_)); (case aL => have := LMc14.out; omega); intro v164 w16 ho hb hg hat; rw [← Ny163.out] at ho; have n0_ := Aside0.mk (blk_grown (kB_ BK148) hg (Kd.R_ne HO_5.out BK148.out (by decide))); have n1_ := Aside0.mk (Kd.R_after (ok := (fun _ => True)) (kR_ HO162) hg hat); have n2_ := Aside0.mk (hb); have n3_ := Aside0.mk (ho); clear BK148; clear HO162; clear HB; clear HO_5; have BK148 := n0_; have HO162 := n1_; have HB := n2_; have HO165 := n3_; clear n0_ n1_ n2_ n3_; clear ho hb hg hat))
         go_roundg k1
         case measure => have := HK1.out; omega
         case rel => exact ⟨(y163), (wrap64 (x10_1 + 1)), rg_, H', ⟨by have := HK1.out; omega⟩, ⟨by (with_reducible repeat (first | apply Kd.R_alloc | apply Kd.R_drewN | apply Kd.R_drew)); exact Kd.R_mono HO165.out (fun _ hk => trivial)⟩, ⟨kB_ BK148⟩, ⟨hB_⟩⟩
        ·rw [if_neg c14] at H
         exact absurd H (by simp)
      ·rw [if_neg c6] at H
       exact absurd H (by simp)
     ·rw [if_neg c5] at H
      exact absurd H (by simp)
    ·rw [if_neg c4] at H
     have c4b0 : decide (x10_1 < (l0.length : Int)) = false := decide_eq_false c4
     clear c4
     replace H := Option.bind_eq_some_iff.mp H
     obtain ⟨⟨t149, t150⟩, A180, H⟩ := H
     replace H : (some (t149, t150)) = some (r1, r2) := H
     have A18 := Aside0.mk A180
     clear A180
     simp only [Option.some.injEq, Prod.mk.injEq] at H
     obtain ⟨rfl, rfl⟩ := H
     obtain ⟨Ao19, co19, eo19⟩ := Kd.R_slice HO_5.out
     subst eo19
     go_wp2_with (first | ((with_reducible refine gate_callee (f := 76) rfl ?_); refine gl_ 25 Try.func76 #[.slice Ao19 x5_1.length co19] ?_; (with_reducible refine (spec_biSome.calls k1 _ _ x5_1 t149 t150 _ ?side1 ?side2 A18.out).mono ?_); (case side1 => exact kD_ HO_5); (case side2 => exact (Kd.R_reads' HO_5.out).2.1); rintro e w20 ⟨v151, rfl, ho0, hb⟩; refine ⟨_, rfl, ?_⟩; replace HO_5 := Aside0.mk (Kd.R_below (kR_ HO_5) hb); have HO152 := Aside0.mk (Kd.R_lower ho0 (below_size hB_)); replace BK148 := Aside0.mk (blk_below (kB_ BK148) hb); replace HB := Aside0.mk (below_step hB_ hb); (try clear hb); (try clear hb2); (try clear hk); (try clear hi); (try clear ho0); have hcz21_0 : w20.cell? ⟨gb148, 0, none⟩ = some (.int .i64 0) := (blk_cell BK148.out 0).trans rfl; have hcz21_1 : w20.cell? ⟨gb148, 1, none⟩ = some (.slice none 0 0) := (blk_cell BK148.out 1).trans rfl; have hfz21_0 := blk_frozen BK148.out 0; have hfz21_1 := blk_frozen BK148.out 1; obtain ⟨Ao22, co22, eo22⟩ := Kd.R_slice HO152.out; subst eo22))
     refine bodyPost_ret (results_cell_row rfl _ _ gb148 24 #[.int .i64 t149, .slice Ao22 t150.length co22] (0, 0) _ rfl (by (with_reducible repeat (first | refine blk_drewN ?_ _ | refine blk_drew ?_ | refine blk_alloc ?_ _)); refine blk_put (cs := #[.int .i64 t149, .slice none 0 0]) ?_ 1 _ rfl; (with_reducible repeat (first | refine blk_drewN ?_ _ | refine blk_drew ?_ | refine blk_alloc ?_ _)); refine blk_put (cs := #[.int .i64 0, .slice none 0 0]) ?_ 0 _ rfl; (with_reducible repeat (first | refine blk_drewN ?_ _ | refine blk_drew ?_ | refine blk_alloc ?_ _)); exact BK148.out) Try.underlying24 rfl (by kernel_rfl)) rfl ?_
     exact ⟨_, rf_, by (with_reducible repeat (first | apply Kd.R_alloc | apply Kd.R_drewN | apply Kd.R_drew)); exact Kd.R_mono (Kd.R_far (p := ⟨gb148, 1, none⟩) (Kd.R_far (p := ⟨gb148, 0, none⟩) (Kd.R_types HO152.out BK148.out (by decide)) (fun _ hk => hk.2) (.int .i64 t149)) (fun _ hk => hk.2) (.slice Ao22 t150.length co22)) (fun _ hk => trivial), hB_⟩
/-! ### spec_EncodeGamma: function 10 -/
def spec_EncodeGamma.f (k : Nat) (l0 : List Int) : Option (Int × List Int × Bool) := (spec_spCoded.f k l0).bind fun t167 => (if t167 = true then ((spec_spEncode.f k l0 false).bind fun bt168 => (some (bt168.1, bt168.2, true))) else (some (0, ([] : List Int), false)))
theorem spec_EncodeGamma.mono : ∀ a0 k, LeO (spec_EncodeGamma.f k a0) (spec_EncodeGamma.f (k + 1) a0) := by
  intro a0 k
  unfold spec_EncodeGamma.f
  repeat' first
      | (with_reducible exact spec_spCoded.mono _ _)
      | (with_reducible exact spec_spEncode.mono _ _ _)
      | (with_reducible exact LeO.refl _)
      | (with_reducible exact LeO.none _)
      | (with_reducible refine LeO.ite ?_ ?_)
      | (with_reducible refine LeO.bind ?_ (fun _ => ?_))
      | exact spec_spCoded.mono _ _
      | exact spec_spEncode.mono _ _ _
      | exact LeO.none _
      | refine LeO.ite ?_ ?_
      | refine LeO.bind ?_ (fun _ => ?_)
noncomputable def spec_EncodeGamma.F (l0 : List Int) : Option (Int × List Int × Bool) := lim fun k => spec_EncodeGamma.f k l0
theorem spec_EncodeGamma.F_sup (l0 : List Int) : Sup (fun k => spec_EncodeGamma.f k l0) (spec_EncodeGamma.F l0) := Sup.of_mono fun k => spec_EncodeGamma.mono l0 k
theorem spec_EncodeGamma.F_eq (l0 : List Int) : spec_EncodeGamma.F l0 = (spec_spCoded.F l0).bind fun t167 => (if t167 = true then ((spec_spEncode.F l0 false).bind fun bt168 => (some (bt168.1, bt168.2, true))) else (some (0, ([] : List Int), false))) := by
  refine Sup.unique (spec_EncodeGamma.F_sup l0) (Sup.congr (g' := fun k => (spec_spCoded.f k l0).bind fun t167 => (if t167 = true then ((spec_spEncode.f k l0 false).bind fun bt168 => (some (bt168.1, bt168.2, true))) else (some (0, ([] : List Int), false)))) (fun k => by first | rfl | simp only [spec_EncodeGamma.f]) ?_)
  repeat' first
    | (with_reducible exact spec_spCoded.F_sup _)
    | (with_reducible exact spec_spEncode.F_sup _ _)
    | (with_reducible refine Sup.ite ?_ ?_)
    | (with_reducible refine Sup.bind ?_ (fun _ => ?_))
    | (with_reducible exact Sup.const _)
    | exact spec_spCoded.F_sup _
    | exact spec_spEncode.F_sup _ _
    | exact Sup.const _
set_option maxHeartbeats 8000000 in
set_option maxRecDepth 100000 in
theorem spec_EncodeGamma.calls (k : Nat) (A0 : Option Addr) (c0 : Nat) (l0 : List Int) (r1 : Int) (r2 : List Int) (r3 : Bool) (w : World) (hr0 : Kd.C (Kd.int .i64) w A0 l0.length l0) (hc0 : l0.length ≤ c0) (h : spec_EncodeGamma.f k l0 = some (r1, r2, r3)) :
    Calls Try.prog 10 #[.slice A0 l0.length c0] w fun e w' => ∃ v1_ : Value, e = .returned (.tuple #[.agg #[.int .i64 r1, v1_], .bool r3]) ∧ Kd.R (Kd.int .i64) 3 w' w.heap.size (fun _ => True) v1_ r2 ∧ Below w.heap.size w w' := by
  have hu24 := Try.underlying24
  have HR0 := Aside0.mk hr0
  have HC0 := Aside0.mk hc0
  clear hr0 hc0
  have HB := Aside0.mk (Below.refl w.heap.size w)
  have H : ((spec_spCoded.f k l0).bind fun t167 => (if t167 = true then ((spec_spEncode.f k l0 false).bind fun bt168 => (some (bt168.1, bt168.2, true))) else (some (0, ([] : List Int), false)))) = some (r1, r2, r3) := h
  clear h
  replace H := Option.bind_eq_some_iff.mp H
  obtain ⟨t167, A20, H⟩ := H
  replace H : (if t167 = true then ((spec_spEncode.f k l0 false).bind fun bt168 => (some (bt168.1, bt168.2, true))) else (some (0, ([] : List Int), false))) = some (r1, r2, r3) := H
  have A2 := Aside0.mk A20
  clear A20
  by_cases c3 : t167 = true
  ·subst c3
   have H1 : ((spec_spEncode.f k l0 false).bind fun bt168 => (some (bt168.1, bt168.2, true))) = some (r1, r2, r3) := by rw [if_pos rfl] at H; exact H
   clear H
   have H := H1
   clear H1
   replace H := Option.bind_eq_some_iff.mp H
   obtain ⟨⟨t168, t169⟩, A40, H⟩ := H
   replace H : (some (t168, t169, true)) = some (r1, r2, r3) := H
   have A4 := Aside0.mk A40
   clear A40
   simp only [Option.some.injEq, Prod.mk.injEq] at H
   obtain ⟨rfl, rfl, rfl⟩ := H
   go_enter Try.func10, Try.ntmps10
   go_wp2_with (first | ((with_reducible refine gate_dst (N := 2) rfl ?_); refine bx_ 2 #[.int .i64 0, .slice none 0 0] 24 ?_; intro gb166 hg w5 hbox hb; have BK166 := Aside0.mk (hbox); have GW166 := Aside0.mk ((ge_ hg)); have GE166 := Aside0.mk ((ge_ hg)); replace HB := Aside0.mk (below_step hB_ hb); clear hb hbox hg) | ((with_reducible refine gate_callee (f := 44) rfl ?_); refine gl_ 5 Try.func44 #[.slice A0 l0.length c0] ?_; (with_reducible refine (spec_spCoded.calls k _ _ l0 true _ ?side1 ?side2 A2.out).mono ?_); (case side1 => exact kC_ HR0); (case side2 => exact HC0.out); rintro e w' ⟨rfl, ⟨nd, rfl⟩⟩; refine ⟨_, rfl, ?_⟩; (try (rw [drewN_self w5]; generalize hq_ : World.drewN w5 _ = w5; have n0_ : Aside0 (w5.heap[gb166]? = some (.cells #[.int .i64 0, .slice none 0 0] 24 (0, 0))) := ⟨by rw [← hq_]; exact (kB_ BK166)⟩; have n1_ : Aside0 (Below w.heap.size w w5) := ⟨by rw [← hq_]; exact hB_⟩; clear BK166 HB hq_; have BK166 := n0_; have HB := n1_; clear n0_ n1_))) | ((with_reducible refine gate_callee (f := 45) rfl ?_); refine gl_ 9 Try.func45 #[.slice A0 l0.length c0, .bool false] ?_; (with_reducible refine (spec_spEncode.calls k _ _ l0 false t168 t169 _ ?side1 ?side2 A4.out).mono ?_); (case side1 => exact kC_ HR0); (case side2 => exact HC0.out); rintro e w6 ⟨v170, rfl, ho0, hb⟩; refine ⟨_, rfl, ?_⟩; have HO171 := Aside0.mk (Kd.R_lower ho0 (below_size hB_)); replace BK166 := Aside0.mk (blk_below (kB_ BK166) hb); replace HB := Aside0.mk (below_step hB_ hb); (try clear hb); (try clear hb2); (try clear hk); (try clear hi); (try clear ho0); have hcz7_0 : w6.cell? ⟨gb166, 0, none⟩ = some (.int .i64 0) := (blk_cell BK166.out 0).trans rfl; have hcz7_1 : w6.cell? ⟨gb166, 1, none⟩ = some (.slice none 0 0) := (blk_cell BK166.out 1).trans rfl; have hfz7_0 := blk_frozen BK166.out 0; have hfz7_1 := blk_frozen BK166.out 1; obtain ⟨Ao8, co8, eo8⟩ := Kd.R_slice HO171.out; subst eo8))
   refine bodyPost_ret (results_ct rfl _ _ gb166 24 #[.int .i64 t168, .slice Ao8 t169.length co8] (0, 0) _ rfl (by (with_reducible repeat (first | refine blk_drewN ?_ _ | refine blk_drew ?_ | refine blk_alloc ?_ _)); refine blk_put (cs := #[.int .i64 t168, .slice none 0 0]) ?_ 1 _ rfl; (with_reducible repeat (first | refine blk_drewN ?_ _ | refine blk_drew ?_ | refine blk_alloc ?_ _)); refine blk_put (cs := #[.int .i64 0, .slice none 0 0]) ?_ 0 _ rfl; (with_reducible repeat (first | refine blk_drewN ?_ _ | refine blk_drew ?_ | refine blk_alloc ?_ _)); exact BK166.out) Try.underlying24 rfl (by kernel_rfl)) rfl ?_
   exact ⟨_, rf_, by (with_reducible repeat (first | apply Kd.R_alloc | apply Kd.R_drewN | apply Kd.R_drew)); exact Kd.R_mono (Kd.R_far (p := ⟨gb166, 1, none⟩) (Kd.R_far (p := ⟨gb166, 0, none⟩) (Kd.R_types HO171.out BK166.out (by decide)) (fun _ hk => hk.2) (.int .i64 t168)) (fun _ hk => hk.2) (.slice Ao8 t169.length co8)) (fun _ hk => trivial), hB_⟩
  ·replace c3 := Bool.eq_false_iff.mpr c3
   subst c3
   have H1 : (some (0, ([] : List Int), false)) = some (r1, r2, r3) := by rw [if_neg (show ¬ (false = true) by decide)] at H; exact H
   clear H
   have H := H1
   clear H1
   simp only [Option.some.injEq, Prod.mk.injEq] at H
   obtain ⟨rfl, rfl, rfl⟩ := H
   go_enter Try.func10, Try.ntmps10
   go_wp2_with (first | ((with_reducible refine gate_dst (N := 2) rfl ?_); refine bx_ 2 #[.int .i64 0, .slice none 0 0] 24 ?_; intro gb166 hg w9 hbox hb; have BK166 := Aside0.mk (hbox); have GW166 := Aside0.mk ((ge_ hg)); have GE166 := Aside0.mk ((ge_ hg)); replace HB := Aside0.mk (below_step hB_ hb); clear hb hbox hg) | ((with_reducible refine gate_callee (f := 44) rfl ?_); refine gl_ 5 Try.func44 #[.slice A0 l0.length c0] ?_; (with_reducible refine (spec_spCoded.calls k _ _ l0 false _ ?side1 ?side2 A2.out).mono ?_); (case side1 => exact kC_ HR0); (case side2 => exact HC0.out); rintro e w' ⟨rfl, ⟨nd, rfl⟩⟩; refine ⟨_, rfl, ?_⟩; (try (rw [drewN_self w9]; generalize hq_ : World.drewN w9 _ = w9; have n0_ : Aside0 (w9.heap[gb166]? = some (.cells #[.int .i64 0, .slice none 0 0] 24 (0, 0))) := ⟨by rw [← hq_]; exact (kB_ BK166)⟩; have n1_ : Aside0 (Below w.heap.size w w9) := ⟨by rw [← hq_]; exact hB_⟩; clear BK166 HB hq_; have BK166 := n0_; have HB := n1_; clear n0_ n1_)); have hcz10_0 : w9.cell? ⟨gb166, 0, none⟩ = some (.int .i64 0) := (blk_cell BK166.out 0).trans rfl; have hcz10_1 : w9.cell? ⟨gb166, 1, none⟩ = some (.slice none 0 0) := (blk_cell BK166.out 1).trans rfl; have hfz10_0 := blk_frozen BK166.out 0; have hfz10_1 := blk_frozen BK166.out 1))
   refine bodyPost_ret (results_ct rfl _ _ gb166 24 #[.int .i64 0, .slice none 0 0] (0, 0) _ rfl (by (with_reducible repeat (first | refine blk_drewN ?_ _ | refine blk_drew ?_ | refine blk_alloc ?_ _)); refine blk_put (cs := #[.int .i64 0, .slice none 0 0]) ?_ 1 _ rfl; (with_reducible repeat (first | refine blk_drewN ?_ _ | refine blk_drew ?_ | refine blk_alloc ?_ _)); refine blk_put (cs := #[.int .i64 0, .slice none 0 0]) ?_ 0 _ rfl; (with_reducible repeat (first | refine blk_drewN ?_ _ | refine blk_drew ?_ | refine blk_alloc ?_ _)); exact BK166.out) Try.underlying24 rfl (by kernel_rfl)) rfl ?_
   exact ⟨_, rf_, by first | exact Kd.R_nil _ _ _ _ _ | exact Kd.N_nil _ _ _ _ _ | exact Kd.V_nil _ _ _ _ _ | exact Kd.Q_nil _ _ _ _ _ | exact Kd.S_nil _ _ _ _ _, hB_⟩
/-! ### bits_Len64: function 111 -/
def bits_Len64.j0 : Nat → Int → Int → Option (Int)
  | 0, _, _ => none
  | k + 1, x0, x2 => if x0 ≥ 65536 then (if (x0 / 65536) ≥ 256 then (if 0 ≤ (((x0 / 65536) / 256) % 256) then (if (((x0 / 65536) / 256) % 256) < 256 then (some (wrap64 ((wrap64 ((wrap64 (x2 + 16)) + 8)) + (wrap64 (bt (⟨#[0, 1, 2, 2, 3, 3, 3, 3, 4, 4, 4, 4, 4, 4, 4, 4, 5, 5, 5, 5, 5, 5, 5, 5, 5, 5, 5, 5, 5, 5, 5, 5, 6, 6, 6, 6, 6, 6, 6, 6, 6, 6, 6, 6, 6, 6, 6, 6, 6, 6, 6, 6, 6, 6, 6, 6, 6, 6, 6, 6, 6, 6, 6, 6, 7, 7, 7, 7, 7, 7, 7, 7, 7, 7, 7, 7, 7, 7, 7, 7, 7, 7, 7, 7, 7, 7, 7, 7, 7, 7, 7, 7, 7, 7, 7, 7, 7, 7, 7, 7, 7, 7, 7, 7, 7, 7, 7, 7, 7, 7, 7, 7, 7, 7, 7, 7, 7, 7, 7, 7, 7, 7, 7, 7, 7, 7, 7, 7, 8, 8, 8, 8, 8, 8, 8, 8, 8, 8, 8, 8, 8, 8, 8, 8, 8, 8, 8, 8, 8, 8, 8, 8, 8, 8, 8, 8, 8, 8, 8, 8, 8, 8, 8, 8, 8, 8, 8, 8, 8, 8, 8, 8, 8, 8, 8, 8, 8, 8, 8, 8, 8, 8, 8, 8, 8, 8, 8, 8, 8, 8, 8, 8, 8, 8, 8, 8, 8, 8, 8, 8, 8, 8, 8, 8, 8, 8, 8, 8, 8, 8, 8, 8, 8, 8, 8, 8, 8, 8, 8, 8, 8, 8, 8, 8, 8, 8, 8, 8, 8, 8, 8, 8, 8, 8, 8, 8, 8, 8, 8, 8, 8, 8, 8, 8, 8, 8, 8, 8, 8, 8, 8, 8, 8, 8, 8, 8]⟩ : ByteArray) (((x0 / 65536) / 256) % 256)))))) else (none)) else (none)) else (if 0 ≤ ((x0 / 65536) % 256) then (if ((x0 / 65536) % 256) < 256 then (some (wrap64 ((wrap64 (x2 + 16)) + (wrap64 (bt (⟨#[0, 1, 2, 2, 3, 3, 3, 3, 4, 4, 4, 4, 4, 4, 4, 4, 5, 5, 5, 5, 5, 5, 5, 5, 5, 5, 5, 5, 5, 5, 5, 5, 6, 6, 6, 6, 6, 6, 6, 6, 6, 6, 6, 6, 6, 6, 6, 6, 6, 6, 6, 6, 6, 6, 6, 6, 6, 6, 6, 6, 6, 6, 6, 6, 7, 7, 7, 7, 7, 7, 7, 7, 7, 7, 7, 7, 7, 7, 7, 7, 7, 7, 7, 7, 7, 7, 7, 7, 7, 7, 7, 7, 7, 7, 7, 7, 7, 7, 7, 7, 7, 7, 7, 7, 7, 7, 7, 7, 7, 7, 7, 7, 7, 7, 7, 7, 7, 7, 7, 7, 7, 7, 7, 7, 7, 7, 7, 7, 8, 8, 8, 8, 8, 8, 8, 8, 8, 8, 8, 8, 8, 8, 8, 8, 8, 8, 8, 8, 8, 8, 8, 8, 8, 8, 8, 8, 8, 8, 8, 8, 8, 8, 8, 8, 8, 8, 8, 8, 8, 8, 8, 8, 8, 8, 8, 8, 8, 8, 8, 8, 8, 8, 8, 8, 8, 8, 8, 8, 8, 8, 8, 8, 8, 8, 8, 8, 8, 8, 8, 8, 8, 8, 8, 8, 8, 8, 8, 8, 8, 8, 8, 8, 8, 8, 8, 8, 8, 8, 8, 8, 8, 8, 8, 8, 8, 8, 8, 8, 8, 8, 8, 8, 8, 8, 8, 8, 8, 8, 8, 8, 8, 8, 8, 8, 8, 8, 8, 8, 8, 8, 8, 8, 8, 8, 8, 8]⟩ : ByteArray) ((x0 / 65536) % 256)))))) else (none)) else (none))) else (if x0 ≥ 256 then (if 0 ≤ ((x0 / 256) % 256) then (if ((x0 / 256) % 256) < 256 then (some (wrap64 ((wrap64 (x2 + 8)) + (wrap64 (bt (⟨#[0, 1, 2, 2, 3, 3, 3, 3, 4, 4, 4, 4, 4, 4, 4, 4, 5, 5, 5, 5, 5, 5, 5, 5, 5, 5, 5, 5, 5, 5, 5, 5, 6, 6, 6, 6, 6, 6, 6, 6, 6, 6, 6, 6, 6, 6, 6, 6, 6, 6, 6, 6, 6, 6, 6, 6, 6, 6, 6, 6, 6, 6, 6, 6, 7, 7, 7, 7, 7, 7, 7, 7, 7, 7, 7, 7, 7, 7, 7, 7, 7, 7, 7, 7, 7, 7, 7, 7, 7, 7, 7, 7, 7, 7, 7, 7, 7, 7, 7, 7, 7, 7, 7, 7, 7, 7, 7, 7, 7, 7, 7, 7, 7, 7, 7, 7, 7, 7, 7, 7, 7, 7, 7, 7, 7, 7, 7, 7, 8, 8, 8, 8, 8, 8, 8, 8, 8, 8, 8, 8, 8, 8, 8, 8, 8, 8, 8, 8, 8, 8, 8, 8, 8, 8, 8, 8, 8, 8, 8, 8, 8, 8, 8, 8, 8, 8, 8, 8, 8, 8, 8, 8, 8, 8, 8, 8, 8, 8, 8, 8, 8, 8, 8, 8, 8, 8, 8, 8, 8, 8, 8, 8, 8, 8, 8, 8, 8, 8, 8, 8, 8, 8, 8, 8, 8, 8, 8, 8, 8, 8, 8, 8, 8, 8, 8, 8, 8, 8, 8, 8, 8, 8, 8, 8, 8, 8, 8, 8, 8, 8, 8, 8, 8, 8, 8, 8, 8, 8, 8, 8, 8, 8, 8, 8, 8, 8, 8, 8, 8, 8, 8, 8, 8, 8, 8, 8]⟩ : ByteArray) ((x0 / 256) % 256)))))) else (none)) else (none)) else (if 0 ≤ ((x0) % 256) then (if ((x0) % 256) < 256 then (some (wrap64 (x2 + (wrap64 (bt (⟨#[0, 1, 2, 2, 3, 3, 3, 3, 4, 4, 4, 4, 4, 4, 4, 4, 5, 5, 5, 5, 5, 5, 5, 5, 5, 5, 5, 5, 5, 5, 5, 5, 6, 6, 6, 6, 6, 6, 6, 6, 6, 6, 6, 6, 6, 6, 6, 6, 6, 6, 6, 6, 6, 6, 6, 6, 6, 6, 6, 6, 6, 6, 6, 6, 7, 7, 7, 7, 7, 7, 7, 7, 7, 7, 7, 7, 7, 7, 7, 7, 7, 7, 7, 7, 7, 7, 7, 7, 7, 7, 7, 7, 7, 7, 7, 7, 7, 7, 7, 7, 7, 7, 7, 7, 7, 7, 7, 7, 7, 7, 7, 7, 7, 7, 7, 7, 7, 7, 7, 7, 7, 7, 7, 7, 7, 7, 7, 7, 8, 8, 8, 8, 8, 8, 8, 8, 8, 8, 8, 8, 8, 8, 8, 8, 8, 8, 8, 8, 8, 8, 8, 8, 8, 8, 8, 8, 8, 8, 8, 8, 8, 8, 8, 8, 8, 8, 8, 8, 8, 8, 8, 8, 8, 8, 8, 8, 8, 8, 8, 8, 8, 8, 8, 8, 8, 8, 8, 8, 8, 8, 8, 8, 8, 8, 8, 8, 8, 8, 8, 8, 8, 8, 8, 8, 8, 8, 8, 8, 8, 8, 8, 8, 8, 8, 8, 8, 8, 8, 8, 8, 8, 8, 8, 8, 8, 8, 8, 8, 8, 8, 8, 8, 8, 8, 8, 8, 8, 8, 8, 8, 8, 8, 8, 8, 8, 8, 8, 8, 8, 8, 8, 8, 8, 8, 8, 8]⟩ : ByteArray) ((x0) % 256)))))) else (none)) else (none)))
def bits_Len64.f (k : Nat) (a0 : Int) : Option (Int) := if a0 ≥ 4294967296 then (bits_Len64.j0 k (a0 / 4294967296) 32) else (bits_Len64.j0 k a0 0)
theorem bits_Len64.mono_l : ∀ k, (∀ y0 y1, LeO (bits_Len64.j0 k y0 y1) (bits_Len64.j0 (k + 1) y0 y1))
  | 0 => fun _ _ r h => by simp [bits_Len64.j0] at h
  | k + 1 => by
    have ih0 := bits_Len64.mono_l k
    · intro y0 y1
      unfold bits_Len64.j0
      repeat' first
      | (with_reducible exact ih0 _ _)
      | (with_reducible exact LeO.refl _)
      | (with_reducible exact LeO.none _)
      | (with_reducible refine LeO.ite ?_ ?_)
      | (with_reducible refine LeO.bind ?_ (fun _ => ?_))
      | exact ih0 _ _
      | exact LeO.none _
      | refine LeO.ite ?_ ?_
      | refine LeO.bind ?_ (fun _ => ?_)
theorem bits_Len64.mono : ∀ a0 k, LeO (bits_Len64.f k a0) (bits_Len64.f (k + 1) a0) := by
  intro a0 k
  have ih0 := bits_Len64.mono_l k
  unfold bits_Len64.f
  repeat' first
      | (with_reducible exact ih0 _ _)
      | (with_reducible exact LeO.refl _)
      | (with_reducible exact LeO.none _)
      | (with_reducible refine LeO.ite ?_ ?_)
      | (with_reducible refine LeO.bind ?_ (fun _ => ?_))
      | exact ih0 _ _
      | exact LeO.none _
      | refine LeO.ite ?_ ?_
      | refine LeO.bind ?_ (fun _ => ?_)
noncomputable def bits_Len64.J0 (y0 : Int) (y1 : Int) : Option (Int) := lim fun k => bits_Len64.j0 k y0 y1
theorem bits_Len64.J0_sup (y0 : Int) (y1 : Int) : Sup (fun k => bits_Len64.j0 k y0 y1) (bits_Len64.J0 y0 y1) := Sup.of_mono fun k => bits_Len64.mono_l k y0 y1
noncomputable def bits_Len64.F (a0 : Int) : Option (Int) := lim fun k => bits_Len64.f k a0
theorem bits_Len64.F_sup (a0 : Int) : Sup (fun k => bits_Len64.f k a0) (bits_Len64.F a0) := Sup.of_mono fun k => bits_Len64.mono a0 k
theorem bits_Len64.J0_eq (x0 : Int) (x2 : Int) : bits_Len64.J0 x0 x2 = if x0 ≥ 65536 then (if (x0 / 65536) ≥ 256 then (if 0 ≤ (((x0 / 65536) / 256) % 256) then (if (((x0 / 65536) / 256) % 256) < 256 then (some (wrap64 ((wrap64 ((wrap64 (x2 + 16)) + 8)) + (wrap64 (bt (⟨#[0, 1, 2, 2, 3, 3, 3, 3, 4, 4, 4, 4, 4, 4, 4, 4, 5, 5, 5, 5, 5, 5, 5, 5, 5, 5, 5, 5, 5, 5, 5, 5, 6, 6, 6, 6, 6, 6, 6, 6, 6, 6, 6, 6, 6, 6, 6, 6, 6, 6, 6, 6, 6, 6, 6, 6, 6, 6, 6, 6, 6, 6, 6, 6, 7, 7, 7, 7, 7, 7, 7, 7, 7, 7, 7, 7, 7, 7, 7, 7, 7, 7, 7, 7, 7, 7, 7, 7, 7, 7, 7, 7, 7, 7, 7, 7, 7, 7, 7, 7, 7, 7, 7, 7, 7, 7, 7, 7, 7, 7, 7, 7, 7, 7, 7, 7, 7, 7, 7, 7, 7, 7, 7, 7, 7, 7, 7, 7, 8, 8, 8, 8, 8, 8, 8, 8, 8, 8, 8, 8, 8, 8, 8, 8, 8, 8, 8, 8, 8, 8, 8, 8, 8, 8, 8, 8, 8, 8, 8, 8, 8, 8, 8, 8, 8, 8, 8, 8, 8, 8, 8, 8, 8, 8, 8, 8, 8, 8, 8, 8, 8, 8, 8, 8, 8, 8, 8, 8, 8, 8, 8, 8, 8, 8, 8, 8, 8, 8, 8, 8, 8, 8, 8, 8, 8, 8, 8, 8, 8, 8, 8, 8, 8, 8, 8, 8, 8, 8, 8, 8, 8, 8, 8, 8, 8, 8, 8, 8, 8, 8, 8, 8, 8, 8, 8, 8, 8, 8, 8, 8, 8, 8, 8, 8, 8, 8, 8, 8, 8, 8, 8, 8, 8, 8, 8, 8]⟩ : ByteArray) (((x0 / 65536) / 256) % 256)))))) else (none)) else (none)) else (if 0 ≤ ((x0 / 65536) % 256) then (if ((x0 / 65536) % 256) < 256 then (some (wrap64 ((wrap64 (x2 + 16)) + (wrap64 (bt (⟨#[0, 1, 2, 2, 3, 3, 3, 3, 4, 4, 4, 4, 4, 4, 4, 4, 5, 5, 5, 5, 5, 5, 5, 5, 5, 5, 5, 5, 5, 5, 5, 5, 6, 6, 6, 6, 6, 6, 6, 6, 6, 6, 6, 6, 6, 6, 6, 6, 6, 6, 6, 6, 6, 6, 6, 6, 6, 6, 6, 6, 6, 6, 6, 6, 7, 7, 7, 7, 7, 7, 7, 7, 7, 7, 7, 7, 7, 7, 7, 7, 7, 7, 7, 7, 7, 7, 7, 7, 7, 7, 7, 7, 7, 7, 7, 7, 7, 7, 7, 7, 7, 7, 7, 7, 7, 7, 7, 7, 7, 7, 7, 7, 7, 7, 7, 7, 7, 7, 7, 7, 7, 7, 7, 7, 7, 7, 7, 7, 8, 8, 8, 8, 8, 8, 8, 8, 8, 8, 8, 8, 8, 8, 8, 8, 8, 8, 8, 8, 8, 8, 8, 8, 8, 8, 8, 8, 8, 8, 8, 8, 8, 8, 8, 8, 8, 8, 8, 8, 8, 8, 8, 8, 8, 8, 8, 8, 8, 8, 8, 8, 8, 8, 8, 8, 8, 8, 8, 8, 8, 8, 8, 8, 8, 8, 8, 8, 8, 8, 8, 8, 8, 8, 8, 8, 8, 8, 8, 8, 8, 8, 8, 8, 8, 8, 8, 8, 8, 8, 8, 8, 8, 8, 8, 8, 8, 8, 8, 8, 8, 8, 8, 8, 8, 8, 8, 8, 8, 8, 8, 8, 8, 8, 8, 8, 8, 8, 8, 8, 8, 8, 8, 8, 8, 8, 8, 8]⟩ : ByteArray) ((x0 / 65536) % 256)))))) else (none)) else (none))) else (if x0 ≥ 256 then (if 0 ≤ ((x0 / 256) % 256) then (if ((x0 / 256) % 256) < 256 then (some (wrap64 ((wrap64 (x2 + 8)) + (wrap64 (bt (⟨#[0, 1, 2, 2, 3, 3, 3, 3, 4, 4, 4, 4, 4, 4, 4, 4, 5, 5, 5, 5, 5, 5, 5, 5, 5, 5, 5, 5, 5, 5, 5, 5, 6, 6, 6, 6, 6, 6, 6, 6, 6, 6, 6, 6, 6, 6, 6, 6, 6, 6, 6, 6, 6, 6, 6, 6, 6, 6, 6, 6, 6, 6, 6, 6, 7, 7, 7, 7, 7, 7, 7, 7, 7, 7, 7, 7, 7, 7, 7, 7, 7, 7, 7, 7, 7, 7, 7, 7, 7, 7, 7, 7, 7, 7, 7, 7, 7, 7, 7, 7, 7, 7, 7, 7, 7, 7, 7, 7, 7, 7, 7, 7, 7, 7, 7, 7, 7, 7, 7, 7, 7, 7, 7, 7, 7, 7, 7, 7, 8, 8, 8, 8, 8, 8, 8, 8, 8, 8, 8, 8, 8, 8, 8, 8, 8, 8, 8, 8, 8, 8, 8, 8, 8, 8, 8, 8, 8, 8, 8, 8, 8, 8, 8, 8, 8, 8, 8, 8, 8, 8, 8, 8, 8, 8, 8, 8, 8, 8, 8, 8, 8, 8, 8, 8, 8, 8, 8, 8, 8, 8, 8, 8, 8, 8, 8, 8, 8, 8, 8, 8, 8, 8, 8, 8, 8, 8, 8, 8, 8, 8, 8, 8, 8, 8, 8, 8, 8, 8, 8, 8, 8, 8, 8, 8, 8, 8, 8, 8, 8, 8, 8, 8, 8, 8, 8, 8, 8, 8, 8, 8, 8, 8, 8, 8, 8, 8, 8, 8, 8, 8, 8, 8, 8, 8, 8, 8]⟩ : ByteArray) ((x0 / 256) % 256)))))) else (none)) else (none)) else (if 0 ≤ ((x0) % 256) then (if ((x0) % 256) < 256 then (some (wrap64 (x2 + (wrap64 (bt (⟨#[0, 1, 2, 2, 3, 3, 3, 3, 4, 4, 4, 4, 4, 4, 4, 4, 5, 5, 5, 5, 5, 5, 5, 5, 5, 5, 5, 5, 5, 5, 5, 5, 6, 6, 6, 6, 6, 6, 6, 6, 6, 6, 6, 6, 6, 6, 6, 6, 6, 6, 6, 6, 6, 6, 6, 6, 6, 6, 6, 6, 6, 6, 6, 6, 7, 7, 7, 7, 7, 7, 7, 7, 7, 7, 7, 7, 7, 7, 7, 7, 7, 7, 7, 7, 7, 7, 7, 7, 7, 7, 7, 7, 7, 7, 7, 7, 7, 7, 7, 7, 7, 7, 7, 7, 7, 7, 7, 7, 7, 7, 7, 7, 7, 7, 7, 7, 7, 7, 7, 7, 7, 7, 7, 7, 7, 7, 7, 7, 8, 8, 8, 8, 8, 8, 8, 8, 8, 8, 8, 8, 8, 8, 8, 8, 8, 8, 8, 8, 8, 8, 8, 8, 8, 8, 8, 8, 8, 8, 8, 8, 8, 8, 8, 8, 8, 8, 8, 8, 8, 8, 8, 8, 8, 8, 8, 8, 8, 8, 8, 8, 8, 8, 8, 8, 8, 8, 8, 8, 8, 8, 8, 8, 8, 8, 8, 8, 8, 8, 8, 8, 8, 8, 8, 8, 8, 8, 8, 8, 8, 8, 8, 8, 8, 8, 8, 8, 8, 8, 8, 8, 8, 8, 8, 8, 8, 8, 8, 8, 8, 8, 8, 8, 8, 8, 8, 8, 8, 8, 8, 8, 8, 8, 8, 8, 8, 8, 8, 8, 8, 8, 8, 8, 8, 8, 8, 8]⟩ : ByteArray) ((x0) % 256)))))) else (none)) else (none))) := by
  refine Sup.unique (bits_Len64.J0_sup x0 x2) (Sup.shift (fun k => bits_Len64.mono_l k x0 x2) (Sup.congr (g' := fun k => if x0 ≥ 65536 then (if (x0 / 65536) ≥ 256 then (if 0 ≤ (((x0 / 65536) / 256) % 256) then (if (((x0 / 65536) / 256) % 256) < 256 then (some (wrap64 ((wrap64 ((wrap64 (x2 + 16)) + 8)) + (wrap64 (bt (⟨#[0, 1, 2, 2, 3, 3, 3, 3, 4, 4, 4, 4, 4, 4, 4, 4, 5, 5, 5, 5, 5, 5, 5, 5, 5, 5, 5, 5, 5, 5, 5, 5, 6, 6, 6, 6, 6, 6, 6, 6, 6, 6, 6, 6, 6, 6, 6, 6, 6, 6, 6, 6, 6, 6, 6, 6, 6, 6, 6, 6, 6, 6, 6, 6, 7, 7, 7, 7, 7, 7, 7, 7, 7, 7, 7, 7, 7, 7, 7, 7, 7, 7, 7, 7, 7, 7, 7, 7, 7, 7, 7, 7, 7, 7, 7, 7, 7, 7, 7, 7, 7, 7, 7, 7, 7, 7, 7, 7, 7, 7, 7, 7, 7, 7, 7, 7, 7, 7, 7, 7, 7, 7, 7, 7, 7, 7, 7, 7, 8, 8, 8, 8, 8, 8, 8, 8, 8, 8, 8, 8, 8, 8, 8, 8, 8, 8, 8, 8, 8, 8, 8, 8, 8, 8, 8, 8, 8, 8, 8, 8, 8, 8, 8, 8, 8, 8, 8, 8, 8, 8, 8, 8, 8, 8, 8, 8, 8, 8, 8, 8, 8, 8, 8, 8, 8, 8, 8, 8, 8, 8, 8, 8, 8, 8, 8, 8, 8, 8, 8, 8, 8, 8, 8, 8, 8, 8, 8, 8, 8, 8, 8, 8, 8, 8, 8, 8, 8, 8, 8, 8, 8, 8, 8, 8, 8, 8, 8, 8, 8, 8, 8, 8, 8, 8, 8, 8, 8, 8, 8, 8, 8, 8, 8, 8, 8, 8, 8, 8, 8, 8, 8, 8, 8, 8, 8, 8]⟩ : ByteArray) (((x0 / 65536) / 256) % 256)))))) else (none)) else (none)) else (if 0 ≤ ((x0 / 65536) % 256) then (if ((x0 / 65536) % 256) < 256 then (some (wrap64 ((wrap64 (x2 + 16)) + (wrap64 (bt (⟨#[0, 1, 2, 2, 3, 3, 3, 3, 4, 4, 4, 4, 4, 4, 4, 4, 5, 5, 5, 5, 5, 5, 5, 5, 5, 5, 5, 5, 5, 5, 5, 5, 6, 6, 6, 6, 6, 6, 6, 6, 6, 6, 6, 6, 6, 6, 6, 6, 6, 6, 6, 6, 6, 6, 6, 6, 6, 6, 6, 6, 6, 6, 6, 6, 7, 7, 7, 7, 7, 7, 7, 7, 7, 7, 7, 7, 7, 7, 7, 7, 7, 7, 7, 7, 7, 7, 7, 7, 7, 7, 7, 7, 7, 7, 7, 7, 7, 7, 7, 7, 7, 7, 7, 7, 7, 7, 7, 7, 7, 7, 7, 7, 7, 7, 7, 7, 7, 7, 7, 7, 7, 7, 7, 7, 7, 7, 7, 7, 8, 8, 8, 8, 8, 8, 8, 8, 8, 8, 8, 8, 8, 8, 8, 8, 8, 8, 8, 8, 8, 8, 8, 8, 8, 8, 8, 8, 8, 8, 8, 8, 8, 8, 8, 8, 8, 8, 8, 8, 8, 8, 8, 8, 8, 8, 8, 8, 8, 8, 8, 8, 8, 8, 8, 8, 8, 8, 8, 8, 8, 8, 8, 8, 8, 8, 8, 8, 8, 8, 8, 8, 8, 8, 8, 8, 8, 8, 8, 8, 8, 8, 8, 8, 8, 8, 8, 8, 8, 8, 8, 8, 8, 8, 8, 8, 8, 8, 8, 8, 8, 8, 8, 8, 8, 8, 8, 8, 8, 8, 8, 8, 8, 8, 8, 8, 8, 8, 8, 8, 8, 8, 8, 8, 8, 8, 8, 8]⟩ : ByteArray) ((x0 / 65536) % 256)))))) else (none)) else (none))) else (if x0 ≥ 256 then (if 0 ≤ ((x0 / 256) % 256) then (if ((x0 / 256) % 256) < 256 then (some (wrap64 ((wrap64 (x2 + 8)) + (wrap64 (bt (⟨#[0, 1, 2, 2, 3, 3, 3, 3, 4, 4, 4, 4, 4, 4, 4, 4, 5, 5, 5, 5, 5, 5, 5, 5, 5, 5, 5, 5, 5, 5, 5, 5, 6, 6, 6, 6, 6, 6, 6, 6, 6, 6, 6, 6, 6, 6, 6, 6, 6, 6, 6, 6, 6, 6, 6, 6, 6, 6, 6, 6, 6, 6, 6, 6, 7, 7, 7, 7, 7, 7, 7, 7, 7, 7, 7, 7, 7, 7, 7, 7, 7, 7, 7, 7, 7, 7, 7, 7, 7, 7, 7, 7, 7, 7, 7, 7, 7, 7, 7, 7, 7, 7, 7, 7, 7, 7, 7, 7, 7, 7, 7, 7, 7, 7, 7, 7, 7, 7, 7, 7, 7, 7, 7, 7, 7, 7, 7, 7, 8, 8, 8, 8, 8, 8, 8, 8, 8, 8, 8, 8, 8, 8, 8, 8, 8, 8, 8, 8, 8, 8, 8, 8, 8, 8, 8, 8, 8, 8, 8, 8, 8, 8, 8, 8, 8, 8, 8, 8, 8, 8, 8, 8, 8, 8, 8, 8, 8, 8, 8, 8, 8, 8, 8, 8, 8, 8, 8, 8, 8, 8, 8, 8, 8, 8, 8, 8, 8, 8, 8, 8, 8, 8, 8, 8, 8, 8, 8, 8, 8, 8, 8, 8, 8, 8, 8, 8, 8, 8, 8, 8, 8, 8, 8, 8, 8, 8, 8, 8, 8, 8, 8, 8, 8, 8, 8, 8, 8, 8, 8, 8, 8, 8, 8, 8, 8, 8, 8, 8, 8, 8, 8, 8, 8, 8, 8, 8]⟩ : ByteArray) ((x0 / 256) % 256)))))) else (none)) else (none)) else (if 0 ≤ ((x0) % 256) then (if ((x0) % 256) < 256 then (some (wrap64 (x2 + (wrap64 (bt (⟨#[0, 1, 2, 2, 3, 3, 3, 3, 4, 4, 4, 4, 4, 4, 4, 4, 5, 5, 5, 5, 5, 5, 5, 5, 5, 5, 5, 5, 5, 5, 5, 5, 6, 6, 6, 6, 6, 6, 6, 6, 6, 6, 6, 6, 6, 6, 6, 6, 6, 6, 6, 6, 6, 6, 6, 6, 6, 6, 6, 6, 6, 6, 6, 6, 7, 7, 7, 7, 7, 7, 7, 7, 7, 7, 7, 7, 7, 7, 7, 7, 7, 7, 7, 7, 7, 7, 7, 7, 7, 7, 7, 7, 7, 7, 7, 7, 7, 7, 7, 7, 7, 7, 7, 7, 7, 7, 7, 7, 7, 7, 7, 7, 7, 7, 7, 7, 7, 7, 7, 7, 7, 7, 7, 7, 7, 7, 7, 7, 8, 8, 8, 8, 8, 8, 8, 8, 8, 8, 8, 8, 8, 8, 8, 8, 8, 8, 8, 8, 8, 8, 8, 8, 8, 8, 8, 8, 8, 8, 8, 8, 8, 8, 8, 8, 8, 8, 8, 8, 8, 8, 8, 8, 8, 8, 8, 8, 8, 8, 8, 8, 8, 8, 8, 8, 8, 8, 8, 8, 8, 8, 8, 8, 8, 8, 8, 8, 8, 8, 8, 8, 8, 8, 8, 8, 8, 8, 8, 8, 8, 8, 8, 8, 8, 8, 8, 8, 8, 8, 8, 8, 8, 8, 8, 8, 8, 8, 8, 8, 8, 8, 8, 8, 8, 8, 8, 8, 8, 8, 8, 8, 8, 8, 8, 8, 8, 8, 8, 8, 8, 8, 8, 8, 8, 8, 8, 8]⟩ : ByteArray) ((x0) % 256)))))) else (none)) else (none)))) (fun k => by first | rfl | simp only [bits_Len64.j0]) ?_))
  repeat' first
    | (with_reducible exact bits_Len64.J0_sup _ _)
    | (with_reducible refine Sup.ite ?_ ?_)
    | (with_reducible refine Sup.bind ?_ (fun _ => ?_))
    | (with_reducible exact Sup.const _)
    | exact bits_Len64.J0_sup _ _
    | exact Sup.const _
theorem bits_Len64.F_eq (a0 : Int) : bits_Len64.F a0 = if a0 ≥ 4294967296 then (bits_Len64.J0 (a0 / 4294967296) 32) else (bits_Len64.J0 a0 0) := by
  refine Sup.unique (bits_Len64.F_sup a0) (Sup.congr (g' := fun k => if a0 ≥ 4294967296 then (bits_Len64.j0 k (a0 / 4294967296) 32) else (bits_Len64.j0 k a0 0)) (fun k => by first | rfl | simp only [bits_Len64.f]) ?_)
  repeat' first
    | (with_reducible exact bits_Len64.J0_sup _ _)
    | (with_reducible refine Sup.ite ?_ ?_)
    | (with_reducible refine Sup.bind ?_ (fun _ => ?_))
    | (with_reducible exact Sup.const _)
    | exact bits_Len64.J0_sup _ _
    | exact Sup.const _
set_option maxHeartbeats 8000000 in
set_option maxRecDepth 100000 in
theorem bits_Len64.calls (k : Nat) (a0 : Int) (r : Int) (w : World) (h : bits_Len64.f k a0 = some r) :
    Calls Try.prog 111 #[.int .u64 a0] w fun e w' => e = .returned (.int .i64 r) ∧ Drawn0 w w' := by
  have H : (if a0 ≥ 4294967296 then (bits_Len64.j0 k (a0 / 4294967296) 32) else (bits_Len64.j0 k a0 0)) = some r := h
  clear h
  have HC2 := Aside0.mk H
  clear H
  go_enter Try.func111, Try.ntmps111
  go_upto_if 4 with (fail)
  go_cut [0, 2] (fun v0 v2 wc => ∃ (kq : Nat) (x0_1 : Int) (x2_1 : Int), v0 = .int .u64 x0_1 ∧ v2 = .int .i64 x2_1 ∧ Aside0 (bits_Len64.j0 kq x0_1 x2_1 = some r) ∧ Aside0 (kq ≤ k) ∧ Drawn0 w wc)
  case first =>
   have H := HC2.out
   clear HC2
   by_cases c3 : a0 ≥ 4294967296
   ·rw [if_pos c3] at H
    have c3b0 : decide (4294967296 ≤ a0) = true := decide_eq_true c3
    clear c3
    (first | rw [c3b0] | (simp only [i64_w, i32_w]; rw [c3b0]) | skip)
    have H' := Aside0.mk H
    clear H
    go_wp2
    go_meet
    case rel => exact ⟨_, (a0 / 4294967296), (32), rg_, rg_, H', ⟨by first | omega | exact Nat.le_refl _⟩, by repeat (first | exact Drawn0.refl _ | apply Drawn0.step)⟩
   ·rw [if_neg c3] at H
    have c3b0 : decide (4294967296 ≤ a0) = false := decide_eq_false c3
    clear c3
    (first | rw [c3b0] | (simp only [i64_w, i32_w]; rw [c3b0]) | skip)
    have H' := Aside0.mk H
    clear H
    go_wp2
    go_meet
    case rel => exact ⟨_, (a0), (0), rg_, rg_, H', ⟨by first | omega | exact Nat.le_refl _⟩, by repeat (first | exact Drawn0.refl _ | apply Drawn0.step)⟩
  case rest =>
   clear HC2
   try clear c1
   try clear p2
   try clear c3
   try clear c3b0
   obtain ⟨kq, x0_1, x2_1, rfl, rfl, HA, HJ1, ⟨mc1, rfl⟩⟩ := hcut
   cases kq with
   | zero => exact absurd HA.out (by simp [bits_Len64.j0])
   | succ kj1 =>
    have H := HA.out
    clear HA
    simp only [bits_Len64.j0] at H
    by_cases c4 : x0_1 ≥ 65536
    ·rw [if_pos c4] at H
     have c4b0 : decide (65536 ≤ x0_1) = true := decide_eq_true c4
     clear c4
     by_cases c5 : (x0_1 / 65536) ≥ 256
     ·rw [if_pos c5] at H
      have c5b0 : decide (256 ≤ (x0_1 / 65536)) = true := decide_eq_true c5
      clear c5
      obtain ⟨ji6, hji6⟩ : ∃ j_ : Int, (((x0_1 / 65536) / 256) % 256) = j_ := ⟨_, rfl⟩
      replace H : (if 0 ≤ (ji6) then (if (ji6) < 256 then (some (wrap64 ((wrap64 ((wrap64 (x2_1 + 16)) + 8)) + (wrap64 (bt (⟨#[0, 1, 2, 2, 3, 3, 3, 3, 4, 4, 4, 4, 4, 4, 4, 4, 5, 5, 5, 5, 5, 5, 5, 5, 5, 5, 5, 5, 5, 5, 5, 5, 6, 6, 6, 6, 6, 6, 6, 6, 6, 6, 6, 6, 6, 6, 6, 6, 6, 6, 6, 6, 6, 6, 6, 6, 6, 6, 6, 6, 6, 6, 6, 6, 7, 7, 7, 7, 7, 7, 7, 7, 7, 7, 7, 7, 7, 7, 7, 7, 7, 7, 7, 7, 7, 7, 7, 7, 7, 7, 7, 7, 7, 7, 7, 7, 7, 7, 7, 7, 7, 7, 7, 7, 7, 7, 7, 7, 7, 7, 7, 7, 7, 7, 7, 7, 7, 7, 7, 7, 7, 7, 7, 7, 7, 7, 7, 7, 8, 8, 8, 8, 8, 8, 8, 8, 8, 8, 8, 8, 8, 8, 8, 8, 8, 8, 8, 8, 8, 8, 8, 8, 8, 8, 8, 8, 8, 8, 8, 8, 8, 8, 8, 8, 8, 8, 8, 8, 8, 8, 8, 8, 8, 8, 8, 8, 8, 8, 8, 8, 8, 8, 8, 8, 8, 8, 8, 8, 8, 8, 8, 8, 8, 8, 8, 8, 8, 8, 8, 8, 8, 8, 8, 8, 8, 8, 8, 8, 8, 8, 8, 8, 8, 8, 8, 8, 8, 8, 8, 8, 8, 8, 8, 8, 8, 8, 8, 8, 8, 8, 8, 8, 8, 8, 8, 8, 8, 8, 8, 8, 8, 8, 8, 8, 8, 8, 8, 8, 8, 8, 8, 8, 8, 8, 8, 8]⟩ : ByteArray) (ji6)))))) else (none)) else (none)) = some r := by first | (rw [hji6] at H; exact H) | (simp only [hji6] at H ⊢; exact H)
      by_cases c7 : 0 ≤ (ji6)
      ·rw [if_pos c7] at H
       have c7b0 : decide (0 ≤ (ji6)) = true := decide_eq_true c7
       clear c7
       by_cases c8 : (ji6) < 256
       ·rw [if_pos c8] at H
        have c8b0 : decide ((ji6) < 256) = true := decide_eq_true c8
        clear c8
        obtain rfl := Option.some.inj H
        have p9 : 0 ≤ ((ji6) : Int) := of_decide_eq_true as_
        have q9 : (ji6) < (256 : Int) := of_decide_eq_true as_
        have hx9 := bt_at (⟨#[0, 1, 2, 2, 3, 3, 3, 3, 4, 4, 4, 4, 4, 4, 4, 4, 5, 5, 5, 5, 5, 5, 5, 5, 5, 5, 5, 5, 5, 5, 5, 5, 6, 6, 6, 6, 6, 6, 6, 6, 6, 6, 6, 6, 6, 6, 6, 6, 6, 6, 6, 6, 6, 6, 6, 6, 6, 6, 6, 6, 6, 6, 6, 6, 7, 7, 7, 7, 7, 7, 7, 7, 7, 7, 7, 7, 7, 7, 7, 7, 7, 7, 7, 7, 7, 7, 7, 7, 7, 7, 7, 7, 7, 7, 7, 7, 7, 7, 7, 7, 7, 7, 7, 7, 7, 7, 7, 7, 7, 7, 7, 7, 7, 7, 7, 7, 7, 7, 7, 7, 7, 7, 7, 7, 7, 7, 7, 7, 8, 8, 8, 8, 8, 8, 8, 8, 8, 8, 8, 8, 8, 8, 8, 8, 8, 8, 8, 8, 8, 8, 8, 8, 8, 8, 8, 8, 8, 8, 8, 8, 8, 8, 8, 8, 8, 8, 8, 8, 8, 8, 8, 8, 8, 8, 8, 8, 8, 8, 8, 8, 8, 8, 8, 8, 8, 8, 8, 8, 8, 8, 8, 8, 8, 8, 8, 8, 8, 8, 8, 8, 8, 8, 8, 8, 8, 8, 8, 8, 8, 8, 8, 8, 8, 8, 8, 8, 8, 8, 8, 8, 8, 8, 8, 8, 8, 8, 8, 8, 8, 8, 8, 8, 8, 8, 8, 8, 8, 8, 8, 8, 8, 8, 8, 8, 8, 8, 8, 8, 8, 8, 8, 8, 8, 8, 8, 8]⟩ : ByteArray) (ji6)
        replace p9 := eq_true p9
        replace q9 := eq_true q9
        go_wp2
        go_ret
        exact ⟨by first | rfl | (simp; done) | (simp only [← hji6] <;> (first | rfl | simp)) | (simp [*]; done), by repeat (first | exact Drawn0.refl _ | apply Drawn0.step)⟩
       ·rw [if_neg c8] at H
        exact absurd H (by simp)
      ·rw [if_neg c7] at H
       exact absurd H (by simp)
     ·rw [if_neg c5] at H
      have c5b0 : decide (256 ≤ (x0_1 / 65536)) = false := decide_eq_false c5
      clear c5
      obtain ⟨ji10, hji10⟩ : ∃ j_ : Int, ((x0_1 / 65536) % 256) = j_ := ⟨_, rfl⟩
      replace H : (if 0 ≤ (ji10) then (if (ji10) < 256 then (some (wrap64 ((wrap64 (x2_1 + 16)) + (wrap64 (bt (⟨#[0, 1, 2, 2, 3, 3, 3, 3, 4, 4, 4, 4, 4, 4, 4, 4, 5, 5, 5, 5, 5, 5, 5, 5, 5, 5, 5, 5, 5, 5, 5, 5, 6, 6, 6, 6, 6, 6, 6, 6, 6, 6, 6, 6, 6, 6, 6, 6, 6, 6, 6, 6, 6, 6, 6, 6, 6, 6, 6, 6, 6, 6, 6, 6, 7, 7, 7, 7, 7, 7, 7, 7, 7, 7, 7, 7, 7, 7, 7, 7, 7, 7, 7, 7, 7, 7, 7, 7, 7, 7, 7, 7, 7, 7, 7, 7, 7, 7, 7, 7, 7, 7, 7, 7, 7, 7, 7, 7, 7, 7, 7, 7, 7, 7, 7, 7, 7, 7, 7, 7, 7, 7, 7, 7, 7, 7, 7, 7, 8, 8, 8, 8, 8, 8, 8, 8, 8, 8, 8, 8, 8, 8, 8, 8, 8, 8, 8, 8, 8, 8, 8, 8, 8, 8, 8, 8, 8, 8, 8, 8, 8, 8, 8, 8, 8, 8, 8, 8, 8, 8, 8, 8, 8, 8, 8, 8, 8, 8, 8, 8, 8, 8, 8, 8, 8, 8, 8, 8, 8, 8, 8, 8, 8, 8, 8, 8, 8, 8, 8, 8, 8, 8, 8, 8, 8, 8, 8, 8, 8, 8, 8, 8, 8, 8, 8, 8, 8, 8, 8, 8, 8, 8, 8, 8, 8, 8, 8, 8, 8, 8, 8, 8, 8, 8, 8, 8, 8, 8, 8, 8, 8, 8, 8, 8, 8, 8, 8, 8, 8, 8, 8, 8, 8, 8, 8, 8]⟩ : ByteArray) (ji10)))))) else (none)) else (none)) = some r := by first | (rw [hji10] at H; exact H) | (simp only [hji10] at H ⊢; exact H)
      by_cases c11 : 0 ≤ (ji10)
      ·rw [if_pos c11] at H
       have c11b0 : decide (0 ≤ (ji10)) = true := decide_eq_true c11
       clear c11
       by_cases c12 : (ji10) < 256
       ·rw [if_pos c12] at H
        have c12b0 : decide ((ji10) < 256) = true := decide_eq_true c12
        clear c12
        obtain rfl := Option.some.inj H
        have p13 : 0 ≤ ((ji10) : Int) := of_decide_eq_true as_
        have q13 : (ji10) < (256 : Int) := of_decide_eq_true as_
        have hx13 := bt_at (⟨#[0, 1, 2, 2, 3, 3, 3, 3, 4, 4, 4, 4, 4, 4, 4, 4, 5, 5, 5, 5, 5, 5, 5, 5, 5, 5, 5, 5, 5, 5, 5, 5, 6, 6, 6, 6, 6, 6, 6, 6, 6, 6, 6, 6, 6, 6, 6, 6, 6, 6, 6, 6, 6, 6, 6, 6, 6, 6, 6, 6, 6, 6, 6, 6, 7, 7, 7, 7, 7, 7, 7, 7, 7, 7, 7, 7, 7, 7, 7, 7, 7, 7, 7, 7, 7, 7, 7, 7, 7, 7, 7, 7, 7, 7, 7, 7, 7, 7, 7, 7, 7, 7, 7, 7, 7, 7, 7, 7, 7, 7, 7, 7, 7, 7, 7, 7, 7, 7, 7, 7, 7, 7, 7, 7, 7, 7, 7, 7, 8, 8, 8, 8, 8, 8, 8, 8, 8, 8, 8, 8, 8, 8, 8, 8, 8, 8, 8, 8, 8, 8, 8, 8, 8, 8, 8, 8, 8, 8, 8, 8, 8, 8, 8, 8, 8, 8, 8, 8, 8, 8, 8, 8, 8, 8, 8, 8, 8, 8, 8, 8, 8, 8, 8, 8, 8, 8, 8, 8, 8, 8, 8, 8, 8, 8, 8, 8, 8, 8, 8, 8, 8, 8, 8, 8, 8, 8, 8, 8, 8, 8, 8, 8, 8, 8, 8, 8, 8, 8, 8, 8, 8, 8, 8, 8, 8, 8, 8, 8, 8, 8, 8, 8, 8, 8, 8, 8, 8, 8, 8, 8, 8, 8, 8, 8, 8, 8, 8, 8, 8, 8, 8, 8, 8, 8, 8, 8]⟩ : ByteArray) (ji10)
        replace p13 := eq_true p13
        replace q13 := eq_true q13
        go_wp2
        go_ret
        exact ⟨by first | rfl | (simp; done) | (simp only [← hji10] <;> (first | rfl | simp)) | (simp [*]; done), by repeat (first | exact Drawn0.refl _ | apply Drawn0.step)⟩
       ·rw [if_neg c12] at H
        exact absurd H (by simp)
      ·rw [if_neg c11] at H
       exact absurd H (by simp)
    ·rw [if_neg c4] at H
     have c4b0 : decide (65536 ≤ x0_1) = false := decide_eq_false c4
     clear c4
     by_cases c14 : x0_1 ≥ 256
     ·rw [if_pos c14] at H
      have c14b0 : decide (256 ≤ x0_1) = true := decide_eq_true c14
      clear c14
      obtain ⟨ji15, hji15⟩ : ∃ j_ : Int, ((x0_1 / 256) % 256) = j_ := ⟨_, rfl⟩
      replace H : (if 0 ≤ (ji15) then (if (ji15) < 256 then (some (wrap64 ((wrap64 (x2_1 + 8)) + (wrap64 (bt (⟨#[0, 1, 2, 2, 3, 3, 3, 3, 4, 4, 4, 4, 4, 4, 4, 4, 5, 5, 5, 5, 5, 5, 5, 5, 5, 5, 5, 5, 5, 5, 5, 5, 6, 6, 6, 6, 6, 6, 6, 6, 6, 6, 6, 6, 6, 6, 6, 6, 6, 6, 6, 6, 6, 6, 6, 6, 6, 6, 6, 6, 6, 6, 6, 6, 7, 7, 7, 7, 7, 7, 7, 7, 7, 7, 7, 7, 7, 7, 7, 7, 7, 7, 7, 7, 7, 7, 7, 7, 7, 7, 7, 7, 7, 7, 7, 7, 7, 7, 7, 7, 7, 7, 7, 7, 7, 7, 7, 7, 7, 7, 7, 7, 7, 7, 7, 7, 7, 7, 7, 7, 7, 7, 7, 7, 7, 7, 7, 7, 8, 8, 8, 8, 8, 8, 8, 8, 8, 8, 8, 8, 8, 8, 8, 8, 8, 8, 8, 8, 8, 8, 8, 8, 8, 8, 8, 8, 8, 8, 8, 8, 8, 8, 8, 8, 8, 8, 8, 8, 8, 8, 8, 8, 8, 8, 8, 8, 8, 8, 8, 8, 8, 8, 8, 8, 8, 8, 8, 8, 8, 8, 8, 8, 8, 8, 8, 8, 8, 8, 8, 8, 8, 8, 8, 8, 8, 8, 8, 8, 8, 8, 8, 8, 8, 8, 8, 8, 8, 8, 8, 8, 8, 8, 8, 8, 8, 8, 8, 8, 8, 8, 8, 8, 8, 8, 8, 8, 8, 8, 8, 8, 8, 8, 8, 8, 8, 8, 8, 8, 8, 8, 8, 8, 8, 8, 8, 8]⟩ : ByteArray) (ji15)))))) else (none)) else (none)) = some r := by first | (rw [hji15] at H; exact H) | (simp only [hji15] at H ⊢; exact H)
      by_cases c16 : 0 ≤ (ji15)
      ·rw [if_pos c16] at H
       have c16b0 : decide (0 ≤ (ji15)) = true := decide_eq_true c16
       clear c16
       by_cases c17 : (ji15) < 256
       ·rw [if_pos c17] at H
        have c17b0 : decide ((ji15) < 256) = true := decide_eq_true c17
        clear c17
        obtain rfl := Option.some.inj H
        have p18 : 0 ≤ ((ji15) : Int) := of_decide_eq_true as_
        have q18 : (ji15) < (256 : Int) := of_decide_eq_true as_
        have hx18 := bt_at (⟨#[0, 1, 2, 2, 3, 3, 3, 3, 4, 4, 4, 4, 4, 4, 4, 4, 5, 5, 5, 5, 5, 5, 5, 5, 5, 5, 5, 5, 5, 5, 5, 5, 6, 6, 6, 6, 6, 6, 6, 6, 6, 6, 6, 6, 6, 6, 6, 6, 6, 6, 6, 6, 6, 6, 6, 6, 6, 6, 6, 6, 6, 6, 6, 6, 7, 7, 7, 7, 7, 7, 7, 7, 7, 7, 7, 7, 7, 7, 7, 7, 7, 7, 7, 7, 7, 7, 7, 7, 7, 7, 7, 7, 7, 7, 7, 7, 7, 7, 7, 7, 7, 7, 7, 7, 7, 7, 7, 7, 7, 7, 7, 7, 7, 7, 7, 7, 7, 7, 7, 7, 7, 7, 7, 7, 7, 7, 7, 7, 8, 8, 8, 8, 8, 8, 8, 8, 8, 8, 8, 8, 8, 8, 8, 8, 8, 8, 8, 8, 8, 8, 8, 8, 8, 8, 8, 8, 8, 8, 8, 8, 8, 8, 8, 8, 8, 8, 8, 8, 8, 8, 8, 8, 8, 8, 8, 8, 8, 8, 8, 8, 8, 8, 8, 8, 8, 8, 8, 8, 8, 8, 8, 8, 8, 8, 8, 8, 8, 8, 8, 8, 8, 8, 8, 8, 8, 8, 8, 8, 8, 8, 8, 8, 8, 8, 8, 8, 8, 8, 8, 8, 8, 8, 8, 8, 8, 8, 8, 8, 8, 8, 8, 8, 8, 8, 8, 8, 8, 8, 8, 8, 8, 8, 8, 8, 8, 8, 8, 8, 8, 8, 8, 8, 8, 8, 8, 8]⟩ : ByteArray) (ji15)
        replace p18 := eq_true p18
        replace q18 := eq_true q18
        go_wp2
        go_ret
        exact ⟨by first | rfl | (simp; done) | (simp only [← hji15] <;> (first | rfl | simp)) | (simp [*]; done), by repeat (first | exact Drawn0.refl _ | apply Drawn0.step)⟩
       ·rw [if_neg c17] at H
        exact absurd H (by simp)
      ·rw [if_neg c16] at H
       exact absurd H (by simp)
     ·rw [if_neg c14] at H
      have c14b0 : decide (256 ≤ x0_1) = false := decide_eq_false c14
      clear c14
      obtain ⟨ji19, hji19⟩ : ∃ j_ : Int, ((x0_1) % 256) = j_ := ⟨_, rfl⟩
      replace H : (if 0 ≤ (ji19) then (if (ji19) < 256 then (some (wrap64 (x2_1 + (wrap64 (bt (⟨#[0, 1, 2, 2, 3, 3, 3, 3, 4, 4, 4, 4, 4, 4, 4, 4, 5, 5, 5, 5, 5, 5, 5, 5, 5, 5, 5, 5, 5, 5, 5, 5, 6, 6, 6, 6, 6, 6, 6, 6, 6, 6, 6, 6, 6, 6, 6, 6, 6, 6, 6, 6, 6, 6, 6, 6, 6, 6, 6, 6, 6, 6, 6, 6, 7, 7, 7, 7, 7, 7, 7, 7, 7, 7, 7, 7, 7, 7, 7, 7, 7, 7, 7, 7, 7, 7, 7, 7, 7, 7, 7, 7, 7, 7, 7, 7, 7, 7, 7, 7, 7, 7, 7, 7, 7, 7, 7, 7, 7, 7, 7, 7, 7, 7, 7, 7, 7, 7, 7, 7, 7, 7, 7, 7, 7, 7, 7, 7, 8, 8, 8, 8, 8, 8, 8, 8, 8, 8, 8, 8, 8, 8, 8, 8, 8, 8, 8, 8, 8, 8, 8, 8, 8, 8, 8, 8, 8, 8, 8, 8, 8, 8, 8, 8, 8, 8, 8, 8, 8, 8, 8, 8, 8, 8, 8, 8, 8, 8, 8, 8, 8, 8, 8, 8, 8, 8, 8, 8, 8, 8, 8, 8, 8, 8, 8, 8, 8, 8, 8, 8, 8, 8, 8, 8, 8, 8, 8, 8, 8, 8, 8, 8, 8, 8, 8, 8, 8, 8, 8, 8, 8, 8, 8, 8, 8, 8, 8, 8, 8, 8, 8, 8, 8, 8, 8, 8, 8, 8, 8, 8, 8, 8, 8, 8, 8, 8, 8, 8, 8, 8, 8, 8, 8, 8, 8, 8]⟩ : ByteArray) (ji19)))))) else (none)) else (none)) = some r := by first | (rw [hji19] at H; exact H) | (simp only [hji19] at H ⊢; exact H)
      by_cases c20 : 0 ≤ (ji19)
      ·rw [if_pos c20] at H
       have c20b0 : decide (0 ≤ (ji19)) = true := decide_eq_true c20
       clear c20
       by_cases c21 : (ji19) < 256
       ·rw [if_pos c21] at H
        have c21b0 : decide ((ji19) < 256) = true := decide_eq_true c21
        clear c21
        obtain rfl := Option.some.inj H
        have p22 : 0 ≤ ((ji19) : Int) := of_decide_eq_true as_
        have q22 : (ji19) < (256 : Int) := of_decide_eq_true as_
        have hx22 := bt_at (⟨#[0, 1, 2, 2, 3, 3, 3, 3, 4, 4, 4, 4, 4, 4, 4, 4, 5, 5, 5, 5, 5, 5, 5, 5, 5, 5, 5, 5, 5, 5, 5, 5, 6, 6, 6, 6, 6, 6, 6, 6, 6, 6, 6, 6, 6, 6, 6, 6, 6, 6, 6, 6, 6, 6, 6, 6, 6, 6, 6, 6, 6, 6, 6, 6, 7, 7, 7, 7, 7, 7, 7, 7, 7, 7, 7, 7, 7, 7, 7, 7, 7, 7, 7, 7, 7, 7, 7, 7, 7, 7, 7, 7, 7, 7, 7, 7, 7, 7, 7, 7, 7, 7, 7, 7, 7, 7, 7, 7, 7, 7, 7, 7, 7, 7, 7, 7, 7, 7, 7, 7, 7, 7, 7, 7, 7, 7, 7, 7, 8, 8, 8, 8, 8, 8, 8, 8, 8, 8, 8, 8, 8, 8, 8, 8, 8, 8, 8, 8, 8, 8, 8, 8, 8, 8, 8, 8, 8, 8, 8, 8, 8, 8, 8, 8, 8, 8, 8, 8, 8, 8, 8, 8, 8, 8, 8, 8, 8, 8, 8, 8, 8, 8, 8, 8, 8, 8, 8, 8, 8, 8, 8, 8, 8, 8, 8, 8, 8, 8, 8, 8, 8, 8, 8, 8, 8, 8, 8, 8, 8, 8, 8, 8, 8, 8, 8, 8, 8, 8, 8, 8, 8, 8, 8, 8, 8, 8, 8, 8, 8, 8, 8, 8, 8, 8, 8, 8, 8, 8, 8, 8, 8, 8, 8, 8, 8, 8, 8, 8, 8, 8, 8, 8, 8, 8, 8, 8]⟩ : ByteArray) (ji19)
        replace p22 := eq_true p22
        replace q22 := eq_true q22
        go_wp2
        go_ret
        exact ⟨by first | rfl | (simp; done) | (simp only [← hji19] <;> (first | rfl | simp)) | (simp [*]; done), by repeat (first | exact Drawn0.refl _ | apply Drawn0.step)⟩
       ·rw [if_neg c21] at H
        exact absurd H (by simp)
      ·rw [if_neg c20] at H
       exact absurd H (by simp)
/-! ### bits_Len: function 92 -/
def bits_Len.f (k : Nat) (a0 : Int) : Option (Int) := (bits_Len64.f k a0).bind fun t177 => (some t177)
theorem bits_Len.mono : ∀ a0 k, LeO (bits_Len.f k a0) (bits_Len.f (k + 1) a0) := by
  intro a0 k
  unfold bits_Len.f
  repeat' first
      | (with_reducible exact bits_Len64.mono _ _)
      | (with_reducible exact LeO.refl _)
      | (with_reducible exact LeO.none _)
      | (with_reducible refine LeO.ite ?_ ?_)
      | (with_reducible refine LeO.bind ?_ (fun _ => ?_))
      | exact bits_Len64.mono _ _
      | exact LeO.none _
      | refine LeO.ite ?_ ?_
      | refine LeO.bind ?_ (fun _ => ?_)
noncomputable def bits_Len.F (a0 : Int) : Option (Int) := lim fun k => bits_Len.f k a0
theorem bits_Len.F_sup (a0 : Int) : Sup (fun k => bits_Len.f k a0) (bits_Len.F a0) := Sup.of_mono fun k => bits_Len.mono a0 k
theorem bits_Len.F_eq (a0 : Int) : bits_Len.F a0 = (bits_Len64.F a0).bind fun t177 => (some t177) := by
  refine Sup.unique (bits_Len.F_sup a0) (Sup.congr (g' := fun k => (bits_Len64.f k a0).bind fun t177 => (some t177)) (fun k => by first | rfl | simp only [bits_Len.f]) ?_)
  repeat' first
    | (with_reducible exact bits_Len64.F_sup _)
    | (with_reducible refine Sup.ite ?_ ?_)
    | (with_reducible refine Sup.bind ?_ (fun _ => ?_))
    | (with_reducible exact Sup.const _)
    | exact bits_Len64.F_sup _
    | exact Sup.const _
set_option maxHeartbeats 8000000 in
set_option maxRecDepth 100000 in
theorem bits_Len.calls (k : Nat) (a0 : Int) (r : Int) (w : World) (h : bits_Len.f k a0 = some r) :
    Calls Try.prog 92 #[.int .u64 a0] w fun e w' => e = .returned (.int .i64 r) ∧ Drawn0 w w' := by
  have H : ((bits_Len64.f k a0).bind fun t177 => (some t177)) = some r := h
  clear h
  replace H := Option.bind_eq_some_iff.mp H
  obtain ⟨t177, A20, H⟩ := H
  replace H : (some t177) = some r := H
  have A2 := Aside0.mk A20
  clear A20
  obtain rfl := Option.some.inj H
  go_enter Try.func92, Try.ntmps92
  go_wp2_with (first | ((with_reducible refine gate_callee (f := 111) rfl ?_); refine gl_ 7 Try.func111 #[.int .u64 a0] ?_; (with_reducible refine (bits_Len64.calls k a0 t177 _ A2.out).mono ?_); rintro e w' ⟨rfl, ⟨nd, rfl⟩⟩; refine ⟨_, rfl, ?_⟩))
  go_ret
  exact ⟨rg_, by repeat (first | exact Drawn0.refl _ | apply Drawn0.step)⟩
/-! ### impl_digits: function 61 -/
def impl_digits.f (k : Nat) (a0 : Int) : Option (Int) := (bits_Len.f k (IntKind.u64.wrap (a0))).bind fun t178 => (some (wrap64 (t178 - 1)))
theorem impl_digits.mono : ∀ a0 k, LeO (impl_digits.f k a0) (impl_digits.f (k + 1) a0) := by
  intro a0 k
  unfold impl_digits.f
  repeat' first
      | (with_reducible exact bits_Len.mono _ _)
      | (with_reducible exact LeO.refl _)
      | (with_reducible exact LeO.none _)
      | (with_reducible refine LeO.ite ?_ ?_)
      | (with_reducible refine LeO.bind ?_ (fun _ => ?_))
      | exact bits_Len.mono _ _
      | exact LeO.none _
      | refine LeO.ite ?_ ?_
      | refine LeO.bind ?_ (fun _ => ?_)
noncomputable def impl_digits.F (a0 : Int) : Option (Int) := lim fun k => impl_digits.f k a0
theorem impl_digits.F_sup (a0 : Int) : Sup (fun k => impl_digits.f k a0) (impl_digits.F a0) := Sup.of_mono fun k => impl_digits.mono a0 k
theorem impl_digits.F_eq (a0 : Int) : impl_digits.F a0 = (bits_Len.F (IntKind.u64.wrap (a0))).bind fun t178 => (some (wrap64 (t178 - 1))) := by
  refine Sup.unique (impl_digits.F_sup a0) (Sup.congr (g' := fun k => (bits_Len.f k (IntKind.u64.wrap (a0))).bind fun t178 => (some (wrap64 (t178 - 1)))) (fun k => by first | rfl | simp only [impl_digits.f]) ?_)
  repeat' first
    | (with_reducible exact bits_Len.F_sup _)
    | (with_reducible refine Sup.ite ?_ ?_)
    | (with_reducible refine Sup.bind ?_ (fun _ => ?_))
    | (with_reducible exact Sup.const _)
    | exact bits_Len.F_sup _
    | exact Sup.const _
set_option maxHeartbeats 8000000 in
set_option maxRecDepth 100000 in
theorem impl_digits.calls (k : Nat) (a0 : Int) (r : Int) (w : World) (h : impl_digits.f k a0 = some r) :
    Calls Try.prog 61 #[.int .i64 a0] w fun e w' => e = .returned (.int .i64 r) ∧ Drawn0 w w' := by
  have H : ((bits_Len.f k (IntKind.u64.wrap (a0))).bind fun t178 => (some (wrap64 (t178 - 1)))) = some r := h
  clear h
  replace H := Option.bind_eq_some_iff.mp H
  obtain ⟨t178, A20, H⟩ := H
  replace H : (some (wrap64 (t178 - 1))) = some r := H
  have A2 := Aside0.mk A20
  clear A20
  obtain rfl := Option.some.inj H
  go_enter Try.func61, Try.ntmps61
  go_wp2_with (first | ((with_reducible refine gate_callee (f := 92) rfl ?_); refine gl_ 5 Try.func92 #[.int .u64 (IntKind.u64.wrap (a0))] ?_; (with_reducible refine (bits_Len.calls k (IntKind.u64.wrap (a0)) t178 _ A2.out).mono ?_); rintro e w' ⟨rfl, ⟨nd, rfl⟩⟩; refine ⟨_, rfl, ?_⟩))
  go_ret
  exact ⟨rg_, by repeat (first | exact Drawn0.refl _ | apply Drawn0.step)⟩
/-! ### impl_coder_field: function 84 -/
def impl_coder_field.l0 : Nat → List Bool → Int → Int → Int → Option (List Bool)
  | 0, _, _, _, _ => none
  | k + 1, x0, x8, n, q => if x8 < q then (if 0 ≤ x8 then (if x0.length < 140737488355328 then (impl_coder_field.l0 k (x0 ++ [(Go.bits .and .i64 (shr .i64 n x8) 1) == 1]) (wrap64 (x8 + 1)) n q) else (none)) else (none)) else (some x0)
def impl_coder_field.f (k : Nat) (l0 : List Bool) (a1 : Int) (a2 : Int) : Option (List Bool) := impl_coder_field.l0 k l0 0 a1 a2
theorem impl_coder_field.mono_l : ∀ k, (∀ y0 y1 y2 y3, LeO (impl_coder_field.l0 k y0 y1 y2 y3) (impl_coder_field.l0 (k + 1) y0 y1 y2 y3))
  | 0 => fun _ _ _ _ r h => by simp [impl_coder_field.l0] at h
  | k + 1 => by
    have ih0 := impl_coder_field.mono_l k
    · intro y0 y1 y2 y3
      unfold impl_coder_field.l0
      repeat' first
      | (with_reducible exact ih0 _ _ _ _)
      | (with_reducible exact LeO.refl _)
      | (with_reducible exact LeO.none _)
      | (with_reducible refine LeO.ite ?_ ?_)
      | (with_reducible refine LeO.bind ?_ (fun _ => ?_))
      | exact ih0 _ _ _ _
      | exact LeO.none _
      | refine LeO.ite ?_ ?_
      | refine LeO.bind ?_ (fun _ => ?_)
theorem impl_coder_field.mono : ∀ a0 a1 a2 k, LeO (impl_coder_field.f k a0 a1 a2) (impl_coder_field.f (k + 1) a0 a1 a2) := by
  intro a0 a1 a2 k
  have ih0 := impl_coder_field.mono_l k
  unfold impl_coder_field.f
  repeat' first
      | (with_reducible exact ih0 _ _ _ _)
      | (with_reducible exact LeO.refl _)
      | (with_reducible exact LeO.none _)
      | (with_reducible refine LeO.ite ?_ ?_)
      | (with_reducible refine LeO.bind ?_ (fun _ => ?_))
      | exact ih0 _ _ _ _
      | exact LeO.none _
      | refine LeO.ite ?_ ?_
      | refine LeO.bind ?_ (fun _ => ?_)
noncomputable def impl_coder_field.L0 (y0 : List Bool) (y1 : Int) (y2 : Int) (y3 : Int) : Option (List Bool) := lim fun k => impl_coder_field.l0 k y0 y1 y2 y3
theorem impl_coder_field.L0_sup (y0 : List Bool) (y1 : Int) (y2 : Int) (y3 : Int) : Sup (fun k => impl_coder_field.l0 k y0 y1 y2 y3) (impl_coder_field.L0 y0 y1 y2 y3) := Sup.of_mono fun k => impl_coder_field.mono_l k y0 y1 y2 y3
noncomputable def impl_coder_field.F (l0 : List Bool) (a1 : Int) (a2 : Int) : Option (List Bool) := lim fun k => impl_coder_field.f k l0 a1 a2
theorem impl_coder_field.F_sup (l0 : List Bool) (a1 : Int) (a2 : Int) : Sup (fun k => impl_coder_field.f k l0 a1 a2) (impl_coder_field.F l0 a1 a2) := Sup.of_mono fun k => impl_coder_field.mono l0 a1 a2 k
theorem impl_coder_field.L0_eq (x0 : List Bool) (x8 : Int) (n : Int) (q : Int) : impl_coder_field.L0 x0 x8 n q = if x8 < q then (if 0 ≤ x8 then (if x0.length < 140737488355328 then (impl_coder_field.L0 (x0 ++ [(Go.bits .and .i64 (shr .i64 n x8) 1) == 1]) (wrap64 (x8 + 1)) n q) else (none)) else (none)) else (some x0) := by
  refine Sup.unique (impl_coder_field.L0_sup x0 x8 n q) (Sup.shift (fun k => impl_coder_field.mono_l k x0 x8 n q) (Sup.congr (g' := fun k => if x8 < q then (if 0 ≤ x8 then (if x0.length < 140737488355328 then (impl_coder_field.l0 k (x0 ++ [(Go.bits .and .i64 (shr .i64 n x8) 1) == 1]) (wrap64 (x8 + 1)) n q) else (none)) else (none)) else (some x0)) (fun k => by first | rfl | simp only [impl_coder_field.l0]) ?_))
  repeat' first
    | (with_reducible exact impl_coder_field.L0_sup _ _ _ _)
    | (with_reducible refine Sup.ite ?_ ?_)
    | (with_reducible refine Sup.bind ?_ (fun _ => ?_))
    | (with_reducible exact Sup.const _)
    | exact impl_coder_field.L0_sup _ _ _ _
    | exact Sup.const _
theorem impl_coder_field.F_eq (l0 : List Bool) (a1 : Int) (a2 : Int) : impl_coder_field.F l0 a1 a2 = impl_coder_field.L0 l0 0 a1 a2 := by
  refine Sup.unique (impl_coder_field.F_sup l0 a1 a2) (Sup.congr (g' := fun k => impl_coder_field.l0 k l0 0 a1 a2) (fun k => by first | rfl | simp only [impl_coder_field.f]) ?_)
  repeat' first
    | (with_reducible exact impl_coder_field.L0_sup _ _ _ _)
    | (with_reducible refine Sup.ite ?_ ?_)
    | (with_reducible refine Sup.bind ?_ (fun _ => ?_))
    | (with_reducible exact Sup.const _)
    | exact impl_coder_field.L0_sup _ _ _ _
    | exact Sup.const _
set_option maxHeartbeats 8000000 in
set_option maxRecDepth 100000 in
theorem impl_coder_field.calls (k : Nat) (gb : Nat) (u0 : Value) (l0 : List Bool) (a1 a2 : Int) (r : List Bool) (w0 w : World) (hB : Below w0.heap.size w0 w) (hg : w0.heap.size ≤ gb) (hb : w.heap[gb]? = some (.cells #[u0] 86 (0, 0))) (ho : Kd.R Kd.bool 4 w w0.heap.size (fun _ => True) u0 l0) (h : impl_coder_field.f k l0 a1 a2 = some r) :
    Calls Try.prog 84 #[.pointer (some ⟨gb, 0, none⟩), .int .i64 a1, .int .i64 a2] w fun e w' => e = .returned (.tuple #[]) ∧ ∃ u1 : Value, w'.heap[gb]? = some (.cells #[u1] 86 (0, 0)) ∧ Kd.R Kd.bool 4 w' w0.heap.size (fun _ => True) u1 r ∧ Below w0.heap.size w0 w' := by
  have hu80 := Try.underlying80
  have hu86 := Try.underlying86
  have HO0 := Aside0.mk ho
  have BK0 := Aside0.mk hb
  have GE0 := Aside0.mk hg
  have HB := Aside0.mk hB
  clear ho hb hg hB
  have H' := Aside0.mk (show impl_coder_field.l0 k l0 0 a1 a2 = some r from h)
  clear h
  go_enter Try.func84, Try.ntmps84
  go_wp2
  go_loopg [8] k (fun kq v8 w' => ∃ (u0_1 : Value) (x0_1 : List Bool) (x8_1 : Int), v8 = .int .i64 x8_1 ∧ Aside0 (impl_coder_field.l0 kq x0_1 x8_1 a1 a2 = some r) ∧ Aside0 (kq ≤ k) ∧ Aside0 (Kd.R Kd.bool 4 w' w0.heap.size (fun _ => True) u0_1 x0_1) ∧ Aside0 (w'.heap[gb]? = some (.cells #[u0_1] 86 (0, 0))) ∧ Aside0 (Below w0.heap.size w0 w'))
  case atStart => exact ⟨u0, l0, 0, rfl, H', ⟨Nat.le_refl _⟩, HO0, BK0, HB⟩
  case round =>
   clear H' HO0 BK0 HB
   obtain ⟨u0_1, x0_1, x8_1, rfl, HA, HK1, HO0, BK0, HB⟩ := hrel
   cases gk with
   | zero => exact absurd HA.out (by simp [impl_coder_field.l0])
   | succ k1 =>
    have H := HA.out
    clear HA
    simp only [impl_coder_field.l0] at H
    by_cases c3 : x8_1 < a2
    ·rw [if_pos c3] at H
     have c3b0 : decide (x8_1 < a2) = true := decide_eq_true c3
     clear c3
     by_cases c4 : 0 ≤ x8_1
     ·rw [if_pos c4] at H
      have c4b0 := eq_true c4
      have c4b1 : decide (0 ≤ x8_1) = true := decide_eq_true c4
      clear c4
      by_cases c5 : x0_1.length < 140737488355328
      ·rw [if_pos c5] at H
       have LMc5 := Aside0.mk c5
       clear c5
       obtain ⟨ji7, hji7⟩ : ∃ j_ : Int, (shr .i64 a1 x8_1) = j_ := ⟨_, rfl⟩
       rw [hji7] at H
       have hji7_ : (a1 / 2 ^ min x8_1.toNat 64) = ji7 := hji7
       have hji7z : x8_1 ≤ 64 → (a1 / 2 ^ x8_1.toNat) = ji7 := shr_small hji7
       obtain ⟨y5, hy5⟩ : ∃ y_ : List Bool, y_ = x0_1 ++ [(Go.bits .and .i64 ji7 1) == 1] := ⟨_, rfl⟩
       rw [← hy5] at H
       have NY := Aside0.mk hy5
       clear hy5
       have H' := Aside0.mk H
       clear H
       obtain ⟨Ao9, co9, eo9⟩ := Kd.R_slice HO0.out
       subst eo9
       have hcz0 : wr.cell? ⟨gb, 0, none⟩ = some (.slice Ao9 x0_1.length co9) := (blk_cell BK0.out 0).trans rfl
       have hfz0 := blk_frozen BK0.out 0
       go_wp2
       replace HO0 := Aside0.mk (Kd.R_drew HO0.out)
       replace BK0 := Aside0.mk (blk_drew BK0.out)
       replace HB := Aside0.mk (below_drew1 HB.out)
       refine start_ (n := 15) (S := fun w' => w'.cell? ⟨gb, 0, none⟩ = some (.slice Ao9 x0_1.length co9)) (ds := [14]) #[false, false, false, false, false, false, false, false, false, false, false, false, false, false, false] (by kernel_rfl) rfl rfl ((blk_cell BK0.out 0).trans rfl) (fun hHeld => ?_)
       generalize wr.drew = w3 at HO0 BK0 HB hHeld ⊢
       refine pure_ (i := 0) (N := some 11) (v := ?_) (a' := ?_) (bsA 15 1) rfl rfl (by kernel_rfl) (fun _ _ _ h => h) (Or.inl ⟨by rfl, ?_⟩) ?_ ?_
       rotate_left
       ·intro w'
        go_simp
        with_reducible rfl
       rotate_left
       ·simp only [Act.put, List.setIfInBounds_toArray, List.set_cons_zero, List.set_cons_succ, i64_w]
        rfl
       refine pure_ (i := 1) (N := some 12) (v := ?_) (a' := ?_) (bsA 15 3) rfl rfl (by kernel_rfl) (fun _ _ _ h => h) (Or.inl ⟨by rfl, ?_⟩) ?_ ?_
       rotate_left
       ·intro w'
        go_simp
        with_reducible rfl
       rotate_left
       ·simp only [Act.put, List.setIfInBounds_toArray, List.set_cons_zero, List.set_cons_succ, i64_w]
        rfl
       refine pure_ (i := 2) (N := some 13) (v := ?_) (a' := ?_) (bsA 15 7) rfl rfl (by kernel_rfl) (fun _ _ _ h => h) (Or.inl ⟨by rfl, ?_⟩) ?_ ?_
       rotate_left
       ·intro w'
        go_simp
        with_reducible rfl
       rotate_left
       ·simp only [Act.put, List.setIfInBounds_toArray, List.set_cons_zero, List.set_cons_succ, i64_w]
        rfl
       refine pure_ (i := 3) (N := some 14) (v := ?_) (a' := ?_) (bsA 15 15) rfl rfl (by kernel_rfl) (fun _ _ _ h => h) (Or.inl ⟨by rfl, ?_⟩) ?_ ?_
       rotate_left
       ·intro w'
        go_simp
        with_reducible rfl
       rotate_left
       ·simp only [Act.put, List.setIfInBounds_toArray, List.set_cons_zero, List.set_cons_succ, i64_w]
        rfl
       refine take_ (i := 4) (N := some 15) (v := ?_) (a' := ?_) (bsA 15 31) rfl rfl (by kernel_rfl) (fun _ _ _ h => h) (Or.inl ⟨by rfl, ?_⟩) hHeld ?_ ?_
       rotate_left
       ·rintro w' s0
        go_simp
        with_reducible rfl
       rotate_left
       ·simp only [Act.put, List.setIfInBounds_toArray, List.set_cons_zero, List.set_cons_succ, i64_w]
        rfl
       refine pure_ (i := 5) (N := some 16) (v := ?_) (a' := ?_) (bsA 15 63) rfl rfl (by kernel_rfl) (fun _ _ _ h => h) (Or.inl ⟨by rfl, ?_⟩) ?_ ?_
       rotate_left
       ·intro w'
        go_simp
        with_reducible rfl
       rotate_left
       ·simp only [Act.put, List.setIfInBounds_toArray, List.set_cons_zero, List.set_cons_succ, i64_w]
        rfl
       refine pure_ (i := 6) (N := some 17) (v := ?_) (a' := ?_) (bsA 15 127) rfl rfl (by kernel_rfl) (fun _ _ _ h => h) (Or.inl ⟨by rfl, ?_⟩) ?_ ?_
       rotate_left
       ·intro w'
        go_simp
        with_reducible rfl
       rotate_left
       ·simp only [Act.put, List.setIfInBounds_toArray, List.set_cons_zero, List.set_cons_succ, i64_w]
        rfl
       refine pure_ (i := 7) (N := some 18) (v := ?_) (a' := ?_) (bsA 15 255) rfl rfl (by kernel_rfl) (fun _ _ _ h => h) (Or.inl ⟨by rfl, ?_⟩) ?_ ?_
       rotate_left
       ·intro w'
        go_simp
        with_reducible rfl
       rotate_left
       ·simp only [Act.put, List.setIfInBounds_toArray, List.set_cons_zero, List.set_cons_succ, i64_w]
        rfl
       refine pure_ (i := 8) (N := some 19) (v := ?_) (a' := ?_) (bsA 15 511) rfl rfl (by kernel_rfl) (fun _ _ _ h => h) (Or.inl ⟨by rfl, ?_⟩) ?_ ?_
       rotate_left
       ·intro w'
        go_simp
        with_reducible rfl
       rotate_left
       ·simp only [Act.put, List.setIfInBounds_toArray, List.set_cons_zero, List.set_cons_succ, i64_w]
        rfl
       refine pure_ (i := 9) (N := some 20) (v := ?_) (a' := ?_) (bsA 15 1023) rfl rfl (by kernel_rfl) (fun _ _ _ h => h) (Or.inl ⟨by rfl, ?_⟩) ?_ ?_
       rotate_left
       ·intro w'
        go_simp
        with_reducible rfl
       rotate_left
       ·simp only [Act.put, List.setIfInBounds_toArray, List.set_cons_zero, List.set_cons_succ, i64_w]
        rfl
       refine one_ (i := 10) (N := some 21) (bsA 15 2047) rfl rfl (by kernel_rfl) (by decide) (fun K hK => ?_)
       refine value_ (w1 := ?_) (v := ?_) (by rfl) rfl ?_ ?_
       rotate_left 2
       ·go_simp
        constructor
        ·rfl
        ·rfl
       refine hK.out _ _ ((blk_cell (blk_alloc BK0.out _) 0).trans rfl) (fun hHeld => ?_)
       clear hK K
       refine norm_ (a' := ?_) ?_ ?_
       rotate_left
       ·show Act.put _ (some 21) _ = _
        simp only [Act.put, List.setIfInBounds_toArray, List.set_cons_zero, List.set_cons_succ, i64_w]
        rfl
       refine one_ (i := 11) (N := some 22) (bsA 15 4095) rfl rfl (by kernel_rfl) (by decide) (fun K hK => ?_)
       refine Kd.R_append_step Kd.bool (w0 := w0) w0.heap.size (by rfl) (.tmp 15) (.tmp 21) 80 4 (.bool false) 1 rfl Try.underlying80 info4 rfl (by decide) (by omega) (.slice Ao9 x0_1.length co9) x0_1 ((Go.bits .and .i64 ji7 1) == 1) [.bool ((Go.bits .and .i64 ji7 1) == 1)] (fun _ => True) (fun _ => False) rfl rfl ?aP (fun _ hk => hk.elim) ?aF ?aO ?aB ?aS ?aL ?_
       (case aP => exact rfl)
       (case aB => exact HB.out)
       (case aF => exact (fun _ _ => trivial))
       (case aO => exact HO0.out)
       (case aS => exact below_size HB.out)
       (case aL => have := LMc5.out; omega)
       intro v4 w4 ho hb hg_ hat
       have n1_ := Aside0.mk (blk_grown (g := gb) (o := .cells #[.slice Ao9 x0_1.length co9] 86 (0, 0)) BK0.out hg_ (Kd.R_ne HO0.out BK0.out (by decide)))
       have n2_ := Aside0.mk hb
       rw [← NY.out] at ho
       obtain ⟨Ao5, co5, eo5⟩ := Kd.R_slice ho
       subst eo5
       have n0_ := Aside0.mk ho
       clear HO0 BK0 HB
       have HO0 := n0_
       have BK0 := n1_
       have HB := n2_
       clear n0_ n1_ n2_ ho hb hg_ hat
       refine hK.out _ _ ((blk_cell BK0.out 0).trans rfl) (fun hHeld => ?_)
       clear hK K
       refine norm_ (a' := ?_) ?_ ?_
       rotate_left
       ·show Act.put _ (some 22) _ = _
        simp only [Act.put, List.setIfInBounds_toArray, List.set_cons_zero, List.set_cons_succ, i64_w]
        rfl
       refine pure_ (i := 12) (N := some 23) (v := ?_) (a' := ?_) (bsA 15 8191) rfl rfl (by kernel_rfl) (fun _ _ _ h => h) (Or.inl ⟨by rfl, ?_⟩) ?_ ?_
       rotate_left
       ·intro w'
        go_simp
        with_reducible rfl
       rotate_left
       ·simp only [Act.put, List.setIfInBounds_toArray, List.set_cons_zero, List.set_cons_succ, i64_w]
        rfl
       refine pure_ (i := 13) (N := some 24) (v := ?_) (a' := ?_) (bsA 15 16383) rfl rfl (by kernel_rfl) (fun _ _ _ h => h) (Or.inl ⟨by rfl, ?_⟩) ?_ ?_
       rotate_left
       ·intro w'
        go_simp
        with_reducible rfl
       rotate_left
       ·simp only [Act.put, List.setIfInBounds_toArray, List.set_cons_zero, List.set_cons_succ, i64_w]
        rfl
       refine last_ (i := 14) (N := none) (bsA 15 32767) rfl rfl (by kernel_rfl) (by decide) (fun K hK => ?_)
       have hs5 : w4.cell? ⟨gb, 0, none⟩ = some (.slice Ao9 x0_1.length co9) := (blk_cell BK0.out 0).trans rfl
       have hfs5 := blk_frozen BK0.out 0
       refine skip_ (w1 := ?_) (by rfl) rfl ?_ ?_
       rotate_left
       ·go_simp
        rfl
       refine hK.out _ _ ?_
       clear hK K
       refine done_ (by kernel_rfl) ?_
       replace HO0 := Aside0.mk (Kd.R_mono (Kd.R_far (p := ⟨gb, 0, none⟩) (Kd.R_types HO0.out BK0.out (by decide)) (fun _ hk => hk.2) (.slice Ao5 y5.length co5)) (fun _ _ => trivial))
       replace BK0 := Aside0.mk (show (w4.setCell ⟨gb, 0, none⟩ (.slice Ao5 y5.length co5)).heap[gb]? = some (.cells #[.slice Ao5 y5.length co5] 86 (0, 0)) from blk_put (cs := #[.slice Ao9 x0_1.length co9]) BK0.out 0 _ rfl)
       replace HB := Aside0.mk (show Below w0.heap.size w0 (w4.setCell ⟨gb, 0, none⟩ (.slice Ao5 y5.length co5)) from below_set HB.out GE0.out)
       try go_wp2
       go_roundg k1
       case measure => have := HK1.out; omega
       case rel => exact ⟨_, _, _, rfl, H', ⟨by have := HK1.out; omega⟩, HO0, BK0, HB⟩
      ·rw [if_neg c5] at H
       exact absurd H (by simp)
     ·rw [if_neg c4] at H
      exact absurd H (by simp)
    ·rw [if_neg c3] at H
     have c3b0 : decide (x8_1 < a2) = false := decide_eq_false c3
     clear c3
     obtain rfl := Option.some.inj H
     go_wp2
     first | go_end0 | ((try simp only [Exit.inBlock, Exit.then]); refine bodyPost_ret (results_none rfl _ _ _) rfl ?_)
     exact ⟨rfl, _, BK0.out, HO0.out, HB.out⟩
/-! ### impl_coder_gamma: function 47 -/
def impl_coder_gamma.f (k : Nat) (l0 : List Bool) (a1 : Int) : Option (List Bool) := (impl_digits.f k a1).bind fun t1 => (impl_coder_field.f k l0 0 t1).bind fun t2 => (impl_coder_field.f k t2 1 1).bind fun t3 => (impl_coder_field.f k t3 a1 t1)
theorem impl_coder_gamma.mono : ∀ a0 a1 k, LeO (impl_coder_gamma.f k a0 a1) (impl_coder_gamma.f (k + 1) a0 a1) := by
  intro a0 a1 k
  unfold impl_coder_gamma.f
  repeat' first
      | (with_reducible exact impl_digits.mono _ _)
      | (with_reducible exact impl_coder_field.mono _ _ _ _)
      | (with_reducible exact LeO.refl _)
      | (with_reducible exact LeO.none _)
      | (with_reducible refine LeO.ite ?_ ?_)
      | (with_reducible refine LeO.bind ?_ (fun _ => ?_))
      | exact impl_digits.mono _ _
      | exact impl_coder_field.mono _ _ _ _
      | exact LeO.none _
      | refine LeO.ite ?_ ?_
      | refine LeO.bind ?_ (fun _ => ?_)
noncomputable def impl_coder_gamma.F (l0 : List Bool) (a1 : Int) : Option (List Bool) := lim fun k => impl_coder_gamma.f k l0 a1
theorem impl_coder_gamma.F_sup (l0 : List Bool) (a1 : Int) : Sup (fun k => impl_coder_gamma.f k l0 a1) (impl_coder_gamma.F l0 a1) := Sup.of_mono fun k => impl_coder_gamma.mono l0 a1 k
theorem impl_coder_gamma.F_eq (l0 : List Bool) (a1 : Int) : impl_coder_gamma.F l0 a1 = (impl_digits.F a1).bind fun t1 => (impl_coder_field.F l0 0 t1).bind fun t2 => (impl_coder_field.F t2 1 1).bind fun t3 => (impl_coder_field.F t3 a1 t1) := by
  refine Sup.unique (impl_coder_gamma.F_sup l0 a1) (Sup.congr (g' := fun k => (impl_digits.f k a1).bind fun t1 => (impl_coder_field.f k l0 0 t1).bind fun t2 => (impl_coder_field.f k t2 1 1).bind fun t3 => (impl_coder_field.f k t3 a1 t1)) (fun k => by first | rfl | simp only [impl_coder_gamma.f]) ?_)
  repeat' first
    | (with_reducible exact impl_digits.F_sup _)
    | (with_reducible exact impl_coder_field.F_sup _ _ _)
    | (with_reducible refine Sup.ite ?_ ?_)
    | (with_reducible refine Sup.bind ?_ (fun _ => ?_))
    | (with_reducible exact Sup.const _)
    | exact impl_digits.F_sup _
    | exact impl_coder_field.F_sup _ _ _
    | exact Sup.const _
set_option maxHeartbeats 8000000 in
set_option maxRecDepth 100000 in
theorem impl_coder_gamma.calls (k : Nat) (gb : Nat) (u0 : Value) (l0 : List Bool) (a1 : Int) (r : List Bool) (w0 w : World) (hB : Below w0.heap.size w0 w) (hg : w0.heap.size ≤ gb) (hb : w.heap[gb]? = some (.cells #[u0] 86 (0, 0))) (ho : Kd.R Kd.bool 4 w w0.heap.size (fun _ => True) u0 l0) (h : impl_coder_gamma.f k l0 a1 = some r) :
    Calls Try.prog 47 #[.pointer (some ⟨gb, 0, none⟩), .int .i64 a1] w fun e w' => e = .returned (.tuple #[]) ∧ ∃ u1 : Value, w'.heap[gb]? = some (.cells #[u1] 86 (0, 0)) ∧ Kd.R Kd.bool 4 w' w0.heap.size (fun _ => True) u1 r ∧ Below w0.heap.size w0 w' := by
  have HO0 := Aside0.mk ho
  have BK0 := Aside0.mk hb
  have GE0 := Aside0.mk hg
  have HB := Aside0.mk hB
  clear ho hb hg hB
  replace h : ((impl_digits.f k a1).bind fun t1 => (impl_coder_field.f k l0 0 t1).bind fun t2 => (impl_coder_field.f k t2 1 1).bind fun t3 => (impl_coder_field.f k t3 a1 t1)) = some r := h
  obtain ⟨t1, A10, h⟩ := Option.bind_eq_some_iff.mp h
  obtain ⟨t2, A20, h⟩ := Option.bind_eq_some_iff.mp h
  obtain ⟨t3, A30, h⟩ := Option.bind_eq_some_iff.mp h
  have A1 := Aside0.mk A10
  have A2 := Aside0.mk A20
  have A3 := Aside0.mk A30
  have A4 := Aside0.mk h
  clear A10 A20 A30 h
  go_enter Try.func47, Try.ntmps47
  go_wp2_with (first | ((with_reducible refine gate_callee (f := 61) rfl ?_); refine goesL_ (some 6) rfl rfl Try.func61 (by kernel_rfl) rfl #[.int .i64 a1] rfl (by (try simp only [List.map_toArray, List.map_cons, List.map_nil]); first | done | rfl) ?_; (with_reducible refine (impl_digits.calls k a1 t1 _ A1.out).mono ?_); rintro e w' ⟨rfl, ⟨nd, rfl⟩⟩; refine ⟨_, rfl, ?_⟩) | ((with_reducible refine gate_callee (f := 84) rfl ?_); refine goesL_ (some 9) rfl rfl Try.func84 (by kernel_rfl) rfl #[.pointer (some ⟨gb, 0, none⟩), .int .i64 0, .int .i64 t1] rfl (by (try simp only [List.map_toArray, List.map_cons, List.map_nil]); first | done | rfl) ?_; (with_reducible refine (impl_coder_field.calls k gb u0 l0 0 t1 t2 w0 _ ?side1 GE0.out ?side3 ?side4 A2.out).mono ?_); (case side1 => exact hB_); (case side3 => (with_reducible repeat (first | refine blk_drewN ?_ _ | refine blk_drew ?_ | refine blk_alloc ?_ _)); exact BK0.out); (case side4 => (with_reducible repeat (first | apply Kd.R_alloc | apply Kd.R_drewN | apply Kd.R_drew)); exact HO0.out); rintro e w5 ⟨rfl, u5_, hbk, hrr, hbb⟩; refine ⟨_, rfl, ?_⟩; clear HO0 BK0 HB; have HO0 := Aside0.mk hrr; have BK0 := Aside0.mk hbk; have HB := Aside0.mk hbb; clear hrr hbk hbb) | ((with_reducible refine gate_callee (f := 84) rfl ?_); refine goesL_ (some 11) rfl rfl Try.func84 (by kernel_rfl) rfl #[.pointer (some ⟨gb, 0, none⟩), .int .i64 1, .int .i64 1] rfl (by (try simp only [List.map_toArray, List.map_cons, List.map_nil]); first | done | rfl) ?_; (with_reducible refine (impl_coder_field.calls k gb u5_ t2 1 1 t3 w0 _ ?side1 GE0.out ?side3 ?side4 A3.out).mono ?_); (case side1 => exact hB_); (case side3 => (with_reducible repeat (first | refine blk_drewN ?_ _ | refine blk_drew ?_ | refine blk_alloc ?_ _)); exact BK0.out); (case side4 => (with_reducible repeat (first | apply Kd.R_alloc | apply Kd.R_drewN | apply Kd.R_drew)); exact HO0.out); rintro e w6 ⟨rfl, u6_, hbk, hrr, hbb⟩; refine ⟨_, rfl, ?_⟩; clear HO0 BK0 HB; have HO0 := Aside0.mk hrr; have BK0 := Aside0.mk hbk; have HB := Aside0.mk hbb; clear hrr hbk hbb) | ((with_reducible refine gate_callee (f := 84) rfl ?_); refine goesL_ (some 15) rfl rfl Try.func84 (by kernel_rfl) rfl #[.pointer (some ⟨gb, 0, none⟩), .int .i64 a1, .int .i64 t1] rfl (by (try simp only [List.map_toArray, List.map_cons, List.map_nil]); first | done | rfl) ?_; (with_reducible refine (impl_coder_field.calls k gb u6_ t3 a1 t1 r w0 _ ?side1 GE0.out ?side3 ?side4 A4.out).mono ?_); (case side1 => exact hB_); (case side3 => (with_reducible repeat (first | refine blk_drewN ?_ _ | refine blk_drew ?_ | refine blk_alloc ?_ _)); exact BK0.out); (case side4 => (with_reducible repeat (first | apply Kd.R_alloc | apply Kd.R_drewN | apply Kd.R_drew)); exact HO0.out); rintro e w7 ⟨rfl, u7_, hbk, hrr, hbb⟩; refine ⟨_, rfl, ?_⟩; clear HO0 BK0 HB; have HO0 := Aside0.mk hrr; have BK0 := Aside0.mk hbk; have HB := Aside0.mk hbb; clear hrr hbk hbb))
  first | go_end0 | ((try simp only [Exit.inBlock, Exit.then]); refine bodyPost_ret (results_none rfl _ _ _) rfl ?_)
  exact ⟨rfl, _, BK0.out, HO0.out, HB.out⟩
/-! ### impl_encode_1: function 83 -/
def impl_encode_1.f (a0 : Int) (l1_0 : List Bool) : Option (Bool) := if 0 ≤ a0 then (if a0 < (l1_0.length : Int) then (some (rdOf false l1_0 a0)) else (none)) else (none)
set_option maxHeartbeats 8000000 in
set_option maxRecDepth 100000 in
theorem impl_encode_1.calls (a0 : Int) (gb1_ : Nat) (A1_0 : Option Addr) (c1_0 : Nat) (l1_0 : List Bool) (r : Bool) (w : World) (hr1_0 : Kd.C Kd.bool w A1_0 l1_0.length l1_0) (hc1_0 : l1_0.length ≤ c1_0) (hb1_ : w.heap[gb1_]? = some (.cells #[.slice A1_0 l1_0.length c1_0] 86 (0, 0))) (h : impl_encode_1.f a0 l1_0 = some r) :
    Calls Try.prog 83 #[.int .i64 a0, .pointer (some ⟨gb1_, 0, none⟩)] w fun e w' => e = .returned (.bool r) ∧ Drawn0 w w' := by
  have hu80 := Try.underlying80
  have HR1_0 := Aside0.mk hr1_0
  have HC1_0 := Aside0.mk hc1_0
  clear hr1_0 hc1_0
  have BK1 := Aside0.mk hb1_
  clear hb1_
  have H : (if 0 ≤ a0 then (if a0 < (l1_0.length : Int) then (some (rdOf false l1_0 a0)) else (none)) else (none)) = some r := h
  clear h
  by_cases c3 : 0 ≤ a0
  ·rw [if_pos c3] at H
   have c3b0 : decide (0 ≤ a0) = true := decide_eq_true c3
   clear c3
   by_cases c4 : a0 < (l1_0.length : Int)
   ·rw [if_pos c4] at H
    have c4b0 : decide (a0 < (l1_0.length : Int)) = true := decide_eq_true c4
    clear c4
    obtain rfl := Option.some.inj H
    have hcz5_0 : w.cell? ⟨gb1_, 0, none⟩ = some (.slice A1_0 l1_0.length c1_0) := (blk_cell BK1.out 0).trans rfl
    have hfz5_0 := blk_frozen BK1.out 0
    have p179 : 0 ≤ (a0 : Int) := of_decide_eq_true as_
    have q179 : a0 < (l1_0.length : Int) := of_decide_eq_true as_
    obtain ⟨ad179, e179, hx179_0⟩ := Kd.at_bool HR1_0.out a0 p179 q179
    cases e179
    replace p179 := eq_true p179
    replace q179 := eq_true q179
    go_enter Try.func83, Try.ntmps83
    go_wp2
    go_ret
    exact ⟨rg_, by repeat (first | exact Drawn0.refl _ | apply Drawn0.step)⟩
   ·rw [if_neg c4] at H
    exact absurd H (by simp)
  ·rw [if_neg c3] at H
   exact absurd H (by simp)
/-! ### impl_blank: function 106 -/
def impl_blank.f (a0 : Int) : Option (Int × List Int) := (impl_words.f a0).bind fun t185 => (if 0 ≤ t185 then (if (t185 : Int).toNat ≤ 35184372088832 then (some (a0, (List.replicate (t185 : Int).toNat 0))) else (none)) else (none))
set_option maxHeartbeats 8000000 in
set_option maxRecDepth 100000 in
theorem impl_blank.calls (a0 : Int) (r1 : Int) (r2 : List Int) (w : World) (h : impl_blank.f a0 = some (r1, r2)) :
    Calls Try.prog 106 #[.int .i64 a0] w fun e w' => ∃ v1_ : Value, e = .returned (.agg #[.int .i64 r1, v1_]) ∧ Kd.R (Kd.int .i64) 3 w' w.heap.size (fun _ => True) v1_ r2 ∧ Below w.heap.size w w' := by
  have hu24 := Try.underlying24
  have HB := Aside0.mk (Below.refl w.heap.size w)
  have H : ((impl_words.f a0).bind fun t185 => (if 0 ≤ t185 then (if (t185 : Int).toNat ≤ 35184372088832 then (some (a0, (List.replicate (t185 : Int).toNat 0))) else (none)) else (none))) = some (r1, r2) := h
  clear h
  replace H := Option.bind_eq_some_iff.mp H
  obtain ⟨t185, A20, H⟩ := H
  replace H : (if 0 ≤ t185 then (if (t185 : Int).toNat ≤ 35184372088832 then (some (a0, (List.replicate (t185 : Int).toNat 0))) else (none)) else (none)) = some (r1, r2) := H
  have A2 := Aside0.mk A20
  clear A20
  by_cases c3 : 0 ≤ t185
  ·rw [if_pos c3] at H
   have c3b0 := eq_true c3
   have c3b1 : decide (0 ≤ t185) = true := decide_eq_true c3
   clear c3
   by_cases c4 : (t185 : Int).toNat ≤ 35184372088832
   ·rw [if_pos c4] at H
    have c4b0 := eq_true c4
    have c4b1 : decide ((t185 : Int).toNat ≤ 35184372088832) = true := decide_eq_true c4
    clear c4
    obtain ⟨y186, hy186⟩ : ∃ y_ : List Int, y_ = (List.replicate (t185 : Int).toNat 0) := ⟨_, rfl⟩
    replace H : (some (a0, y186)) = some (r1, r2) := by first | (rw [hy186]; with_reducible exact H) | (have H2_ := (Option.bind_some _ _).symm.trans H; rw [hy186]; with_reducible exact H2_) | (have H2_ := (Option.bind_some _ _).symm.trans H; with_reducible exact H2_) | with_reducible exact H | (rw [hy186]; exact H) | exact H
    have Ny186 := Aside0.mk hy186
    clear hy186
    simp only [Option.some.injEq, Prod.mk.injEq] at H
    obtain ⟨rfl, rfl⟩ := H
    go_enter Try.func106, Try.ntmps106
    go_wp2_with (first | ((with_reducible refine gate_dst (N := 2) rfl ?_); refine bx_ 2 #[.int .i64 0, .slice none 0 0] 24 ?_; intro gb184 hg w5 hbox hb; have BK184 := Aside0.mk (hbox); have GW184 := Aside0.mk ((ge_ hg)); have GE184 := Aside0.mk ((ge_ hg)); replace HB := Aside0.mk (below_step hB_ hb); clear hb hbox hg) | ((with_reducible refine gate_callee (f := 93) rfl ?_); refine gl_ 5 Try.func93 #[.int .i64 a0] ?_; (with_reducible refine (impl_words.calls a0 t185 _ A2.out).mono ?_); rintro e w' ⟨rfl, ⟨nd, rfl⟩⟩; refine ⟨_, rfl, ?_⟩; (try (rw [drewN_self w5]; generalize hq_ : World.drewN w5 _ = w5; have n0_ : Aside0 (w5.heap[gb184]? = some (.cells #[.int .i64 0, .slice none 0 0] 24 (0, 0))) := ⟨by rw [← hq_]; exact (kB_ BK184)⟩; have n1_ : Aside0 (Below w.heap.size w w5) := ⟨by rw [← hq_]; exact hB_⟩; clear BK184 HB hq_; have BK184 := n0_; have HB := n1_; clear n0_ n1_))) | ((with_reducible refine gate_dst (N := 6) rfl ?_); refine Kd.R_make (Kd.int .i64) _ 3 rfl (N := 6) rfl 22 _ _ rfl t185 rfl rfl Try.underlying22 (.int .i64 0) 8 info3 rfl (by decide) (by omega) 0 (ok := fun _ => True) (okp := fun _ => True) rfl (fun _ hk => hk) trivial (of_decide_eq_true as_) (Nat.le_trans (Nat.mul_le_mul_right _ (of_decide_eq_true as_ : t185.toNat ≤ 35184372088832)) (by omega)) (Below.refl _ _) (Nat.le_refl _) ?_; intro v187 w6 ho7 hb hg_ hnew_; clear hg_ hnew_; (first | rw [← Ny186.out] at ho7 | (simp only [Int.reduceToNat] at ho7; rw [← Ny186.out] at ho7)); have HO188 := Aside0.mk (Kd.R_lower ho7 (below_size hB_)); replace BK184 := Aside0.mk (blk_below (kB_ BK184) hb); replace HB := Aside0.mk (below_step hB_ hb); clear hb ho7; obtain ⟨Ao8, co8, eo8⟩ := Kd.R_slice HO188.out; subst eo8; have hcz9_0 : w6.cell? ⟨gb184, 0, none⟩ = some (.int .i64 0) := (blk_cell BK184.out 0).trans rfl; have hcz9_1 : w6.cell? ⟨gb184, 1, none⟩ = some (.slice none 0 0) := (blk_cell BK184.out 1).trans rfl; have hfz9_0 := blk_frozen BK184.out 0; have hfz9_1 := blk_frozen BK184.out 1))
    refine bodyPost_ret (results_cell_row rfl _ _ gb184 24 #[.int .i64 a0, .slice Ao8 y186.length co8] (0, 0) _ rfl (by (with_reducible repeat (first | refine blk_drewN ?_ _ | refine blk_drew ?_ | refine blk_alloc ?_ _)); refine blk_put (cs := #[.int .i64 a0, .slice none 0 0]) ?_ 1 _ rfl; (with_reducible repeat (first | refine blk_drewN ?_ _ | refine blk_drew ?_ | refine blk_alloc ?_ _)); refine blk_put (cs := #[.int .i64 0, .slice none 0 0]) ?_ 0 _ rfl; (with_reducible repeat (first | refine blk_drewN ?_ _ | refine blk_drew ?_ | refine blk_alloc ?_ _)); exact BK184.out) Try.underlying24 rfl (by kernel_rfl)) rfl ?_
    exact ⟨_, rf_, by (with_reducible repeat (first | apply Kd.R_alloc | apply Kd.R_drewN | apply Kd.R_drew)); exact Kd.R_mono (Kd.R_far (p := ⟨gb184, 1, none⟩) (Kd.R_far (p := ⟨gb184, 0, none⟩) (Kd.R_types HO188.out BK184.out (by decide)) (fun _ hk => hk.2) (.int .i64 a0)) (fun _ hk => hk.2) (.slice Ao8 y186.length co8)) (fun _ hk => trivial), hB_⟩
   ·rw [if_neg c4] at H
    exact absurd H (by simp)
  ·rw [if_neg c3] at H
   exact absurd H (by simp)
/-! ### impl_madeBits_at_impl_encode_1: function 129 -/
def impl_madeBits_at_impl_encode_1.l0 : Nat → Int → Int → List Bool → Int → List Int → Option (Int × List Int)
  | 0, _, _, _, _, _ => none
  | k + 1, x9, x10, x2000, x195000, x195001 => if x10 < x9 then ((impl_encode_1.f x10 x2000).bind fun t195 => ((impl_Bits_set.f x195000 x195001 x10 t195).bind fun t196 => (impl_madeBits_at_impl_encode_1.l0 k x9 (wrap64 (x10 + 1)) x2000 x195000 t196))) else (some (x195000, x195001))
def impl_madeBits_at_impl_encode_1.f (k : Nat) (a0 : Int) (l1_0 : List Bool) : Option (Int × List Int) := (impl_blank.f a0).bind fun bt190 => (impl_madeBits_at_impl_encode_1.l0 k a0 0 l1_0 bt190.1 bt190.2)
theorem impl_madeBits_at_impl_encode_1.mono_l : ∀ k, (∀ y0 y1 y2 y3 y4, LeO (impl_madeBits_at_impl_encode_1.l0 k y0 y1 y2 y3 y4) (impl_madeBits_at_impl_encode_1.l0 (k + 1) y0 y1 y2 y3 y4))
  | 0 => fun _ _ _ _ _ r h => by simp [impl_madeBits_at_impl_encode_1.l0] at h
  | k + 1 => by
    have ih0 := impl_madeBits_at_impl_encode_1.mono_l k
    · intro y0 y1 y2 y3 y4
      unfold impl_madeBits_at_impl_encode_1.l0
      repeat' first
      | (with_reducible exact ih0 _ _ _ _ _)
      | (with_reducible exact LeO.refl _)
      | (with_reducible exact LeO.none _)
      | (with_reducible refine LeO.ite ?_ ?_)
      | (with_reducible refine LeO.bind ?_ (fun _ => ?_))
      | exact ih0 _ _ _ _ _
      | exact LeO.none _
      | refine LeO.ite ?_ ?_
      | refine LeO.bind ?_ (fun _ => ?_)
theorem impl_madeBits_at_impl_encode_1.mono : ∀ a0 a1 k, LeO (impl_madeBits_at_impl_encode_1.f k a0 a1) (impl_madeBits_at_impl_encode_1.f (k + 1) a0 a1) := by
  intro a0 a1 k
  have ih0 := impl_madeBits_at_impl_encode_1.mono_l k
  unfold impl_madeBits_at_impl_encode_1.f
  repeat' first
      | (with_reducible exact ih0 _ _ _ _ _)
      | (with_reducible exact LeO.refl _)
      | (with_reducible exact LeO.none _)
      | (with_reducible refine LeO.ite ?_ ?_)
      | (with_reducible refine LeO.bind ?_ (fun _ => ?_))
      | exact ih0 _ _ _ _ _
      | exact LeO.none _
      | refine LeO.ite ?_ ?_
      | refine LeO.bind ?_ (fun _ => ?_)
noncomputable def impl_madeBits_at_impl_encode_1.L0 (y0 : Int) (y1 : Int) (y2 : List Bool) (y3 : Int) (y4 : List Int) : Option (Int × List Int) := lim fun k => impl_madeBits_at_impl_encode_1.l0 k y0 y1 y2 y3 y4
theorem impl_madeBits_at_impl_encode_1.L0_sup (y0 : Int) (y1 : Int) (y2 : List Bool) (y3 : Int) (y4 : List Int) : Sup (fun k => impl_madeBits_at_impl_encode_1.l0 k y0 y1 y2 y3 y4) (impl_madeBits_at_impl_encode_1.L0 y0 y1 y2 y3 y4) := Sup.of_mono fun k => impl_madeBits_at_impl_encode_1.mono_l k y0 y1 y2 y3 y4
noncomputable def impl_madeBits_at_impl_encode_1.F (a0 : Int) (l1_0 : List Bool) : Option (Int × List Int) := lim fun k => impl_madeBits_at_impl_encode_1.f k a0 l1_0
theorem impl_madeBits_at_impl_encode_1.F_sup (a0 : Int) (l1_0 : List Bool) : Sup (fun k => impl_madeBits_at_impl_encode_1.f k a0 l1_0) (impl_madeBits_at_impl_encode_1.F a0 l1_0) := Sup.of_mono fun k => impl_madeBits_at_impl_encode_1.mono a0 l1_0 k
theorem impl_madeBits_at_impl_encode_1.L0_eq (x9 : Int) (x10 : Int) (x2000 : List Bool) (x195000 : Int) (x195001 : List Int) : impl_madeBits_at_impl_encode_1.L0 x9 x10 x2000 x195000 x195001 = if x10 < x9 then ((impl_encode_1.f x10 x2000).bind fun t195 => ((impl_Bits_set.f x195000 x195001 x10 t195).bind fun t196 => (impl_madeBits_at_impl_encode_1.L0 x9 (wrap64 (x10 + 1)) x2000 x195000 t196))) else (some (x195000, x195001)) := by
  refine Sup.unique (impl_madeBits_at_impl_encode_1.L0_sup x9 x10 x2000 x195000 x195001) (Sup.shift (fun k => impl_madeBits_at_impl_encode_1.mono_l k x9 x10 x2000 x195000 x195001) (Sup.congr (g' := fun k => if x10 < x9 then ((impl_encode_1.f x10 x2000).bind fun t195 => ((impl_Bits_set.f x195000 x195001 x10 t195).bind fun t196 => (impl_madeBits_at_impl_encode_1.l0 k x9 (wrap64 (x10 + 1)) x2000 x195000 t196))) else (some (x195000, x195001))) (fun k => by first | rfl | simp only [impl_madeBits_at_impl_encode_1.l0]) ?_))
  repeat' first
    | (with_reducible exact impl_madeBits_at_impl_encode_1.L0_sup _ _ _ _ _)
    | (with_reducible refine Sup.ite ?_ ?_)
    | (with_reducible refine Sup.bind ?_ (fun _ => ?_))
    | (with_reducible exact Sup.const _)
    | exact impl_madeBits_at_impl_encode_1.L0_sup _ _ _ _ _
    | exact Sup.const _
theorem impl_madeBits_at_impl_encode_1.F_eq (a0 : Int) (l1_0 : List Bool) : impl_madeBits_at_impl_encode_1.F a0 l1_0 = (impl_blank.f a0).bind fun bt190 => (impl_madeBits_at_impl_encode_1.L0 a0 0 l1_0 bt190.1 bt190.2) := by
  refine Sup.unique (impl_madeBits_at_impl_encode_1.F_sup a0 l1_0) (Sup.congr (g' := fun k => (impl_blank.f a0).bind fun bt190 => (impl_madeBits_at_impl_encode_1.l0 k a0 0 l1_0 bt190.1 bt190.2)) (fun k => by first | rfl | simp only [impl_madeBits_at_impl_encode_1.f]) ?_)
  repeat' first
    | (with_reducible exact impl_madeBits_at_impl_encode_1.L0_sup _ _ _ _ _)
    | (with_reducible refine Sup.ite ?_ ?_)
    | (with_reducible refine Sup.bind ?_ (fun _ => ?_))
    | (with_reducible exact Sup.const _)
    | exact impl_madeBits_at_impl_encode_1.L0_sup _ _ _ _ _
    | exact Sup.const _
set_option maxHeartbeats 8000000 in
set_option maxRecDepth 100000 in
theorem impl_madeBits_at_impl_encode_1.calls (k : Nat) (a0 : Int) (gb1_ : Nat) (A1_0 : Option Addr) (c1_0 : Nat) (l1_0 : List Bool) (r1 : Int) (r2 : List Int) (w : World) (hr1_0 : Kd.C Kd.bool w A1_0 l1_0.length l1_0) (hc1_0 : l1_0.length ≤ c1_0) (hb1_ : w.heap[gb1_]? = some (.cells #[.slice A1_0 l1_0.length c1_0] 86 (0, 0))) (h : impl_madeBits_at_impl_encode_1.f k a0 l1_0 = some (r1, r2)) :
    Calls Try.prog 82 #[.int .i64 a0, .func (.func 83) #[] #[.pointer (some ⟨gb1_, 0, none⟩)]] w fun e w' => ∃ v1_ : Value, e = .returned (.agg #[.int .i64 r1, v1_]) ∧ Kd.R (Kd.int .i64) 3 w' w.heap.size (fun _ => True) v1_ r2 ∧ Below w.heap.size w w' := by
  have hu24 := Try.underlying24
  have HR1_0 := Aside0.mk hr1_0
  have HC1_0 := Aside0.mk hc1_0
  clear hr1_0 hc1_0
  have BK1 := Aside0.mk hb1_
  clear hb1_
  have HB := Aside0.mk (Below.refl w.heap.size w)
  have H : ((impl_blank.f a0).bind fun bt190 => (impl_madeBits_at_impl_encode_1.l0 k a0 0 l1_0 bt190.1 bt190.2)) = some (r1, r2) := h
  clear h
  replace H := Option.bind_eq_some_iff.mp H
  obtain ⟨⟨t190, t191⟩, A30, H⟩ := H
  replace H : (impl_madeBits_at_impl_encode_1.l0 k a0 0 l1_0 t190 t191) = some (r1, r2) := H
  have A3 := Aside0.mk A30
  clear A30
  have H' := Aside0.mk H
  clear H
  go_enter Try.func82, Try.ntmps82
  go_wp2_with (first | ((with_reducible refine gate_dst (N := 4) rfl ?_); refine bx_ 4 #[.int .i64 0, .slice none 0 0] 24 ?_; intro gb189 hg w4 hbox hb; have BK189 := Aside0.mk (hbox); have GW189 := Aside0.mk ((ge_ hg)); have GE189 := Aside0.mk ((ge_ hg)); replace HB := Aside0.mk (below_step hB_ hb); have NB1_189 := Aside0.mk ((ne_ hg BK1)); have NB189_1 := Aside0.mk ((nf_ hg BK1)); replace BK1 := Aside0.mk (blk_below (kB_ BK1) hb); clear hb hbox hg) | ((with_reducible refine gate_callee (f := 106) rfl ?_); refine gl_ 8 Try.func106 #[.int .i64 a0] ?_; (with_reducible refine (impl_blank.calls a0 t190 t191 _ A3.out).mono ?_); rintro e w5 ⟨v192, rfl, ho0, hb⟩; refine ⟨_, rfl, ?_⟩; have HO193 := Aside0.mk (Kd.R_lower ho0 (below_size hB_)); replace BK1 := Aside0.mk (blk_below (kB_ BK1) hb); replace BK189 := Aside0.mk (blk_below (kB_ BK189) hb); replace HB := Aside0.mk (below_step hB_ hb); (try clear hb); (try clear hb2); (try clear hk); (try clear hi); (try clear ho0)) | ((with_reducible refine gate_dst (N := 5) rfl ?_); refine bx_ 5 #[.int .i64 0, .slice none 0 0] 24 ?_; intro gb194 hg w6 hbox hb; replace HO193 := Aside0.mk (Kd.R_below (kR_ HO193) hb); have BK194 := Aside0.mk (hbox); have GW194 := Aside0.mk ((ge_ hg)); have GE194 := Aside0.mk ((ge_ hg)); replace HB := Aside0.mk (below_step hB_ hb); have NB1_194 := Aside0.mk ((ne_ hg BK1)); have NB194_1 := Aside0.mk ((nf_ hg BK1)); replace BK1 := Aside0.mk (blk_below (kB_ BK1) hb); have NB189_194 := Aside0.mk ((ne_ hg BK189)); have NB194_189 := Aside0.mk ((nf_ hg BK189)); replace BK189 := Aside0.mk (blk_below (kB_ BK189) hb); clear hb hbox hg; have hnb7 := NB194_1.out; have hnc7 := NB1_194.out; have hnb8 := NB194_189.out; have hnc8 := NB189_194.out; have hcz9_0 : w6.cell? ⟨gb194, 0, none⟩ = some (.int .i64 0) := (blk_cell BK194.out 0).trans rfl; have hcz9_1 : w6.cell? ⟨gb194, 1, none⟩ = some (.slice none 0 0) := (blk_cell BK194.out 1).trans rfl; have hfz9_0 := blk_frozen BK194.out 0; have hfz9_1 := blk_frozen BK194.out 1; obtain ⟨Ao10, co10, eo10⟩ := Kd.R_slice HO193.out; subst eo10))
  go_loopg [10] k (fun kq v10 w' => ∃ (x10_1 : Int) (x195001_1 : List Int) (u195001 : Value), v10 = .int .i64 x10_1 ∧ Aside0 (impl_madeBits_at_impl_encode_1.l0 kq a0 x10_1 l1_0 t190 x195001_1 = some (r1, r2)) ∧ Aside0 (kq ≤ k) ∧ Aside0 (Kd.R (Kd.int .i64) 3 w' w.heap.size (fun _ => True) u195001 x195001_1) ∧ Aside0 (w'.heap[gb1_]? = some (.cells #[(.slice A1_0 l1_0.length c1_0)] 86 (0, 0))) ∧ Aside0 (w'.heap[gb189]? = some (.cells #[.int .i64 0, (.slice none 0 0)] 24 (0, 0))) ∧ Aside0 (w'.heap[gb194]? = some (.cells #[.int .i64 t190, u195001] 24 (0, 0))) ∧ Aside0 (Below w.heap.size w w'))
  case atStart => exact ⟨(0), (t191), (.slice Ao10 t191.length co10), rg_, H', ⟨Nat.le_refl _⟩, ⟨by (with_reducible repeat (first | apply Kd.R_alloc | apply Kd.R_drewN | apply Kd.R_drew)); exact Kd.R_mono (Kd.R_far (p := ⟨gb194, 1, none⟩) (Kd.R_far (p := ⟨gb194, 0, none⟩) (Kd.R_types HO193.out BK194.out (by decide)) (fun _ hk => hk.2) (.int .i64 t190)) (fun _ hk => hk.2) (.slice Ao10 t191.length co10)) (fun _ hk => trivial)⟩, ⟨by (with_reducible repeat (first | refine blk_drewN ?_ _ | refine blk_drew ?_ | refine blk_alloc ?_ _)); refine blk_far ?_ NB1_194.out _; (with_reducible repeat (first | refine blk_drewN ?_ _ | refine blk_drew ?_ | refine blk_alloc ?_ _)); refine blk_far ?_ NB1_194.out _; (with_reducible repeat (first | refine blk_drewN ?_ _ | refine blk_drew ?_ | refine blk_alloc ?_ _)); exact BK1.out⟩, ⟨by (with_reducible repeat (first | refine blk_drewN ?_ _ | refine blk_drew ?_ | refine blk_alloc ?_ _)); refine blk_far ?_ NB189_194.out _; (with_reducible repeat (first | refine blk_drewN ?_ _ | refine blk_drew ?_ | refine blk_alloc ?_ _)); refine blk_far ?_ NB189_194.out _; (with_reducible repeat (first | refine blk_drewN ?_ _ | refine blk_drew ?_ | refine blk_alloc ?_ _)); exact BK189.out⟩, ⟨by (with_reducible repeat (first | refine blk_drewN ?_ _ | refine blk_drew ?_ | refine blk_alloc ?_ _)); refine blk_put (cs := #[.int .i64 t190, .slice none 0 0]) ?_ 1 _ rfl; (with_reducible repeat (first | refine blk_drewN ?_ _ | refine blk_drew ?_ | refine blk_alloc ?_ _)); refine blk_put (cs := #[.int .i64 0, .slice none 0 0]) ?_ 0 _ rfl; (with_reducible repeat (first | refine blk_drewN ?_ _ | refine blk_drew ?_ | refine blk_alloc ?_ _)); exact BK194.out⟩, ⟨hB_⟩⟩
  case round =>
   clear H'
   try clear c1
   try clear p2
   try clear c7
   try clear c8
   try clear c10
   try clear hcz9_0
   try clear hcz9_1
   try clear hfz9_0
   try clear hfz9_1
   obtain ⟨x10_1, x195001_1, u195001, rfl, HA, HK1, HO_195001, BK1, BK189, BK194, HB⟩ := hrel
   cases gk with
   | zero => exact absurd HA.out (by simp [impl_madeBits_at_impl_encode_1.l0])
   | succ k1 =>
    have H := HA.out
    clear HA
    simp only [impl_madeBits_at_impl_encode_1.l0] at H
    by_cases c11 : x10_1 < a0
    ·rw [if_pos c11] at H
     have c11b0 : decide (x10_1 < a0) = true := decide_eq_true c11
     clear c11
     replace H := Option.bind_eq_some_iff.mp H
     obtain ⟨t195, A120, H⟩ := H
     replace H : ((impl_Bits_set.f t190 x195001_1 x10_1 t195).bind fun t196 => (impl_madeBits_at_impl_encode_1.l0 k1 a0 (wrap64 (x10_1 + 1)) l1_0 t190 t196)) = some (r1, r2) := H
     have A12 := Aside0.mk A120
     clear A120
     replace H := Option.bind_eq_some_iff.mp H
     obtain ⟨t196, A130, H⟩ := H
     replace H : (impl_madeBits_at_impl_encode_1.l0 k1 a0 (wrap64 (x10_1 + 1)) l1_0 t190 t196) = some (r1, r2) := H
     have A13 := Aside0.mk A130
     clear A130
     have H' := Aside0.mk H
     clear H
     go_wp2_with (first | (go_at_call 83; (with_reducible refine (impl_encode_1.calls x10_1 gb1_ A1_0 c1_0 l1_0 t195 _ ?side1 ?side2 ?side3 A12.out).mono ?_); (case side1 => exact kC_ HR1_0); (case side2 => exact HC1_0.out); (case side3 => exact (kB_ BK1)); rintro e w' ⟨rfl, ⟨nd, rfl⟩⟩; obtain ⟨Ao14, co14, eo14⟩ := Kd.R_slice HO_195001.out; subst eo14) | ((with_reducible refine gate_callee (f := 101) rfl ?_); refine gl_ 17 Try.func101 #[.pointer (some ⟨gb194, 0, none⟩), .int .i64 x10_1, .bool t195] ?_; (with_reducible refine (impl_Bits_set.calls gb194 t190 (fun k_ => some k_ = (.slice Ao14 x195001_1.length co14 : Value).ownBlock) (.slice Ao14 x195001_1.length co14) x195001_1 x10_1 t195 t196 w _ ?side1 ?side2 ?side3 A13.out).mono ?_); (case side1 => exact hB_); (case side2 => exact Kd.R_tight rfl HO_195001.out); (case side3 => exact (kB_ BK194)); rintro e w15 ⟨rfl, hy0, hb, hkp⟩; refine ⟨_, rfl, ?_⟩; replace BK1 := Aside0.mk (blk_kept (kB_ BK1) hkp (fun hs_ => (fun e_ => (Kd.R_ne HO_195001.out BK1.out (by decide)) e_) hs_)); replace BK189 := Aside0.mk (blk_kept (kB_ BK189) hkp (fun hs_ => (fun e_ => (Kd.R_ne HO_195001.out BK189.out (by decide)) e_) hs_)); replace BK194 := Aside0.mk (blk_kept (kB_ BK194) hkp (fun hs_ => (fun e_ => (Kd.R_ne HO_195001.out BK194.out (by decide)) e_) hs_)); replace HO_195001 := Aside0.mk (Kd.R_reok rfl hy0 (fun k_ e_ => HO_195001.out.1 k_ e_)); replace HB := Aside0.mk (hb); (try clear hb); (try clear hkp); (try clear hy0)))
     go_roundg k1
     case measure => have := HK1.out; omega
     case rel => exact ⟨(wrap64 (x10_1 + 1)), (t196), (.slice Ao14 x195001_1.length co14), rg_, H', ⟨by have := HK1.out; omega⟩, ⟨kR_ HO_195001⟩, ⟨kB_ BK1⟩, ⟨kB_ BK189⟩, ⟨kB_ BK194⟩, ⟨hB_⟩⟩
    ·rw [if_neg c11] at H
     have c11b0 : decide (x10_1 < a0) = false := decide_eq_false c11
     clear c11
     simp only [Option.some.injEq, Prod.mk.injEq] at H
     obtain ⟨rfl, rfl⟩ := H
     have hnb16 := NB194_1.out
     have hnc16 := NB1_194.out
     have hnb17 := NB194_189.out
     have hnc17 := NB189_194.out
     have hcz18_0 : wr.cell? ⟨gb194, 0, none⟩ = some (.int .i64 t190) := (blk_cell BK194.out 0).trans rfl
     have hcz18_1 : wr.cell? ⟨gb194, 1, none⟩ = some (u195001) := (blk_cell BK194.out 1).trans rfl
     have hfz18_0 := blk_frozen BK194.out 0
     have hfz18_1 := blk_frozen BK194.out 1
     have hnb19 := NB189_1.out
     have hnc19 := NB1_189.out
     have hcz20_0 : wr.cell? ⟨gb189, 0, none⟩ = some (.int .i64 0) := (blk_cell BK189.out 0).trans rfl
     have hcz20_1 : wr.cell? ⟨gb189, 1, none⟩ = some (.slice none 0 0) := (blk_cell BK189.out 1).trans rfl
     have hfz20_0 := blk_frozen BK189.out 0
     have hfz20_1 := blk_frozen BK189.out 1
     obtain ⟨Ao21, co21, eo21⟩ := Kd.R_slice HO_195001.out
     subst eo21
     go_wp2
     refine bodyPost_ret (results_cell_row rfl _ _ gb189 24 #[.int .i64 t190, .slice Ao21 x195001_1.length co21] (0, 0) _ rfl (by (with_reducible repeat (first | refine blk_drewN ?_ _ | refine blk_drew ?_ | refine blk_alloc ?_ _)); refine blk_put (cs := #[.int .i64 t190, .slice none 0 0]) ?_ 1 _ rfl; (with_reducible repeat (first | refine blk_drewN ?_ _ | refine blk_drew ?_ | refine blk_alloc ?_ _)); refine blk_put (cs := #[.int .i64 0, .slice none 0 0]) ?_ 0 _ rfl; (with_reducible repeat (first | refine blk_drewN ?_ _ | refine blk_drew ?_ | refine blk_alloc ?_ _)); exact BK189.out) Try.underlying24 rfl (by kernel_rfl)) rfl ?_
     exact ⟨_, rf_, by (with_reducible repeat (first | apply Kd.R_alloc | apply Kd.R_drewN | apply Kd.R_drew)); exact Kd.R_mono (Kd.R_far (p := ⟨gb189, 1, none⟩) (Kd.R_far (p := ⟨gb189, 0, none⟩) (Kd.R_types HO_195001.out BK189.out (by decide)) (fun _ hk => hk.2) (.int .i64 t190)) (fun _ hk => hk.2) (.slice Ao21 x195001_1.length co21)) (fun _ hk => trivial), hB_⟩
/-! ### impl_encode_at_impl_coder_gamma: function 130 -/
def impl_encode_at_impl_coder_gamma.l0 : Nat → List Int → Int → List Bool → Option (Int × List Int × Bool)
  | 0, _, _, _ => none
  | k + 1, l0, x12, x6 => if x12 < (l0.length : Int) then (if 0 ≤ x12 then ((impl_in.f (rd l0 x12) 1 100000).bind fun t1 => (if t1 = true then (if (x6.length : Int) ≤ 4096 then ((impl_coder_gamma.f k x6 (rd l0 x12)).bind fun t2 => (impl_encode_at_impl_coder_gamma.l0 k l0 (wrap64 (x12 + 1)) t2)) else (impl_encode_at_impl_coder_gamma.l0 k l0 (wrap64 (x12 + 1)) x6)) else (some (0, [], false)))) else (none)) else (if (l0.length : Int) > 60 then (some (0, [], false)) else ((impl_madeBits_at_impl_encode_1.f k (x6.length : Int) x6).bind fun bt => (some (bt.1, bt.2, true))))
def impl_encode_at_impl_coder_gamma.f (k : Nat) (l0 : List Int) : Option (Int × List Int × Bool) := impl_encode_at_impl_coder_gamma.l0 k l0 0 []
theorem impl_encode_at_impl_coder_gamma.mono_l : ∀ k, (∀ y0 y1 y2, LeO (impl_encode_at_impl_coder_gamma.l0 k y0 y1 y2) (impl_encode_at_impl_coder_gamma.l0 (k + 1) y0 y1 y2))
  | 0 => fun _ _ _ r h => by simp [impl_encode_at_impl_coder_gamma.l0] at h
  | k + 1 => by
    have ih0 := impl_encode_at_impl_coder_gamma.mono_l k
    · intro y0 y1 y2
      unfold impl_encode_at_impl_coder_gamma.l0
      repeat' first
      | (with_reducible exact ih0 _ _ _)
      | (with_reducible exact impl_coder_gamma.mono _ _ _)
      | (with_reducible exact impl_madeBits_at_impl_encode_1.mono _ _ _)
      | (with_reducible exact LeO.refl _)
      | (with_reducible exact LeO.none _)
      | (with_reducible refine LeO.ite ?_ ?_)
      | (with_reducible refine LeO.bind ?_ (fun _ => ?_))
      | exact ih0 _ _ _
      | exact impl_coder_gamma.mono _ _ _
      | exact impl_madeBits_at_impl_encode_1.mono _ _ _
      | exact LeO.none _
      | refine LeO.ite ?_ ?_
      | refine LeO.bind ?_ (fun _ => ?_)
theorem impl_encode_at_impl_coder_gamma.mono : ∀ a0 k, LeO (impl_encode_at_impl_coder_gamma.f k a0) (impl_encode_at_impl_coder_gamma.f (k + 1) a0) := by
  intro a0 k
  have ih0 := impl_encode_at_impl_coder_gamma.mono_l k
  unfold impl_encode_at_impl_coder_gamma.f
  repeat' first
      | (with_reducible exact ih0 _ _ _)
      | (with_reducible exact impl_coder_gamma.mono _ _ _)
      | (with_reducible exact impl_madeBits_at_impl_encode_1.mono _ _ _)
      | (with_reducible exact LeO.refl _)
      | (with_reducible exact LeO.none _)
      | (with_reducible refine LeO.ite ?_ ?_)
      | (with_reducible refine LeO.bind ?_ (fun _ => ?_))
      | exact ih0 _ _ _
      | exact impl_coder_gamma.mono _ _ _
      | exact impl_madeBits_at_impl_encode_1.mono _ _ _
      | exact LeO.none _
      | refine LeO.ite ?_ ?_
      | refine LeO.bind ?_ (fun _ => ?_)
noncomputable def impl_encode_at_impl_coder_gamma.L0 (y0 : List Int) (y1 : Int) (y2 : List Bool) : Option (Int × List Int × Bool) := lim fun k => impl_encode_at_impl_coder_gamma.l0 k y0 y1 y2
theorem impl_encode_at_impl_coder_gamma.L0_sup (y0 : List Int) (y1 : Int) (y2 : List Bool) : Sup (fun k => impl_encode_at_impl_coder_gamma.l0 k y0 y1 y2) (impl_encode_at_impl_coder_gamma.L0 y0 y1 y2) := Sup.of_mono fun k => impl_encode_at_impl_coder_gamma.mono_l k y0 y1 y2
noncomputable def impl_encode_at_impl_coder_gamma.F (l0 : List Int) : Option (Int × List Int × Bool) := lim fun k => impl_encode_at_impl_coder_gamma.f k l0
theorem impl_encode_at_impl_coder_gamma.F_sup (l0 : List Int) : Sup (fun k => impl_encode_at_impl_coder_gamma.f k l0) (impl_encode_at_impl_coder_gamma.F l0) := Sup.of_mono fun k => impl_encode_at_impl_coder_gamma.mono l0 k
theorem impl_encode_at_impl_coder_gamma.L0_eq (l0 : List Int) (x12 : Int) (x6 : List Bool) : impl_encode_at_impl_coder_gamma.L0 l0 x12 x6 = if x12 < (l0.length : Int) then (if 0 ≤ x12 then ((impl_in.f (rd l0 x12) 1 100000).bind fun t1 => (if t1 = true then (if (x6.length : Int) ≤ 4096 then ((impl_coder_gamma.F x6 (rd l0 x12)).bind fun t2 => (impl_encode_at_impl_coder_gamma.L0 l0 (wrap64 (x12 + 1)) t2)) else (impl_encode_at_impl_coder_gamma.L0 l0 (wrap64 (x12 + 1)) x6)) else (some (0, [], false)))) else (none)) else (if (l0.length : Int) > 60 then (some (0, [], false)) else ((impl_madeBits_at_impl_encode_1.F (x6.length : Int) x6).bind fun bt => (some (bt.1, bt.2, true)))) := by
  refine Sup.unique (impl_encode_at_impl_coder_gamma.L0_sup l0 x12 x6) (Sup.shift (fun k => impl_encode_at_impl_coder_gamma.mono_l k l0 x12 x6) (Sup.congr (g' := fun k => if x12 < (l0.length : Int) then (if 0 ≤ x12 then ((impl_in.f (rd l0 x12) 1 100000).bind fun t1 => (if t1 = true then (if (x6.length : Int) ≤ 4096 then ((impl_coder_gamma.f k x6 (rd l0 x12)).bind fun t2 => (impl_encode_at_impl_coder_gamma.l0 k l0 (wrap64 (x12 + 1)) t2)) else (impl_encode_at_impl_coder_gamma.l0 k l0 (wrap64 (x12 + 1)) x6)) else (some (0, [], false)))) else (none)) else (if (l0.length : Int) > 60 then (some (0, [], false)) else ((impl_madeBits_at_impl_encode_1.f k (x6.length : Int) x6).bind fun bt => (some (bt.1, bt.2, true))))) (fun k => by first | rfl | simp only [impl_encode_at_impl_coder_gamma.l0]) ?_))
  repeat' first
    | (with_reducible exact impl_encode_at_impl_coder_gamma.L0_sup _ _ _)
    | (with_reducible exact impl_coder_gamma.F_sup _ _)
    | (with_reducible exact impl_madeBits_at_impl_encode_1.F_sup _ _)
    | (with_reducible refine Sup.ite ?_ ?_)
    | (with_reducible refine Sup.bind ?_ (fun _ => ?_))
    | (with_reducible exact Sup.const _)
    | exact impl_encode_at_impl_coder_gamma.L0_sup _ _ _
    | exact impl_coder_gamma.F_sup _ _
    | exact impl_madeBits_at_impl_encode_1.F_sup _ _
    | exact Sup.const _
theorem impl_encode_at_impl_coder_gamma.F_eq (l0 : List Int) : impl_encode_at_impl_coder_gamma.F l0 = impl_encode_at_impl_coder_gamma.L0 l0 0 [] := by
  refine Sup.unique (impl_encode_at_impl_coder_gamma.F_sup l0) (Sup.congr (g' := fun k => impl_encode_at_impl_coder_gamma.l0 k l0 0 []) (fun k => by first | rfl | simp only [impl_encode_at_impl_coder_gamma.f]) ?_)
  repeat' first
    | (with_reducible exact impl_encode_at_impl_coder_gamma.L0_sup _ _ _)
    | (with_reducible exact impl_coder_gamma.F_sup _ _)
    | (with_reducible exact impl_madeBits_at_impl_encode_1.F_sup _ _)
    | (with_reducible refine Sup.ite ?_ ?_)
    | (with_reducible refine Sup.bind ?_ (fun _ => ?_))
    | (with_reducible exact Sup.const _)
    | exact impl_encode_at_impl_coder_gamma.L0_sup _ _ _
    | exact impl_coder_gamma.F_sup _ _
    | exact impl_madeBits_at_impl_encode_1.F_sup _ _
    | exact Sup.const _
set_option maxHeartbeats 8000000 in
set_option maxRecDepth 100000 in
theorem impl_encode_at_impl_coder_gamma.calls (k : Nat) (A0 : Option Addr) (c0 : Nat) (l0 : List Int) (r1 : Int) (r2 : List Int) (r3 : Bool) (w : World) (hr0 : Kd.C (Kd.int .i64) w A0 l0.length l0) (hc0 : l0.length ≤ c0) (h : impl_encode_at_impl_coder_gamma.f k l0 = some (r1, r2, r3)) :
    Calls Try.prog 46 #[.slice A0 l0.length c0, .func (.func 47) #[] #[]] w fun e w' => ∃ v1_ : Value, e = .returned (.tuple #[.agg #[.int .i64 r1, v1_], .bool r3]) ∧ Kd.R (Kd.int .i64) 3 w' w.heap.size (fun _ => True) v1_ r2 ∧ Below w.heap.size w w' := by
  have hu24 := Try.underlying24
  have hu80 := Try.underlying80
  have hu86 := Try.underlying86
  have HR0 := Aside0.mk hr0
  have HC0 := Aside0.mk hc0
  clear hr0 hc0
  have H' := Aside0.mk (show impl_encode_at_impl_coder_gamma.l0 k l0 0 [] = some (r1, r2, r3) from h)
  clear h
  go_enter Try.func46, Try.ntmps46
  go_wp2_with (first | ((with_reducible refine gate_dst (N := 4) rfl ?_); refine bx_ 4 #[.int .i64 0, .slice none 0 0] 24 ?_; intro gb4 hg w5 hbox hb; have HBW := Aside0.mk hb; have BK4 := Aside0.mk hbox; have GE4 := Aside0.mk (show w.heap.size ≤ gb4 by rw [hg]; exact Nat.le_refl _); clear hb hbox hg) | ((with_reducible refine gate_dst (N := 6) rfl ?_); refine bx_ 6 #[.slice none 0 0] 86 ?_; intro gb6 hg w6 hbox hb; have HB := Aside0.mk hb; have BK6 := Aside0.mk hbox; have GE6 := Aside0.mk (show w5.heap.size ≤ gb6 by rw [hg]; exact Nat.le_refl _); have hcz6 : w6.cell? ⟨gb6, 0, none⟩ = some (.slice none 0 0) := (blk_cell hbox 0).trans rfl; have hfz6 := blk_frozen hbox 0; clear hb hbox hg))
  go_loopg [12] k (fun kq v12 w' => ∃ (u6 : Value) (x6 : List Bool) (x12 : Int), v12 = .int .i64 x12 ∧ Aside0 (impl_encode_at_impl_coder_gamma.l0 kq l0 x12 x6 = some (r1, r2, r3)) ∧ Aside0 (kq ≤ k) ∧ Aside0 (Kd.R Kd.bool 4 w' w5.heap.size (fun _ => True) u6 x6) ∧ Aside0 (w'.heap[gb6]? = some (.cells #[u6] 86 (0, 0))) ∧ Aside0 (Below w5.heap.size w5 w'))
  case atStart => exact ⟨.slice none 0 0, [], 0, rfl, H', ⟨Nat.le_refl _⟩, ⟨Kd.R_nil _ _ _ _ _⟩, ⟨blk_put (cs := #[.slice none 0 0]) BK6.out 0 _ rfl⟩, ⟨below_set HB.out GE6.out⟩⟩
  case round =>
   clear H' BK6 HB
   clear hcz6 hfz6
   obtain ⟨u6, x6, x12, rfl, HA, HK1, HO6, BK6, HB⟩ := hrel
   have HBr := Aside0.mk (below_weaken HBW.out (below_size HBW.out) HB.out)
   cases gk with
   | zero => exact absurd HA.out (by simp [impl_encode_at_impl_coder_gamma.l0])
   | succ k1 =>
    have H := HA.out
    clear HA
    simp only [impl_encode_at_impl_coder_gamma.l0] at H
    obtain ⟨Ao6, co6, eo6⟩ := Kd.R_slice HO6.out
    subst eo6
    obtain ⟨_, hle6, hcc6⟩ := Kd.R_reads' HO6.out
    have HL6 := Aside0.mk hle6
    have HC6 := Aside0.mk hcc6
    clear hle6 hcc6
    have hcz0 : wr.cell? ⟨gb6, 0, none⟩ = some (.slice Ao6 x6.length co6) := (blk_cell BK6.out 0).trans rfl
    have hfz0 := blk_frozen BK6.out 0
    by_cases c3 : x12 < (l0.length : Int)
    ·rw [if_pos c3] at H
     have c3b0 : decide (x12 < (l0.length : Int)) = true := decide_eq_true c3
     by_cases c4 : 0 ≤ x12
     ·rw [if_pos c4] at H
      obtain ⟨ad7, e7, hx7⟩ := Kd.at_int HR0.out x12 c4 c3
      cases e7
      replace hx7 := (HBr.out.cell (World.block_lt_of_cell? w _ hx7)).trans hx7
      have p7 := eq_true c4
      have q7 := eq_true c3
      clear c3 c4
      obtain ⟨t1, A50, H⟩ := Option.bind_eq_some_iff.mp H
      have A5 := Aside0.mk A50
      clear A50
      cases t1 with
      | true =>
       rw [if_pos rfl] at H
       by_cases c6 : (x6.length : Int) ≤ 4096
       ·rw [if_pos c6] at H
        have c6b0 : decide ((x6.length : Int) ≤ 4096) = true := decide_eq_true c6
        clear c6
        obtain ⟨t2, A70, H⟩ := Option.bind_eq_some_iff.mp H
        have A7 := Aside0.mk A70
        clear A70
        have H' := Aside0.mk H
        clear H
        go_wp2_with (first | (go_at_call 58; (with_reducible refine (impl_in.calls (rd l0 x12) 1 100000 true _ A5.out).mono ?_); rintro e w' ⟨rfl, ⟨nd, rfl⟩⟩) | (go_at_call 47; (with_reducible refine (impl_coder_gamma.calls k1 gb6 (.slice Ao6 x6.length co6) x6 (rd l0 x12) t2 w5 _ ?side1 GE6.out ?side3 ?side4 A7.out).mono ?_); (case side1 => exact hB_); (case side3 => (with_reducible repeat (first | refine blk_drewN ?_ _ | refine blk_drew ?_ | refine blk_alloc ?_ _)); exact BK6.out); (case side4 => (with_reducible repeat (first | apply Kd.R_alloc | apply Kd.R_drewN | apply Kd.R_drew)); exact HO6.out); rintro e w8 ⟨rfl, u8_, hbk, hrr, hbb⟩; clear HO6 BK6 HB; have HO6 := Aside0.mk hrr; have BK6 := Aside0.mk hbk; have HB := Aside0.mk hbb; clear hrr hbk hbb))
        go_roundg k1
        case measure => have := HK1.out; omega
        case rel => exact ⟨_, _, _, rfl, H', ⟨by have := HK1.out; omega⟩, HO6, BK6, HB⟩
       ·rw [if_neg c6] at H
        have c6b0 : decide ((x6.length : Int) ≤ 4096) = false := decide_eq_false c6
        clear c6
        have H' := Aside0.mk H
        clear H
        go_wp2_with (go_at_call 58; (with_reducible refine (impl_in.calls (rd l0 x12) 1 100000 true _ A5.out).mono ?_); rintro e w' ⟨rfl, ⟨nd, rfl⟩⟩)
        go_roundg k1
        case measure => have := HK1.out; omega
        case rel => exact ⟨_, _, _, rfl, H', ⟨by have := HK1.out; omega⟩, ⟨kR_ HO6⟩, ⟨kB_ BK6⟩, ⟨hB_⟩⟩
      | false =>
       rw [if_neg (by decide)] at H
       simp only [Option.some.injEq, Prod.mk.injEq] at H
       obtain ⟨rfl, rfl, rfl⟩ := H
       have BK4r := Aside0.mk (blk_below BK4.out HB.out)
       have hcy0 : wr.cell? ⟨gb4, 0, none⟩ = some (.int .i64 0) := (blk_cell BK4r.out 0).trans rfl
       have hcy1 : wr.cell? ⟨gb4, 1, none⟩ = some (.slice none 0 0) := (blk_cell BK4r.out 1).trans rfl
       have hfy0 := blk_frozen BK4r.out 0
       have hfy1 := blk_frozen BK4r.out 1
       go_wp2_with (go_at_call 58; (with_reducible refine (impl_in.calls (rd l0 x12) 1 100000 false _ A5.out).mono ?_); rintro e w' ⟨rfl, ⟨nd, rfl⟩⟩)
       refine bodyPost_ret (results_ct rfl _ _ gb4 24 #[.int .i64 0, .slice none 0 0] (0, 0) _ rfl (by (with_reducible repeat (first | refine blk_drewN ?_ _ | refine blk_drew ?_ | refine blk_alloc ?_ _)); refine blk_put (cs := #[.int .i64 0, .slice none 0 0]) ?_ 1 _ rfl; (with_reducible repeat (first | refine blk_drewN ?_ _ | refine blk_drew ?_ | refine blk_alloc ?_ _)); refine blk_put (cs := #[.int .i64 0, .slice none 0 0]) ?_ 0 _ rfl; (with_reducible repeat (first | refine blk_drewN ?_ _ | refine blk_drew ?_ | refine blk_alloc ?_ _)); exact BK4r.out) Try.underlying24 rfl (by kernel_rfl)) rfl ?_
       exact ⟨_, rfl, Kd.R_nil _ _ _ _ _, (by repeat (first | (with_reducible first | exact HBr.out | apply below_alloc | apply pw_below_drewN | apply below_drew1 | refine below_set ?_ GE4.out) | exact HBr.out))⟩
     ·rw [if_neg c4] at H
      exact absurd H (by simp)
    ·rw [if_neg c3] at H
     have c3b0 : decide (x12 < (l0.length : Int)) = false := decide_eq_false c3
     clear c3
     by_cases c8 : (l0.length : Int) > 60
     ·rw [if_pos c8] at H
      have c8b0 : decide (60 < (l0.length : Int)) = true := decide_eq_true c8
      clear c8
      simp only [Option.some.injEq, Prod.mk.injEq] at H
      obtain ⟨rfl, rfl, rfl⟩ := H
      have BK4r := Aside0.mk (blk_below BK4.out HB.out)
      have hcy0 : wr.cell? ⟨gb4, 0, none⟩ = some (.int .i64 0) := (blk_cell BK4r.out 0).trans rfl
      have hcy1 : wr.cell? ⟨gb4, 1, none⟩ = some (.slice none 0 0) := (blk_cell BK4r.out 1).trans rfl
      have hfy0 := blk_frozen BK4r.out 0
      have hfy1 := blk_frozen BK4r.out 1
      go_wp2
      refine bodyPost_ret (results_ct rfl _ _ gb4 24 #[.int .i64 0, .slice none 0 0] (0, 0) _ rfl (by (with_reducible repeat (first | refine blk_drewN ?_ _ | refine blk_drew ?_ | refine blk_alloc ?_ _)); refine blk_put (cs := #[.int .i64 0, .slice none 0 0]) ?_ 1 _ rfl; (with_reducible repeat (first | refine blk_drewN ?_ _ | refine blk_drew ?_ | refine blk_alloc ?_ _)); refine blk_put (cs := #[.int .i64 0, .slice none 0 0]) ?_ 0 _ rfl; (with_reducible repeat (first | refine blk_drewN ?_ _ | refine blk_drew ?_ | refine blk_alloc ?_ _)); exact BK4r.out) Try.underlying24 rfl (by kernel_rfl)) rfl ?_
      exact ⟨_, rfl, Kd.R_nil _ _ _ _ _, (by repeat (first | (with_reducible first | exact HBr.out | apply below_alloc | apply pw_below_drewN | apply below_drew1 | refine below_set ?_ GE4.out) | exact HBr.out))⟩
     ·rw [if_neg c8] at H
      have c8b0 : decide (60 < (l0.length : Int)) = false := decide_eq_false c8
      clear c8
      obtain ⟨⟨t3, t4⟩, A90, H⟩ := Option.bind_eq_some_iff.mp H
      have A9 := Aside0.mk A90
      clear A90
      simp only [Option.some.injEq, Prod.mk.injEq] at H
      obtain ⟨rfl, rfl, rfl⟩ := H
      have BK4r := Aside0.mk (blk_below BK4.out HB.out)
      have hcy0 : wr.cell? ⟨gb4, 0, none⟩ = some (.int .i64 0) := (blk_cell BK4r.out 0).trans rfl
      have hcy1 : wr.cell? ⟨gb4, 1, none⟩ = some (.slice none 0 0) := (blk_cell BK4r.out 1).trans rfl
      have hfy0 := blk_frozen BK4r.out 0
      have hfy1 := blk_frozen BK4r.out 1
      go_wp2_with ((with_reducible refine gate_callee (f := 82) rfl ?_); refine goesL_ (some 36) rfl rfl Try.func82 (by kernel_rfl) rfl #[.int .i64 (x6.length : Int), .func (.func 83) #[] #[.pointer (some ⟨gb6, 0, none⟩)]] rfl (by (try simp only [List.map_toArray, List.map_cons, List.map_nil]); first | done | rfl) ?_; (with_reducible refine (impl_madeBits_at_impl_encode_1.calls k1 (x6.length : Int) gb6 Ao6 co6 x6 t3 t4 _ ?side1 HL6.out ?side3 A9.out).mono ?_); (case side1 => repeat (first | exact HC6.out | (with_reducible refine Kd.C_alloc ?_ _) | (with_reducible refine Kd.C_drewN ?_ _) | (with_reducible refine Kd.C_drew ?_))); (case side3 => (with_reducible repeat (first | refine blk_drewN ?_ _ | refine blk_drew ?_ | refine blk_alloc ?_ _)); exact BK6.out); rintro e w9 ⟨v9, rfl, ho9, hb9⟩; refine ⟨_, rfl, ?_⟩; have HO9 := Aside0.mk ho9; have HB9 := Aside0.mk hb9; obtain ⟨Ao9, co9, eo9⟩ := Kd.R_slice ho9; subst eo9; have BK4s := Aside0.mk (blk_below BK4r.out hb9); have hcx0 : w9.cell? ⟨gb4, 0, none⟩ = some (.int .i64 0) := (blk_cell BK4s.out 0).trans rfl; have hcx1 : w9.cell? ⟨gb4, 1, none⟩ = some (.slice none 0 0) := (blk_cell BK4s.out 1).trans rfl; have hfx0 := blk_frozen BK4s.out 0; have hfx1 := blk_frozen BK4s.out 1; clear ho9 hb9)
      refine bodyPost_ret (results_ct rfl _ _ gb4 24 #[.int .i64 t3, .slice Ao9 t4.length co9] (0, 0) _ rfl (by (with_reducible repeat (first | refine blk_drewN ?_ _ | refine blk_drew ?_ | refine blk_alloc ?_ _)); refine blk_put (cs := #[.int .i64 t3, .slice none 0 0]) ?_ 1 _ rfl; (with_reducible repeat (first | refine blk_drewN ?_ _ | refine blk_drew ?_ | refine blk_alloc ?_ _)); refine blk_put (cs := #[.int .i64 0, .slice none 0 0]) ?_ 0 _ rfl; (with_reducible repeat (first | refine blk_drewN ?_ _ | refine blk_drew ?_ | refine blk_alloc ?_ _)); exact BK4s.out) Try.underlying24 rfl (by kernel_rfl)) rfl ?_
      exact ⟨_, rfl, Kd.R_mono (Kd.R_far (p := ⟨gb4, 1, none⟩) (Kd.R_far (p := ⟨gb4, 0, none⟩) (Kd.R_types (Kd.R_lower HO9.out (below_size HBr.out)) BK4s.out (by decide)) (fun _ hk => hk.2) _) (fun _ hk => hk.2) _) (fun _ _ => trivial), below_set (below_set (below_step HBr.out HB9.out) GE4.out) GE4.out⟩
/-! ### impl_EncodeGamma: function 12 -/
def impl_EncodeGamma.f (k : Nat) (l0 : List Int) : Option (Int × List Int × Bool) := (impl_encode_at_impl_coder_gamma.f k l0).bind fun bt198 => (some (bt198.1, bt198.2.1, bt198.2.2))
theorem impl_EncodeGamma.mono : ∀ a0 k, LeO (impl_EncodeGamma.f k a0) (impl_EncodeGamma.f (k + 1) a0) := by
  intro a0 k
  unfold impl_EncodeGamma.f
  repeat' first
      | (with_reducible exact impl_encode_at_impl_coder_gamma.mono _ _)
      | (with_reducible exact LeO.refl _)
      | (with_reducible exact LeO.none _)
      | (with_reducible refine LeO.ite ?_ ?_)
      | (with_reducible refine LeO.bind ?_ (fun _ => ?_))
      | exact impl_encode_at_impl_coder_gamma.mono _ _
      | exact LeO.none _
      | refine LeO.ite ?_ ?_
      | refine LeO.bind ?_ (fun _ => ?_)
noncomputable def impl_EncodeGamma.F (l0 : List Int) : Option (Int × List Int × Bool) := lim fun k => impl_EncodeGamma.f k l0
theorem impl_EncodeGamma.F_sup (l0 : List Int) : Sup (fun k => impl_EncodeGamma.f k l0) (impl_EncodeGamma.F l0) := Sup.of_mono fun k => impl_EncodeGamma.mono l0 k
theorem impl_EncodeGamma.F_eq (l0 : List Int) : impl_EncodeGamma.F l0 = (impl_encode_at_impl_coder_gamma.F l0).bind fun bt198 => (some (bt198.1, bt198.2.1, bt198.2.2)) := by
  refine Sup.unique (impl_EncodeGamma.F_sup l0) (Sup.congr (g' := fun k => (impl_encode_at_impl_coder_gamma.f k l0).bind fun bt198 => (some (bt198.1, bt198.2.1, bt198.2.2))) (fun k => by first | rfl | simp only [impl_EncodeGamma.f]) ?_)
  repeat' first
    | (with_reducible exact impl_encode_at_impl_coder_gamma.F_sup _)
    | (with_reducible refine Sup.ite ?_ ?_)
    | (with_reducible refine Sup.bind ?_ (fun _ => ?_))
    | (with_reducible exact Sup.const _)
    | exact impl_encode_at_impl_coder_gamma.F_sup _
    | exact Sup.const _
set_option maxHeartbeats 8000000 in
set_option maxRecDepth 100000 in
theorem impl_EncodeGamma.calls (k : Nat) (A0 : Option Addr) (c0 : Nat) (l0 : List Int) (r1 : Int) (r2 : List Int) (r3 : Bool) (w : World) (hr0 : Kd.C (Kd.int .i64) w A0 l0.length l0) (hc0 : l0.length ≤ c0) (h : impl_EncodeGamma.f k l0 = some (r1, r2, r3)) :
    Calls Try.prog 12 #[.slice A0 l0.length c0] w fun e w' => ∃ v1_ : Value, e = .returned (.tuple #[.agg #[.int .i64 r1, v1_], .bool r3]) ∧ Kd.R (Kd.int .i64) 3 w' w.heap.size (fun _ => True) v1_ r2 ∧ Below w.heap.size w w' := by
  have hu24 := Try.underlying24
  have HR0 := Aside0.mk hr0
  have HC0 := Aside0.mk hc0
  clear hr0 hc0
  have HB := Aside0.mk (Below.refl w.heap.size w)
  have H : ((impl_encode_at_impl_coder_gamma.f k l0).bind fun bt198 => (some (bt198.1, bt198.2.1, bt198.2.2))) = some (r1, r2, r3) := h
  clear h
  replace H := Option.bind_eq_some_iff.mp H
  obtain ⟨⟨t198, t199, t202⟩, A20, H⟩ := H
  replace H : (some (t198, t199, t202)) = some (r1, r2, r3) := H
  have A2 := Aside0.mk A20
  clear A20
  simp only [Option.some.injEq, Prod.mk.injEq] at H
  obtain ⟨rfl, rfl, rfl⟩ := H
  go_enter Try.func12, Try.ntmps12
  go_wp2_with (first | ((with_reducible refine gate_dst (N := 2) rfl ?_); refine bx_ 2 #[.int .i64 0, .slice none 0 0] 24 ?_; intro gb197 hg w3 hbox hb; have BK197 := Aside0.mk (hbox); have GW197 := Aside0.mk ((ge_ hg)); have GE197 := Aside0.mk ((ge_ hg)); replace HB := Aside0.mk (below_step hB_ hb); clear hb hbox hg) | ((with_reducible refine gate_callee (f := 46) rfl ?_); refine gl_ 5 Try.func46 #[.slice A0 l0.length c0, .func (.func 47) #[] #[]] ?_; (with_reducible refine (impl_encode_at_impl_coder_gamma.calls k _ _ l0 t198 t199 t202 _ ?side1 ?side2 A2.out).mono ?_); (case side1 => exact kC_ HR0); (case side2 => exact HC0.out); rintro e w4 ⟨v200, rfl, ho0, hb⟩; refine ⟨_, rfl, ?_⟩; have HO201 := Aside0.mk (Kd.R_lower ho0 (below_size hB_)); replace BK197 := Aside0.mk (blk_below (kB_ BK197) hb); replace HB := Aside0.mk (below_step hB_ hb); (try clear hb); (try clear hb2); (try clear hk); (try clear hi); (try clear ho0); have hcz5_0 : w4.cell? ⟨gb197, 0, none⟩ = some (.int .i64 0) := (blk_cell BK197.out 0).trans rfl; have hcz5_1 : w4.cell? ⟨gb197, 1, none⟩ = some (.slice none 0 0) := (blk_cell BK197.out 1).trans rfl; have hfz5_0 := blk_frozen BK197.out 0; have hfz5_1 := blk_frozen BK197.out 1; obtain ⟨Ao6, co6, eo6⟩ := Kd.R_slice HO201.out; subst eo6))
  refine bodyPost_ret (results_ct rfl _ _ gb197 24 #[.int .i64 t198, .slice Ao6 t199.length co6] (0, 0) _ rfl (by (with_reducible repeat (first | refine blk_drewN ?_ _ | refine blk_drew ?_ | refine blk_alloc ?_ _)); refine blk_put (cs := #[.int .i64 t198, .slice none 0 0]) ?_ 1 _ rfl; (with_reducible repeat (first | refine blk_drewN ?_ _ | refine blk_drew ?_ | refine blk_alloc ?_ _)); refine blk_put (cs := #[.int .i64 0, .slice none 0 0]) ?_ 0 _ rfl; (with_reducible repeat (first | refine blk_drewN ?_ _ | refine blk_drew ?_ | refine blk_alloc ?_ _)); exact BK197.out) Try.underlying24 rfl (by kernel_rfl)) rfl ?_
  exact ⟨_, rf_, by (with_reducible repeat (first | apply Kd.R_alloc | apply Kd.R_drewN | apply Kd.R_drew)); exact Kd.R_mono (Kd.R_far (p := ⟨gb197, 1, none⟩) (Kd.R_far (p := ⟨gb197, 0, none⟩) (Kd.R_types HO201.out BK197.out (by decide)) (fun _ hk => hk.2) (.int .i64 t198)) (fun _ hk => hk.2) (.slice Ao6 t199.length co6)) (fun _ hk => trivial), hB_⟩
/-! ### spec_EncodeDelta: function 18 -/
def spec_EncodeDelta.f (k : Nat) (l0 : List Int) : Option (Int × List Int × Bool) := (spec_spCoded.f k l0).bind fun t256 => (if t256 = true then ((spec_spEncode.f k l0 true).bind fun bt257 => (some (bt257.1, bt257.2, true))) else (some (0, ([] : List Int), false)))
theorem spec_EncodeDelta.mono : ∀ a0 k, LeO (spec_EncodeDelta.f k a0) (spec_EncodeDelta.f (k + 1) a0) := by
  intro a0 k
  unfold spec_EncodeDelta.f
  repeat' first
      | (with_reducible exact spec_spCoded.mono _ _)
      | (with_reducible exact spec_spEncode.mono _ _ _)
      | (with_reducible exact LeO.refl _)
      | (with_reducible exact LeO.none _)
      | (with_reducible refine LeO.ite ?_ ?_)
      | (with_reducible refine LeO.bind ?_ (fun _ => ?_))
      | exact spec_spCoded.mono _ _
      | exact spec_spEncode.mono _ _ _
      | exact LeO.none _
      | refine LeO.ite ?_ ?_
      | refine LeO.bind ?_ (fun _ => ?_)
noncomputable def spec_EncodeDelta.F (l0 : List Int) : Option (Int × List Int × Bool) := lim fun k => spec_EncodeDelta.f k l0
theorem spec_EncodeDelta.F_sup (l0 : List Int) : Sup (fun k => spec_EncodeDelta.f k l0) (spec_EncodeDelta.F l0) := Sup.of_mono fun k => spec_EncodeDelta.mono l0 k
theorem spec_EncodeDelta.F_eq (l0 : List Int) : spec_EncodeDelta.F l0 = (spec_spCoded.F l0).bind fun t256 => (if t256 = true then ((spec_spEncode.F l0 true).bind fun bt257 => (some (bt257.1, bt257.2, true))) else (some (0, ([] : List Int), false))) := by
  refine Sup.unique (spec_EncodeDelta.F_sup l0) (Sup.congr (g' := fun k => (spec_spCoded.f k l0).bind fun t256 => (if t256 = true then ((spec_spEncode.f k l0 true).bind fun bt257 => (some (bt257.1, bt257.2, true))) else (some (0, ([] : List Int), false)))) (fun k => by first | rfl | simp only [spec_EncodeDelta.f]) ?_)
  repeat' first
    | (with_reducible exact spec_spCoded.F_sup _)
    | (with_reducible exact spec_spEncode.F_sup _ _)
    | (with_reducible refine Sup.ite ?_ ?_)
    | (with_reducible refine Sup.bind ?_ (fun _ => ?_))
    | (with_reducible exact Sup.const _)
    | exact spec_spCoded.F_sup _
    | exact spec_spEncode.F_sup _ _
    | exact Sup.const _
set_option maxHeartbeats 8000000 in
set_option maxRecDepth 100000 in
theorem spec_EncodeDelta.calls (k : Nat) (A0 : Option Addr) (c0 : Nat) (l0 : List Int) (r1 : Int) (r2 : List Int) (r3 : Bool) (w : World) (hr0 : Kd.C (Kd.int .i64) w A0 l0.length l0) (hc0 : l0.length ≤ c0) (h : spec_EncodeDelta.f k l0 = some (r1, r2, r3)) :
    Calls Try.prog 18 #[.slice A0 l0.length c0] w fun e w' => ∃ v1_ : Value, e = .returned (.tuple #[.agg #[.int .i64 r1, v1_], .bool r3]) ∧ Kd.R (Kd.int .i64) 3 w' w.heap.size (fun _ => True) v1_ r2 ∧ Below w.heap.size w w' := by
  have hu24 := Try.underlying24
  have HR0 := Aside0.mk hr0
  have HC0 := Aside0.mk hc0
  clear hr0 hc0
  have HB := Aside0.mk (Below.refl w.heap.size w)
  have H : ((spec_spCoded.f k l0).bind fun t256 => (if t256 = true then ((spec_spEncode.f k l0 true).bind fun bt257 => (some (bt257.1, bt257.2, true))) else (some (0, ([] : List Int), false)))) = some (r1, r2, r3) := h
  clear h
  replace H := Option.bind_eq_some_iff.mp H
  obtain ⟨t256, A20, H⟩ := H
  replace H : (if t256 = true then ((spec_spEncode.f k l0 true).bind fun bt257 => (some (bt257.1, bt257.2, true))) else (some (0, ([] : List Int), false))) = some (r1, r2, r3) := H
  have A2 := Aside0.mk A20
  clear A20
  by_cases c3 : t256 = true
  ·subst c3
   have H1 : ((spec_spEncode.f k l0 true).bind fun bt257 => (some (bt257.1, bt257.2, true))) = some (r1, r2, r3) := by rw [if_pos rfl] at H; exact H
   clear H
   have H := H1
   clear H1
   replace H := Option.bind_eq_some_iff.mp H
   obtain ⟨⟨t257, t258⟩, A40, H⟩ := H
   replace H : (some (t257, t258, true)) = some (r1, r2, r3) := H
   have A4 := Aside0.mk A40
   clear A40
   simp only [Option.some.injEq, Prod.mk.injEq] at H
   obtain ⟨rfl, rfl, rfl⟩ := H
   go_enter Try.func18, Try.ntmps18
   go_wp2_with (first | ((with_reducible refine gate_dst (N := 2) rfl ?_); refine bx_ 2 #[.int .i64 0, .slice none 0 0] 24 ?_; intro gb255 hg w5 hbox hb; have BK255 := Aside0.mk (hbox); have GW255 := Aside0.mk ((ge_ hg)); have GE255 := Aside0.mk ((ge_ hg)); replace HB := Aside0.mk (below_step hB_ hb); clear hb hbox hg) | ((with_reducible refine gate_callee (f := 44) rfl ?_); refine gl_ 5 Try.func44 #[.slice A0 l0.length c0] ?_; (with_reducible refine (spec_spCoded.calls k _ _ l0 true _ ?side1 ?side2 A2.out).mono ?_); (case side1 => exact kC_ HR0); (case side2 => exact HC0.out); rintro e w' ⟨rfl, ⟨nd, rfl⟩⟩; refine ⟨_, rfl, ?_⟩; (try (rw [drewN_self w5]; generalize hq_ : World.drewN w5 _ = w5; have n0_ : Aside0 (w5.heap[gb255]? = some (.cells #[.int .i64 0, .slice none 0 0] 24 (0, 0))) := ⟨by rw [← hq_]; exact (kB_ BK255)⟩; have n1_ : Aside0 (Below w.heap.size w w5) := ⟨by rw [← hq_]; exact hB_⟩; clear BK255 HB hq_; have BK255 := n0_; have HB := n1_; clear n0_ n1_))) | ((with_reducible refine gate_callee (f := 45) rfl ?_); refine gl_ 9 Try.func45 #[.slice A0 l0.length c0, .bool true] ?_; (with_reducible refine (spec_spEncode.calls k _ _ l0 true t257 t258 _ ?side1 ?side2 A4.out).mono ?_); (case side1 => exact kC_ HR0); (case side2 => exact HC0.out); rintro e w6 ⟨v259, rfl, ho0, hb⟩; refine ⟨_, rfl, ?_⟩; have HO260 := Aside0.mk (Kd.R_lower ho0 (below_size hB_)); replace BK255 := Aside0.mk (blk_below (kB_ BK255) hb); replace HB := Aside0.mk (below_step hB_ hb); (try clear hb); (try clear hb2); (try clear hk); (try clear hi); (try clear ho0); have hcz7_0 : w6.cell? ⟨gb255, 0, none⟩ = some (.int .i64 0) := (blk_cell BK255.out 0).trans rfl; have hcz7_1 : w6.cell? ⟨gb255, 1, none⟩ = some (.slice none 0 0) := (blk_cell BK255.out 1).trans rfl; have hfz7_0 := blk_frozen BK255.out 0; have hfz7_1 := blk_frozen BK255.out 1; obtain ⟨Ao8, co8, eo8⟩ := Kd.R_slice HO260.out; subst eo8))
   refine bodyPost_ret (results_ct rfl _ _ gb255 24 #[.int .i64 t257, .slice Ao8 t258.length co8] (0, 0) _ rfl (by (with_reducible repeat (first | refine blk_drewN ?_ _ | refine blk_drew ?_ | refine blk_alloc ?_ _)); refine blk_put (cs := #[.int .i64 t257, .slice none 0 0]) ?_ 1 _ rfl; (with_reducible repeat (first | refine blk_drewN ?_ _ | refine blk_drew ?_ | refine blk_alloc ?_ _)); refine blk_put (cs := #[.int .i64 0, .slice none 0 0]) ?_ 0 _ rfl; (with_reducible repeat (first | refine blk_drewN ?_ _ | refine blk_drew ?_ | refine blk_alloc ?_ _)); exact BK255.out) Try.underlying24 rfl (by kernel_rfl)) rfl ?_
   exact ⟨_, rf_, by (with_reducible repeat (first | apply Kd.R_alloc | apply Kd.R_drewN | apply Kd.R_drew)); exact Kd.R_mono (Kd.R_far (p := ⟨gb255, 1, none⟩) (Kd.R_far (p := ⟨gb255, 0, none⟩) (Kd.R_types HO260.out BK255.out (by decide)) (fun _ hk => hk.2) (.int .i64 t257)) (fun _ hk => hk.2) (.slice Ao8 t258.length co8)) (fun _ hk => trivial), hB_⟩
  ·replace c3 := Bool.eq_false_iff.mpr c3
   subst c3
   have H1 : (some (0, ([] : List Int), false)) = some (r1, r2, r3) := by rw [if_neg (show ¬ (false = true) by decide)] at H; exact H
   clear H
   have H := H1
   clear H1
   simp only [Option.some.injEq, Prod.mk.injEq] at H
   obtain ⟨rfl, rfl, rfl⟩ := H
   go_enter Try.func18, Try.ntmps18
   go_wp2_with (first | ((with_reducible refine gate_dst (N := 2) rfl ?_); refine bx_ 2 #[.int .i64 0, .slice none 0 0] 24 ?_; intro gb255 hg w9 hbox hb; have BK255 := Aside0.mk (hbox); have GW255 := Aside0.mk ((ge_ hg)); have GE255 := Aside0.mk ((ge_ hg)); replace HB := Aside0.mk (below_step hB_ hb); clear hb hbox hg) | ((with_reducible refine gate_callee (f := 44) rfl ?_); refine gl_ 5 Try.func44 #[.slice A0 l0.length c0] ?_; (with_reducible refine (spec_spCoded.calls k _ _ l0 false _ ?side1 ?side2 A2.out).mono ?_); (case side1 => exact kC_ HR0); (case side2 => exact HC0.out); rintro e w' ⟨rfl, ⟨nd, rfl⟩⟩; refine ⟨_, rfl, ?_⟩; (try (rw [drewN_self w9]; generalize hq_ : World.drewN w9 _ = w9; have n0_ : Aside0 (w9.heap[gb255]? = some (.cells #[.int .i64 0, .slice none 0 0] 24 (0, 0))) := ⟨by rw [← hq_]; exact (kB_ BK255)⟩; have n1_ : Aside0 (Below w.heap.size w w9) := ⟨by rw [← hq_]; exact hB_⟩; clear BK255 HB hq_; have BK255 := n0_; have HB := n1_; clear n0_ n1_)); have hcz10_0 : w9.cell? ⟨gb255, 0, none⟩ = some (.int .i64 0) := (blk_cell BK255.out 0).trans rfl; have hcz10_1 : w9.cell? ⟨gb255, 1, none⟩ = some (.slice none 0 0) := (blk_cell BK255.out 1).trans rfl; have hfz10_0 := blk_frozen BK255.out 0; have hfz10_1 := blk_frozen BK255.out 1))
   refine bodyPost_ret (results_ct rfl _ _ gb255 24 #[.int .i64 0, .slice none 0 0] (0, 0) _ rfl (by (with_reducible repeat (first | refine blk_drewN ?_ _ | refine blk_drew ?_ | refine blk_alloc ?_ _)); refine blk_put (cs := #[.int .i64 0, .slice none 0 0]) ?_ 1 _ rfl; (with_reducible repeat (first | refine blk_drewN ?_ _ | refine blk_drew ?_ | refine blk_alloc ?_ _)); refine blk_put (cs := #[.int .i64 0, .slice none 0 0]) ?_ 0 _ rfl; (with_reducible repeat (first | refine blk_drewN ?_ _ | refine blk_drew ?_ | refine blk_alloc ?_ _)); exact BK255.out) Try.underlying24 rfl (by kernel_rfl)) rfl ?_
   exact ⟨_, rf_, by first | exact Kd.R_nil _ _ _ _ _ | exact Kd.N_nil _ _ _ _ _ | exact Kd.V_nil _ _ _ _ _ | exact Kd.Q_nil _ _ _ _ _ | exact Kd.S_nil _ _ _ _ _, hB_⟩
/-! ### impl_coder_delta: function 48 -/
def impl_coder_delta.f (k : Nat) (l0 : List Bool) (a1 : Int) : Option (List Bool) := (impl_digits.f k a1).bind fun t1 => (impl_coder_gamma.f k l0 (wrap64 (t1 + 1))).bind fun t2 => (impl_coder_field.f k t2 a1 t1)
theorem impl_coder_delta.mono : ∀ a0 a1 k, LeO (impl_coder_delta.f k a0 a1) (impl_coder_delta.f (k + 1) a0 a1) := by
  intro a0 a1 k
  unfold impl_coder_delta.f
  repeat' first
      | (with_reducible exact impl_digits.mono _ _)
      | (with_reducible exact impl_coder_field.mono _ _ _ _)
      | (with_reducible exact impl_coder_gamma.mono _ _ _)
      | (with_reducible exact LeO.refl _)
      | (with_reducible exact LeO.none _)
      | (with_reducible refine LeO.ite ?_ ?_)
      | (with_reducible refine LeO.bind ?_ (fun _ => ?_))
      | exact impl_digits.mono _ _
      | exact impl_coder_field.mono _ _ _ _
      | exact impl_coder_gamma.mono _ _ _
      | exact LeO.none _
      | refine LeO.ite ?_ ?_
      | refine LeO.bind ?_ (fun _ => ?_)
noncomputable def impl_coder_delta.F (l0 : List Bool) (a1 : Int) : Option (List Bool) := lim fun k => impl_coder_delta.f k l0 a1
theorem impl_coder_delta.F_sup (l0 : List Bool) (a1 : Int) : Sup (fun k => impl_coder_delta.f k l0 a1) (impl_coder_delta.F l0 a1) := Sup.of_mono fun k => impl_coder_delta.mono l0 a1 k
theorem impl_coder_delta.F_eq (l0 : List Bool) (a1 : Int) : impl_coder_delta.F l0 a1 = (impl_digits.F a1).bind fun t1 => (impl_coder_gamma.F l0 (wrap64 (t1 + 1))).bind fun t2 => (impl_coder_field.F t2 a1 t1) := by
  refine Sup.unique (impl_coder_delta.F_sup l0 a1) (Sup.congr (g' := fun k => (impl_digits.f k a1).bind fun t1 => (impl_coder_gamma.f k l0 (wrap64 (t1 + 1))).bind fun t2 => (impl_coder_field.f k t2 a1 t1)) (fun k => by first | rfl | simp only [impl_coder_delta.f]) ?_)
  repeat' first
    | (with_reducible exact impl_digits.F_sup _)
    | (with_reducible exact impl_coder_field.F_sup _ _ _)
    | (with_reducible exact impl_coder_gamma.F_sup _ _)
    | (with_reducible refine Sup.ite ?_ ?_)
    | (with_reducible refine Sup.bind ?_ (fun _ => ?_))
    | (with_reducible exact Sup.const _)
    | exact impl_digits.F_sup _
    | exact impl_coder_field.F_sup _ _ _
    | exact impl_coder_gamma.F_sup _ _
    | exact Sup.const _
set_option maxHeartbeats 8000000 in
set_option maxRecDepth 100000 in
theorem impl_coder_delta.calls (k : Nat) (gb : Nat) (u0 : Value) (l0 : List Bool) (a1 : Int) (r : List Bool) (w0 w : World) (hB : Below w0.heap.size w0 w) (hg : w0.heap.size ≤ gb) (hb : w.heap[gb]? = some (.cells #[u0] 86 (0, 0))) (ho : Kd.R Kd.bool 4 w w0.heap.size (fun _ => True) u0 l0) (h : impl_coder_delta.f k l0 a1 = some r) :
    Calls Try.prog 48 #[.pointer (some ⟨gb, 0, none⟩), .int .i64 a1] w fun e w' => e = .returned (.tuple #[]) ∧ ∃ u1 : Value, w'.heap[gb]? = some (.cells #[u1] 86 (0, 0)) ∧ Kd.R Kd.bool 4 w' w0.heap.size (fun _ => True) u1 r ∧ Below w0.heap.size w0 w' := by
  have HO0 := Aside0.mk ho
  have BK0 := Aside0.mk hb
  have GE0 := Aside0.mk hg
  have HB := Aside0.mk hB
  clear ho hb hg hB
  replace h : ((impl_digits.f k a1).bind fun t1 => (impl_coder_gamma.f k l0 (wrap64 (t1 + 1))).bind fun t2 => (impl_coder_field.f k t2 a1 t1)) = some r := h
  obtain ⟨t1, A10, h⟩ := Option.bind_eq_some_iff.mp h
  obtain ⟨t2, A20, h⟩ := Option.bind_eq_some_iff.mp h
  have A1 := Aside0.mk A10
  have A2 := Aside0.mk A20
  have A3 := Aside0.mk h
  clear A10 A20 h
  go_enter Try.func48, Try.ntmps48
  go_wp2_with (first | ((with_reducible refine gate_callee (f := 61) rfl ?_); refine goesL_ (some 6) rfl rfl Try.func61 (by kernel_rfl) rfl #[.int .i64 a1] rfl (by (try simp only [List.map_toArray, List.map_cons, List.map_nil]); first | done | rfl) ?_; (with_reducible refine (impl_digits.calls k a1 t1 _ A1.out).mono ?_); rintro e w' ⟨rfl, ⟨nd, rfl⟩⟩; refine ⟨_, rfl, ?_⟩) | ((with_reducible refine gate_callee (f := 47) rfl ?_); refine goesL_ (some 10) rfl rfl Try.func47 (by kernel_rfl) rfl #[.pointer (some ⟨gb, 0, none⟩), .int .i64 (wrap64 (t1 + 1))] rfl (by (try simp only [List.map_toArray, List.map_cons, List.map_nil]); first | done | rfl) ?_; (with_reducible refine (impl_coder_gamma.calls k gb u0 l0 (wrap64 (t1 + 1)) t2 w0 _ ?side1 GE0.out ?side3 ?side4 A2.out).mono ?_); (case side1 => exact hB_); (case side3 => (with_reducible repeat (first | refine blk_drewN ?_ _ | refine blk_drew ?_ | refine blk_alloc ?_ _)); exact BK0.out); (case side4 => (with_reducible repeat (first | apply Kd.R_alloc | apply Kd.R_drewN | apply Kd.R_drew)); exact HO0.out); rintro e w5 ⟨rfl, u5_, hbk, hrr, hbb⟩; refine ⟨_, rfl, ?_⟩; clear HO0 BK0 HB; have HO0 := Aside0.mk hrr; have BK0 := Aside0.mk hbk; have HB := Aside0.mk hbb; clear hrr hbk hbb) | ((with_reducible refine gate_callee (f := 84) rfl ?_); refine goesL_ (some 14) rfl rfl Try.func84 (by kernel_rfl) rfl #[.pointer (some ⟨gb, 0, none⟩), .int .i64 a1, .int .i64 t1] rfl (by (try simp only [List.map_toArray, List.map_cons, List.map_nil]); first | done | rfl) ?_; (with_reducible refine (impl_coder_field.calls k gb u5_ t2 a1 t1 r w0 _ ?side1 GE0.out ?side3 ?side4 A3.out).mono ?_); (case side1 => exact hB_); (case side3 => (with_reducible repeat (first | refine blk_drewN ?_ _ | refine blk_drew ?_ | refine blk_alloc ?_ _)); exact BK0.out); (case side4 => (with_reducible repeat (first | apply Kd.R_alloc | apply Kd.R_drewN | apply Kd.R_drew)); exact HO0.out); rintro e w6 ⟨rfl, u6_, hbk, hrr, hbb⟩; refine ⟨_, rfl, ?_⟩; clear HO0 BK0 HB; have HO0 := Aside0.mk hrr; have BK0 := Aside0.mk hbk; have HB := Aside0.mk hbb; clear hrr hbk hbb))
  first | go_end0 | ((try simp only [Exit.inBlock, Exit.then]); refine bodyPost_ret (results_none rfl _ _ _) rfl ?_)
  exact ⟨rfl, _, BK0.out, HO0.out, HB.out⟩
/-! ### impl_encode_at_impl_coder_delta: function 131 -/
def impl_encode_at_impl_coder_delta.l0 : Nat → List Int → Int → List Bool → Option (Int × List Int × Bool)
  | 0, _, _, _ => none
  | k + 1, l0, x12, x6 => if x12 < (l0.length : Int) then (if 0 ≤ x12 then ((impl_in.f (rd l0 x12) 1 100000).bind fun t1 => (if t1 = true then (if (x6.length : Int) ≤ 4096 then ((impl_coder_delta.f k x6 (rd l0 x12)).bind fun t2 => (impl_encode_at_impl_coder_delta.l0 k l0 (wrap64 (x12 + 1)) t2)) else (impl_encode_at_impl_coder_delta.l0 k l0 (wrap64 (x12 + 1)) x6)) else (some (0, [], false)))) else (none)) else (if (l0.length : Int) > 60 then (some (0, [], false)) else ((impl_madeBits_at_impl_encode_1.f k (x6.length : Int) x6).bind fun bt => (some (bt.1, bt.2, true))))
def impl_encode_at_impl_coder_delta.f (k : Nat) (l0 : List Int) : Option (Int × List Int × Bool) := impl_encode_at_impl_coder_delta.l0 k l0 0 []
theorem impl_encode_at_impl_coder_delta.mono_l : ∀ k, (∀ y0 y1 y2, LeO (impl_encode_at_impl_coder_delta.l0 k y0 y1 y2) (impl_encode_at_impl_coder_delta.l0 (k + 1) y0 y1 y2))
  | 0 => fun _ _ _ r h => by simp [impl_encode_at_impl_coder_delta.l0] at h
  | k + 1 => by
    have ih0 := impl_encode_at_impl_coder_delta.mono_l k
    · intro y0 y1 y2
      unfold impl_encode_at_impl_coder_delta.l0
      repeat' first
      | (with_reducible exact ih0 _ _ _)
      | (with_reducible exact impl_coder_delta.mono _ _ _)
      | (with_reducible exact impl_madeBits_at_impl_encode_1.mono _ _ _)
      | (with_reducible exact LeO.refl _)
      | (with_reducible exact LeO.none _)
      | (with_reducible refine LeO.ite ?_ ?_)
      | (with_reducible refine LeO.bind ?_ (fun _ => ?_))
      | exact ih0 _ _ _
      | exact impl_coder_delta.mono _ _ _
      | exact impl_madeBits_at_impl_encode_1.mono _ _ _
      | exact LeO.none _
      | refine LeO.ite ?_ ?_
      | refine LeO.bind ?_ (fun _ => ?_)
theorem impl_encode_at_impl_coder_delta.mono : ∀ a0 k, LeO (impl_encode_at_impl_coder_delta.f k a0) (impl_encode_at_impl_coder_delta.f (k + 1) a0) := by
  intro a0 k
  have ih0 := impl_encode_at_impl_coder_delta.mono_l k
  unfold impl_encode_at_impl_coder_delta.f
  repeat' first
      | (with_reducible exact ih0 _ _ _)
      | (with_reducible exact impl_coder_delta.mono _ _ _)
      | (with_reducible exact impl_madeBits_at_impl_encode_1.mono _ _ _)
      | (with_reducible exact LeO.refl _)
      | (with_reducible exact LeO.none _)
      | (with_reducible refine LeO.ite ?_ ?_)
      | (with_reducible refine LeO.bind ?_ (fun _ => ?_))
      | exact ih0 _ _ _
      | exact impl_coder_delta.mono _ _ _
      | exact impl_madeBits_at_impl_encode_1.mono _ _ _
      | exact LeO.none _
      | refine LeO.ite ?_ ?_
      | refine LeO.bind ?_ (fun _ => ?_)
noncomputable def impl_encode_at_impl_coder_delta.L0 (y0 : List Int) (y1 : Int) (y2 : List Bool) : Option (Int × List Int × Bool) := lim fun k => impl_encode_at_impl_coder_delta.l0 k y0 y1 y2
theorem impl_encode_at_impl_coder_delta.L0_sup (y0 : List Int) (y1 : Int) (y2 : List Bool) : Sup (fun k => impl_encode_at_impl_coder_delta.l0 k y0 y1 y2) (impl_encode_at_impl_coder_delta.L0 y0 y1 y2) := Sup.of_mono fun k => impl_encode_at_impl_coder_delta.mono_l k y0 y1 y2
noncomputable def impl_encode_at_impl_coder_delta.F (l0 : List Int) : Option (Int × List Int × Bool) := lim fun k => impl_encode_at_impl_coder_delta.f k l0
theorem impl_encode_at_impl_coder_delta.F_sup (l0 : List Int) : Sup (fun k => impl_encode_at_impl_coder_delta.f k l0) (impl_encode_at_impl_coder_delta.F l0) := Sup.of_mono fun k => impl_encode_at_impl_coder_delta.mono l0 k
theorem impl_encode_at_impl_coder_delta.L0_eq (l0 : List Int) (x12 : Int) (x6 : List Bool) : impl_encode_at_impl_coder_delta.L0 l0 x12 x6 = if x12 < (l0.length : Int) then (if 0 ≤ x12 then ((impl_in.f (rd l0 x12) 1 100000).bind fun t1 => (if t1 = true then (if (x6.length : Int) ≤ 4096 then ((impl_coder_delta.F x6 (rd l0 x12)).bind fun t2 => (impl_encode_at_impl_coder_delta.L0 l0 (wrap64 (x12 + 1)) t2)) else (impl_encode_at_impl_coder_delta.L0 l0 (wrap64 (x12 + 1)) x6)) else (some (0, [], false)))) else (none)) else (if (l0.length : Int) > 60 then (some (0, [], false)) else ((impl_madeBits_at_impl_encode_1.F (x6.length : Int) x6).bind fun bt => (some (bt.1, bt.2, true)))) := by
  refine Sup.unique (impl_encode_at_impl_coder_delta.L0_sup l0 x12 x6) (Sup.shift (fun k => impl_encode_at_impl_coder_delta.mono_l k l0 x12 x6) (Sup.congr (g' := fun k => if x12 < (l0.length : Int) then (if 0 ≤ x12 then ((impl_in.f (rd l0 x12) 1 100000).bind fun t1 => (if t1 = true then (if (x6.length : Int) ≤ 4096 then ((impl_coder_delta.f k x6 (rd l0 x12)).bind fun t2 => (impl_encode_at_impl_coder_delta.l0 k l0 (wrap64 (x12 + 1)) t2)) else (impl_encode_at_impl_coder_delta.l0 k l0 (wrap64 (x12 + 1)) x6)) else (some (0, [], false)))) else (none)) else (if (l0.length : Int) > 60 then (some (0, [], false)) else ((impl_madeBits_at_impl_encode_1.f k (x6.length : Int) x6).bind fun bt => (some (bt.1, bt.2, true))))) (fun k => by first | rfl | simp only [impl_encode_at_impl_coder_delta.l0]) ?_))
  repeat' first
    | (with_reducible exact impl_encode_at_impl_coder_delta.L0_sup _ _ _)
    | (with_reducible exact impl_coder_delta.F_sup _ _)
    | (with_reducible exact impl_madeBits_at_impl_encode_1.F_sup _ _)
    | (with_reducible refine Sup.ite ?_ ?_)
    | (with_reducible refine Sup.bind ?_ (fun _ => ?_))
    | (with_reducible exact Sup.const _)
    | exact impl_encode_at_impl_coder_delta.L0_sup _ _ _
    | exact impl_coder_delta.F_sup _ _
    | exact impl_madeBits_at_impl_encode_1.F_sup _ _
    | exact Sup.const _
theorem impl_encode_at_impl_coder_delta.F_eq (l0 : List Int) : impl_encode_at_impl_coder_delta.F l0 = impl_encode_at_impl_coder_delta.L0 l0 0 [] := by
  refine Sup.unique (impl_encode_at_impl_coder_delta.F_sup l0) (Sup.congr (g' := fun k => impl_encode_at_impl_coder_delta.l0 k l0 0 []) (fun k => by first | rfl | simp only [impl_encode_at_impl_coder_delta.f]) ?_)
  repeat' first
    | (with_reducible exact impl_encode_at_impl_coder_delta.L0_sup _ _ _)
    | (with_reducible exact impl_coder_delta.F_sup _ _)
    | (with_reducible exact impl_madeBits_at_impl_encode_1.F_sup _ _)
    | (with_reducible refine Sup.ite ?_ ?_)
    | (with_reducible refine Sup.bind ?_ (fun _ => ?_))
    | (with_reducible exact Sup.const _)
    | exact impl_encode_at_impl_coder_delta.L0_sup _ _ _
    | exact impl_coder_delta.F_sup _ _
    | exact impl_madeBits_at_impl_encode_1.F_sup _ _
    | exact Sup.const _
set_option maxHeartbeats 8000000 in
set_option maxRecDepth 100000 in
theorem impl_encode_at_impl_coder_delta.calls (k : Nat) (A0 : Option Addr) (c0 : Nat) (l0 : List Int) (r1 : Int) (r2 : List Int) (r3 : Bool) (w : World) (hr0 : Kd.C (Kd.int .i64) w A0 l0.length l0) (hc0 : l0.length ≤ c0) (h : impl_encode_at_impl_coder_delta.f k l0 = some (r1, r2, r3)) :
    Calls Try.prog 46 #[.slice A0 l0.length c0, .func (.func 48) #[] #[]] w fun e w' => ∃ v1_ : Value, e = .returned (.tuple #[.agg #[.int .i64 r1, v1_], .bool r3]) ∧ Kd.R (Kd.int .i64) 3 w' w.heap.size (fun _ => True) v1_ r2 ∧ Below w.heap.size w w' := by
  have hu24 := Try.underlying24
  have hu80 := Try.underlying80
  have hu86 := Try.underlying86
  have HR0 := Aside0.mk hr0
  have HC0 := Aside0.mk hc0
  clear hr0 hc0
  have H' := Aside0.mk (show impl_encode_at_impl_coder_delta.l0 k l0 0 [] = some (r1, r2, r3) from h)
  clear h
  go_enter Try.func46, Try.ntmps46
  go_wp2_with (first | ((with_reducible refine gate_dst (N := 4) rfl ?_); refine bx_ 4 #[.int .i64 0, .slice none 0 0] 24 ?_; intro gb4 hg w5 hbox hb; have HBW := Aside0.mk hb; have BK4 := Aside0.mk hbox; have GE4 := Aside0.mk (show w.heap.size ≤ gb4 by rw [hg]; exact Nat.le_refl _); clear hb hbox hg) | ((with_reducible refine gate_dst (N := 6) rfl ?_); refine bx_ 6 #[.slice none 0 0] 86 ?_; intro gb6 hg w6 hbox hb; have HB := Aside0.mk hb; have BK6 := Aside0.mk hbox; have GE6 := Aside0.mk (show w5.heap.size ≤ gb6 by rw [hg]; exact Nat.le_refl _); have hcz6 : w6.cell? ⟨gb6, 0, none⟩ = some (.slice none 0 0) := (blk_cell hbox 0).trans rfl; have hfz6 := blk_frozen hbox 0; clear hb hbox hg))
  go_loopg [12] k (fun kq v12 w' => ∃ (u6 : Value) (x6 : List Bool) (x12 : Int), v12 = .int .i64 x12 ∧ Aside0 (impl_encode_at_impl_coder_delta.l0 kq l0 x12 x6 = some (r1, r2, r3)) ∧ Aside0 (kq ≤ k) ∧ Aside0 (Kd.R Kd.bool 4 w' w5.heap.size (fun _ => True) u6 x6) ∧ Aside0 (w'.heap[gb6]? = some (.cells #[u6] 86 (0, 0))) ∧ Aside0 (Below w5.heap.size w5 w'))
  case atStart => exact ⟨.slice none 0 0, [], 0, rfl, H', ⟨Nat.le_refl _⟩, ⟨Kd.R_nil _ _ _ _ _⟩, ⟨blk_put (cs := #[.slice none 0 0]) BK6.out 0 _ rfl⟩, ⟨below_set HB.out GE6.out⟩⟩
  case round =>
   clear H' BK6 HB
   clear hcz6 hfz6
   obtain ⟨u6, x6, x12, rfl, HA, HK1, HO6, BK6, HB⟩ := hrel
   have HBr := Aside0.mk (below_weaken HBW.out (below_size HBW.out) HB.out)
   cases gk with
   | zero => exact absurd HA.out (by simp [impl_encode_at_impl_coder_delta.l0])
   | succ k1 =>
    have H := HA.out
    clear HA
    simp only [impl_encode_at_impl_coder_delta.l0] at H
    obtain ⟨Ao6, co6, eo6⟩ := Kd.R_slice HO6.out
    subst eo6
    obtain ⟨_, hle6, hcc6⟩ := Kd.R_reads' HO6.out
    have HL6 := Aside0.mk hle6
    have HC6 := Aside0.mk hcc6
    clear hle6 hcc6
    have hcz0 : wr.cell? ⟨gb6, 0, none⟩ = some (.slice Ao6 x6.length co6) := (blk_cell BK6.out 0).trans rfl
    have hfz0 := blk_frozen BK6.out 0
    by_cases c3 : x12 < (l0.length : Int)
    ·rw [if_pos c3] at H
     have c3b0 : decide (x12 < (l0.length : Int)) = true := decide_eq_true c3
     by_cases c4 : 0 ≤ x12
     ·rw [if_pos c4] at H
      obtain ⟨ad7, e7, hx7⟩ := Kd.at_int HR0.out x12 c4 c3
      cases e7
      replace hx7 := (HBr.out.cell (World.block_lt_of_cell? w _ hx7)).trans hx7
      have p7 := eq_true c4
      have q7 := eq_true c3
      clear c3 c4
      obtain ⟨t1, A50, H⟩ := Option.bind_eq_some_iff.mp H
      have A5 := Aside0.mk A50
      clear A50
      cases t1 with
      | true =>
       rw [if_pos rfl] at H
       by_cases c6 : (x6.length : Int) ≤ 4096
       ·rw [if_pos c6] at H
        have c6b0 : decide ((x6.length : Int) ≤ 4096) = true := decide_eq_true c6
        clear c6
        obtain ⟨t2, A70, H⟩ := Option.bind_eq_some_iff.mp H
        have A7 := Aside0.mk A70
        clear A70
        have H' := Aside0.mk H
        clear H
        go_wp2_with (first | (go_at_call 58; (with_reducible refine (impl_in.calls (rd l0 x12) 1 100000 true _ A5.out).mono ?_); rintro e w' ⟨rfl, ⟨nd, rfl⟩⟩) | (go_at_call 48; (with_reducible refine (impl_coder_delta.calls k1 gb6 (.slice Ao6 x6.length co6) x6 (rd l0 x12) t2 w5 _ ?side1 GE6.out ?side3 ?side4 A7.out).mono ?_); (case side1 => exact hB_); (case side3 => (with_reducible repeat (first | refine blk_drewN ?_ _ | refine blk_drew ?_ | refine blk_alloc ?_ _)); exact BK6.out); (case side4 => (with_reducible repeat (first | apply Kd.R_alloc | apply Kd.R_drewN | apply Kd.R_drew)); exact HO6.out); rintro e w8 ⟨rfl, u8_, hbk, hrr, hbb⟩; clear HO6 BK6 HB; have HO6 := Aside0.mk hrr; have BK6 := Aside0.mk hbk; have HB := Aside0.mk hbb; clear hrr hbk hbb))
        go_roundg k1
        case measure => have := HK1.out; omega
        case rel => exact ⟨_, _, _, rfl, H', ⟨by have := HK1.out; omega⟩, HO6, BK6, HB⟩
       ·rw [if_neg c6] at H
        have c6b0 : decide ((x6.length : Int) ≤ 4096) = false := decide_eq_false c6
        clear c6
        have H' := Aside0.mk H
        clear H
        go_wp2_with (go_at_call 58; (with_reducible refine (impl_in.calls (rd l0 x12) 1 100000 true _ A5.out).mono ?_); rintro e w' ⟨rfl, ⟨nd, rfl⟩⟩)
        go_roundg k1
        case measure => have := HK1.out; omega
        case rel => exact ⟨_, _, _, rfl, H', ⟨by have := HK1.out; omega⟩, ⟨kR_ HO6⟩, ⟨kB_ BK6⟩, ⟨hB_⟩⟩
      | false =>
       rw [if_neg (by decide)] at H
       simp only [Option.some.injEq, Prod.mk.injEq] at H
       obtain ⟨rfl, rfl, rfl⟩ := H
       have BK4r := Aside0.mk (blk_below BK4.out HB.out)
       have hcy0 : wr.cell? ⟨gb4, 0, none⟩ = some (.int .i64 0) := (blk_cell BK4r.out 0).trans rfl
       have hcy1 : wr.cell? ⟨gb4, 1, none⟩ = some (.slice none 0 0) := (blk_cell BK4r.out 1).trans rfl
       have hfy0 := blk_frozen BK4r.out 0
       have hfy1 := blk_frozen BK4r.out 1
       go_wp2_with (go_at_call 58; (with_reducible refine (impl_in.calls (rd l0 x12) 1 100000 false _ A5.out).mono ?_); rintro e w' ⟨rfl, ⟨nd, rfl⟩⟩)
       refine bodyPost_ret (results_ct rfl _ _ gb4 24 #[.int .i64 0, .slice none 0 0] (0, 0) _ rfl (by (with_reducible repeat (first | refine blk_drewN ?_ _ | refine blk_drew ?_ | refine blk_alloc ?_ _)); refine blk_put (cs := #[.int .i64 0, .slice none 0 0]) ?_ 1 _ rfl; (with_reducible repeat (first | refine blk_drewN ?_ _ | refine blk_drew ?_ | refine blk_alloc ?_ _)); refine blk_put (cs := #[.int .i64 0, .slice none 0 0]) ?_ 0 _ rfl; (with_reducible repeat (first | refine blk_drewN ?_ _ | refine blk_drew ?_ | refine blk_alloc ?_ _)); exact BK4r.out) Try.underlying24 rfl (by kernel_rfl)) rfl ?_
       exact ⟨_, rfl, Kd.R_nil _ _ _ _ _, (by repeat (first | (with_reducible first | exact HBr.out | apply below_alloc | apply pw_below_drewN | apply below_drew1 | refine below_set ?_ GE4.out) | exact HBr.out))⟩
     ·rw [if_neg c4] at H
      exact absurd H (by simp)
    ·rw [if_neg c3] at H
     have c3b0 : decide (x12 < (l0.length : Int)) = false := decide_eq_false c3
     clear c3
     by_cases c8 : (l0.length : Int) > 60
     ·rw [if_pos c8] at H
      have c8b0 : decide (60 < (l0.length : Int)) = true := decide_eq_true c8
      clear c8
      simp only [Option.some.injEq, Prod.mk.injEq] at H
      obtain ⟨rfl, rfl, rfl⟩ := H
      have BK4r := Aside0.mk (blk_below BK4.out HB.out)
      have hcy0 : wr.cell? ⟨gb4, 0, none⟩ = some (.int .i64 0) := (blk_cell BK4r.out 0).trans rfl
      have hcy1 : wr.cell? ⟨gb4, 1, none⟩ = some (.slice none 0 0) := (blk_cell BK4r.out 1).trans rfl
      have hfy0 := blk_frozen BK4r.out 0
      have hfy1 := blk_frozen BK4r.out 1
      go_wp2
      refine bodyPost_ret (results_ct rfl _ _ gb4 24 #[.int .i64 0, .slice none 0 0] (0, 0) _ rfl (by (with_reducible repeat (first | refine blk_drewN ?_ _ | refine blk_drew ?_ | refine blk_alloc ?_ _)); refine blk_put (cs := #[.int .i64 0, .slice none 0 0]) ?_ 1 _ rfl; (with_reducible repeat (first | refine blk_drewN ?_ _ | refine blk_drew ?_ | refine blk_alloc ?_ _)); refine blk_put (cs := #[.int .i64 0, .slice none 0 0]) ?_ 0 _ rfl; (with_reducible repeat (first | refine blk_drewN ?_ _ | refine blk_drew ?_ | refine blk_alloc ?_ _)); exact BK4r.out) Try.underlying24 rfl (by kernel_rfl)) rfl ?_
      exact ⟨_, rfl, Kd.R_nil _ _ _ _ _, (by repeat (first | (with_reducible first | exact HBr.out | apply below_alloc | apply pw_below_drewN | apply below_drew1 | refine below_set ?_ GE4.out) | exact HBr.out))⟩
     ·rw [if_neg c8] at H
      have c8b0 : decide (60 < (l0.length : Int)) = false := decide_eq_false c8
      clear c8
      obtain ⟨⟨t3, t4⟩, A90, H⟩ := Option.bind_eq_some_iff.mp H
      have A9 := Aside0.mk A90
      clear A90
      simp only [Option.some.injEq, Prod.mk.injEq] at H
      obtain ⟨rfl, rfl, rfl⟩ := H
      have BK4r := Aside0.mk (blk_below BK4.out HB.out)
      have hcy0 : wr.cell? ⟨gb4, 0, none⟩ = some (.int .i64 0) := (blk_cell BK4r.out 0).trans rfl
      have hcy1 : wr.cell? ⟨gb4, 1, none⟩ = some (.slice none 0 0) := (blk_cell BK4r.out 1).trans rfl
      have hfy0 := blk_frozen BK4r.out 0
      have hfy1 := blk_frozen BK4r.out 1
      go_wp2_with ((with_reducible refine gate_callee (f := 82) rfl ?_); refine goesL_ (some 36) rfl rfl Try.func82 (by kernel_rfl) rfl #[.int .i64 (x6.length : Int), .func (.func 83) #[] #[.pointer (some ⟨gb6, 0, none⟩)]] rfl (by (try simp only [List.map_toArray, List.map_cons, List.map_nil]); first | done | rfl) ?_; (with_reducible refine (impl_madeBits_at_impl_encode_1.calls k1 (x6.length : Int) gb6 Ao6 co6 x6 t3 t4 _ ?side1 HL6.out ?side3 A9.out).mono ?_); (case side1 => repeat (first | exact HC6.out | (with_reducible refine Kd.C_alloc ?_ _) | (with_reducible refine Kd.C_drewN ?_ _) | (with_reducible refine Kd.C_drew ?_))); (case side3 => (with_reducible repeat (first | refine blk_drewN ?_ _ | refine blk_drew ?_ | refine blk_alloc ?_ _)); exact BK6.out); rintro e w9 ⟨v9, rfl, ho9, hb9⟩; refine ⟨_, rfl, ?_⟩; have HO9 := Aside0.mk ho9; have HB9 := Aside0.mk hb9; obtain ⟨Ao9, co9, eo9⟩ := Kd.R_slice ho9; subst eo9; have BK4s := Aside0.mk (blk_below BK4r.out hb9); have hcx0 : w9.cell? ⟨gb4, 0, none⟩ = some (.int .i64 0) := (blk_cell BK4s.out 0).trans rfl; have hcx1 : w9.cell? ⟨gb4, 1, none⟩ = some (.slice none 0 0) := (blk_cell BK4s.out 1).trans rfl; have hfx0 := blk_frozen BK4s.out 0; have hfx1 := blk_frozen BK4s.out 1; clear ho9 hb9)
      refine bodyPost_ret (results_ct rfl _ _ gb4 24 #[.int .i64 t3, .slice Ao9 t4.length co9] (0, 0) _ rfl (by (with_reducible repeat (first | refine blk_drewN ?_ _ | refine blk_drew ?_ | refine blk_alloc ?_ _)); refine blk_put (cs := #[.int .i64 t3, .slice none 0 0]) ?_ 1 _ rfl; (with_reducible repeat (first | refine blk_drewN ?_ _ | refine blk_drew ?_ | refine blk_alloc ?_ _)); refine blk_put (cs := #[.int .i64 0, .slice none 0 0]) ?_ 0 _ rfl; (with_reducible repeat (first | refine blk_drewN ?_ _ | refine blk_drew ?_ | refine blk_alloc ?_ _)); exact BK4s.out) Try.underlying24 rfl (by kernel_rfl)) rfl ?_
      exact ⟨_, rfl, Kd.R_mono (Kd.R_far (p := ⟨gb4, 1, none⟩) (Kd.R_far (p := ⟨gb4, 0, none⟩) (Kd.R_types (Kd.R_lower HO9.out (below_size HBr.out)) BK4s.out (by decide)) (fun _ hk => hk.2) _) (fun _ hk => hk.2) _) (fun _ _ => trivial), below_set (below_set (below_step HBr.out HB9.out) GE4.out) GE4.out⟩
end Go.Proofs.Ytkechjheiakibaa.X
