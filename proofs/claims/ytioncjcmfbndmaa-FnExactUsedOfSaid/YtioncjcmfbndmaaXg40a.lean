/- Written by a program of this session: what functions of the given program compute, and that their calls do so. -/
import Derived.Test.YtioncjcmfbndmaaXx0
import Derived.Test.YtioncjcmfbndmaaXg840a
import Derived.Test.YtioncjcmfbndmaaXg8c8a
namespace Go.Proofs.Ytioncjcmfbndmaa.X
open Go.RowKit Go.Proofs.YtioncjcmfbndmaaW.PrintWords Go.Proofs.YtioncjcmfbndmaaW.PrintLast Go.Proofs.YtioncjcmfbndmaaW.PrintMore
attribute [local go_sem] max2_int min2_int max_two min_two max_three min_three max_four min_four   -- for this text's walks alone
set_option linter.unusedVariables false
set_option linter.unusedSimpArgs false
/-! ### spec_biPut: function 134 -/
def spec_biPut.l0 : Nat → List Bool → Int → Int → Int → Int → Option (List Bool)
  | 0, _, _, _, _, _ => none
  | k + 1, x0, x1, x2, x3, x8 => if x8 < x2 then (if 0 ≤ x8 then (if 0 ≤ (wrap64 (x1 + x8)) then (if (wrap64 (x1 + x8)) < (x0.length : Int) then (spec_biPut.l0 k (x0.set ((wrap64 (x1 + x8)) : Int).toNat ((Go.bits .and .i64 (shr .i64 x3 x8) 1) == 1)) x1 x2 x3 (wrap64 (x8 + 1))) else (none)) else (none)) else (none)) else (some x0)
def spec_biPut.f (k : Nat) (l0 : List Bool) (a1 : Int) (a2 : Int) (a3 : Int) : Option (List Bool) := spec_biPut.l0 k l0 a1 a2 a3 0
theorem spec_biPut.mono_l : ∀ k, (∀ y0 y1 y2 y3 y4, LeO (spec_biPut.l0 k y0 y1 y2 y3 y4) (spec_biPut.l0 (k + 1) y0 y1 y2 y3 y4))
  | 0 => fun _ _ _ _ _ r h => by simp [spec_biPut.l0] at h
  | k + 1 => by
    have ih0 := spec_biPut.mono_l k
    · intro y0 y1 y2 y3 y4
      unfold spec_biPut.l0
      repeat' first
      | (with_reducible exact ih0 _ _ _ _ _)
      | (with_reducible exact LeO.refl _)
      | (with_reducible exact LeO.none _)
      | (with_reducible refine LeO.ite ?_ ?_)
      | (with_reducible refine LeO.bind ?_ (fun _ => ?_))
      | exact ih0 _ _ _ _ _
      | exact LeO.none _
      | refine LeO.ite ?_ ?_
      | refine LeO.bind ?_ (fun _ => ?_)
theorem spec_biPut.mono : ∀ a0 a1 a2 a3 k, LeO (spec_biPut.f k a0 a1 a2 a3) (spec_biPut.f (k + 1) a0 a1 a2 a3) := by
  intro a0 a1 a2 a3 k
  have ih0 := spec_biPut.mono_l k
  unfold spec_biPut.f
  repeat' first
      | (with_reducible exact ih0 _ _ _ _ _)
      | (with_reducible exact LeO.refl _)
      | (with_reducible exact LeO.none _)
      | (with_reducible refine LeO.ite ?_ ?_)
      | (with_reducible refine LeO.bind ?_ (fun _ => ?_))
      | exact ih0 _ _ _ _ _
      | exact LeO.none _
      | refine LeO.ite ?_ ?_
      | refine LeO.bind ?_ (fun _ => ?_)
noncomputable def spec_biPut.L0 (y0 : List Bool) (y1 : Int) (y2 : Int) (y3 : Int) (y4 : Int) : Option (List Bool) := lim fun k => spec_biPut.l0 k y0 y1 y2 y3 y4
theorem spec_biPut.L0_sup (y0 : List Bool) (y1 : Int) (y2 : Int) (y3 : Int) (y4 : Int) : Sup (fun k => spec_biPut.l0 k y0 y1 y2 y3 y4) (spec_biPut.L0 y0 y1 y2 y3 y4) := Sup.of_mono fun k => spec_biPut.mono_l k y0 y1 y2 y3 y4
noncomputable def spec_biPut.F (l0 : List Bool) (a1 : Int) (a2 : Int) (a3 : Int) : Option (List Bool) := lim fun k => spec_biPut.f k l0 a1 a2 a3
theorem spec_biPut.F_sup (l0 : List Bool) (a1 : Int) (a2 : Int) (a3 : Int) : Sup (fun k => spec_biPut.f k l0 a1 a2 a3) (spec_biPut.F l0 a1 a2 a3) := Sup.of_mono fun k => spec_biPut.mono l0 a1 a2 a3 k
theorem spec_biPut.L0_eq (x0 : List Bool) (x1 : Int) (x2 : Int) (x3 : Int) (x8 : Int) : spec_biPut.L0 x0 x1 x2 x3 x8 = if x8 < x2 then (if 0 ≤ x8 then (if 0 ≤ (wrap64 (x1 + x8)) then (if (wrap64 (x1 + x8)) < (x0.length : Int) then (spec_biPut.L0 (x0.set ((wrap64 (x1 + x8)) : Int).toNat ((Go.bits .and .i64 (shr .i64 x3 x8) 1) == 1)) x1 x2 x3 (wrap64 (x8 + 1))) else (none)) else (none)) else (none)) else (some x0) := by
  refine Sup.unique (spec_biPut.L0_sup x0 x1 x2 x3 x8) (Sup.shift (fun k => spec_biPut.mono_l k x0 x1 x2 x3 x8) (Sup.congr (g' := fun k => if x8 < x2 then (if 0 ≤ x8 then (if 0 ≤ (wrap64 (x1 + x8)) then (if (wrap64 (x1 + x8)) < (x0.length : Int) then (spec_biPut.l0 k (x0.set ((wrap64 (x1 + x8)) : Int).toNat ((Go.bits .and .i64 (shr .i64 x3 x8) 1) == 1)) x1 x2 x3 (wrap64 (x8 + 1))) else (none)) else (none)) else (none)) else (some x0)) (fun k => by first | rfl | simp only [spec_biPut.l0]) ?_))
  repeat' first
    | (with_reducible exact spec_biPut.L0_sup _ _ _ _ _)
    | (with_reducible refine Sup.ite ?_ ?_)
    | (with_reducible refine Sup.bind ?_ (fun _ => ?_))
    | (with_reducible exact Sup.const _)
    | exact spec_biPut.L0_sup _ _ _ _ _
    | exact Sup.const _
theorem spec_biPut.F_eq (l0 : List Bool) (a1 : Int) (a2 : Int) (a3 : Int) : spec_biPut.F l0 a1 a2 a3 = spec_biPut.L0 l0 a1 a2 a3 0 := by
  refine Sup.unique (spec_biPut.F_sup l0 a1 a2 a3) (Sup.congr (g' := fun k => spec_biPut.l0 k l0 a1 a2 a3 0) (fun k => by first | rfl | simp only [spec_biPut.f]) ?_)
  repeat' first
    | (with_reducible exact spec_biPut.L0_sup _ _ _ _ _)
    | (with_reducible refine Sup.ite ?_ ?_)
    | (with_reducible refine Sup.bind ?_ (fun _ => ?_))
    | (with_reducible exact Sup.const _)
    | exact spec_biPut.L0_sup _ _ _ _ _
    | exact Sup.const _
set_option maxHeartbeats 8000000 in
set_option maxRecDepth 100000 in
theorem spec_biPut.calls (k : Nat) (P0_ : Nat → Prop) (u9000_ : Value) (l0 : List Bool) (a1 : Int) (a2 : Int) (a3 : Int) (r : List Bool) (w0 w : World) (hB : Below w0.heap.size w0 w) (ho0 : Kd.R Kd.bool 4 w w0.heap.size P0_ u9000_ l0) (h : spec_biPut.f k l0 a1 a2 a3 = some r) :
    Calls Try.prog 134 #[u9000_, .int .i64 a1, .int .i64 a2, .int .i64 a3] w fun e w' => e = .returned (.tuple #[]) ∧ Kd.R Kd.bool 4 w' w0.heap.size (fun k_ => (P0_ k_ ∨ w.heap.size ≤ k_)) u9000_ r ∧ Below w0.heap.size w0 w' ∧ Kept w w' (fun k_ => P0_ k_) := by
  have HO0 := Aside0.mk (show Kd.R Kd.bool 4 w w0.heap.size (fun k_ => (P0_ k_ ∨ w.heap.size ≤ k_)) u9000_ l0 from Kd.R_mono ho0 (fun k_ hk => (.inl hk)))
  have HK := Aside0.mk (Kept.refl w (fun k_ => P0_ k_))
  have HW0 := Aside0.mk hB.size
  have HB := Aside0.mk hB
  clear hB
  have H : (spec_biPut.l0 k l0 a1 a2 a3 0) = some r := h
  clear h
  have H' := Aside0.mk H
  clear H
  go_enter Try.func134, Try.ntmps134
  go_wp2
  go_loopg [8] k (fun kq v8 w' => ∃ (x0_1 : List Bool) (x8_1 : Int), v8 = .int .i64 x8_1 ∧ Aside0 (spec_biPut.l0 kq x0_1 a1 a2 a3 x8_1 = some r) ∧ Aside0 (kq ≤ k) ∧ Aside0 (Kd.R Kd.bool 4 w' w0.heap.size (fun k_ => (P0_ k_ ∨ w.heap.size ≤ k_)) u9000_ x0_1) ∧ Aside0 (Kept w w' (fun k_ => P0_ k_)) ∧ Aside0 (Below w0.heap.size w0 w'))
  case atStart => exact ⟨(l0), (0), (by first | rfl | (simp; done) | (simp [*]; done)), H', ⟨Nat.le_refl _⟩, ⟨by (with_reducible repeat (first | apply Kd.R_alloc | apply Kd.R_drewN | apply Kd.R_drew)); exact HO0.out⟩, ⟨by repeat (first | (with_reducible first | exact HK.out | apply Kept.alloc | apply Kept.drewN | apply Kept.drew) | exact HK.out)⟩, ⟨by repeat (first | (with_reducible first | exact HB.out | apply below_alloc | apply pw_below_drewN | apply below_drew1) | exact HB.out)⟩⟩
  case round =>
   clear H'
   try clear c1
   try clear p2
   obtain ⟨x0_1, x8_1, rfl, HA, HK1, HO_0, HK, HB⟩ := hrel
   cases gk with
   | zero => exact absurd HA.out (by simp [spec_biPut.l0])
   | succ k1 =>
    have H := HA.out
    clear HA
    simp only [spec_biPut.l0] at H
    by_cases c5 : x8_1 < a2
    ·rw [if_pos c5] at H
     have c5b0 : decide (x8_1 < a2) = true := decide_eq_true c5
     clear c5
     by_cases c6 : 0 ≤ x8_1
     ·rw [if_pos c6] at H
      have c6b0 := eq_true c6
      have c6b1 : decide (0 ≤ x8_1) = true := decide_eq_true c6
      clear c6
      obtain ⟨ji7, hji7⟩ : ∃ j_ : Int, (shr .i64 a3 x8_1) = j_ := ⟨_, rfl⟩
      replace H : (if 0 ≤ (wrap64 (a1 + x8_1)) then (if (wrap64 (a1 + x8_1)) < (x0_1.length : Int) then (spec_biPut.l0 k1 (x0_1.set ((wrap64 (a1 + x8_1)) : Int).toNat ((Go.bits .and .i64 (ji7) 1) == 1)) a1 a2 a3 (wrap64 (x8_1 + 1))) else (none)) else (none)) = some r := by first | (rw [hji7] at H; exact H) | (simp only [hji7] at H ⊢; exact H)
      have hji7_ : (a3 / 2 ^ min x8_1.toNat 64) = ji7 := hji7
      have hji7z : x8_1 ≤ 64 → (a3 / 2 ^ x8_1.toNat) = ji7 := shr_small hji7
      obtain ⟨ji8, hji8⟩ : ∃ j_ : Int, (wrap64 (a1 + x8_1)) = j_ := ⟨_, rfl⟩
      replace H : (if 0 ≤ (ji8) then (if (ji8) < (x0_1.length : Int) then (spec_biPut.l0 k1 (x0_1.set ((ji8) : Int).toNat ((Go.bits .and .i64 (ji7) 1) == 1)) a1 a2 a3 (wrap64 (x8_1 + 1))) else (none)) else (none)) = some r := by first | (rw [hji8] at H; exact H) | (simp only [hji8] at H ⊢; exact H)
      have hji8w : (IntKind.i64.wrap (a1 + x8_1)) = ji8 := (i64_w _).trans hji8
      by_cases c9 : 0 ≤ (ji8)
      ·rw [if_pos c9] at H
       have c9b0 : decide (0 ≤ (ji8)) = true := decide_eq_true c9
       clear c9
       by_cases c10 : (ji8) < (x0_1.length : Int)
       ·rw [if_pos c10] at H
        have c10b0 : decide ((ji8) < (x0_1.length : Int)) = true := decide_eq_true c10
        clear c10
        obtain ⟨y575, hy575⟩ : ∃ y_ : List Bool, y_ = (x0_1.set ((ji8) : Int).toNat ((Go.bits .and .i64 (ji7) 1) == 1)) := ⟨_, rfl⟩
        replace H : (spec_biPut.l0 k1 y575 a1 a2 a3 (wrap64 (x8_1 + 1))) = some r := by first | (rw [hy575]; with_reducible exact H) | (have H2_ := (Option.bind_some _ _).symm.trans H; rw [hy575]; with_reducible exact H2_) | (have H2_ := (Option.bind_some _ _).symm.trans H; with_reducible exact H2_) | with_reducible exact H | (rw [hy575]; exact H) | exact H
        have Ny575 := Aside0.mk hy575
        clear hy575
        have H' := Aside0.mk H
        clear H
        have p11 : 0 ≤ ((ji8) : Int) := of_decide_eq_true (by first | (with_reducible assumption) | assumption)
        have q11 : ((ji8) : Int) < ((x0_1.length : Int) : Int) := of_decide_eq_true (by first | (with_reducible assumption) | assumption)
        obtain ⟨go11, co11, eo11, gb11, gl11, cl11, HG11⟩ := Kd.R_form HO_0.out (by omega)
        (first | cases eo11 | (injection eo11 with ea_ en_ ec_; (first | subst ea_ | (injection ea_ with ea_; subst ea_)); subst ec_; clear en_))
        have GB11 := Aside0.mk gb11
        have GG11 := Aside0.mk HG11
        clear gb11 gl11 HG11
        have HMgo11 := Aside0.mk (show (P0_ go11 ∨ w.heap.size ≤ go11) from (HO_0.out.1 _ rfl))
        obtain ⟨hx11_0, hf11_0⟩ := Kd.R_celln false HO_0.out ((ji8) : Int) p11 q11
        replace p11 := eq_true p11
        replace q11 := eq_true q11
        have HP12 := Kd.R_putg HO_0.out ((ji8) : Int) ((Go.bits .and .i64 (ji7) 1) == 1)
        go_wp2_with (first | ((with_reducible refine gate_store (t := 4) (p := 23) rfl ?_); refine store_event (t := 4) (p := 23) (v := ?vo_w13) (w1 := (wr.setCell ⟨go11, ((ji8) : Int).toNat, none⟩ (.bool ((Go.bits .and .i64 (ji7) 1) == 1)))) ?hg ?ho ?hn ?hr ?_; (case ho => rfl); (case hg => rfl); (case hn => rfl); (case hr => first | (go_simp; done) | (go_simp; rfl)); intro w13 hw; have hg : wr.grownBy w13 (some go11) := (by rw [hw]; exact HP12.2); have hp_ : Kd.R Kd.bool 4 w13 w0.heap.size (fun k_ => (P0_ k_ ∨ w.heap.size ≤ k_)) (.slice (some ⟨go11, 0, none⟩) x0_1.length co11) y575 := (by rw [hw, Ny575.out]; exact HP12.1); clear HP12; have n0_ := Aside0.mk (hp_); have n1_ := Aside0.mk ((by rw [hw]; exact below_set (HB.out) GB11.out : Below w0.heap.size w0 w13)); have n2_ := Aside0.mk (Kept.of_grown (S := (fun k_ => P0_ k_)) hg (by repeat (first | (with_reducible first | exact HK.out | apply Kept.alloc | apply Kept.drewN | apply Kept.drew) | exact HK.out)) (fun k_ e_ => (HO_0.out.1 k_ e_))); clear HO_0; clear HB; clear HK; have HO_0 := n0_; have HB := n1_; have HK := n2_; clear n0_ n1_ n2_; clear hg hw hp_))
        go_roundg k1
        case measure => have := HK1.out; omega
        case rel => exact ⟨(y575), (wrap64 (x8_1 + 1)), (by first | rfl | (simp; done) | (simp [*]; done)), H', ⟨by have := HK1.out; omega⟩, ⟨by (with_reducible repeat (first | apply Kd.R_alloc | apply Kd.R_drewN | apply Kd.R_drew)); exact HO_0.out⟩, ⟨by repeat (first | (with_reducible first | exact HK.out | apply Kept.alloc | apply Kept.drewN | apply Kept.drew) | exact HK.out)⟩, ⟨by repeat (first | (with_reducible first | exact HB.out | apply below_alloc | apply pw_below_drewN | apply below_drew1) | exact HB.out)⟩⟩
       ·rw [if_neg c10] at H
        exact absurd H (by simp)
      ·rw [if_neg c9] at H
       exact absurd H (by simp)
     ·rw [if_neg c6] at H
      exact absurd H (by simp)
    ·rw [if_neg c5] at H
     have c5b0 : decide (x8_1 < a2) = false := decide_eq_false c5
     clear c5
     obtain rfl := Option.some.inj H
     go_wp2
     first | go_end0 | ((try simp only [Exit.inBlock, Exit.then]); refine bodyPost_ret (results_none rfl _ _ _) rfl ?_)
     exact ⟨by first | rfl | (simp [errW_none, errW_some] <;> rfl) | (simp [*, errW_none, errW_some] <;> rfl), by (with_reducible repeat (first | apply Kd.R_alloc | apply Kd.R_drewN | apply Kd.R_drew)); exact HO_0.out, by repeat (first | (with_reducible first | exact HB.out | apply below_alloc | apply pw_below_drewN | apply below_drew1) | exact HB.out), by repeat (first | (with_reducible first | exact HK.out | apply Kept.alloc | apply Kept.drewN | apply Kept.drew) | exact HK.out)⟩
/-! ### spec_pfPack: function 105 -/
def spec_pfPack.l0 : Nat → List Bool → List Int → Int → Int → Option (Int × List Int)
  | 0, _, _, _, _ => none
  | k + 1, x3, x10, x11, x12 => if x12 < x11 then (if 0 ≤ x12 then (if x12 < (x10.length : Int) then ((spec_biPut.f k x3 (wrap64 (2 * x12)) 2 (rd x10 x12)).bind fun t581 => (spec_pfPack.l0 k t581 x10 x11 (wrap64 (x12 + 1)))) else (none)) else (none)) else ((spec_biSome.f k x3).bind fun bt582 => (some (bt582.1, bt582.2)))
def spec_pfPack.f (k : Nat) (l0 : List Int) : Option (Int × List Int) := if 0 ≤ (wrap64 (2 * (l0.length : Int))) then (if (wrap64 (2 * (l0.length : Int)) : Int).toNat ≤ 281474976710656 then (spec_pfPack.l0 k (List.replicate (wrap64 (2 * (l0.length : Int)) : Int).toNat false) l0 (l0.length : Int) 0) else (none)) else (none)
theorem spec_pfPack.mono_l : ∀ k, (∀ y0 y1 y2 y3, LeO (spec_pfPack.l0 k y0 y1 y2 y3) (spec_pfPack.l0 (k + 1) y0 y1 y2 y3))
  | 0 => fun _ _ _ _ r h => by simp [spec_pfPack.l0] at h
  | k + 1 => by
    have ih0 := spec_pfPack.mono_l k
    · intro y0 y1 y2 y3
      unfold spec_pfPack.l0
      repeat' first
      | (with_reducible exact ih0 _ _ _ _)
      | (with_reducible exact spec_biPut.mono _ _ _ _ _)
      | (with_reducible exact spec_biSome.mono _ _)
      | (with_reducible exact LeO.refl _)
      | (with_reducible exact LeO.none _)
      | (with_reducible refine LeO.ite ?_ ?_)
      | (with_reducible refine LeO.bind ?_ (fun _ => ?_))
      | exact ih0 _ _ _ _
      | exact spec_biPut.mono _ _ _ _ _
      | exact spec_biSome.mono _ _
      | exact LeO.none _
      | refine LeO.ite ?_ ?_
      | refine LeO.bind ?_ (fun _ => ?_)
theorem spec_pfPack.mono : ∀ a0 k, LeO (spec_pfPack.f k a0) (spec_pfPack.f (k + 1) a0) := by
  intro a0 k
  have ih0 := spec_pfPack.mono_l k
  unfold spec_pfPack.f
  repeat' first
      | (with_reducible exact ih0 _ _ _ _)
      | (with_reducible exact spec_biPut.mono _ _ _ _ _)
      | (with_reducible exact spec_biSome.mono _ _)
      | (with_reducible exact LeO.refl _)
      | (with_reducible exact LeO.none _)
      | (with_reducible refine LeO.ite ?_ ?_)
      | (with_reducible refine LeO.bind ?_ (fun _ => ?_))
      | exact ih0 _ _ _ _
      | exact spec_biPut.mono _ _ _ _ _
      | exact spec_biSome.mono _ _
      | exact LeO.none _
      | refine LeO.ite ?_ ?_
      | refine LeO.bind ?_ (fun _ => ?_)
noncomputable def spec_pfPack.L0 (y0 : List Bool) (y1 : List Int) (y2 : Int) (y3 : Int) : Option (Int × List Int) := lim fun k => spec_pfPack.l0 k y0 y1 y2 y3
theorem spec_pfPack.L0_sup (y0 : List Bool) (y1 : List Int) (y2 : Int) (y3 : Int) : Sup (fun k => spec_pfPack.l0 k y0 y1 y2 y3) (spec_pfPack.L0 y0 y1 y2 y3) := Sup.of_mono fun k => spec_pfPack.mono_l k y0 y1 y2 y3
noncomputable def spec_pfPack.F (l0 : List Int) : Option (Int × List Int) := lim fun k => spec_pfPack.f k l0
theorem spec_pfPack.F_sup (l0 : List Int) : Sup (fun k => spec_pfPack.f k l0) (spec_pfPack.F l0) := Sup.of_mono fun k => spec_pfPack.mono l0 k
theorem spec_pfPack.L0_eq (x3 : List Bool) (x10 : List Int) (x11 : Int) (x12 : Int) : spec_pfPack.L0 x3 x10 x11 x12 = if x12 < x11 then (if 0 ≤ x12 then (if x12 < (x10.length : Int) then ((spec_biPut.F x3 (wrap64 (2 * x12)) 2 (rd x10 x12)).bind fun t581 => (spec_pfPack.L0 t581 x10 x11 (wrap64 (x12 + 1)))) else (none)) else (none)) else ((spec_biSome.F x3).bind fun bt582 => (some (bt582.1, bt582.2))) := by
  refine Sup.unique (spec_pfPack.L0_sup x3 x10 x11 x12) (Sup.shift (fun k => spec_pfPack.mono_l k x3 x10 x11 x12) (Sup.congr (g' := fun k => if x12 < x11 then (if 0 ≤ x12 then (if x12 < (x10.length : Int) then ((spec_biPut.f k x3 (wrap64 (2 * x12)) 2 (rd x10 x12)).bind fun t581 => (spec_pfPack.l0 k t581 x10 x11 (wrap64 (x12 + 1)))) else (none)) else (none)) else ((spec_biSome.f k x3).bind fun bt582 => (some (bt582.1, bt582.2)))) (fun k => by first | rfl | simp only [spec_pfPack.l0]) ?_))
  repeat' first
    | (with_reducible exact spec_pfPack.L0_sup _ _ _ _)
    | (with_reducible exact spec_biSome.F_sup _)
    | (with_reducible exact spec_biPut.F_sup _ _ _ _)
    | (with_reducible refine Sup.ite ?_ ?_)
    | (with_reducible refine Sup.bind ?_ (fun _ => ?_))
    | (with_reducible exact Sup.const _)
    | exact spec_pfPack.L0_sup _ _ _ _
    | exact spec_biSome.F_sup _
    | exact spec_biPut.F_sup _ _ _ _
    | exact Sup.const _
theorem spec_pfPack.F_eq (l0 : List Int) : spec_pfPack.F l0 = if 0 ≤ (wrap64 (2 * (l0.length : Int))) then (if (wrap64 (2 * (l0.length : Int)) : Int).toNat ≤ 281474976710656 then (spec_pfPack.L0 (List.replicate (wrap64 (2 * (l0.length : Int)) : Int).toNat false) l0 (l0.length : Int) 0) else (none)) else (none) := by
  refine Sup.unique (spec_pfPack.F_sup l0) (Sup.congr (g' := fun k => if 0 ≤ (wrap64 (2 * (l0.length : Int))) then (if (wrap64 (2 * (l0.length : Int)) : Int).toNat ≤ 281474976710656 then (spec_pfPack.l0 k (List.replicate (wrap64 (2 * (l0.length : Int)) : Int).toNat false) l0 (l0.length : Int) 0) else (none)) else (none)) (fun k => by first | rfl | simp only [spec_pfPack.f]) ?_)
  repeat' first
    | (with_reducible exact spec_pfPack.L0_sup _ _ _ _)
    | (with_reducible exact spec_biSome.F_sup _)
    | (with_reducible exact spec_biPut.F_sup _ _ _ _)
    | (with_reducible refine Sup.ite ?_ ?_)
    | (with_reducible refine Sup.bind ?_ (fun _ => ?_))
    | (with_reducible exact Sup.const _)
    | exact spec_pfPack.L0_sup _ _ _ _
    | exact spec_biSome.F_sup _
    | exact spec_biPut.F_sup _ _ _ _
    | exact Sup.const _
set_option maxHeartbeats 8000000 in
set_option maxRecDepth 100000 in
theorem spec_pfPack.calls (k : Nat) (A0 : Option Addr) (c0 : Nat) (l0 : List Int) (r1 : Int) (r2 : List Int) (w : World) (hr0 : Kd.C (Kd.int .i64) w A0 l0.length l0) (hc0 : l0.length ≤ c0) (h : spec_pfPack.f k l0 = some (r1, r2)) :
    Calls Try.prog 105 #[.slice A0 l0.length c0] w fun e w' => ∃ v1_ : Value, e = .returned (.agg #[.int .i64 r1, v1_]) ∧ Kd.R (Kd.int .i64) 3 w' w.heap.size (fun _ => True) v1_ r2 ∧ Below w.heap.size w w' := by
  have hu39 := Try.underlying39
  have HR0 := Aside0.mk hr0
  have HC0 := Aside0.mk hc0
  clear hr0 hc0
  have HB := Aside0.mk (Below.refl w.heap.size w)
  have H : (if 0 ≤ (wrap64 (2 * (l0.length : Int))) then (if (wrap64 (2 * (l0.length : Int)) : Int).toNat ≤ 281474976710656 then (spec_pfPack.l0 k (List.replicate (wrap64 (2 * (l0.length : Int)) : Int).toNat false) l0 (l0.length : Int) 0) else (none)) else (none)) = some (r1, r2) := h
  clear h
  obtain ⟨ji2, hji2⟩ : ∃ j_ : Int, (wrap64 (2 * (l0.length : Int))) = j_ := ⟨_, rfl⟩
  replace H : (if 0 ≤ (ji2) then (if (ji2 : Int).toNat ≤ 281474976710656 then (spec_pfPack.l0 k (List.replicate (ji2 : Int).toNat false) l0 (l0.length : Int) 0) else (none)) else (none)) = some (r1, r2) := by first | (rw [hji2] at H; exact H) | (simp only [hji2] at H ⊢; exact H)
  have hji2w : (IntKind.i64.wrap (2 * (l0.length : Int))) = ji2 := (i64_w _).trans hji2
  by_cases c3 : 0 ≤ (ji2)
  ·rw [if_pos c3] at H
   have c3b0 := eq_true c3
   have c3b1 : decide (0 ≤ (ji2)) = true := decide_eq_true c3
   clear c3
   by_cases c4 : (ji2 : Int).toNat ≤ 281474976710656
   ·rw [if_pos c4] at H
    have c4b0 := eq_true c4
    have c4b1 : decide ((ji2 : Int).toNat ≤ 281474976710656) = true := decide_eq_true c4
    clear c4
    obtain ⟨y577, hy577⟩ : ∃ y_ : List Bool, y_ = (List.replicate (ji2 : Int).toNat false) := ⟨_, rfl⟩
    replace H : (spec_pfPack.l0 k y577 l0 (l0.length : Int) 0) = some (r1, r2) := by first | (rw [hy577]; with_reducible exact H) | (have H2_ := (Option.bind_some _ _).symm.trans H; rw [hy577]; with_reducible exact H2_) | (have H2_ := (Option.bind_some _ _).symm.trans H; with_reducible exact H2_) | with_reducible exact H | (rw [hy577]; exact H) | exact H
    have Ny577 := Aside0.mk hy577
    clear hy577
    have H' := Aside0.mk H
    clear H
    go_enter Try.func105, Try.ntmps105
    go_wp2_with (first | ((with_reducible refine gate_dst (N := 2) rfl ?_); refine box_event ?hg (N := 2) ?hd (cs := #[.int .i64 0, .slice none 0 0]) (t := 39) ?hr ?_; (case hd => rfl); (case hg => rfl); (case hr => first | (go_simp; done) | (go_simp; rfl)); intro gb576 hg w5 hbox hb; have n0_ := Aside0.mk (below_step (by repeat (first | (with_reducible first | exact HB.out | apply below_alloc | apply pw_below_drewN | apply below_drew1) | exact HB.out)) hb); have n1_ := Aside0.mk (hbox); have n2_ := Aside0.mk ((by rw [hg]; exact (below_size (by repeat (first | (with_reducible first | exact HB.out | apply below_alloc | apply pw_below_drewN | apply below_drew1) | exact HB.out))) : w.heap.size ≤ gb576)); have n3_ := Aside0.mk ((by rw [hg]; exact (below_size (by repeat (first | (with_reducible first | exact HB.out | apply below_alloc | apply pw_below_drewN | apply below_drew1) | exact HB.out))) : w.heap.size ≤ gb576)); clear HB; have HB := n0_; have BK576 := n1_; have GW576 := n2_; have GE576 := n3_; clear n0_ n1_ n2_ n3_; clear hb hbox hg) | ((with_reducible refine gate_dst (N := 9) rfl ?_); refine Kd.R_make Kd.bool _ 4 rfl (N := 9) rfl 120 _ _ rfl ji2 rfl rfl Try.underlying120 (.bool false) 1 info4 rfl (by decide) (by omega) false (ok := fun _ => True) (okp := fun _ => True) rfl (fun _ hk => hk) trivial (of_decide_eq_true (by first | (with_reducible assumption) | assumption)) (Nat.le_trans (Nat.mul_le_mul_right _ (of_decide_eq_true (by first | (with_reducible assumption) | assumption) : ji2.toNat ≤ 281474976710656)) (by omega)) (Below.refl _ _) (Nat.le_refl _) ?_; intro v578 w6 ho7 hb hg_ hnew_; clear hg_ hnew_; (first | rw [← Ny577.out] at ho7 | (simp only [Int.reduceToNat] at ho7; rw [← Ny577.out] at ho7)); have n0_ := Aside0.mk (Kd.R_lower ho7 (below_size (by repeat (first | (with_reducible first | exact HB.out | apply below_alloc | apply pw_below_drewN | apply below_drew1 | refine below_set ?_ GE576.out) | exact HB.out)))); have n1_ := Aside0.mk (blk_below (g := gb576) (o := .cells #[.int .i64 0, .slice none 0 0] 39 (0, 0)) (by (with_reducible repeat (first | refine blk_drewN ?_ _ | refine blk_drew ?_ | refine blk_alloc ?_ _)); exact BK576.out) hb); have n2_ := Aside0.mk (below_step (by repeat (first | (with_reducible first | exact HB.out | apply below_alloc | apply pw_below_drewN | apply below_drew1 | refine below_set ?_ GE576.out) | exact HB.out)) hb); clear BK576; clear HB; have HO579 := n0_; have BK576 := n1_; have HB := n2_; clear n0_ n1_ n2_; clear hb ho7))
    go_loopg [12] k (fun kq v12 w' => ∃ (x3_1 : List Bool) (x12_1 : Int), v12 = .int .i64 x12_1 ∧ Aside0 (spec_pfPack.l0 kq x3_1 l0 (l0.length : Int) x12_1 = some (r1, r2)) ∧ Aside0 (kq ≤ k) ∧ Aside0 (Kd.R Kd.bool 4 w' w.heap.size (fun _ => True) v578 x3_1) ∧ Aside0 (w'.heap[gb576]? = some (.cells #[.int .i64 0, (.slice none 0 0)] 39 (0, 0))) ∧ Aside0 (Below w.heap.size w w'))
    case atStart => exact ⟨(y577), (0), (by first | rfl | (simp; done) | (simp [*]; done)), H', ⟨Nat.le_refl _⟩, ⟨by (with_reducible repeat (first | apply Kd.R_alloc | apply Kd.R_drewN | apply Kd.R_drew)); exact HO579.out⟩, ⟨by (with_reducible repeat (first | refine blk_drewN ?_ _ | refine blk_drew ?_ | refine blk_alloc ?_ _)); exact BK576.out⟩, ⟨by repeat (first | (with_reducible first | exact HB.out | apply below_alloc | apply pw_below_drewN | apply below_drew1 | refine below_set ?_ GE576.out) | exact HB.out)⟩⟩
    case round =>
     clear H'
     try clear c1
     try clear p2
     try clear c3
     try clear c3b0
     try clear c3b1
     try clear c4
     try clear c4b0
     try clear c4b1
     try clear p6
     obtain ⟨x3_1, x12_1, rfl, HA, HK1, HO_3, BK576, HB⟩ := hrel
     cases gk with
     | zero => exact absurd HA.out (by simp [spec_pfPack.l0])
     | succ k1 =>
      have H := HA.out
      clear HA
      simp only [spec_pfPack.l0] at H
      by_cases c8 : x12_1 < (l0.length : Int)
      ·rw [if_pos c8] at H
       have c8b0 : decide (x12_1 < (l0.length : Int)) = true := decide_eq_true c8
       clear c8
       by_cases c9 : 0 ≤ x12_1
       ·rw [if_pos c9] at H
        have c9b0 : decide (0 ≤ x12_1) = true := decide_eq_true c9
        clear c9
        by_cases c10 : x12_1 < (l0.length : Int)
        ·rw [if_pos c10] at H
         have c10b0 : decide (x12_1 < (l0.length : Int)) = true := decide_eq_true c10
         clear c10
         replace H := Option.bind_eq_some_iff.mp H
         obtain ⟨t581, A110, H⟩ := H
         replace H : (spec_pfPack.l0 k1 t581 l0 (l0.length : Int) (wrap64 (x12_1 + 1))) = some (r1, r2) := H
         have A11 := Aside0.mk A110
         clear A110
         have H' := Aside0.mk H
         clear H
         have p580 : 0 ≤ (x12_1 : Int) := of_decide_eq_true (by first | (with_reducible assumption) | assumption)
         have q580 : x12_1 < (l0.length : Int) := of_decide_eq_true (by first | (with_reducible assumption) | assumption)
         obtain ⟨ad580, e580, hx580_0⟩ := Kd.at_int HR0.out x12_1 p580 q580
         cases e580
         replace hx580_0 := (HB.out.cell (World.block_lt_of_cell? w _ hx580_0)).trans hx580_0
         replace p580 := eq_true p580
         replace q580 := eq_true q580
         obtain ⟨Ao12, co12, eo12⟩ := Kd.R_slice HO_3.out
         subst eo12
         go_wp2_with (first | ((with_reducible refine gate_callee (f := 134) rfl ?_); refine goesL_ (some 21) rfl rfl Try.func134 (by kernel_rfl) rfl #[.slice Ao12 x3_1.length co12, .int .i64 (wrap64 (2 * x12_1)), .int .i64 2, .int .i64 (rd l0 x12_1)] rfl (by (try simp only [List.map_toArray, List.map_cons, List.map_nil]); first | done | rfl | (simp only [List.length_drop, List.length_take]; rfl)) ?_; (with_reducible refine (spec_biPut.calls k1 (fun k_ => some k_ = (.slice Ao12 x3_1.length co12 : Value).ownBlock) (.slice Ao12 x3_1.length co12) x3_1 (wrap64 (2 * x12_1)) 2 (rd l0 x12_1) t581 w _ ?side1 ?side2 A11.out).mono ?_); (case side1 => repeat (first | (with_reducible first | exact HB.out | apply below_alloc | apply pw_below_drewN | apply below_drew1 | refine below_set ?_ GE576.out) | exact HB.out)); (case side2 => exact Kd.R_tight rfl HO_3.out); rintro e w13 ⟨rfl, hy0, hb, hkp⟩; refine ⟨_, rfl, ?_⟩; have n0_ := Aside0.mk (Kd.R_reok rfl hy0 (fun k_ e_ => HO_3.out.1 k_ e_)); have n1_ := Aside0.mk (blk_kept (by (with_reducible repeat (first | refine blk_drewN ?_ _ | refine blk_drew ?_ | refine blk_alloc ?_ _)); exact BK576.out) hkp (fun hs_ => (fun e_ => (Kd.R_ne HO_3.out BK576.out (by decide)) e_) hs_)); have n2_ := Aside0.mk (hb); clear HO_3; clear BK576; clear HB; have HO_3 := n0_; have BK576 := n1_; have HB := n2_; clear n0_ n1_ n2_; (try clear hb); (try clear hkp); (try clear hy0)))
         go_roundg k1
         case measure => have := HK1.out; omega
         case rel => exact ⟨(t581), (wrap64 (x12_1 + 1)), (by first | rfl | (simp; done) | (simp [*]; done)), H', ⟨by have := HK1.out; omega⟩, ⟨by (with_reducible repeat (first | apply Kd.R_alloc | apply Kd.R_drewN | apply Kd.R_drew)); exact HO_3.out⟩, ⟨by (with_reducible repeat (first | refine blk_drewN ?_ _ | refine blk_drew ?_ | refine blk_alloc ?_ _)); exact BK576.out⟩, ⟨by repeat (first | (with_reducible first | exact HB.out | apply below_alloc | apply pw_below_drewN | apply below_drew1 | refine below_set ?_ GE576.out) | exact HB.out)⟩⟩
        ·rw [if_neg c10] at H
         exact absurd H (by simp)
       ·rw [if_neg c9] at H
        exact absurd H (by simp)
      ·rw [if_neg c8] at H
       have c8b0 : decide (x12_1 < (l0.length : Int)) = false := decide_eq_false c8
       clear c8
       replace H := Option.bind_eq_some_iff.mp H
       obtain ⟨⟨t582, t583⟩, A140, H⟩ := H
       replace H : (some (t582, t583)) = some (r1, r2) := H
       have A14 := Aside0.mk A140
       clear A140
       simp only [Option.some.injEq, Prod.mk.injEq] at H
       obtain ⟨rfl, rfl⟩ := H
       obtain ⟨Ao15, co15, eo15⟩ := Kd.R_slice HO_3.out
       subst eo15
       go_wp2_with (first | ((with_reducible refine gate_callee (f := 114) rfl ?_); refine goesL_ (some 24) rfl rfl Try.func114 (by kernel_rfl) rfl #[.slice Ao15 x3_1.length co15] rfl (by (try simp only [List.map_toArray, List.map_cons, List.map_nil]); first | done | rfl | (simp only [List.length_drop, List.length_take]; rfl)) ?_; (with_reducible refine (spec_biSome.calls k1 _ _ x3_1 t582 t583 _ ?side1 ?side2 A14.out).mono ?_); (case side1 => repeat (first | exact (Kd.R_reads' HO_3.out).2.2 | (with_reducible refine Kd.C_alloc ?_ _) | (with_reducible refine Kd.C_drewN ?_ _) | (with_reducible refine Kd.C_drew ?_))); (case side2 => exact (Kd.R_reads' HO_3.out).2.1); rintro e w16 ⟨v584, rfl, ho0, hb⟩; refine ⟨_, rfl, ?_⟩; have n0_ := Aside0.mk (Kd.R_below (by (with_reducible repeat (first | apply Kd.R_alloc | apply Kd.R_drewN | apply Kd.R_drew)); exact HO_3.out) hb); have n1_ := Aside0.mk (Kd.R_lower ho0 (below_size (by repeat (first | (with_reducible first | exact HB.out | apply below_alloc | apply pw_below_drewN | apply below_drew1 | refine below_set ?_ GE576.out) | exact HB.out)))); have n2_ := Aside0.mk (blk_below (g := gb576) (o := .cells #[.int .i64 0, .slice none 0 0] 39 (0, 0)) (by (with_reducible repeat (first | refine blk_drewN ?_ _ | refine blk_drew ?_ | refine blk_alloc ?_ _)); exact BK576.out) hb); have n3_ := Aside0.mk (below_step (by repeat (first | (with_reducible first | exact HB.out | apply below_alloc | apply pw_below_drewN | apply below_drew1 | refine below_set ?_ GE576.out) | exact HB.out)) hb); clear HO_3; clear BK576; clear HB; have HO_3 := n0_; have HO585 := n1_; have BK576 := n2_; have HB := n3_; clear n0_ n1_ n2_ n3_; (try clear hb); (try clear hb2); (try clear hk); (try clear hi); (try clear ho0); have hcz17_0 : w16.cell? ⟨gb576, 0, none⟩ = some (.int .i64 0) := (blk_cell BK576.out 0).trans rfl; have hcz17_1 : w16.cell? ⟨gb576, 1, none⟩ = some (.slice none 0 0) := (blk_cell BK576.out 1).trans rfl; have hfz17_0 := blk_frozen BK576.out 0; have hfz17_1 := blk_frozen BK576.out 1; obtain ⟨Ao18, co18, eo18⟩ := Kd.R_slice HO585.out; subst eo18))
       refine bodyPost_ret (results_cell_row rfl _ _ gb576 39 #[.int .i64 t582, .slice Ao18 t583.length co18] (0, 0) _ rfl (by (with_reducible repeat (first | refine blk_drewN ?_ _ | refine blk_drew ?_ | refine blk_alloc ?_ _)); refine blk_put (cs := #[.int .i64 t582, .slice none 0 0]) ?_ 1 _ rfl; (with_reducible repeat (first | refine blk_drewN ?_ _ | refine blk_drew ?_ | refine blk_alloc ?_ _)); refine blk_put (cs := #[.int .i64 0, .slice none 0 0]) ?_ 0 _ rfl; (with_reducible repeat (first | refine blk_drewN ?_ _ | refine blk_drew ?_ | refine blk_alloc ?_ _)); exact BK576.out) Try.underlying39 rfl (by kernel_rfl)) rfl ?_
       exact ⟨_, by first | rfl | (simp [errW_none, errW_some] <;> rfl) | (simp only [← hji2]; first | rfl | (simp [errW_none, errW_some] <;> rfl)) | (simp [*, errW_none, errW_some] <;> rfl), by (with_reducible repeat (first | apply Kd.R_alloc | apply Kd.R_drewN | apply Kd.R_drew)); exact Kd.R_mono (Kd.R_far (p := ⟨gb576, 1, none⟩) (Kd.R_far (p := ⟨gb576, 0, none⟩) (Kd.R_types HO585.out BK576.out (by decide)) (fun _ hk => hk.2) (.int .i64 t582)) (fun _ hk => hk.2) (.slice Ao18 t583.length co18)) (fun _ hk => trivial), by repeat (first | (with_reducible first | exact HB.out | apply below_alloc | apply pw_below_drewN | apply below_drew1 | refine below_set ?_ GE576.out) | exact HB.out)⟩
   ·rw [if_neg c4] at H
    exact absurd H (by simp)
  ·rw [if_neg c3] at H
   exact absurd H (by simp)
/-! ### spec_PackMarks: function 49 -/
def spec_PackMarks.f (k : Nat) (a0_0 : Int) (a0_1 : Int) (l0_2 : List Int) : Option (Int × List Int × Bool) := (spec_pfPeeled.f k a0_0 a0_1 l0_2).bind fun t588 => (if t588 = true then ((spec_pfPack.f k l0_2).bind fun bt589 => (some (bt589.1, bt589.2, true))) else (some (0, ([] : List Int), false)))
theorem spec_PackMarks.mono : ∀ a0 a1 a2 k, LeO (spec_PackMarks.f k a0 a1 a2) (spec_PackMarks.f (k + 1) a0 a1 a2) := by
  intro a0 a1 a2 k
  unfold spec_PackMarks.f
  repeat' first
      | (with_reducible exact spec_pfPack.mono _ _)
      | (with_reducible exact spec_pfPeeled.mono _ _ _ _)
      | (with_reducible exact LeO.refl _)
      | (with_reducible exact LeO.none _)
      | (with_reducible refine LeO.ite ?_ ?_)
      | (with_reducible refine LeO.bind ?_ (fun _ => ?_))
      | exact spec_pfPack.mono _ _
      | exact spec_pfPeeled.mono _ _ _ _
      | exact LeO.none _
      | refine LeO.ite ?_ ?_
      | refine LeO.bind ?_ (fun _ => ?_)
noncomputable def spec_PackMarks.F (a0_0 : Int) (a0_1 : Int) (l0_2 : List Int) : Option (Int × List Int × Bool) := lim fun k => spec_PackMarks.f k a0_0 a0_1 l0_2
theorem spec_PackMarks.F_sup (a0_0 : Int) (a0_1 : Int) (l0_2 : List Int) : Sup (fun k => spec_PackMarks.f k a0_0 a0_1 l0_2) (spec_PackMarks.F a0_0 a0_1 l0_2) := Sup.of_mono fun k => spec_PackMarks.mono a0_0 a0_1 l0_2 k
theorem spec_PackMarks.F_eq (a0_0 : Int) (a0_1 : Int) (l0_2 : List Int) : spec_PackMarks.F a0_0 a0_1 l0_2 = (spec_pfPeeled.F a0_0 a0_1 l0_2).bind fun t588 => (if t588 = true then ((spec_pfPack.F l0_2).bind fun bt589 => (some (bt589.1, bt589.2, true))) else (some (0, ([] : List Int), false))) := by
  refine Sup.unique (spec_PackMarks.F_sup a0_0 a0_1 l0_2) (Sup.congr (g' := fun k => (spec_pfPeeled.f k a0_0 a0_1 l0_2).bind fun t588 => (if t588 = true then ((spec_pfPack.f k l0_2).bind fun bt589 => (some (bt589.1, bt589.2, true))) else (some (0, ([] : List Int), false)))) (fun k => by first | rfl | simp only [spec_PackMarks.f]) ?_)
  repeat' first
    | (with_reducible exact spec_pfPeeled.F_sup _ _ _)
    | (with_reducible exact spec_pfPack.F_sup _)
    | (with_reducible refine Sup.ite ?_ ?_)
    | (with_reducible refine Sup.bind ?_ (fun _ => ?_))
    | (with_reducible exact Sup.const _)
    | exact spec_pfPeeled.F_sup _ _ _
    | exact spec_pfPack.F_sup _
    | exact Sup.const _
set_option maxHeartbeats 8000000 in
set_option maxRecDepth 100000 in
theorem spec_PackMarks.calls (k : Nat) (a0_0 : Int) (a0_1 : Int) (A0_2 : Option Addr) (c0_2 : Nat) (l0_2 : List Int) (r1 : Int) (r2 : List Int) (r3 : Bool) (w : World) (hr0_2 : Kd.C (Kd.int .i64) w A0_2 l0_2.length l0_2) (hc0_2 : l0_2.length ≤ c0_2) (h : spec_PackMarks.f k a0_0 a0_1 l0_2 = some (r1, r2, r3)) :
    Calls Try.prog 49 #[.agg #[.int .i64 a0_0, .int .i64 a0_1, .slice A0_2 l0_2.length c0_2]] w fun e w' => ∃ v1_ : Value, e = .returned (.tuple #[.agg #[.int .i64 r1, v1_], .bool r3]) ∧ Kd.R (Kd.int .i64) 3 w' w.heap.size (fun _ => True) v1_ r2 ∧ Below w.heap.size w w' := by
  have hu36 := Try.underlying36
  have hu39 := Try.underlying39
  have HR0_2 := Aside0.mk hr0_2
  have HC0_2 := Aside0.mk hc0_2
  clear hr0_2 hc0_2
  have HB := Aside0.mk (Below.refl w.heap.size w)
  have H : ((spec_pfPeeled.f k a0_0 a0_1 l0_2).bind fun t588 => (if t588 = true then ((spec_pfPack.f k l0_2).bind fun bt589 => (some (bt589.1, bt589.2, true))) else (some (0, ([] : List Int), false)))) = some (r1, r2, r3) := h
  clear h
  replace H := Option.bind_eq_some_iff.mp H
  obtain ⟨t588, A20, H⟩ := H
  replace H : (if t588 = true then ((spec_pfPack.f k l0_2).bind fun bt589 => (some (bt589.1, bt589.2, true))) else (some (0, ([] : List Int), false))) = some (r1, r2, r3) := H
  have A2 := Aside0.mk A20
  clear A20
  by_cases c3 : t588 = true
  ·subst c3
   have H1 : ((spec_pfPack.f k l0_2).bind fun bt589 => (some (bt589.1, bt589.2, true))) = some (r1, r2, r3) := by rw [if_pos rfl] at H; exact H
   clear H
   have H := H1
   clear H1
   replace H := Option.bind_eq_some_iff.mp H
   obtain ⟨⟨t589, t590⟩, A40, H⟩ := H
   replace H : (some (t589, t590, true)) = some (r1, r2, r3) := H
   have A4 := Aside0.mk A40
   clear A40
   simp only [Option.some.injEq, Prod.mk.injEq] at H
   obtain ⟨rfl, rfl, rfl⟩ := H
   go_enter Try.func49, Try.ntmps49
   go_wp2_with (first | ((with_reducible refine gate_dst (N := 1) rfl ?_); refine box_event ?hg (N := 1) ?hd (cs := #[.int .i64 a0_0, .int .i64 a0_1, .slice A0_2 l0_2.length c0_2]) (t := 36) ?hr ?_; (case hd => rfl); (case hg => rfl); (case hr => first | (go_simp; done) | (go_simp; rfl)); intro gb586 hg w5 hbox hb; have n0_ := Aside0.mk (below_step (by repeat (first | (with_reducible first | exact HB.out | apply below_alloc | apply pw_below_drewN | apply below_drew1) | exact HB.out)) hb); have n1_ := Aside0.mk (hbox); have n2_ := Aside0.mk ((by rw [hg]; exact (below_size (by repeat (first | (with_reducible first | exact HB.out | apply below_alloc | apply pw_below_drewN | apply below_drew1) | exact HB.out))) : w.heap.size ≤ gb586)); have n3_ := Aside0.mk ((by rw [hg]; exact (below_size (by repeat (first | (with_reducible first | exact HB.out | apply below_alloc | apply pw_below_drewN | apply below_drew1) | exact HB.out))) : w.heap.size ≤ gb586)); clear HB; have HB := n0_; have BK586 := n1_; have GW586 := n2_; have GE586 := n3_; clear n0_ n1_ n2_ n3_; clear hb hbox hg) | ((with_reducible refine gate_dst (N := 2) rfl ?_); refine box_event ?hg (N := 2) ?hd (cs := #[.int .i64 0, .slice none 0 0]) (t := 39) ?hr ?_; (case hd => rfl); (case hg => rfl); (case hr => first | (go_simp; done) | (go_simp; rfl)); intro gb587 hg w6 hbox hb; have n0_ := Aside0.mk (blk_below (g := gb586) (o := .cells #[.int .i64 a0_0, .int .i64 a0_1, .slice A0_2 l0_2.length c0_2] 36 (0, 0)) (by (with_reducible repeat (first | refine blk_drewN ?_ _ | refine blk_drew ?_ | refine blk_alloc ?_ _)); exact BK586.out) hb); have n1_ := Aside0.mk (below_step (by repeat (first | (with_reducible first | exact HB.out | apply below_alloc | apply pw_below_drewN | apply below_drew1 | refine below_set ?_ GE586.out) | exact HB.out)) hb); have n2_ := Aside0.mk (hbox); have n3_ := Aside0.mk ((by rw [hg]; exact (below_size (by repeat (first | (with_reducible first | exact HB.out | apply below_alloc | apply pw_below_drewN | apply below_drew1 | refine below_set ?_ GE586.out) | exact HB.out))) : w.heap.size ≤ gb587)); have n4_ := Aside0.mk ((by rw [hg]; exact (below_size (by repeat (first | (with_reducible first | exact HB.out | apply below_alloc | apply pw_below_drewN | apply below_drew1 | refine below_set ?_ GE586.out) | exact HB.out))) : w.heap.size ≤ gb587)); have n5_ := Aside0.mk ((by rw [hg]; exact Nat.ne_of_lt (blk_lt (g := gb586) (o := .cells #[.int .i64 a0_0, .int .i64 a0_1, .slice A0_2 l0_2.length c0_2] 36 (0, 0)) (by (with_reducible repeat (first | refine blk_drewN ?_ _ | refine blk_drew ?_ | refine blk_alloc ?_ _)); exact BK586.out)) : gb586 ≠ gb587)); have n6_ := Aside0.mk ((by rw [hg]; exact Nat.ne_of_gt (blk_lt (g := gb586) (o := .cells #[.int .i64 a0_0, .int .i64 a0_1, .slice A0_2 l0_2.length c0_2] 36 (0, 0)) (by (with_reducible repeat (first | refine blk_drewN ?_ _ | refine blk_drew ?_ | refine blk_alloc ?_ _)); exact BK586.out)) : gb587 ≠ gb586)); clear BK586; clear HB; have BK586 := n0_; have HB := n1_; have BK587 := n2_; have GW587 := n3_; have GE587 := n4_; have NB586_587 := n5_; have NB587_586 := n6_; clear n0_ n1_ n2_ n3_ n4_ n5_ n6_; clear hb hbox hg; have hnb7 := NB586_587.out; have hnc7 := NB587_586.out; have hcz8_0 : w6.cell? ⟨gb586, 0, none⟩ = some (.int .i64 a0_0) := (blk_cell BK586.out 0).trans rfl; have hcz8_1 : w6.cell? ⟨gb586, 1, none⟩ = some (.int .i64 a0_1) := (blk_cell BK586.out 1).trans rfl; have hcz8_2 : w6.cell? ⟨gb586, 2, none⟩ = some (.slice A0_2 l0_2.length c0_2) := (blk_cell BK586.out 2).trans rfl; have hfz8_0 := blk_frozen BK586.out 0; have hfz8_1 := blk_frozen BK586.out 1; have hfz8_2 := blk_frozen BK586.out 2) | ((with_reducible refine gate_callee (f := 92) rfl ?_); refine goesL_ (some 5) rfl rfl Try.func92 (by kernel_rfl) rfl #[.agg #[.int .i64 a0_0, .int .i64 a0_1, .slice A0_2 l0_2.length c0_2]] rfl (by (try simp only [List.map_toArray, List.map_cons, List.map_nil]); first | done | rfl | (simp only [List.length_drop, List.length_take]; rfl)) ?_; (with_reducible refine (spec_pfPeeled.calls k a0_0 a0_1 _ _ l0_2 true _ ?side1 ?side2 A2.out).mono ?_); (case side1 => repeat (first | exact (Kd.C_below HR0_2.out HB.out) | (with_reducible refine Kd.C_alloc ?_ _) | (with_reducible refine Kd.C_drewN ?_ _) | (with_reducible refine Kd.C_drew ?_))); (case side2 => exact HC0_2.out); rintro e w9 ⟨rfl, hb⟩; refine ⟨_, rfl, ?_⟩; have n0_ := Aside0.mk (blk_below (g := gb586) (o := .cells #[.int .i64 a0_0, .int .i64 a0_1, .slice A0_2 l0_2.length c0_2] 36 (0, 0)) (by (with_reducible repeat (first | refine blk_drewN ?_ _ | refine blk_drew ?_ | refine blk_alloc ?_ _)); exact BK586.out) hb); have n1_ := Aside0.mk (blk_below (g := gb587) (o := .cells #[.int .i64 0, .slice none 0 0] 39 (0, 0)) (by (with_reducible repeat (first | refine blk_drewN ?_ _ | refine blk_drew ?_ | refine blk_alloc ?_ _)); exact BK587.out) hb); have n2_ := Aside0.mk (below_step (by repeat (first | (with_reducible first | exact HB.out | apply below_alloc | apply pw_below_drewN | apply below_drew1 | refine below_set ?_ GE586.out | refine below_set ?_ GE587.out) | exact HB.out)) hb); clear BK586; clear BK587; clear HB; have BK586 := n0_; have BK587 := n1_; have HB := n2_; clear n0_ n1_ n2_; (try clear hb); (try clear hb2); (try clear hk); (try clear hi); have hcz10_0 : w9.cell? ⟨gb586, 0, none⟩ = some (.int .i64 a0_0) := (blk_cell BK586.out 0).trans rfl; have hcz10_1 : w9.cell? ⟨gb586, 1, none⟩ = some (.int .i64 a0_1) := (blk_cell BK586.out 1).trans rfl; have hcz10_2 : w9.cell? ⟨gb586, 2, none⟩ = some (.slice A0_2 l0_2.length c0_2) := (blk_cell BK586.out 2).trans rfl; have hfz10_0 := blk_frozen BK586.out 0; have hfz10_1 := blk_frozen BK586.out 1; have hfz10_2 := blk_frozen BK586.out 2) | ((with_reducible refine gate_callee (f := 105) rfl ?_); refine goesL_ (some 10) rfl rfl Try.func105 (by kernel_rfl) rfl #[.slice A0_2 l0_2.length c0_2] rfl (by (try simp only [List.map_toArray, List.map_cons, List.map_nil]); first | done | rfl | (simp only [List.length_drop, List.length_take]; rfl)) ?_; (with_reducible refine (spec_pfPack.calls k _ _ l0_2 t589 t590 _ ?side1 ?side2 A4.out).mono ?_); (case side1 => repeat (first | exact (Kd.C_below HR0_2.out HB.out) | (with_reducible refine Kd.C_alloc ?_ _) | (with_reducible refine Kd.C_drewN ?_ _) | (with_reducible refine Kd.C_drew ?_))); (case side2 => exact HC0_2.out); rintro e w11 ⟨v591, rfl, ho0, hb⟩; refine ⟨_, rfl, ?_⟩; have n0_ := Aside0.mk (Kd.R_lower ho0 (below_size (by repeat (first | (with_reducible first | exact HB.out | apply below_alloc | apply pw_below_drewN | apply below_drew1 | refine below_set ?_ GE586.out | refine below_set ?_ GE587.out) | exact HB.out)))); have n1_ := Aside0.mk (blk_below (g := gb586) (o := .cells #[.int .i64 a0_0, .int .i64 a0_1, .slice A0_2 l0_2.length c0_2] 36 (0, 0)) (by (with_reducible repeat (first | refine blk_drewN ?_ _ | refine blk_drew ?_ | refine blk_alloc ?_ _)); exact BK586.out) hb); have n2_ := Aside0.mk (blk_below (g := gb587) (o := .cells #[.int .i64 0, .slice none 0 0] 39 (0, 0)) (by (with_reducible repeat (first | refine blk_drewN ?_ _ | refine blk_drew ?_ | refine blk_alloc ?_ _)); exact BK587.out) hb); have n3_ := Aside0.mk (below_step (by repeat (first | (with_reducible first | exact HB.out | apply below_alloc | apply pw_below_drewN | apply below_drew1 | refine below_set ?_ GE586.out | refine below_set ?_ GE587.out) | exact HB.out)) hb); clear BK586; clear BK587; clear HB; have HO592 := n0_; have BK586 := n1_; have BK587 := n2_; have HB := n3_; clear n0_ n1_ n2_ n3_; (try clear hb); (try clear hb2); (try clear hk); (try clear hi); (try clear ho0); have hcz12_0 : w11.cell? ⟨gb587, 0, none⟩ = some (.int .i64 0) := (blk_cell BK587.out 0).trans rfl; have hcz12_1 : w11.cell? ⟨gb587, 1, none⟩ = some (.slice none 0 0) := (blk_cell BK587.out 1).trans rfl; have hfz12_0 := blk_frozen BK587.out 0; have hfz12_1 := blk_frozen BK587.out 1; obtain ⟨Ao13, co13, eo13⟩ := Kd.R_slice HO592.out; subst eo13))
   refine bodyPost_ret (results_ct rfl _ _ gb587 39 #[.int .i64 t589, .slice Ao13 t590.length co13] (0, 0) _ rfl (by (with_reducible repeat (first | refine blk_drewN ?_ _ | refine blk_drew ?_ | refine blk_alloc ?_ _)); refine blk_put (cs := #[.int .i64 t589, .slice none 0 0]) ?_ 1 _ rfl; (with_reducible repeat (first | refine blk_drewN ?_ _ | refine blk_drew ?_ | refine blk_alloc ?_ _)); refine blk_put (cs := #[.int .i64 0, .slice none 0 0]) ?_ 0 _ rfl; (with_reducible repeat (first | refine blk_drewN ?_ _ | refine blk_drew ?_ | refine blk_alloc ?_ _)); exact BK587.out) Try.underlying39 rfl (by kernel_rfl)) rfl ?_
   exact ⟨_, by first | rfl | (simp [errW_none, errW_some] <;> rfl) | (simp [*, errW_none, errW_some] <;> rfl), by (with_reducible repeat (first | apply Kd.R_alloc | apply Kd.R_drewN | apply Kd.R_drew)); exact Kd.R_mono (Kd.R_far (p := ⟨gb587, 1, none⟩) (Kd.R_far (p := ⟨gb587, 0, none⟩) (Kd.R_types HO592.out BK587.out (by decide)) (fun _ hk => hk.2) (.int .i64 t589)) (fun _ hk => hk.2) (.slice Ao13 t590.length co13)) (fun _ hk => trivial), by repeat (first | (with_reducible first | exact HB.out | apply below_alloc | apply pw_below_drewN | apply below_drew1 | refine below_set ?_ GE586.out | refine below_set ?_ GE587.out) | exact HB.out)⟩
  ·replace c3 := Bool.eq_false_iff.mpr c3
   subst c3
   have H1 : (some (0, ([] : List Int), false)) = some (r1, r2, r3) := by rw [if_neg (show ¬ (false = true) by decide)] at H; exact H
   clear H
   have H := H1
   clear H1
   simp only [Option.some.injEq, Prod.mk.injEq] at H
   obtain ⟨rfl, rfl, rfl⟩ := H
   go_enter Try.func49, Try.ntmps49
   go_wp2_with (first | ((with_reducible refine gate_dst (N := 1) rfl ?_); refine box_event ?hg (N := 1) ?hd (cs := #[.int .i64 a0_0, .int .i64 a0_1, .slice A0_2 l0_2.length c0_2]) (t := 36) ?hr ?_; (case hd => rfl); (case hg => rfl); (case hr => first | (go_simp; done) | (go_simp; rfl)); intro gb586 hg w14 hbox hb; have n0_ := Aside0.mk (below_step (by repeat (first | (with_reducible first | exact HB.out | apply below_alloc | apply pw_below_drewN | apply below_drew1) | exact HB.out)) hb); have n1_ := Aside0.mk (hbox); have n2_ := Aside0.mk ((by rw [hg]; exact (below_size (by repeat (first | (with_reducible first | exact HB.out | apply below_alloc | apply pw_below_drewN | apply below_drew1) | exact HB.out))) : w.heap.size ≤ gb586)); have n3_ := Aside0.mk ((by rw [hg]; exact (below_size (by repeat (first | (with_reducible first | exact HB.out | apply below_alloc | apply pw_below_drewN | apply below_drew1) | exact HB.out))) : w.heap.size ≤ gb586)); clear HB; have HB := n0_; have BK586 := n1_; have GW586 := n2_; have GE586 := n3_; clear n0_ n1_ n2_ n3_; clear hb hbox hg) | ((with_reducible refine gate_dst (N := 2) rfl ?_); refine box_event ?hg (N := 2) ?hd (cs := #[.int .i64 0, .slice none 0 0]) (t := 39) ?hr ?_; (case hd => rfl); (case hg => rfl); (case hr => first | (go_simp; done) | (go_simp; rfl)); intro gb587 hg w15 hbox hb; have n0_ := Aside0.mk (blk_below (g := gb586) (o := .cells #[.int .i64 a0_0, .int .i64 a0_1, .slice A0_2 l0_2.length c0_2] 36 (0, 0)) (by (with_reducible repeat (first | refine blk_drewN ?_ _ | refine blk_drew ?_ | refine blk_alloc ?_ _)); exact BK586.out) hb); have n1_ := Aside0.mk (below_step (by repeat (first | (with_reducible first | exact HB.out | apply below_alloc | apply pw_below_drewN | apply below_drew1 | refine below_set ?_ GE586.out) | exact HB.out)) hb); have n2_ := Aside0.mk (hbox); have n3_ := Aside0.mk ((by rw [hg]; exact (below_size (by repeat (first | (with_reducible first | exact HB.out | apply below_alloc | apply pw_below_drewN | apply below_drew1 | refine below_set ?_ GE586.out) | exact HB.out))) : w.heap.size ≤ gb587)); have n4_ := Aside0.mk ((by rw [hg]; exact (below_size (by repeat (first | (with_reducible first | exact HB.out | apply below_alloc | apply pw_below_drewN | apply below_drew1 | refine below_set ?_ GE586.out) | exact HB.out))) : w.heap.size ≤ gb587)); have n5_ := Aside0.mk ((by rw [hg]; exact Nat.ne_of_lt (blk_lt (g := gb586) (o := .cells #[.int .i64 a0_0, .int .i64 a0_1, .slice A0_2 l0_2.length c0_2] 36 (0, 0)) (by (with_reducible repeat (first | refine blk_drewN ?_ _ | refine blk_drew ?_ | refine blk_alloc ?_ _)); exact BK586.out)) : gb586 ≠ gb587)); have n6_ := Aside0.mk ((by rw [hg]; exact Nat.ne_of_gt (blk_lt (g := gb586) (o := .cells #[.int .i64 a0_0, .int .i64 a0_1, .slice A0_2 l0_2.length c0_2] 36 (0, 0)) (by (with_reducible repeat (first | refine blk_drewN ?_ _ | refine blk_drew ?_ | refine blk_alloc ?_ _)); exact BK586.out)) : gb587 ≠ gb586)); clear BK586; clear HB; have BK586 := n0_; have HB := n1_; have BK587 := n2_; have GW587 := n3_; have GE587 := n4_; have NB586_587 := n5_; have NB587_586 := n6_; clear n0_ n1_ n2_ n3_ n4_ n5_ n6_; clear hb hbox hg; have hnb16 := NB586_587.out; have hnc16 := NB587_586.out; have hcz17_0 : w15.cell? ⟨gb586, 0, none⟩ = some (.int .i64 a0_0) := (blk_cell BK586.out 0).trans rfl; have hcz17_1 : w15.cell? ⟨gb586, 1, none⟩ = some (.int .i64 a0_1) := (blk_cell BK586.out 1).trans rfl; have hcz17_2 : w15.cell? ⟨gb586, 2, none⟩ = some (.slice A0_2 l0_2.length c0_2) := (blk_cell BK586.out 2).trans rfl; have hfz17_0 := blk_frozen BK586.out 0; have hfz17_1 := blk_frozen BK586.out 1; have hfz17_2 := blk_frozen BK586.out 2) | ((with_reducible refine gate_callee (f := 92) rfl ?_); refine goesL_ (some 5) rfl rfl Try.func92 (by kernel_rfl) rfl #[.agg #[.int .i64 a0_0, .int .i64 a0_1, .slice A0_2 l0_2.length c0_2]] rfl (by (try simp only [List.map_toArray, List.map_cons, List.map_nil]); first | done | rfl | (simp only [List.length_drop, List.length_take]; rfl)) ?_; (with_reducible refine (spec_pfPeeled.calls k a0_0 a0_1 _ _ l0_2 false _ ?side1 ?side2 A2.out).mono ?_); (case side1 => repeat (first | exact (Kd.C_below HR0_2.out HB.out) | (with_reducible refine Kd.C_alloc ?_ _) | (with_reducible refine Kd.C_drewN ?_ _) | (with_reducible refine Kd.C_drew ?_))); (case side2 => exact HC0_2.out); rintro e w18 ⟨rfl, hb⟩; refine ⟨_, rfl, ?_⟩; have n0_ := Aside0.mk (blk_below (g := gb586) (o := .cells #[.int .i64 a0_0, .int .i64 a0_1, .slice A0_2 l0_2.length c0_2] 36 (0, 0)) (by (with_reducible repeat (first | refine blk_drewN ?_ _ | refine blk_drew ?_ | refine blk_alloc ?_ _)); exact BK586.out) hb); have n1_ := Aside0.mk (blk_below (g := gb587) (o := .cells #[.int .i64 0, .slice none 0 0] 39 (0, 0)) (by (with_reducible repeat (first | refine blk_drewN ?_ _ | refine blk_drew ?_ | refine blk_alloc ?_ _)); exact BK587.out) hb); have n2_ := Aside0.mk (below_step (by repeat (first | (with_reducible first | exact HB.out | apply below_alloc | apply pw_below_drewN | apply below_drew1 | refine below_set ?_ GE586.out | refine below_set ?_ GE587.out) | exact HB.out)) hb); clear BK586; clear BK587; clear HB; have BK586 := n0_; have BK587 := n1_; have HB := n2_; clear n0_ n1_ n2_; (try clear hb); (try clear hb2); (try clear hk); (try clear hi); have hcz19_0 : w18.cell? ⟨gb587, 0, none⟩ = some (.int .i64 0) := (blk_cell BK587.out 0).trans rfl; have hcz19_1 : w18.cell? ⟨gb587, 1, none⟩ = some (.slice none 0 0) := (blk_cell BK587.out 1).trans rfl; have hfz19_0 := blk_frozen BK587.out 0; have hfz19_1 := blk_frozen BK587.out 1))
   refine bodyPost_ret (results_ct rfl _ _ gb587 39 #[.int .i64 0, .slice none 0 0] (0, 0) _ rfl (by (with_reducible repeat (first | refine blk_drewN ?_ _ | refine blk_drew ?_ | refine blk_alloc ?_ _)); refine blk_put (cs := #[.int .i64 0, .slice none 0 0]) ?_ 1 _ rfl; (with_reducible repeat (first | refine blk_drewN ?_ _ | refine blk_drew ?_ | refine blk_alloc ?_ _)); refine blk_put (cs := #[.int .i64 0, .slice none 0 0]) ?_ 0 _ rfl; (with_reducible repeat (first | refine blk_drewN ?_ _ | refine blk_drew ?_ | refine blk_alloc ?_ _)); exact BK587.out) Try.underlying39 rfl (by kernel_rfl)) rfl ?_
   exact ⟨_, by first | rfl | (simp [errW_none, errW_some] <;> rfl) | (simp [*, errW_none, errW_some] <;> rfl), by first | exact Kd.R_nil _ _ _ _ _ | exact Kd.N_nil _ _ _ _ _ | exact Kd.V_nil _ _ _ _ _ | exact Kd.Q_nil _ _ _ _ _ | exact Kd.S_nil _ _ _ _ _, by repeat (first | (with_reducible first | exact HB.out | apply below_alloc | apply pw_below_drewN | apply below_drew1 | refine below_set ?_ GE586.out | refine below_set ?_ GE587.out) | exact HB.out)⟩
/-! ### impl_Bits_setField: function 136 -/
def impl_Bits_setField.l0 : Nat → Int → Int → Int → Int → Int → List Int → Option (List Int)
  | 0, _, _, _, _, _, _ => none
  | k + 1, x1, x3, x9, x10, x1000, x1001 => if x10 < x9 then (if 0 ≤ x10 then ((impl_Bits_set.f x1000 x1001 (wrap64 (x1 + x10)) ((Go.bits .and .i64 (shr .i64 x3 x10) 1) == 1)).bind fun t602 => (impl_Bits_setField.l0 k x1 x3 x9 (wrap64 (x10 + 1)) x1000 t602)) else (none)) else (some x1001)
def impl_Bits_setField.f (k : Nat) (a0_0 : Int) (l0_1 : List Int) (a1 : Int) (a2 : Int) (a3 : Int) : Option (List Int) := impl_Bits_setField.l0 k a1 a3 a2 0 a0_0 l0_1
theorem impl_Bits_setField.mono_l : ∀ k, (∀ y0 y1 y2 y3 y4 y5, LeO (impl_Bits_setField.l0 k y0 y1 y2 y3 y4 y5) (impl_Bits_setField.l0 (k + 1) y0 y1 y2 y3 y4 y5))
  | 0 => fun _ _ _ _ _ _ r h => by simp [impl_Bits_setField.l0] at h
  | k + 1 => by
    have ih0 := impl_Bits_setField.mono_l k
    · intro y0 y1 y2 y3 y4 y5
      unfold impl_Bits_setField.l0
      repeat' first
      | (with_reducible exact ih0 _ _ _ _ _ _)
      | (with_reducible exact LeO.refl _)
      | (with_reducible exact LeO.none _)
      | (with_reducible refine LeO.ite ?_ ?_)
      | (with_reducible refine LeO.bind ?_ (fun _ => ?_))
      | exact ih0 _ _ _ _ _ _
      | exact LeO.none _
      | refine LeO.ite ?_ ?_
      | refine LeO.bind ?_ (fun _ => ?_)
theorem impl_Bits_setField.mono : ∀ a0 a1 a2 a3 a4 k, LeO (impl_Bits_setField.f k a0 a1 a2 a3 a4) (impl_Bits_setField.f (k + 1) a0 a1 a2 a3 a4) := by
  intro a0 a1 a2 a3 a4 k
  have ih0 := impl_Bits_setField.mono_l k
  unfold impl_Bits_setField.f
  repeat' first
      | (with_reducible exact ih0 _ _ _ _ _ _)
      | (with_reducible exact LeO.refl _)
      | (with_reducible exact LeO.none _)
      | (with_reducible refine LeO.ite ?_ ?_)
      | (with_reducible refine LeO.bind ?_ (fun _ => ?_))
      | exact ih0 _ _ _ _ _ _
      | exact LeO.none _
      | refine LeO.ite ?_ ?_
      | refine LeO.bind ?_ (fun _ => ?_)
noncomputable def impl_Bits_setField.L0 (y0 : Int) (y1 : Int) (y2 : Int) (y3 : Int) (y4 : Int) (y5 : List Int) : Option (List Int) := lim fun k => impl_Bits_setField.l0 k y0 y1 y2 y3 y4 y5
theorem impl_Bits_setField.L0_sup (y0 : Int) (y1 : Int) (y2 : Int) (y3 : Int) (y4 : Int) (y5 : List Int) : Sup (fun k => impl_Bits_setField.l0 k y0 y1 y2 y3 y4 y5) (impl_Bits_setField.L0 y0 y1 y2 y3 y4 y5) := Sup.of_mono fun k => impl_Bits_setField.mono_l k y0 y1 y2 y3 y4 y5
noncomputable def impl_Bits_setField.F (a0_0 : Int) (l0_1 : List Int) (a1 : Int) (a2 : Int) (a3 : Int) : Option (List Int) := lim fun k => impl_Bits_setField.f k a0_0 l0_1 a1 a2 a3
theorem impl_Bits_setField.F_sup (a0_0 : Int) (l0_1 : List Int) (a1 : Int) (a2 : Int) (a3 : Int) : Sup (fun k => impl_Bits_setField.f k a0_0 l0_1 a1 a2 a3) (impl_Bits_setField.F a0_0 l0_1 a1 a2 a3) := Sup.of_mono fun k => impl_Bits_setField.mono a0_0 l0_1 a1 a2 a3 k
theorem impl_Bits_setField.L0_eq (x1 : Int) (x3 : Int) (x9 : Int) (x10 : Int) (x1000 : Int) (x1001 : List Int) : impl_Bits_setField.L0 x1 x3 x9 x10 x1000 x1001 = if x10 < x9 then (if 0 ≤ x10 then ((impl_Bits_set.f x1000 x1001 (wrap64 (x1 + x10)) ((Go.bits .and .i64 (shr .i64 x3 x10) 1) == 1)).bind fun t602 => (impl_Bits_setField.L0 x1 x3 x9 (wrap64 (x10 + 1)) x1000 t602)) else (none)) else (some x1001) := by
  refine Sup.unique (impl_Bits_setField.L0_sup x1 x3 x9 x10 x1000 x1001) (Sup.shift (fun k => impl_Bits_setField.mono_l k x1 x3 x9 x10 x1000 x1001) (Sup.congr (g' := fun k => if x10 < x9 then (if 0 ≤ x10 then ((impl_Bits_set.f x1000 x1001 (wrap64 (x1 + x10)) ((Go.bits .and .i64 (shr .i64 x3 x10) 1) == 1)).bind fun t602 => (impl_Bits_setField.l0 k x1 x3 x9 (wrap64 (x10 + 1)) x1000 t602)) else (none)) else (some x1001)) (fun k => by first | rfl | simp only [impl_Bits_setField.l0]) ?_))
  repeat' first
    | (with_reducible exact impl_Bits_setField.L0_sup _ _ _ _ _ _)
    | (with_reducible refine Sup.ite ?_ ?_)
    | (with_reducible refine Sup.bind ?_ (fun _ => ?_))
    | (with_reducible exact Sup.const _)
    | exact impl_Bits_setField.L0_sup _ _ _ _ _ _
    | exact Sup.const _
theorem impl_Bits_setField.F_eq (a0_0 : Int) (l0_1 : List Int) (a1 : Int) (a2 : Int) (a3 : Int) : impl_Bits_setField.F a0_0 l0_1 a1 a2 a3 = impl_Bits_setField.L0 a1 a3 a2 0 a0_0 l0_1 := by
  refine Sup.unique (impl_Bits_setField.F_sup a0_0 l0_1 a1 a2 a3) (Sup.congr (g' := fun k => impl_Bits_setField.l0 k a1 a3 a2 0 a0_0 l0_1) (fun k => by first | rfl | simp only [impl_Bits_setField.f]) ?_)
  repeat' first
    | (with_reducible exact impl_Bits_setField.L0_sup _ _ _ _ _ _)
    | (with_reducible refine Sup.ite ?_ ?_)
    | (with_reducible refine Sup.bind ?_ (fun _ => ?_))
    | (with_reducible exact Sup.const _)
    | exact impl_Bits_setField.L0_sup _ _ _ _ _ _
    | exact Sup.const _
set_option maxHeartbeats 8000000 in
set_option maxRecDepth 100000 in
theorem impl_Bits_setField.calls (k : Nat) (gb0_ : Nat) (a0_0 : Int) (P0_1_ : Nat → Prop) (u9000_ : Value) (l0_1 : List Int) (a1 : Int) (a2 : Int) (a3 : Int) (r : List Int) (w0 w : World) (hB : Below w0.heap.size w0 w) (ho0_1 : Kd.R (Kd.int .i64) 3 w w0.heap.size P0_1_ u9000_ l0_1) (hb0_ : w.heap[gb0_]? = some (.cells #[.int .i64 a0_0, u9000_] 39 (0, 0))) (h : impl_Bits_setField.f k a0_0 l0_1 a1 a2 a3 = some r) :
    Calls Try.prog 136 #[.pointer (some ⟨gb0_, 0, none⟩), .int .i64 a1, .int .i64 a2, .int .i64 a3] w fun e w' => e = .returned (.tuple #[]) ∧ Kd.R (Kd.int .i64) 3 w' w0.heap.size (fun k_ => (P0_1_ k_ ∨ w.heap.size ≤ k_)) u9000_ r ∧ Below w0.heap.size w0 w' ∧ Kept w w' (fun k_ => P0_1_ k_) := by
  have HO0_1 := Aside0.mk (show Kd.R (Kd.int .i64) 3 w w0.heap.size (fun k_ => (P0_1_ k_ ∨ w.heap.size ≤ k_)) u9000_ l0_1 from Kd.R_mono ho0_1 (fun k_ hk => (.inl hk)))
  have BK0 := Aside0.mk hb0_
  clear hb0_
  have HK := Aside0.mk (Kept.refl w (fun k_ => P0_1_ k_))
  have HW0 := Aside0.mk hB.size
  have HB := Aside0.mk hB
  clear hB
  have H : (impl_Bits_setField.l0 k a1 a3 a2 0 a0_0 l0_1) = some r := h
  clear h
  have H' := Aside0.mk H
  clear H
  go_enter Try.func136, Try.ntmps136
  go_wp2
  go_loopg [10] k (fun kq v10 w' => ∃ (x10_1 : Int) (x1001_1 : List Int), v10 = .int .i64 x10_1 ∧ Aside0 (impl_Bits_setField.l0 kq a1 a3 a2 x10_1 a0_0 x1001_1 = some r) ∧ Aside0 (kq ≤ k) ∧ Aside0 (Kd.R (Kd.int .i64) 3 w' w0.heap.size (fun k_ => (P0_1_ k_ ∨ w.heap.size ≤ k_)) u9000_ x1001_1) ∧ Aside0 (w'.heap[gb0_]? = some (.cells #[.int .i64 a0_0, u9000_] 39 (0, 0))) ∧ Aside0 (Kept w w' (fun k_ => P0_1_ k_)) ∧ Aside0 (Below w0.heap.size w0 w'))
  case atStart => exact ⟨(0), (l0_1), (by first | rfl | (simp; done) | (simp [*]; done)), H', ⟨Nat.le_refl _⟩, ⟨by (with_reducible repeat (first | apply Kd.R_alloc | apply Kd.R_drewN | apply Kd.R_drew)); exact HO0_1.out⟩, ⟨by (with_reducible repeat (first | refine blk_drewN ?_ _ | refine blk_drew ?_ | refine blk_alloc ?_ _)); exact BK0.out⟩, ⟨by repeat (first | (with_reducible first | exact HK.out | apply Kept.alloc | apply Kept.drewN | apply Kept.drew | refine Kept.setCell ?_ (.inr GW0.out) _) | exact HK.out)⟩, ⟨by repeat (first | (with_reducible first | exact HB.out | apply below_alloc | apply pw_below_drewN | apply below_drew1 | refine below_set ?_ GE0.out) | exact HB.out)⟩⟩
  case round =>
   clear H'
   try clear c1
   try clear p2
   obtain ⟨x10_1, x1001_1, rfl, HA, HK1, HO_1001, BK0, HK, HB⟩ := hrel
   cases gk with
   | zero => exact absurd HA.out (by simp [impl_Bits_setField.l0])
   | succ k1 =>
    have H := HA.out
    clear HA
    simp only [impl_Bits_setField.l0] at H
    by_cases c5 : x10_1 < a2
    ·rw [if_pos c5] at H
     have c5b0 : decide (x10_1 < a2) = true := decide_eq_true c5
     clear c5
     by_cases c6 : 0 ≤ x10_1
     ·rw [if_pos c6] at H
      have c6b0 := eq_true c6
      have c6b1 : decide (0 ≤ x10_1) = true := decide_eq_true c6
      clear c6
      obtain ⟨ji7, hji7⟩ : ∃ j_ : Int, (shr .i64 a3 x10_1) = j_ := ⟨_, rfl⟩
      replace H : ((impl_Bits_set.f a0_0 x1001_1 (wrap64 (a1 + x10_1)) ((Go.bits .and .i64 (ji7) 1) == 1)).bind fun t602 => (impl_Bits_setField.l0 k1 a1 a3 a2 (wrap64 (x10_1 + 1)) a0_0 t602)) = some r := by first | (rw [hji7] at H; exact H) | (simp only [hji7] at H ⊢; exact H)
      have hji7_ : (a3 / 2 ^ min x10_1.toNat 64) = ji7 := hji7
      have hji7z : x10_1 ≤ 64 → (a3 / 2 ^ x10_1.toNat) = ji7 := shr_small hji7
      replace H := Option.bind_eq_some_iff.mp H
      obtain ⟨t602, A80, H⟩ := H
      replace H : (impl_Bits_setField.l0 k1 a1 a3 a2 (wrap64 (x10_1 + 1)) a0_0 t602) = some r := H
      have A8 := Aside0.mk A80
      clear A80
      have H' := Aside0.mk H
      clear H
      obtain ⟨Ao9, co9, eo9⟩ := Kd.R_slice HO_1001.out
      subst eo9
      go_wp2_with (first | ((with_reducible refine gate_callee (f := 145) rfl ?_); refine goesL_ (some 22) rfl rfl Try.func145 (by kernel_rfl) rfl #[.pointer (some ⟨gb0_, 0, none⟩), .int .i64 (wrap64 (a1 + x10_1)), .bool ((Go.bits .and .i64 (ji7) 1) == 1)] rfl (by (try simp only [List.map_toArray, List.map_cons, List.map_nil]); first | done | (simp only [hji7]; rfl) | rfl | (simp only [List.length_drop, List.length_take]; rfl)) ?_; (with_reducible refine (impl_Bits_set.calls gb0_ a0_0 (fun k_ => some k_ = (.slice Ao9 x1001_1.length co9 : Value).ownBlock) (.slice Ao9 x1001_1.length co9) x1001_1 (wrap64 (a1 + x10_1)) ((Go.bits .and .i64 (ji7) 1) == 1) t602 w0 _ ?side1 ?side2 ?side3 A8.out).mono ?_); (case side1 => repeat (first | (with_reducible first | exact HB.out | apply below_alloc | apply pw_below_drewN | apply below_drew1 | refine below_set ?_ GE0.out) | exact HB.out)); (case side2 => exact Kd.R_tight rfl HO_1001.out); (case side3 => exact (by (with_reducible repeat (first | refine blk_drewN ?_ _ | refine blk_drew ?_ | refine blk_alloc ?_ _)); exact BK0.out)); rintro e w10 ⟨rfl, hy0, hb, hkp⟩; refine ⟨_, rfl, ?_⟩; have n0_ := Aside0.mk (Kd.R_reok rfl hy0 (fun k_ e_ => HO_1001.out.1 k_ e_)); have n1_ := Aside0.mk (blk_kept (by (with_reducible repeat (first | refine blk_drewN ?_ _ | refine blk_drew ?_ | refine blk_alloc ?_ _)); exact BK0.out) hkp (fun hs_ => (fun e_ => (Kd.R_ne HO_1001.out BK0.out (by decide)) e_) hs_)); have n2_ := Aside0.mk (Kept.then_ (S := (fun k_ => P0_1_ k_)) (by repeat (first | (with_reducible first | exact HK.out | apply Kept.alloc | apply Kept.drewN | apply Kept.drew | refine Kept.setCell ?_ (.inr GW0.out) _) | exact HK.out)) hkp (fun k_ hs_ => (fun e_ => (HO_1001.out.1 k_ e_.symm)) hs_)); have n3_ := Aside0.mk (hb); clear HO_1001; clear BK0; clear HK; clear HB; have HO_1001 := n0_; have BK0 := n1_; have HK := n2_; have HB := n3_; clear n0_ n1_ n2_ n3_; (try clear hb); (try clear hkp); (try clear hy0)))
      go_roundg k1
      case measure => have := HK1.out; omega
      case rel => exact ⟨(wrap64 (x10_1 + 1)), (t602), (by first | rfl | (simp; done) | (simp [*]; done)), H', ⟨by have := HK1.out; omega⟩, ⟨by (with_reducible repeat (first | apply Kd.R_alloc | apply Kd.R_drewN | apply Kd.R_drew)); exact HO_1001.out⟩, ⟨by (with_reducible repeat (first | refine blk_drewN ?_ _ | refine blk_drew ?_ | refine blk_alloc ?_ _)); exact BK0.out⟩, ⟨by repeat (first | (with_reducible first | exact HK.out | apply Kept.alloc | apply Kept.drewN | apply Kept.drew | refine Kept.setCell ?_ (.inr GW0.out) _) | exact HK.out)⟩, ⟨by repeat (first | (with_reducible first | exact HB.out | apply below_alloc | apply pw_below_drewN | apply below_drew1 | refine below_set ?_ GE0.out) | exact HB.out)⟩⟩
     ·rw [if_neg c6] at H
      exact absurd H (by simp)
    ·rw [if_neg c5] at H
     have c5b0 : decide (x10_1 < a2) = false := decide_eq_false c5
     clear c5
     obtain rfl := Option.some.inj H
     go_wp2
     first | go_end0 | ((try simp only [Exit.inBlock, Exit.then]); refine bodyPost_ret (results_none rfl _ _ _) rfl ?_)
     exact ⟨by first | rfl | (simp [errW_none, errW_some] <;> rfl) | (simp [*, errW_none, errW_some] <;> rfl), by (with_reducible repeat (first | apply Kd.R_alloc | apply Kd.R_drewN | apply Kd.R_drew)); exact HO_1001.out, by repeat (first | (with_reducible first | exact HB.out | apply below_alloc | apply pw_below_drewN | apply below_drew1 | refine below_set ?_ GE0.out) | exact HB.out), by repeat (first | (with_reducible first | exact HK.out | apply Kept.alloc | apply Kept.drewN | apply Kept.drew | refine Kept.setCell ?_ (.inr GW0.out) _) | exact HK.out)⟩
/-! ### impl_fields: function 106 -/
def impl_fields.l0 : Nat → Int → List Int → Int → Int → Int → List Int → Option (Int × List Int)
  | 0, _, _, _, _, _, _ => none
  | k + 1, x1, x13, x14, x15, x609000, x609001 => if x15 < x14 then (if 0 ≤ x15 then (if x15 < (x13.length : Int) then ((impl_Bits_setField.f k x609000 x609001 (wrap64 (x15 * x1)) x1 (rd x13 x15)).bind fun t610 => (impl_fields.l0 k x1 x13 x14 (wrap64 (x15 + 1)) x609000 t610)) else (none)) else (none)) else (some (x609000, x609001))
def impl_fields.f (k : Nat) (l0 : List Int) (a1 : Int) : Option (Int × List Int) := (impl_blank.f (wrap64 ((l0.length : Int) * a1))).bind fun bt604 => (impl_fields.l0 k a1 l0 (l0.length : Int) 0 bt604.1 bt604.2)
theorem impl_fields.mono_l : ∀ k, (∀ y0 y1 y2 y3 y4 y5, LeO (impl_fields.l0 k y0 y1 y2 y3 y4 y5) (impl_fields.l0 (k + 1) y0 y1 y2 y3 y4 y5))
  | 0 => fun _ _ _ _ _ _ r h => by simp [impl_fields.l0] at h
  | k + 1 => by
    have ih0 := impl_fields.mono_l k
    · intro y0 y1 y2 y3 y4 y5
      unfold impl_fields.l0
      repeat' first
      | (with_reducible exact ih0 _ _ _ _ _ _)
      | (with_reducible exact impl_Bits_setField.mono _ _ _ _ _ _)
      | (with_reducible exact LeO.refl _)
      | (with_reducible exact LeO.none _)
      | (with_reducible refine LeO.ite ?_ ?_)
      | (with_reducible refine LeO.bind ?_ (fun _ => ?_))
      | exact ih0 _ _ _ _ _ _
      | exact impl_Bits_setField.mono _ _ _ _ _ _
      | exact LeO.none _
      | refine LeO.ite ?_ ?_
      | refine LeO.bind ?_ (fun _ => ?_)
theorem impl_fields.mono : ∀ a0 a1 k, LeO (impl_fields.f k a0 a1) (impl_fields.f (k + 1) a0 a1) := by
  intro a0 a1 k
  have ih0 := impl_fields.mono_l k
  unfold impl_fields.f
  repeat' first
      | (with_reducible exact ih0 _ _ _ _ _ _)
      | (with_reducible exact impl_Bits_setField.mono _ _ _ _ _ _)
      | (with_reducible exact LeO.refl _)
      | (with_reducible exact LeO.none _)
      | (with_reducible refine LeO.ite ?_ ?_)
      | (with_reducible refine LeO.bind ?_ (fun _ => ?_))
      | exact ih0 _ _ _ _ _ _
      | exact impl_Bits_setField.mono _ _ _ _ _ _
      | exact LeO.none _
      | refine LeO.ite ?_ ?_
      | refine LeO.bind ?_ (fun _ => ?_)
noncomputable def impl_fields.L0 (y0 : Int) (y1 : List Int) (y2 : Int) (y3 : Int) (y4 : Int) (y5 : List Int) : Option (Int × List Int) := lim fun k => impl_fields.l0 k y0 y1 y2 y3 y4 y5
theorem impl_fields.L0_sup (y0 : Int) (y1 : List Int) (y2 : Int) (y3 : Int) (y4 : Int) (y5 : List Int) : Sup (fun k => impl_fields.l0 k y0 y1 y2 y3 y4 y5) (impl_fields.L0 y0 y1 y2 y3 y4 y5) := Sup.of_mono fun k => impl_fields.mono_l k y0 y1 y2 y3 y4 y5
noncomputable def impl_fields.F (l0 : List Int) (a1 : Int) : Option (Int × List Int) := lim fun k => impl_fields.f k l0 a1
theorem impl_fields.F_sup (l0 : List Int) (a1 : Int) : Sup (fun k => impl_fields.f k l0 a1) (impl_fields.F l0 a1) := Sup.of_mono fun k => impl_fields.mono l0 a1 k
theorem impl_fields.L0_eq (x1 : Int) (x13 : List Int) (x14 : Int) (x15 : Int) (x609000 : Int) (x609001 : List Int) : impl_fields.L0 x1 x13 x14 x15 x609000 x609001 = if x15 < x14 then (if 0 ≤ x15 then (if x15 < (x13.length : Int) then ((impl_Bits_setField.F x609000 x609001 (wrap64 (x15 * x1)) x1 (rd x13 x15)).bind fun t610 => (impl_fields.L0 x1 x13 x14 (wrap64 (x15 + 1)) x609000 t610)) else (none)) else (none)) else (some (x609000, x609001)) := by
  refine Sup.unique (impl_fields.L0_sup x1 x13 x14 x15 x609000 x609001) (Sup.shift (fun k => impl_fields.mono_l k x1 x13 x14 x15 x609000 x609001) (Sup.congr (g' := fun k => if x15 < x14 then (if 0 ≤ x15 then (if x15 < (x13.length : Int) then ((impl_Bits_setField.f k x609000 x609001 (wrap64 (x15 * x1)) x1 (rd x13 x15)).bind fun t610 => (impl_fields.l0 k x1 x13 x14 (wrap64 (x15 + 1)) x609000 t610)) else (none)) else (none)) else (some (x609000, x609001))) (fun k => by first | rfl | simp only [impl_fields.l0]) ?_))
  repeat' first
    | (with_reducible exact impl_fields.L0_sup _ _ _ _ _ _)
    | (with_reducible exact impl_Bits_setField.F_sup _ _ _ _ _)
    | (with_reducible refine Sup.ite ?_ ?_)
    | (with_reducible refine Sup.bind ?_ (fun _ => ?_))
    | (with_reducible exact Sup.const _)
    | exact impl_fields.L0_sup _ _ _ _ _ _
    | exact impl_Bits_setField.F_sup _ _ _ _ _
    | exact Sup.const _
theorem impl_fields.F_eq (l0 : List Int) (a1 : Int) : impl_fields.F l0 a1 = (impl_blank.f (wrap64 ((l0.length : Int) * a1))).bind fun bt604 => (impl_fields.L0 a1 l0 (l0.length : Int) 0 bt604.1 bt604.2) := by
  refine Sup.unique (impl_fields.F_sup l0 a1) (Sup.congr (g' := fun k => (impl_blank.f (wrap64 ((l0.length : Int) * a1))).bind fun bt604 => (impl_fields.l0 k a1 l0 (l0.length : Int) 0 bt604.1 bt604.2)) (fun k => by first | rfl | simp only [impl_fields.f]) ?_)
  repeat' first
    | (with_reducible exact impl_fields.L0_sup _ _ _ _ _ _)
    | (with_reducible exact impl_Bits_setField.F_sup _ _ _ _ _)
    | (with_reducible refine Sup.ite ?_ ?_)
    | (with_reducible refine Sup.bind ?_ (fun _ => ?_))
    | (with_reducible exact Sup.const _)
    | exact impl_fields.L0_sup _ _ _ _ _ _
    | exact impl_Bits_setField.F_sup _ _ _ _ _
    | exact Sup.const _
set_option maxHeartbeats 8000000 in
set_option maxRecDepth 100000 in
theorem impl_fields.calls (k : Nat) (A0 : Option Addr) (c0 : Nat) (l0 : List Int) (a1 : Int) (r1 : Int) (r2 : List Int) (w : World) (hr0 : Kd.C (Kd.int .i64) w A0 l0.length l0) (hc0 : l0.length ≤ c0) (h : impl_fields.f k l0 a1 = some (r1, r2)) :
    Calls Try.prog 106 #[.slice A0 l0.length c0, .int .i64 a1] w fun e w' => ∃ v1_ : Value, e = .returned (.agg #[.int .i64 r1, v1_]) ∧ Kd.R (Kd.int .i64) 3 w' w.heap.size (fun _ => True) v1_ r2 ∧ Below w.heap.size w w' := by
  have hu39 := Try.underlying39
  have HR0 := Aside0.mk hr0
  have HC0 := Aside0.mk hc0
  clear hr0 hc0
  have HB := Aside0.mk (Below.refl w.heap.size w)
  have H : ((impl_blank.f (wrap64 ((l0.length : Int) * a1))).bind fun bt604 => (impl_fields.l0 k a1 l0 (l0.length : Int) 0 bt604.1 bt604.2)) = some (r1, r2) := h
  clear h
  replace H := Option.bind_eq_some_iff.mp H
  obtain ⟨⟨t604, t605⟩, A30, H⟩ := H
  replace H : (impl_fields.l0 k a1 l0 (l0.length : Int) 0 t604 t605) = some (r1, r2) := H
  have A3 := Aside0.mk A30
  clear A30
  have H' := Aside0.mk H
  clear H
  go_enter Try.func106, Try.ntmps106
  go_wp2_with (first | ((with_reducible refine gate_dst (N := 4) rfl ?_); refine box_event ?hg (N := 4) ?hd (cs := #[.int .i64 0, .slice none 0 0]) (t := 39) ?hr ?_; (case hd => rfl); (case hg => rfl); (case hr => first | (go_simp; done) | (go_simp; rfl)); intro gb603 hg w4 hbox hb; have n0_ := Aside0.mk (below_step (by repeat (first | (with_reducible first | exact HB.out | apply below_alloc | apply pw_below_drewN | apply below_drew1) | exact HB.out)) hb); have n1_ := Aside0.mk (hbox); have n2_ := Aside0.mk ((by rw [hg]; exact (below_size (by repeat (first | (with_reducible first | exact HB.out | apply below_alloc | apply pw_below_drewN | apply below_drew1) | exact HB.out))) : w.heap.size ≤ gb603)); have n3_ := Aside0.mk ((by rw [hg]; exact (below_size (by repeat (first | (with_reducible first | exact HB.out | apply below_alloc | apply pw_below_drewN | apply below_drew1) | exact HB.out))) : w.heap.size ≤ gb603)); clear HB; have HB := n0_; have BK603 := n1_; have GW603 := n2_; have GE603 := n3_; clear n0_ n1_ n2_ n3_; clear hb hbox hg) | ((with_reducible refine gate_callee (f := 135) rfl ?_); refine goesL_ (some 12) rfl rfl Try.func135 (by kernel_rfl) rfl #[.int .i64 (wrap64 ((l0.length : Int) * a1))] rfl (by (try simp only [List.map_toArray, List.map_cons, List.map_nil]); first | done | rfl | (simp only [List.length_drop, List.length_take]; rfl)) ?_; (with_reducible refine (impl_blank.calls (wrap64 ((l0.length : Int) * a1)) t604 t605 _ A3.out).mono ?_); rintro e w5 ⟨v606, rfl, ho0, hb⟩; refine ⟨_, rfl, ?_⟩; have n0_ := Aside0.mk (Kd.R_lower ho0 (below_size (by repeat (first | (with_reducible first | exact HB.out | apply below_alloc | apply pw_below_drewN | apply below_drew1 | refine below_set ?_ GE603.out) | exact HB.out)))); have n1_ := Aside0.mk (blk_below (g := gb603) (o := .cells #[.int .i64 0, .slice none 0 0] 39 (0, 0)) (by (with_reducible repeat (first | refine blk_drewN ?_ _ | refine blk_drew ?_ | refine blk_alloc ?_ _)); exact BK603.out) hb); have n2_ := Aside0.mk (below_step (by repeat (first | (with_reducible first | exact HB.out | apply below_alloc | apply pw_below_drewN | apply below_drew1 | refine below_set ?_ GE603.out) | exact HB.out)) hb); clear BK603; clear HB; have HO607 := n0_; have BK603 := n1_; have HB := n2_; clear n0_ n1_ n2_; (try clear hb); (try clear hb2); (try clear hk); (try clear hi); (try clear ho0)) | ((with_reducible refine gate_dst (N := 5) rfl ?_); refine box_event ?hg (N := 5) ?hd (cs := #[.int .i64 0, .slice none 0 0]) (t := 39) ?hr ?_; (case hd => rfl); (case hg => rfl); (case hr => first | (go_simp; done) | (go_simp; rfl)); intro gb608 hg w6 hbox hb; have n0_ := Aside0.mk (Kd.R_below (by (with_reducible repeat (first | apply Kd.R_alloc | apply Kd.R_drewN | apply Kd.R_drew)); exact HO607.out) hb); have n1_ := Aside0.mk (blk_below (g := gb603) (o := .cells #[.int .i64 0, .slice none 0 0] 39 (0, 0)) (by (with_reducible repeat (first | refine blk_drewN ?_ _ | refine blk_drew ?_ | refine blk_alloc ?_ _)); exact BK603.out) hb); have n2_ := Aside0.mk (below_step (by repeat (first | (with_reducible first | exact HB.out | apply below_alloc | apply pw_below_drewN | apply below_drew1 | refine below_set ?_ GE603.out) | exact HB.out)) hb); have n3_ := Aside0.mk (hbox); have n4_ := Aside0.mk ((by rw [hg]; exact (below_size (by repeat (first | (with_reducible first | exact HB.out | apply below_alloc | apply pw_below_drewN | apply below_drew1 | refine below_set ?_ GE603.out) | exact HB.out))) : w.heap.size ≤ gb608)); have n5_ := Aside0.mk ((by rw [hg]; exact (below_size (by repeat (first | (with_reducible first | exact HB.out | apply below_alloc | apply pw_below_drewN | apply below_drew1 | refine below_set ?_ GE603.out) | exact HB.out))) : w.heap.size ≤ gb608)); have n6_ := Aside0.mk ((by rw [hg]; exact Nat.ne_of_lt (blk_lt (g := gb603) (o := .cells #[.int .i64 0, .slice none 0 0] 39 (0, 0)) (by (with_reducible repeat (first | refine blk_drewN ?_ _ | refine blk_drew ?_ | refine blk_alloc ?_ _)); exact BK603.out)) : gb603 ≠ gb608)); have n7_ := Aside0.mk ((by rw [hg]; exact Nat.ne_of_gt (blk_lt (g := gb603) (o := .cells #[.int .i64 0, .slice none 0 0] 39 (0, 0)) (by (with_reducible repeat (first | refine blk_drewN ?_ _ | refine blk_drew ?_ | refine blk_alloc ?_ _)); exact BK603.out)) : gb608 ≠ gb603)); clear HO607; clear BK603; clear HB; have HO607 := n0_; have BK603 := n1_; have HB := n2_; have BK608 := n3_; have GW608 := n4_; have GE608 := n5_; have NB603_608 := n6_; have NB608_603 := n7_; clear n0_ n1_ n2_ n3_ n4_ n5_ n6_ n7_; clear hb hbox hg; have hnb7 := NB608_603.out; have hnc7 := NB603_608.out; have hcz8_0 : w6.cell? ⟨gb608, 0, none⟩ = some (.int .i64 0) := (blk_cell BK608.out 0).trans rfl; have hcz8_1 : w6.cell? ⟨gb608, 1, none⟩ = some (.slice none 0 0) := (blk_cell BK608.out 1).trans rfl; have hfz8_0 := blk_frozen BK608.out 0; have hfz8_1 := blk_frozen BK608.out 1; obtain ⟨Ao9, co9, eo9⟩ := Kd.R_slice HO607.out; subst eo9))
  go_loopg [15] k (fun kq v15 w' => ∃ (x15_1 : Int) (x609001_1 : List Int) (u609001 : Value), v15 = .int .i64 x15_1 ∧ Aside0 (impl_fields.l0 kq a1 l0 (l0.length : Int) x15_1 t604 x609001_1 = some (r1, r2)) ∧ Aside0 (kq ≤ k) ∧ Aside0 (Kd.R (Kd.int .i64) 3 w' w.heap.size (fun _ => True) u609001 x609001_1) ∧ Aside0 (w'.heap[gb603]? = some (.cells #[.int .i64 0, (.slice none 0 0)] 39 (0, 0))) ∧ Aside0 (w'.heap[gb608]? = some (.cells #[.int .i64 t604, u609001] 39 (0, 0))) ∧ Aside0 (Below w.heap.size w w'))
  case atStart => exact ⟨(0), (t605), (.slice Ao9 t605.length co9), (by first | rfl | (simp; done) | (simp [*]; done)), H', ⟨Nat.le_refl _⟩, ⟨by (with_reducible repeat (first | apply Kd.R_alloc | apply Kd.R_drewN | apply Kd.R_drew)); exact Kd.R_mono (Kd.R_far (p := ⟨gb608, 1, none⟩) (Kd.R_far (p := ⟨gb608, 0, none⟩) (Kd.R_types HO607.out BK608.out (by decide)) (fun _ hk => hk.2) (.int .i64 t604)) (fun _ hk => hk.2) (.slice Ao9 t605.length co9)) (fun _ hk => trivial)⟩, ⟨by (with_reducible repeat (first | refine blk_drewN ?_ _ | refine blk_drew ?_ | refine blk_alloc ?_ _)); refine blk_far ?_ NB603_608.out _; (with_reducible repeat (first | refine blk_drewN ?_ _ | refine blk_drew ?_ | refine blk_alloc ?_ _)); refine blk_far ?_ NB603_608.out _; (with_reducible repeat (first | refine blk_drewN ?_ _ | refine blk_drew ?_ | refine blk_alloc ?_ _)); exact BK603.out⟩, ⟨by (with_reducible repeat (first | refine blk_drewN ?_ _ | refine blk_drew ?_ | refine blk_alloc ?_ _)); refine blk_put (cs := #[.int .i64 t604, .slice none 0 0]) ?_ 1 _ rfl; (with_reducible repeat (first | refine blk_drewN ?_ _ | refine blk_drew ?_ | refine blk_alloc ?_ _)); refine blk_put (cs := #[.int .i64 0, .slice none 0 0]) ?_ 0 _ rfl; (with_reducible repeat (first | refine blk_drewN ?_ _ | refine blk_drew ?_ | refine blk_alloc ?_ _)); exact BK608.out⟩, ⟨by repeat (first | (with_reducible first | exact HB.out | apply below_alloc | apply pw_below_drewN | apply below_drew1 | refine below_set ?_ GE603.out | refine below_set ?_ GE608.out) | exact HB.out)⟩⟩
  case round =>
   clear H'
   try clear c1
   try clear p2
   try clear p6
   try clear c7
   try clear hcz8_0
   try clear hcz8_1
   try clear hfz8_0
   try clear hfz8_1
   obtain ⟨x15_1, x609001_1, u609001, rfl, HA, HK1, HO_609001, BK603, BK608, HB⟩ := hrel
   cases gk with
   | zero => exact absurd HA.out (by simp [impl_fields.l0])
   | succ k1 =>
    have H := HA.out
    clear HA
    simp only [impl_fields.l0] at H
    by_cases c10 : x15_1 < (l0.length : Int)
    ·rw [if_pos c10] at H
     have c10b0 : decide (x15_1 < (l0.length : Int)) = true := decide_eq_true c10
     clear c10
     by_cases c11 : 0 ≤ x15_1
     ·rw [if_pos c11] at H
      have c11b0 : decide (0 ≤ x15_1) = true := decide_eq_true c11
      clear c11
      by_cases c12 : x15_1 < (l0.length : Int)
      ·rw [if_pos c12] at H
       have c12b0 : decide (x15_1 < (l0.length : Int)) = true := decide_eq_true c12
       clear c12
       replace H := Option.bind_eq_some_iff.mp H
       obtain ⟨t610, A130, H⟩ := H
       replace H : (impl_fields.l0 k1 a1 l0 (l0.length : Int) (wrap64 (x15_1 + 1)) t604 t610) = some (r1, r2) := H
       have A13 := Aside0.mk A130
       clear A130
       have H' := Aside0.mk H
       clear H
       have p609 : 0 ≤ (x15_1 : Int) := of_decide_eq_true (by first | (with_reducible assumption) | assumption)
       have q609 : x15_1 < (l0.length : Int) := of_decide_eq_true (by first | (with_reducible assumption) | assumption)
       obtain ⟨ad609, e609, hx609_0⟩ := Kd.at_int HR0.out x15_1 p609 q609
       cases e609
       replace hx609_0 := (HB.out.cell (World.block_lt_of_cell? w _ hx609_0)).trans hx609_0
       replace p609 := eq_true p609
       replace q609 := eq_true q609
       obtain ⟨Ao14, co14, eo14⟩ := Kd.R_slice HO_609001.out
       subst eo14
       go_wp2_with (first | ((with_reducible refine gate_callee (f := 136) rfl ?_); refine goesL_ (some 25) rfl rfl Try.func136 (by kernel_rfl) rfl #[.pointer (some ⟨gb608, 0, none⟩), .int .i64 (wrap64 (x15_1 * a1)), .int .i64 a1, .int .i64 (rd l0 x15_1)] rfl (by (try simp only [List.map_toArray, List.map_cons, List.map_nil]); first | done | rfl | (simp only [List.length_drop, List.length_take]; rfl)) ?_; (with_reducible refine (impl_Bits_setField.calls k1 gb608 t604 (fun k_ => some k_ = (.slice Ao14 x609001_1.length co14 : Value).ownBlock) (.slice Ao14 x609001_1.length co14) x609001_1 (wrap64 (x15_1 * a1)) a1 (rd l0 x15_1) t610 w _ ?side1 ?side2 ?side3 A13.out).mono ?_); (case side1 => repeat (first | (with_reducible first | exact HB.out | apply below_alloc | apply pw_below_drewN | apply below_drew1 | refine below_set ?_ GE603.out | refine below_set ?_ GE608.out) | exact HB.out)); (case side2 => exact Kd.R_tight rfl HO_609001.out); (case side3 => exact (by (with_reducible repeat (first | refine blk_drewN ?_ _ | refine blk_drew ?_ | refine blk_alloc ?_ _)); exact BK608.out)); rintro e w15 ⟨rfl, hy0, hb, hkp⟩; refine ⟨_, rfl, ?_⟩; have n0_ := Aside0.mk (Kd.R_reok rfl hy0 (fun k_ e_ => HO_609001.out.1 k_ e_)); have n1_ := Aside0.mk (blk_kept (by (with_reducible repeat (first | refine blk_drewN ?_ _ | refine blk_drew ?_ | refine blk_alloc ?_ _)); exact BK603.out) hkp (fun hs_ => (fun e_ => (Kd.R_ne HO_609001.out BK603.out (by decide)) e_) hs_)); have n2_ := Aside0.mk (blk_kept (by (with_reducible repeat (first | refine blk_drewN ?_ _ | refine blk_drew ?_ | refine blk_alloc ?_ _)); exact BK608.out) hkp (fun hs_ => (fun e_ => (Kd.R_ne HO_609001.out BK608.out (by decide)) e_) hs_)); have n3_ := Aside0.mk (hb); clear HO_609001; clear BK603; clear BK608; clear HB; have HO_609001 := n0_; have BK603 := n1_; have BK608 := n2_; have HB := n3_; clear n0_ n1_ n2_ n3_; (try clear hb); (try clear hkp); (try clear hy0)))
       go_roundg k1
       case measure => have := HK1.out; omega
       case rel => exact ⟨(wrap64 (x15_1 + 1)), (t610), (.slice Ao14 x609001_1.length co14), (by first | rfl | (simp; done) | (simp [*]; done)), H', ⟨by have := HK1.out; omega⟩, ⟨by (with_reducible repeat (first | apply Kd.R_alloc | apply Kd.R_drewN | apply Kd.R_drew)); exact HO_609001.out⟩, ⟨by (with_reducible repeat (first | refine blk_drewN ?_ _ | refine blk_drew ?_ | refine blk_alloc ?_ _)); exact BK603.out⟩, ⟨by (with_reducible repeat (first | refine blk_drewN ?_ _ | refine blk_drew ?_ | refine blk_alloc ?_ _)); exact BK608.out⟩, ⟨by repeat (first | (with_reducible first | exact HB.out | apply below_alloc | apply pw_below_drewN | apply below_drew1 | refine below_set ?_ GE603.out | refine below_set ?_ GE608.out) | exact HB.out)⟩⟩
      ·rw [if_neg c12] at H
       exact absurd H (by simp)
     ·rw [if_neg c11] at H
      exact absurd H (by simp)
    ·rw [if_neg c10] at H
     have c10b0 : decide (x15_1 < (l0.length : Int)) = false := decide_eq_false c10
     clear c10
     simp only [Option.some.injEq, Prod.mk.injEq] at H
     obtain ⟨rfl, rfl⟩ := H
     have hnb16 := NB608_603.out
     have hnc16 := NB603_608.out
     have hcz17_0 : wr.cell? ⟨gb608, 0, none⟩ = some (.int .i64 t604) := (blk_cell BK608.out 0).trans rfl
     have hcz17_1 : wr.cell? ⟨gb608, 1, none⟩ = some (u609001) := (blk_cell BK608.out 1).trans rfl
     have hfz17_0 := blk_frozen BK608.out 0
     have hfz17_1 := blk_frozen BK608.out 1
     have hcz18_0 : wr.cell? ⟨gb603, 0, none⟩ = some (.int .i64 0) := (blk_cell BK603.out 0).trans rfl
     have hcz18_1 : wr.cell? ⟨gb603, 1, none⟩ = some (.slice none 0 0) := (blk_cell BK603.out 1).trans rfl
     have hfz18_0 := blk_frozen BK603.out 0
     have hfz18_1 := blk_frozen BK603.out 1
     obtain ⟨Ao19, co19, eo19⟩ := Kd.R_slice HO_609001.out
     subst eo19
     go_wp2
     refine bodyPost_ret (results_cell_row rfl _ _ gb603 39 #[.int .i64 t604, .slice Ao19 x609001_1.length co19] (0, 0) _ rfl (by (with_reducible repeat (first | refine blk_drewN ?_ _ | refine blk_drew ?_ | refine blk_alloc ?_ _)); refine blk_put (cs := #[.int .i64 t604, .slice none 0 0]) ?_ 1 _ rfl; (with_reducible repeat (first | refine blk_drewN ?_ _ | refine blk_drew ?_ | refine blk_alloc ?_ _)); refine blk_put (cs := #[.int .i64 0, .slice none 0 0]) ?_ 0 _ rfl; (with_reducible repeat (first | refine blk_drewN ?_ _ | refine blk_drew ?_ | refine blk_alloc ?_ _)); exact BK603.out) Try.underlying39 rfl (by kernel_rfl)) rfl ?_
     exact ⟨_, by first | rfl | (simp [errW_none, errW_some] <;> rfl) | (simp [*, errW_none, errW_some] <;> rfl), by (with_reducible repeat (first | apply Kd.R_alloc | apply Kd.R_drewN | apply Kd.R_drew)); exact Kd.R_mono (Kd.R_far (p := ⟨gb603, 1, none⟩) (Kd.R_far (p := ⟨gb603, 0, none⟩) (Kd.R_types HO_609001.out BK603.out (by decide)) (fun _ hk => hk.2) (.int .i64 t604)) (fun _ hk => hk.2) (.slice Ao19 x609001_1.length co19)) (fun _ hk => trivial), by repeat (first | (with_reducible first | exact HB.out | apply below_alloc | apply pw_below_drewN | apply below_drew1 | refine below_set ?_ GE603.out | refine below_set ?_ GE608.out) | exact HB.out)⟩
/-! ### impl_PackMarks: function 50 -/
def impl_PackMarks.f (k : Nat) (a0_0 : Int) (a0_1 : Int) (l0_2 : List Int) : Option (Int × List Int × Bool) := (impl_IsPeeled.f k a0_0 a0_1 l0_2).bind fun t613 => (if t613 = true then ((impl_fields.f k l0_2 2).bind fun bt614 => (some (bt614.1, bt614.2, true))) else (some (0, ([] : List Int), false)))
theorem impl_PackMarks.mono : ∀ a0 a1 a2 k, LeO (impl_PackMarks.f k a0 a1 a2) (impl_PackMarks.f (k + 1) a0 a1 a2) := by
  intro a0 a1 a2 k
  unfold impl_PackMarks.f
  repeat' first
      | (with_reducible exact impl_IsPeeled.mono _ _ _ _)
      | (with_reducible exact impl_fields.mono _ _ _)
      | (with_reducible exact LeO.refl _)
      | (with_reducible exact LeO.none _)
      | (with_reducible refine LeO.ite ?_ ?_)
      | (with_reducible refine LeO.bind ?_ (fun _ => ?_))
      | exact impl_IsPeeled.mono _ _ _ _
      | exact impl_fields.mono _ _ _
      | exact LeO.none _
      | refine LeO.ite ?_ ?_
      | refine LeO.bind ?_ (fun _ => ?_)
noncomputable def impl_PackMarks.F (a0_0 : Int) (a0_1 : Int) (l0_2 : List Int) : Option (Int × List Int × Bool) := lim fun k => impl_PackMarks.f k a0_0 a0_1 l0_2
theorem impl_PackMarks.F_sup (a0_0 : Int) (a0_1 : Int) (l0_2 : List Int) : Sup (fun k => impl_PackMarks.f k a0_0 a0_1 l0_2) (impl_PackMarks.F a0_0 a0_1 l0_2) := Sup.of_mono fun k => impl_PackMarks.mono a0_0 a0_1 l0_2 k
theorem impl_PackMarks.F_eq (a0_0 : Int) (a0_1 : Int) (l0_2 : List Int) : impl_PackMarks.F a0_0 a0_1 l0_2 = (impl_IsPeeled.F a0_0 a0_1 l0_2).bind fun t613 => (if t613 = true then ((impl_fields.F l0_2 2).bind fun bt614 => (some (bt614.1, bt614.2, true))) else (some (0, ([] : List Int), false))) := by
  refine Sup.unique (impl_PackMarks.F_sup a0_0 a0_1 l0_2) (Sup.congr (g' := fun k => (impl_IsPeeled.f k a0_0 a0_1 l0_2).bind fun t613 => (if t613 = true then ((impl_fields.f k l0_2 2).bind fun bt614 => (some (bt614.1, bt614.2, true))) else (some (0, ([] : List Int), false)))) (fun k => by first | rfl | simp only [impl_PackMarks.f]) ?_)
  repeat' first
    | (with_reducible exact impl_IsPeeled.F_sup _ _ _)
    | (with_reducible exact impl_fields.F_sup _ _)
    | (with_reducible refine Sup.ite ?_ ?_)
    | (with_reducible refine Sup.bind ?_ (fun _ => ?_))
    | (with_reducible exact Sup.const _)
    | exact impl_IsPeeled.F_sup _ _ _
    | exact impl_fields.F_sup _ _
    | exact Sup.const _
set_option maxHeartbeats 8000000 in
set_option maxRecDepth 100000 in
theorem impl_PackMarks.calls (k : Nat) (a0_0 : Int) (a0_1 : Int) (A0_2 : Option Addr) (c0_2 : Nat) (l0_2 : List Int) (r1 : Int) (r2 : List Int) (r3 : Bool) (w : World) (hr0_2 : Kd.C (Kd.int .i64) w A0_2 l0_2.length l0_2) (hc0_2 : l0_2.length ≤ c0_2) (h : impl_PackMarks.f k a0_0 a0_1 l0_2 = some (r1, r2, r3)) :
    Calls Try.prog 50 #[.agg #[.int .i64 a0_0, .int .i64 a0_1, .slice A0_2 l0_2.length c0_2]] w fun e w' => ∃ v1_ : Value, e = .returned (.tuple #[.agg #[.int .i64 r1, v1_], .bool r3]) ∧ Kd.R (Kd.int .i64) 3 w' w.heap.size (fun _ => True) v1_ r2 ∧ Below w.heap.size w w' := by
  have hu36 := Try.underlying36
  have hu39 := Try.underlying39
  have HR0_2 := Aside0.mk hr0_2
  have HC0_2 := Aside0.mk hc0_2
  clear hr0_2 hc0_2
  have HB := Aside0.mk (Below.refl w.heap.size w)
  have H : ((impl_IsPeeled.f k a0_0 a0_1 l0_2).bind fun t613 => (if t613 = true then ((impl_fields.f k l0_2 2).bind fun bt614 => (some (bt614.1, bt614.2, true))) else (some (0, ([] : List Int), false)))) = some (r1, r2, r3) := h
  clear h
  replace H := Option.bind_eq_some_iff.mp H
  obtain ⟨t613, A20, H⟩ := H
  replace H : (if t613 = true then ((impl_fields.f k l0_2 2).bind fun bt614 => (some (bt614.1, bt614.2, true))) else (some (0, ([] : List Int), false))) = some (r1, r2, r3) := H
  have A2 := Aside0.mk A20
  clear A20
  by_cases c3 : t613 = true
  ·subst c3
   have H1 : ((impl_fields.f k l0_2 2).bind fun bt614 => (some (bt614.1, bt614.2, true))) = some (r1, r2, r3) := by rw [if_pos rfl] at H; exact H
   clear H
   have H := H1
   clear H1
   replace H := Option.bind_eq_some_iff.mp H
   obtain ⟨⟨t614, t615⟩, A40, H⟩ := H
   replace H : (some (t614, t615, true)) = some (r1, r2, r3) := H
   have A4 := Aside0.mk A40
   clear A40
   simp only [Option.some.injEq, Prod.mk.injEq] at H
   obtain ⟨rfl, rfl, rfl⟩ := H
   go_enter Try.func50, Try.ntmps50
   go_wp2_with (first | ((with_reducible refine gate_dst (N := 1) rfl ?_); refine box_event ?hg (N := 1) ?hd (cs := #[.int .i64 a0_0, .int .i64 a0_1, .slice A0_2 l0_2.length c0_2]) (t := 36) ?hr ?_; (case hd => rfl); (case hg => rfl); (case hr => first | (go_simp; done) | (go_simp; rfl)); intro gb611 hg w5 hbox hb; have n0_ := Aside0.mk (below_step (by repeat (first | (with_reducible first | exact HB.out | apply below_alloc | apply pw_below_drewN | apply below_drew1) | exact HB.out)) hb); have n1_ := Aside0.mk (hbox); have n2_ := Aside0.mk ((by rw [hg]; exact (below_size (by repeat (first | (with_reducible first | exact HB.out | apply below_alloc | apply pw_below_drewN | apply below_drew1) | exact HB.out))) : w.heap.size ≤ gb611)); have n3_ := Aside0.mk ((by rw [hg]; exact (below_size (by repeat (first | (with_reducible first | exact HB.out | apply below_alloc | apply pw_below_drewN | apply below_drew1) | exact HB.out))) : w.heap.size ≤ gb611)); clear HB; have HB := n0_; have BK611 := n1_; have GW611 := n2_; have GE611 := n3_; clear n0_ n1_ n2_ n3_; clear hb hbox hg) | ((with_reducible refine gate_dst (N := 2) rfl ?_); refine box_event ?hg (N := 2) ?hd (cs := #[.int .i64 0, .slice none 0 0]) (t := 39) ?hr ?_; (case hd => rfl); (case hg => rfl); (case hr => first | (go_simp; done) | (go_simp; rfl)); intro gb612 hg w6 hbox hb; have n0_ := Aside0.mk (blk_below (g := gb611) (o := .cells #[.int .i64 a0_0, .int .i64 a0_1, .slice A0_2 l0_2.length c0_2] 36 (0, 0)) (by (with_reducible repeat (first | refine blk_drewN ?_ _ | refine blk_drew ?_ | refine blk_alloc ?_ _)); exact BK611.out) hb); have n1_ := Aside0.mk (below_step (by repeat (first | (with_reducible first | exact HB.out | apply below_alloc | apply pw_below_drewN | apply below_drew1 | refine below_set ?_ GE611.out) | exact HB.out)) hb); have n2_ := Aside0.mk (hbox); have n3_ := Aside0.mk ((by rw [hg]; exact (below_size (by repeat (first | (with_reducible first | exact HB.out | apply below_alloc | apply pw_below_drewN | apply below_drew1 | refine below_set ?_ GE611.out) | exact HB.out))) : w.heap.size ≤ gb612)); have n4_ := Aside0.mk ((by rw [hg]; exact (below_size (by repeat (first | (with_reducible first | exact HB.out | apply below_alloc | apply pw_below_drewN | apply below_drew1 | refine below_set ?_ GE611.out) | exact HB.out))) : w.heap.size ≤ gb612)); have n5_ := Aside0.mk ((by rw [hg]; exact Nat.ne_of_lt (blk_lt (g := gb611) (o := .cells #[.int .i64 a0_0, .int .i64 a0_1, .slice A0_2 l0_2.length c0_2] 36 (0, 0)) (by (with_reducible repeat (first | refine blk_drewN ?_ _ | refine blk_drew ?_ | refine blk_alloc ?_ _)); exact BK611.out)) : gb611 ≠ gb612)); have n6_ := Aside0.mk ((by rw [hg]; exact Nat.ne_of_gt (blk_lt (g := gb611) (o := .cells #[.int .i64 a0_0, .int .i64 a0_1, .slice A0_2 l0_2.length c0_2] 36 (0, 0)) (by (with_reducible repeat (first | refine blk_drewN ?_ _ | refine blk_drew ?_ | refine blk_alloc ?_ _)); exact BK611.out)) : gb612 ≠ gb611)); clear BK611; clear HB; have BK611 := n0_; have HB := n1_; have BK612 := n2_; have GW612 := n3_; have GE612 := n4_; have NB611_612 := n5_; have NB612_611 := n6_; clear n0_ n1_ n2_ n3_ n4_ n5_ n6_; clear hb hbox hg; have hnb7 := NB611_612.out; have hnc7 := NB612_611.out; have hcz8_0 : w6.cell? ⟨gb611, 0, none⟩ = some (.int .i64 a0_0) := (blk_cell BK611.out 0).trans rfl; have hcz8_1 : w6.cell? ⟨gb611, 1, none⟩ = some (.int .i64 a0_1) := (blk_cell BK611.out 1).trans rfl; have hcz8_2 : w6.cell? ⟨gb611, 2, none⟩ = some (.slice A0_2 l0_2.length c0_2) := (blk_cell BK611.out 2).trans rfl; have hfz8_0 := blk_frozen BK611.out 0; have hfz8_1 := blk_frozen BK611.out 1; have hfz8_2 := blk_frozen BK611.out 2) | ((with_reducible refine gate_callee (f := 94) rfl ?_); refine goesL_ (some 5) rfl rfl Try.func94 (by kernel_rfl) rfl #[.agg #[.int .i64 a0_0, .int .i64 a0_1, .slice A0_2 l0_2.length c0_2]] rfl (by (try simp only [List.map_toArray, List.map_cons, List.map_nil]); first | done | rfl | (simp only [List.length_drop, List.length_take]; rfl)) ?_; (with_reducible refine (impl_IsPeeled.calls k a0_0 a0_1 _ _ l0_2 true _ ?side1 ?side2 A2.out).mono ?_); (case side1 => repeat (first | exact (Kd.C_below HR0_2.out HB.out) | (with_reducible refine Kd.C_alloc ?_ _) | (with_reducible refine Kd.C_drewN ?_ _) | (with_reducible refine Kd.C_drew ?_))); (case side2 => exact HC0_2.out); rintro e w9 ⟨rfl, hb⟩; refine ⟨_, rfl, ?_⟩; have n0_ := Aside0.mk (blk_below (g := gb611) (o := .cells #[.int .i64 a0_0, .int .i64 a0_1, .slice A0_2 l0_2.length c0_2] 36 (0, 0)) (by (with_reducible repeat (first | refine blk_drewN ?_ _ | refine blk_drew ?_ | refine blk_alloc ?_ _)); exact BK611.out) hb); have n1_ := Aside0.mk (blk_below (g := gb612) (o := .cells #[.int .i64 0, .slice none 0 0] 39 (0, 0)) (by (with_reducible repeat (first | refine blk_drewN ?_ _ | refine blk_drew ?_ | refine blk_alloc ?_ _)); exact BK612.out) hb); have n2_ := Aside0.mk (below_step (by repeat (first | (with_reducible first | exact HB.out | apply below_alloc | apply pw_below_drewN | apply below_drew1 | refine below_set ?_ GE611.out | refine below_set ?_ GE612.out) | exact HB.out)) hb); clear BK611; clear BK612; clear HB; have BK611 := n0_; have BK612 := n1_; have HB := n2_; clear n0_ n1_ n2_; (try clear hb); (try clear hb2); (try clear hk); (try clear hi); have hcz10_0 : w9.cell? ⟨gb611, 0, none⟩ = some (.int .i64 a0_0) := (blk_cell BK611.out 0).trans rfl; have hcz10_1 : w9.cell? ⟨gb611, 1, none⟩ = some (.int .i64 a0_1) := (blk_cell BK611.out 1).trans rfl; have hcz10_2 : w9.cell? ⟨gb611, 2, none⟩ = some (.slice A0_2 l0_2.length c0_2) := (blk_cell BK611.out 2).trans rfl; have hfz10_0 := blk_frozen BK611.out 0; have hfz10_1 := blk_frozen BK611.out 1; have hfz10_2 := blk_frozen BK611.out 2) | ((with_reducible refine gate_callee (f := 106) rfl ?_); refine goesL_ (some 10) rfl rfl Try.func106 (by kernel_rfl) rfl #[.slice A0_2 l0_2.length c0_2, .int .i64 2] rfl (by (try simp only [List.map_toArray, List.map_cons, List.map_nil]); first | done | rfl | (simp only [List.length_drop, List.length_take]; rfl)) ?_; (with_reducible refine (impl_fields.calls k _ _ l0_2 2 t614 t615 _ ?side1 ?side2 A4.out).mono ?_); (case side1 => repeat (first | exact (Kd.C_below HR0_2.out HB.out) | (with_reducible refine Kd.C_alloc ?_ _) | (with_reducible refine Kd.C_drewN ?_ _) | (with_reducible refine Kd.C_drew ?_))); (case side2 => exact HC0_2.out); rintro e w11 ⟨v616, rfl, ho0, hb⟩; refine ⟨_, rfl, ?_⟩; have n0_ := Aside0.mk (Kd.R_lower ho0 (below_size (by repeat (first | (with_reducible first | exact HB.out | apply below_alloc | apply pw_below_drewN | apply below_drew1 | refine below_set ?_ GE611.out | refine below_set ?_ GE612.out) | exact HB.out)))); have n1_ := Aside0.mk (blk_below (g := gb611) (o := .cells #[.int .i64 a0_0, .int .i64 a0_1, .slice A0_2 l0_2.length c0_2] 36 (0, 0)) (by (with_reducible repeat (first | refine blk_drewN ?_ _ | refine blk_drew ?_ | refine blk_alloc ?_ _)); exact BK611.out) hb); have n2_ := Aside0.mk (blk_below (g := gb612) (o := .cells #[.int .i64 0, .slice none 0 0] 39 (0, 0)) (by (with_reducible repeat (first | refine blk_drewN ?_ _ | refine blk_drew ?_ | refine blk_alloc ?_ _)); exact BK612.out) hb); have n3_ := Aside0.mk (below_step (by repeat (first | (with_reducible first | exact HB.out | apply below_alloc | apply pw_below_drewN | apply below_drew1 | refine below_set ?_ GE611.out | refine below_set ?_ GE612.out) | exact HB.out)) hb); clear BK611; clear BK612; clear HB; have HO617 := n0_; have BK611 := n1_; have BK612 := n2_; have HB := n3_; clear n0_ n1_ n2_ n3_; (try clear hb); (try clear hb2); (try clear hk); (try clear hi); (try clear ho0); have hcz12_0 : w11.cell? ⟨gb612, 0, none⟩ = some (.int .i64 0) := (blk_cell BK612.out 0).trans rfl; have hcz12_1 : w11.cell? ⟨gb612, 1, none⟩ = some (.slice none 0 0) := (blk_cell BK612.out 1).trans rfl; have hfz12_0 := blk_frozen BK612.out 0; have hfz12_1 := blk_frozen BK612.out 1; obtain ⟨Ao13, co13, eo13⟩ := Kd.R_slice HO617.out; subst eo13))
   refine bodyPost_ret (results_ct rfl _ _ gb612 39 #[.int .i64 t614, .slice Ao13 t615.length co13] (0, 0) _ rfl (by (with_reducible repeat (first | refine blk_drewN ?_ _ | refine blk_drew ?_ | refine blk_alloc ?_ _)); refine blk_put (cs := #[.int .i64 t614, .slice none 0 0]) ?_ 1 _ rfl; (with_reducible repeat (first | refine blk_drewN ?_ _ | refine blk_drew ?_ | refine blk_alloc ?_ _)); refine blk_put (cs := #[.int .i64 0, .slice none 0 0]) ?_ 0 _ rfl; (with_reducible repeat (first | refine blk_drewN ?_ _ | refine blk_drew ?_ | refine blk_alloc ?_ _)); exact BK612.out) Try.underlying39 rfl (by kernel_rfl)) rfl ?_
   exact ⟨_, by first | rfl | (simp [errW_none, errW_some] <;> rfl) | (simp [*, errW_none, errW_some] <;> rfl), by (with_reducible repeat (first | apply Kd.R_alloc | apply Kd.R_drewN | apply Kd.R_drew)); exact Kd.R_mono (Kd.R_far (p := ⟨gb612, 1, none⟩) (Kd.R_far (p := ⟨gb612, 0, none⟩) (Kd.R_types HO617.out BK612.out (by decide)) (fun _ hk => hk.2) (.int .i64 t614)) (fun _ hk => hk.2) (.slice Ao13 t615.length co13)) (fun _ hk => trivial), by repeat (first | (with_reducible first | exact HB.out | apply below_alloc | apply pw_below_drewN | apply below_drew1 | refine below_set ?_ GE611.out | refine below_set ?_ GE612.out) | exact HB.out)⟩
  ·replace c3 := Bool.eq_false_iff.mpr c3
   subst c3
   have H1 : (some (0, ([] : List Int), false)) = some (r1, r2, r3) := by rw [if_neg (show ¬ (false = true) by decide)] at H; exact H
   clear H
   have H := H1
   clear H1
   simp only [Option.some.injEq, Prod.mk.injEq] at H
   obtain ⟨rfl, rfl, rfl⟩ := H
   go_enter Try.func50, Try.ntmps50
   go_wp2_with (first | ((with_reducible refine gate_dst (N := 1) rfl ?_); refine box_event ?hg (N := 1) ?hd (cs := #[.int .i64 a0_0, .int .i64 a0_1, .slice A0_2 l0_2.length c0_2]) (t := 36) ?hr ?_; (case hd => rfl); (case hg => rfl); (case hr => first | (go_simp; done) | (go_simp; rfl)); intro gb611 hg w14 hbox hb; have n0_ := Aside0.mk (below_step (by repeat (first | (with_reducible first | exact HB.out | apply below_alloc | apply pw_below_drewN | apply below_drew1) | exact HB.out)) hb); have n1_ := Aside0.mk (hbox); have n2_ := Aside0.mk ((by rw [hg]; exact (below_size (by repeat (first | (with_reducible first | exact HB.out | apply below_alloc | apply pw_below_drewN | apply below_drew1) | exact HB.out))) : w.heap.size ≤ gb611)); have n3_ := Aside0.mk ((by rw [hg]; exact (below_size (by repeat (first | (with_reducible first | exact HB.out | apply below_alloc | apply pw_below_drewN | apply below_drew1) | exact HB.out))) : w.heap.size ≤ gb611)); clear HB; have HB := n0_; have BK611 := n1_; have GW611 := n2_; have GE611 := n3_; clear n0_ n1_ n2_ n3_; clear hb hbox hg) | ((with_reducible refine gate_dst (N := 2) rfl ?_); refine box_event ?hg (N := 2) ?hd (cs := #[.int .i64 0, .slice none 0 0]) (t := 39) ?hr ?_; (case hd => rfl); (case hg => rfl); (case hr => first | (go_simp; done) | (go_simp; rfl)); intro gb612 hg w15 hbox hb; have n0_ := Aside0.mk (blk_below (g := gb611) (o := .cells #[.int .i64 a0_0, .int .i64 a0_1, .slice A0_2 l0_2.length c0_2] 36 (0, 0)) (by (with_reducible repeat (first | refine blk_drewN ?_ _ | refine blk_drew ?_ | refine blk_alloc ?_ _)); exact BK611.out) hb); have n1_ := Aside0.mk (below_step (by repeat (first | (with_reducible first | exact HB.out | apply below_alloc | apply pw_below_drewN | apply below_drew1 | refine below_set ?_ GE611.out) | exact HB.out)) hb); have n2_ := Aside0.mk (hbox); have n3_ := Aside0.mk ((by rw [hg]; exact (below_size (by repeat (first | (with_reducible first | exact HB.out | apply below_alloc | apply pw_below_drewN | apply below_drew1 | refine below_set ?_ GE611.out) | exact HB.out))) : w.heap.size ≤ gb612)); have n4_ := Aside0.mk ((by rw [hg]; exact (below_size (by repeat (first | (with_reducible first | exact HB.out | apply below_alloc | apply pw_below_drewN | apply below_drew1 | refine below_set ?_ GE611.out) | exact HB.out))) : w.heap.size ≤ gb612)); have n5_ := Aside0.mk ((by rw [hg]; exact Nat.ne_of_lt (blk_lt (g := gb611) (o := .cells #[.int .i64 a0_0, .int .i64 a0_1, .slice A0_2 l0_2.length c0_2] 36 (0, 0)) (by (with_reducible repeat (first | refine blk_drewN ?_ _ | refine blk_drew ?_ | refine blk_alloc ?_ _)); exact BK611.out)) : gb611 ≠ gb612)); have n6_ := Aside0.mk ((by rw [hg]; exact Nat.ne_of_gt (blk_lt (g := gb611) (o := .cells #[.int .i64 a0_0, .int .i64 a0_1, .slice A0_2 l0_2.length c0_2] 36 (0, 0)) (by (with_reducible repeat (first | refine blk_drewN ?_ _ | refine blk_drew ?_ | refine blk_alloc ?_ _)); exact BK611.out)) : gb612 ≠ gb611)); clear BK611; clear HB; have BK611 := n0_; have HB := n1_; have BK612 := n2_; have GW612 := n3_; have GE612 := n4_; have NB611_612 := n5_; have NB612_611 := n6_; clear n0_ n1_ n2_ n3_ n4_ n5_ n6_; clear hb hbox hg; have hnb16 := NB611_612.out; have hnc16 := NB612_611.out; have hcz17_0 : w15.cell? ⟨gb611, 0, none⟩ = some (.int .i64 a0_0) := (blk_cell BK611.out 0).trans rfl; have hcz17_1 : w15.cell? ⟨gb611, 1, none⟩ = some (.int .i64 a0_1) := (blk_cell BK611.out 1).trans rfl; have hcz17_2 : w15.cell? ⟨gb611, 2, none⟩ = some (.slice A0_2 l0_2.length c0_2) := (blk_cell BK611.out 2).trans rfl; have hfz17_0 := blk_frozen BK611.out 0; have hfz17_1 := blk_frozen BK611.out 1; have hfz17_2 := blk_frozen BK611.out 2) | ((with_reducible refine gate_callee (f := 94) rfl ?_); refine goesL_ (some 5) rfl rfl Try.func94 (by kernel_rfl) rfl #[.agg #[.int .i64 a0_0, .int .i64 a0_1, .slice A0_2 l0_2.length c0_2]] rfl (by (try simp only [List.map_toArray, List.map_cons, List.map_nil]); first | done | rfl | (simp only [List.length_drop, List.length_take]; rfl)) ?_; (with_reducible refine (impl_IsPeeled.calls k a0_0 a0_1 _ _ l0_2 false _ ?side1 ?side2 A2.out).mono ?_); (case side1 => repeat (first | exact (Kd.C_below HR0_2.out HB.out) | (with_reducible refine Kd.C_alloc ?_ _) | (with_reducible refine Kd.C_drewN ?_ _) | (with_reducible refine Kd.C_drew ?_))); (case side2 => exact HC0_2.out); rintro e w18 ⟨rfl, hb⟩; refine ⟨_, rfl, ?_⟩; have n0_ := Aside0.mk (blk_below (g := gb611) (o := .cells #[.int .i64 a0_0, .int .i64 a0_1, .slice A0_2 l0_2.length c0_2] 36 (0, 0)) (by (with_reducible repeat (first | refine blk_drewN ?_ _ | refine blk_drew ?_ | refine blk_alloc ?_ _)); exact BK611.out) hb); have n1_ := Aside0.mk (blk_below (g := gb612) (o := .cells #[.int .i64 0, .slice none 0 0] 39 (0, 0)) (by (with_reducible repeat (first | refine blk_drewN ?_ _ | refine blk_drew ?_ | refine blk_alloc ?_ _)); exact BK612.out) hb); have n2_ := Aside0.mk (below_step (by repeat (first | (with_reducible first | exact HB.out | apply below_alloc | apply pw_below_drewN | apply below_drew1 | refine below_set ?_ GE611.out | refine below_set ?_ GE612.out) | exact HB.out)) hb); clear BK611; clear BK612; clear HB; have BK611 := n0_; have BK612 := n1_; have HB := n2_; clear n0_ n1_ n2_; (try clear hb); (try clear hb2); (try clear hk); (try clear hi); have hcz19_0 : w18.cell? ⟨gb612, 0, none⟩ = some (.int .i64 0) := (blk_cell BK612.out 0).trans rfl; have hcz19_1 : w18.cell? ⟨gb612, 1, none⟩ = some (.slice none 0 0) := (blk_cell BK612.out 1).trans rfl; have hfz19_0 := blk_frozen BK612.out 0; have hfz19_1 := blk_frozen BK612.out 1))
   refine bodyPost_ret (results_ct rfl _ _ gb612 39 #[.int .i64 0, .slice none 0 0] (0, 0) _ rfl (by (with_reducible repeat (first | refine blk_drewN ?_ _ | refine blk_drew ?_ | refine blk_alloc ?_ _)); refine blk_put (cs := #[.int .i64 0, .slice none 0 0]) ?_ 1 _ rfl; (with_reducible repeat (first | refine blk_drewN ?_ _ | refine blk_drew ?_ | refine blk_alloc ?_ _)); refine blk_put (cs := #[.int .i64 0, .slice none 0 0]) ?_ 0 _ rfl; (with_reducible repeat (first | refine blk_drewN ?_ _ | refine blk_drew ?_ | refine blk_alloc ?_ _)); exact BK612.out) Try.underlying39 rfl (by kernel_rfl)) rfl ?_
   exact ⟨_, by first | rfl | (simp [errW_none, errW_some] <;> rfl) | (simp [*, errW_none, errW_some] <;> rfl), by first | exact Kd.R_nil _ _ _ _ _ | exact Kd.N_nil _ _ _ _ _ | exact Kd.V_nil _ _ _ _ _ | exact Kd.Q_nil _ _ _ _ _ | exact Kd.S_nil _ _ _ _ _, by repeat (first | (with_reducible first | exact HB.out | apply below_alloc | apply pw_below_drewN | apply below_drew1 | refine below_set ?_ GE611.out | refine below_set ?_ GE612.out) | exact HB.out)⟩
end Go.Proofs.Ytioncjcmfbndmaa.X
