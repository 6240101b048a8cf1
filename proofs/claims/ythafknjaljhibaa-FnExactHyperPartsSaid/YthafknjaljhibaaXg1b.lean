/- Written by a program of this session: what functions of the given program compute, and that their calls do so. -/
import Derived.Test.YthafknjaljhibaaXx0
import Derived.Test.YthafknjaljhibaaXs
namespace Go.Proofs.Ythafknjaljhibaa.X
open Go.RowKit Go.Proofs.YthafknjaljhibaaW.PrintWords Go.Proofs.YthafknjaljhibaaW.PrintLast Go.Proofs.YthafknjaljhibaaW.PrintMore
attribute [local go_sem] max2_int min2_int max_two min_two max_three min_three max_four min_four   -- for this text's walks alone
set_option linter.unusedVariables false
set_option linter.unusedSimpArgs false
/-! ### laws_toIntS: function 28 -/
def laws_toIntS.l0 : Nat → List Int → List Int → Int → Option (List Int)
  | 0, _, _, _ => none
  | k + 1, x0, x3, x4 => if x4 < (x0.length : Int) then (if 0 ≤ x4 then (if x4 < (x3.length : Int) then (laws_toIntS.l0 k x0 (x3.set (x4 : Int).toNat (rd x0 x4)) (wrap64 (x4 + 1))) else (none)) else (none)) else (some x3)
def laws_toIntS.f (k : Nat) (l0 : List Int) : Option (List Int) := if 0 ≤ (l0.length : Int) then (if ((l0.length : Int) : Int).toNat ≤ 35184372088832 then (laws_toIntS.l0 k l0 (List.replicate ((l0.length : Int) : Int).toNat 0) 0) else (none)) else (none)
theorem laws_toIntS.mono_l : ∀ k, (∀ y0 y1 y2, LeO (laws_toIntS.l0 k y0 y1 y2) (laws_toIntS.l0 (k + 1) y0 y1 y2))
  | 0 => fun _ _ _ r h => by simp [laws_toIntS.l0] at h
  | k + 1 => by
    have ih0 := laws_toIntS.mono_l k
    · intro y0 y1 y2
      unfold laws_toIntS.l0
      repeat' first
      | (with_reducible exact ih0 _ _ _)
      | (with_reducible exact LeO.refl _)
      | (with_reducible exact LeO.none _)
      | (with_reducible refine LeO.ite ?_ ?_)
      | (with_reducible refine LeO.bind ?_ (fun _ => ?_))
      | exact ih0 _ _ _
      | exact LeO.none _
      | refine LeO.ite ?_ ?_
      | refine LeO.bind ?_ (fun _ => ?_)
theorem laws_toIntS.mono : ∀ a0 k, LeO (laws_toIntS.f k a0) (laws_toIntS.f (k + 1) a0) := by
  intro a0 k
  have ih0 := laws_toIntS.mono_l k
  unfold laws_toIntS.f
  repeat' first
      | (with_reducible exact ih0 _ _ _)
      | (with_reducible exact LeO.refl _)
      | (with_reducible exact LeO.none _)
      | (with_reducible refine LeO.ite ?_ ?_)
      | (with_reducible refine LeO.bind ?_ (fun _ => ?_))
      | exact ih0 _ _ _
      | exact LeO.none _
      | refine LeO.ite ?_ ?_
      | refine LeO.bind ?_ (fun _ => ?_)
noncomputable def laws_toIntS.L0 (y0 : List Int) (y1 : List Int) (y2 : Int) : Option (List Int) := lim fun k => laws_toIntS.l0 k y0 y1 y2
theorem laws_toIntS.L0_sup (y0 : List Int) (y1 : List Int) (y2 : Int) : Sup (fun k => laws_toIntS.l0 k y0 y1 y2) (laws_toIntS.L0 y0 y1 y2) := Sup.of_mono fun k => laws_toIntS.mono_l k y0 y1 y2
noncomputable def laws_toIntS.F (l0 : List Int) : Option (List Int) := lim fun k => laws_toIntS.f k l0
theorem laws_toIntS.F_sup (l0 : List Int) : Sup (fun k => laws_toIntS.f k l0) (laws_toIntS.F l0) := Sup.of_mono fun k => laws_toIntS.mono l0 k
theorem laws_toIntS.L0_eq (x0 : List Int) (x3 : List Int) (x4 : Int) : laws_toIntS.L0 x0 x3 x4 = if x4 < (x0.length : Int) then (if 0 ≤ x4 then (if x4 < (x3.length : Int) then (laws_toIntS.L0 x0 (x3.set (x4 : Int).toNat (rd x0 x4)) (wrap64 (x4 + 1))) else (none)) else (none)) else (some x3) := by
  refine Sup.unique (laws_toIntS.L0_sup x0 x3 x4) (Sup.shift (fun k => laws_toIntS.mono_l k x0 x3 x4) (Sup.congr (g' := fun k => if x4 < (x0.length : Int) then (if 0 ≤ x4 then (if x4 < (x3.length : Int) then (laws_toIntS.l0 k x0 (x3.set (x4 : Int).toNat (rd x0 x4)) (wrap64 (x4 + 1))) else (none)) else (none)) else (some x3)) (fun k => by first | rfl | simp only [laws_toIntS.l0]) ?_))
  repeat' first
    | (with_reducible exact laws_toIntS.L0_sup _ _ _)
    | (with_reducible refine Sup.ite ?_ ?_)
    | (with_reducible refine Sup.bind ?_ (fun _ => ?_))
    | (with_reducible exact Sup.const _)
    | exact laws_toIntS.L0_sup _ _ _
    | exact Sup.const _
theorem laws_toIntS.F_eq (l0 : List Int) : laws_toIntS.F l0 = if 0 ≤ (l0.length : Int) then (if ((l0.length : Int) : Int).toNat ≤ 35184372088832 then (laws_toIntS.L0 l0 (List.replicate ((l0.length : Int) : Int).toNat 0) 0) else (none)) else (none) := by
  refine Sup.unique (laws_toIntS.F_sup l0) (Sup.congr (g' := fun k => if 0 ≤ (l0.length : Int) then (if ((l0.length : Int) : Int).toNat ≤ 35184372088832 then (laws_toIntS.l0 k l0 (List.replicate ((l0.length : Int) : Int).toNat 0) 0) else (none)) else (none)) (fun k => by first | rfl | simp only [laws_toIntS.f]) ?_)
  repeat' first
    | (with_reducible exact laws_toIntS.L0_sup _ _ _)
    | (with_reducible refine Sup.ite ?_ ?_)
    | (with_reducible refine Sup.bind ?_ (fun _ => ?_))
    | (with_reducible exact Sup.const _)
    | exact laws_toIntS.L0_sup _ _ _
    | exact Sup.const _
set_option maxHeartbeats 8000000 in
set_option maxRecDepth 100000 in
theorem laws_toIntS.calls (k : Nat) (A0 : Option Addr) (c0 : Nat) (l0 : List Int) (r : List Int) (w : World) (hr0 : Kd.C (Kd.int .i64) w A0 l0.length l0) (hc0 : l0.length ≤ c0) (h : laws_toIntS.f k l0 = some r) :
    Calls Try.prog 28 #[.slice A0 l0.length c0] w fun e w' => ∃ v0_ : Value, e = .returned (v0_) ∧ Kd.R (Kd.int .i64) 3 w' w.heap.size (fun _ => True) v0_ r ∧ Below w.heap.size w w' := by
  have HR0 := Aside0.mk hr0
  have HC0 := Aside0.mk hc0
  clear hr0 hc0
  have HB := Aside0.mk (Below.refl w.heap.size w)
  have H : (if 0 ≤ (l0.length : Int) then (if ((l0.length : Int) : Int).toNat ≤ 35184372088832 then (laws_toIntS.l0 k l0 (List.replicate ((l0.length : Int) : Int).toNat 0) 0) else (none)) else (none)) = some r := h
  clear h
  by_cases c2 : 0 ≤ (l0.length : Int)
  ·rw [if_pos c2] at H
   have c2b0 := eq_true c2
   have c2b1 : decide (0 ≤ (l0.length : Int)) = true := decide_eq_true c2
   clear c2
   by_cases c3 : ((l0.length : Int) : Int).toNat ≤ 35184372088832
   ·rw [if_pos c3] at H
    have c3b0 := eq_true c3
    have c3b1 : decide (((l0.length : Int) : Int).toNat ≤ 35184372088832) = true := decide_eq_true c3
    clear c3
    obtain ⟨y183, hy183⟩ : ∃ y_ : List Int, y_ = (List.replicate ((l0.length : Int) : Int).toNat 0) := ⟨_, rfl⟩
    replace H : (laws_toIntS.l0 k l0 y183 0) = some r := by first | (rw [hy183]; with_reducible exact H) | (have H2_ := (Option.bind_some _ _).symm.trans H; rw [hy183]; with_reducible exact H2_) | (have H2_ := (Option.bind_some _ _).symm.trans H; with_reducible exact H2_) | with_reducible exact H | (rw [hy183]; exact H) | exact H
    have Ny183 := Aside0.mk hy183
    clear hy183
    have H' := Aside0.mk H
    clear H
    go_enter Try.func28, Try.ntmps28
    go_wp2_with (first | ((with_reducible refine gate_dst (N := 7) rfl ?_); refine Kd.R_make (Kd.int .i64) _ 3 rfl (N := 7) rfl 36 _ _ rfl (l0.length : Int) rfl rfl Try.underlying36 (.int .i64 0) 8 info3 rfl (by decide) (by omega) 0 (ok := fun _ => True) (okp := fun _ => True) rfl (fun _ hk => hk) trivial (of_decide_eq_true as_) (Nat.le_trans (Nat.mul_le_mul_right _ (of_decide_eq_true as_ : (l0.length : Int).toNat ≤ 35184372088832)) (by omega)) (Below.refl _ _) (Nat.le_refl _) ?_; intro v184 w4 ho5 hb hg_ hnew_; clear hg_ hnew_; (first | rw [← Ny183.out] at ho5 | (simp only [Int.reduceToNat] at ho5; rw [← Ny183.out] at ho5)); have HO185 := Aside0.mk (Kd.R_lower ho5 (below_size hB_)); replace HB := Aside0.mk (below_step hB_ hb); clear hb ho5))
    go_loopg [4] k (fun kq v4 w' => ∃ (x3_1 : List Int) (x4_1 : Int), v4 = .int .i64 x4_1 ∧ Aside0 (laws_toIntS.l0 kq l0 x3_1 x4_1 = some r) ∧ Aside0 (kq ≤ k) ∧ Aside0 (Kd.R (Kd.int .i64) 3 w' w.heap.size (fun _ => True) v184 x3_1) ∧ Aside0 (Below w.heap.size w w'))
    case atStart => exact ⟨(y183), (0), rg_, H', ⟨Nat.le_refl _⟩, ⟨kR_ HO185⟩, ⟨hB_⟩⟩
    case round =>
     clear H'
     try clear c2
     try clear c2b0
     try clear c2b1
     try clear p2
     try clear c3
     try clear c3b0
     try clear c3b1
     obtain ⟨x3_1, x4_1, rfl, HA, HK1, HO_3, HB⟩ := hrel
     cases gk with
     | zero => exact absurd HA.out (by simp [laws_toIntS.l0])
     | succ k1 =>
      have H := HA.out
      clear HA
      simp only [laws_toIntS.l0] at H
      by_cases c6 : x4_1 < (l0.length : Int)
      ·rw [if_pos c6] at H
       have c6b0 : decide (x4_1 < (l0.length : Int)) = true := decide_eq_true c6
       clear c6
       by_cases c7 : 0 ≤ x4_1
       ·rw [if_pos c7] at H
        have c7b0 : decide (0 ≤ x4_1) = true := decide_eq_true c7
        clear c7
        by_cases c8 : x4_1 < (x3_1.length : Int)
        ·rw [if_pos c8] at H
         have c8b0 : decide (x4_1 < (x3_1.length : Int)) = true := decide_eq_true c8
         clear c8
         obtain ⟨y187, hy187⟩ : ∃ y_ : List Int, y_ = (x3_1.set (x4_1 : Int).toNat (rd l0 x4_1)) := ⟨_, rfl⟩
         replace H : (laws_toIntS.l0 k1 l0 y187 (wrap64 (x4_1 + 1))) = some r := by first | (rw [hy187]; with_reducible exact H) | (have H2_ := (Option.bind_some _ _).symm.trans H; rw [hy187]; with_reducible exact H2_) | (have H2_ := (Option.bind_some _ _).symm.trans H; with_reducible exact H2_) | with_reducible exact H | (rw [hy187]; exact H) | exact H
         have Ny187 := Aside0.mk hy187
         clear hy187
         have H' := Aside0.mk H
         clear H
         have p186 : 0 ≤ (x4_1 : Int) := of_decide_eq_true as_
         have q186 : x4_1 < (l0.length : Int) := of_decide_eq_true as_
         obtain ⟨ad186, e186, hx186_0⟩ := Kd.at_int HR0.out x4_1 p186 q186
         cases e186
         replace hx186_0 := (HB.out.cell (World.block_lt_of_cell? w _ hx186_0)).trans hx186_0
         replace p186 := eq_true p186
         replace q186 := eq_true q186
         have p9 : 0 ≤ (x4_1 : Int) := of_decide_eq_true as_
         have q9 : (x4_1 : Int) < ((x3_1.length : Int) : Int) := of_decide_eq_true as_
         obtain ⟨go9, co9, eo9, gb9, gl9, cl9, HG9⟩ := Kd.R_form HO_3.out (by omega)
         (first | cases eo9 | (injection eo9 with ea_ en_ ec_; (first | subst ea_ | (injection ea_ with ea_; subst ea_)); subst ec_; clear en_))
         have GB9 := Aside0.mk gb9
         have GG9 := Aside0.mk HG9
         clear gb9 gl9 HG9
         obtain ⟨hx9_0, hf9_0⟩ := Kd.R_celln 0 HO_3.out (x4_1 : Int) p9 q9
         replace p9 := eq_true p9
         replace q9 := eq_true q9
         have HP10 := Kd.R_putg HO_3.out (x4_1 : Int) (rd l0 x4_1)
         go_wp2_with (first | ((with_reducible refine gate_store (t := 3) (p := 20) rfl ?_); refine store_event (t := 3) (p := 20) (v := ?vo_w11) (w1 := (wr.setCell ⟨go9, (x4_1 : Int).toNat, none⟩ (.int .i64 (rd l0 x4_1)))) ?hg ?ho ?hn ?hr ?_; (case ho => rfl); (case hg => rfl); (case hn => rfl); (case hr => first | (go_simp; done) | (go_simp; rfl)); intro w11 hw; have hg : wr.grownBy w11 (some go9) := (by rw [hw]; exact HP10.2); have hp_ : Kd.R (Kd.int .i64) 3 w11 w.heap.size (fun _ => True) (.slice (some ⟨go9, 0, none⟩) x3_1.length co9) y187 := (by rw [hw, Ny187.out]; exact HP10.1); clear HP10; replace HO_3 := Aside0.mk (hp_); replace HB := Aside0.mk ((by rw [hw]; exact below_set (HB.out) GB9.out : Below w.heap.size w w11)); clear hg hw hp_))
         go_roundg k1
         case measure => have := HK1.out; omega
         case rel => exact ⟨(y187), (wrap64 (x4_1 + 1)), rg_, H', ⟨by have := HK1.out; omega⟩, ⟨kR_ HO_3⟩, ⟨hB_⟩⟩
        ·rw [if_neg c8] at H
         exact absurd H (by simp)
       ·rw [if_neg c7] at H
        exact absurd H (by simp)
      ·rw [if_neg c6] at H
       have c6b0 : decide (x4_1 < (l0.length : Int)) = false := decide_eq_false c6
       clear c6
       obtain rfl := Option.some.inj H
       go_wp2
       go_ret
       exact ⟨_, rf_, kR_ HO_3, hB_⟩
   ·rw [if_neg c3] at H
    exact absurd H (by simp)
  ·rw [if_neg c2] at H
   exact absurd H (by simp)
/-! ### laws_toIntSS: function 16 -/
def laws_toIntSS.l0 : Nat → List (List Int) → List (List Int) → Int → Option ((List (List Int)))
  | 0, _, _, _ => none
  | k + 1, x0, x3, x4 => if x4 < (x0.length : Int) then (if 0 ≤ x4 then ((laws_toIntS.f k (rd_L1 x0 x4)).bind fun t192 => (if x4 < (x3.length : Int) then (laws_toIntSS.l0 k x0 (x3.set (x4 : Int).toNat t192) (wrap64 (x4 + 1))) else (none))) else (none)) else (some x3)
def laws_toIntSS.f (k : Nat) (l0 : List (List Int)) : Option ((List (List Int))) := if 0 ≤ (l0.length : Int) then (if ((l0.length : Int) : Int).toNat ≤ 11728124029610 then (laws_toIntSS.l0 k l0 (List.replicate ((l0.length : Int) : Int).toNat []) 0) else (none)) else (none)
theorem laws_toIntSS.mono_l : ∀ k, (∀ y0 y1 y2, LeO (laws_toIntSS.l0 k y0 y1 y2) (laws_toIntSS.l0 (k + 1) y0 y1 y2))
  | 0 => fun _ _ _ r h => by simp [laws_toIntSS.l0] at h
  | k + 1 => by
    have ih0 := laws_toIntSS.mono_l k
    · intro y0 y1 y2
      unfold laws_toIntSS.l0
      repeat' first
      | (with_reducible exact ih0 _ _ _)
      | (with_reducible exact laws_toIntS.mono _ _)
      | (with_reducible exact LeO.refl _)
      | (with_reducible exact LeO.none _)
      | (with_reducible refine LeO.ite ?_ ?_)
      | (with_reducible refine LeO.bind ?_ (fun _ => ?_))
      | exact ih0 _ _ _
      | exact laws_toIntS.mono _ _
      | exact LeO.none _
      | refine LeO.ite ?_ ?_
      | refine LeO.bind ?_ (fun _ => ?_)
theorem laws_toIntSS.mono : ∀ a0 k, LeO (laws_toIntSS.f k a0) (laws_toIntSS.f (k + 1) a0) := by
  intro a0 k
  have ih0 := laws_toIntSS.mono_l k
  unfold laws_toIntSS.f
  repeat' first
      | (with_reducible exact ih0 _ _ _)
      | (with_reducible exact laws_toIntS.mono _ _)
      | (with_reducible exact LeO.refl _)
      | (with_reducible exact LeO.none _)
      | (with_reducible refine LeO.ite ?_ ?_)
      | (with_reducible refine LeO.bind ?_ (fun _ => ?_))
      | exact ih0 _ _ _
      | exact laws_toIntS.mono _ _
      | exact LeO.none _
      | refine LeO.ite ?_ ?_
      | refine LeO.bind ?_ (fun _ => ?_)
noncomputable def laws_toIntSS.L0 (y0 : List (List Int)) (y1 : List (List Int)) (y2 : Int) : Option ((List (List Int))) := lim fun k => laws_toIntSS.l0 k y0 y1 y2
theorem laws_toIntSS.L0_sup (y0 : List (List Int)) (y1 : List (List Int)) (y2 : Int) : Sup (fun k => laws_toIntSS.l0 k y0 y1 y2) (laws_toIntSS.L0 y0 y1 y2) := Sup.of_mono fun k => laws_toIntSS.mono_l k y0 y1 y2
noncomputable def laws_toIntSS.F (l0 : List (List Int)) : Option ((List (List Int))) := lim fun k => laws_toIntSS.f k l0
theorem laws_toIntSS.F_sup (l0 : List (List Int)) : Sup (fun k => laws_toIntSS.f k l0) (laws_toIntSS.F l0) := Sup.of_mono fun k => laws_toIntSS.mono l0 k
theorem laws_toIntSS.L0_eq (x0 : List (List Int)) (x3 : List (List Int)) (x4 : Int) : laws_toIntSS.L0 x0 x3 x4 = if x4 < (x0.length : Int) then (if 0 ≤ x4 then ((laws_toIntS.F (rd_L1 x0 x4)).bind fun t192 => (if x4 < (x3.length : Int) then (laws_toIntSS.L0 x0 (x3.set (x4 : Int).toNat t192) (wrap64 (x4 + 1))) else (none))) else (none)) else (some x3) := by
  refine Sup.unique (laws_toIntSS.L0_sup x0 x3 x4) (Sup.shift (fun k => laws_toIntSS.mono_l k x0 x3 x4) (Sup.congr (g' := fun k => if x4 < (x0.length : Int) then (if 0 ≤ x4 then ((laws_toIntS.f k (rd_L1 x0 x4)).bind fun t192 => (if x4 < (x3.length : Int) then (laws_toIntSS.l0 k x0 (x3.set (x4 : Int).toNat t192) (wrap64 (x4 + 1))) else (none))) else (none)) else (some x3)) (fun k => by first | rfl | simp only [laws_toIntSS.l0]) ?_))
  repeat' first
    | (with_reducible exact laws_toIntSS.L0_sup _ _ _)
    | (with_reducible exact laws_toIntS.F_sup _)
    | (with_reducible refine Sup.ite ?_ ?_)
    | (with_reducible refine Sup.bind ?_ (fun _ => ?_))
    | (with_reducible exact Sup.const _)
    | exact laws_toIntSS.L0_sup _ _ _
    | exact laws_toIntS.F_sup _
    | exact Sup.const _
theorem laws_toIntSS.F_eq (l0 : List (List Int)) : laws_toIntSS.F l0 = if 0 ≤ (l0.length : Int) then (if ((l0.length : Int) : Int).toNat ≤ 11728124029610 then (laws_toIntSS.L0 l0 (List.replicate ((l0.length : Int) : Int).toNat []) 0) else (none)) else (none) := by
  refine Sup.unique (laws_toIntSS.F_sup l0) (Sup.congr (g' := fun k => if 0 ≤ (l0.length : Int) then (if ((l0.length : Int) : Int).toNat ≤ 11728124029610 then (laws_toIntSS.l0 k l0 (List.replicate ((l0.length : Int) : Int).toNat []) 0) else (none)) else (none)) (fun k => by first | rfl | simp only [laws_toIntSS.f]) ?_)
  repeat' first
    | (with_reducible exact laws_toIntSS.L0_sup _ _ _)
    | (with_reducible exact laws_toIntS.F_sup _)
    | (with_reducible refine Sup.ite ?_ ?_)
    | (with_reducible refine Sup.bind ?_ (fun _ => ?_))
    | (with_reducible exact Sup.const _)
    | exact laws_toIntSS.L0_sup _ _ _
    | exact laws_toIntS.F_sup _
    | exact Sup.const _
set_option maxHeartbeats 8000000 in
set_option maxRecDepth 100000 in
theorem laws_toIntSS.calls (k : Nat) (A0 : Option Addr) (c0 : Nat) (l0 : List (List Int)) (r : List (List Int)) (w : World) (hr0 : Kd.C (Kd.slice 3 (Kd.int .i64)) w A0 l0.length l0) (hc0 : l0.length ≤ c0) (h : laws_toIntSS.f k l0 = some r) :
    Calls Try.prog 16 #[.slice A0 l0.length c0] w fun e w' => ∃ v0_ : Value, e = .returned (v0_) ∧ Kd.S (Kd.slice 3 (Kd.int .i64)) 36 w' w.heap.size (fun _ => True) v0_ r ∧ Below w.heap.size w w' := by
  have hu36 := Try.underlying36
  have HR0 := Aside0.mk hr0
  have HC0 := Aside0.mk hc0
  clear hr0 hc0
  have HB := Aside0.mk (Below.refl w.heap.size w)
  have H : (if 0 ≤ (l0.length : Int) then (if ((l0.length : Int) : Int).toNat ≤ 11728124029610 then (laws_toIntSS.l0 k l0 (List.replicate ((l0.length : Int) : Int).toNat []) 0) else (none)) else (none)) = some r := h
  clear h
  by_cases c2 : 0 ≤ (l0.length : Int)
  ·rw [if_pos c2] at H
   have c2b0 := eq_true c2
   have c2b1 : decide (0 ≤ (l0.length : Int)) = true := decide_eq_true c2
   clear c2
   by_cases c3 : ((l0.length : Int) : Int).toNat ≤ 11728124029610
   ·rw [if_pos c3] at H
    have c3b0 := eq_true c3
    have c3b1 : decide (((l0.length : Int) : Int).toNat ≤ 11728124029610) = true := decide_eq_true c3
    clear c3
    obtain ⟨y188, hy188⟩ : ∃ y_ : List (List Int), y_ = (List.replicate ((l0.length : Int) : Int).toNat []) := ⟨_, rfl⟩
    replace H : (laws_toIntSS.l0 k l0 y188 0) = some r := by first | (rw [hy188]; with_reducible exact H) | (have H2_ := (Option.bind_some _ _).symm.trans H; rw [hy188]; with_reducible exact H2_) | (have H2_ := (Option.bind_some _ _).symm.trans H; with_reducible exact H2_) | with_reducible exact H | (rw [hy188]; exact H) | exact H
    have Ny188 := Aside0.mk hy188
    clear hy188
    have H' := Aside0.mk H
    clear H
    go_enter Try.func16, Try.ntmps16
    go_wp2_with (first | ((with_reducible refine gate_dst (N := 7) rfl ?_); refine Kd.S_make (Kd.slice 3 (Kd.int .i64)) _ 36 rfl (N := 7) rfl 22 _ _ rfl (l0.length : Int) rfl rfl Try.underlying22 (.slice none 0 0) 24 info36 rfl (by decide) (by omega) [] (ok := fun _ => True) (okp := fun _ => True) ⟨_, rfl, Kd.R_nil _ _ _ _ _⟩ (fun _ hk => hk) trivial (of_decide_eq_true as_) (Nat.le_trans (Nat.mul_le_mul_right _ (of_decide_eq_true as_ : (l0.length : Int).toNat ≤ 11728124029610)) (by omega)) (Below.refl _ _) (Nat.le_refl _) ?_; intro v189 w4 ho5 hb hg_ hnew_; clear hg_ hnew_; (first | rw [← Ny188.out] at ho5 | (simp only [Int.reduceToNat] at ho5; rw [← Ny188.out] at ho5)); have HO190 := Aside0.mk (Kd.S_lower ho5 (below_size hB_)); replace HB := Aside0.mk (below_step hB_ hb); clear hb ho5))
    go_loopg [4] k (fun kq v4 w' => ∃ (x3_1 : List (List Int)) (x4_1 : Int), v4 = .int .i64 x4_1 ∧ Aside0 (laws_toIntSS.l0 kq l0 x3_1 x4_1 = some r) ∧ Aside0 (kq ≤ k) ∧ Aside0 (Kd.S (Kd.slice 3 (Kd.int .i64)) 36 w' w.heap.size (fun _ => True) v189 x3_1) ∧ Aside0 (Below w.heap.size w w'))
    case atStart => exact ⟨(y188), (0), rg_, H', ⟨Nat.le_refl _⟩, ⟨by (with_reducible repeat (first | apply Kd.S_alloc | apply Kd.S_drewN | apply Kd.S_drew)); exact HO190.out⟩, ⟨hB_⟩⟩
    case round =>
     clear H'
     try clear c1
     try clear c2
     try clear c2b0
     try clear c2b1
     try clear p2
     try clear c3
     try clear c3b0
     try clear c3b1
     obtain ⟨x3_1, x4_1, rfl, HA, HK1, HO_3, HB⟩ := hrel
     cases gk with
     | zero => exact absurd HA.out (by simp [laws_toIntSS.l0])
     | succ k1 =>
      have H := HA.out
      clear HA
      simp only [laws_toIntSS.l0] at H
      by_cases c6 : x4_1 < (l0.length : Int)
      ·rw [if_pos c6] at H
       have c6b0 : decide (x4_1 < (l0.length : Int)) = true := decide_eq_true c6
       clear c6
       by_cases c7 : 0 ≤ x4_1
       ·rw [if_pos c7] at H
        have c7b0 : decide (0 ≤ x4_1) = true := decide_eq_true c7
        clear c7
        replace H := Option.bind_eq_some_iff.mp H
        obtain ⟨t192, A80, H⟩ := H
        replace H : (if x4_1 < (x3_1.length : Int) then (laws_toIntSS.l0 k1 l0 (x3_1.set (x4_1 : Int).toNat t192) (wrap64 (x4_1 + 1))) else (none)) = some r := H
        have A8 := Aside0.mk A80
        clear A80
        by_cases c9 : x4_1 < (x3_1.length : Int)
        ·rw [if_pos c9] at H
         have c9b0 : decide (x4_1 < (x3_1.length : Int)) = true := decide_eq_true c9
         clear c9
         obtain ⟨y195, hy195⟩ : ∃ y_ : List (List Int), y_ = (x3_1.set (x4_1 : Int).toNat t192) := ⟨_, rfl⟩
         replace H : (laws_toIntSS.l0 k1 l0 y195 (wrap64 (x4_1 + 1))) = some r := by first | (rw [hy195]; with_reducible exact H) | (have H2_ := (Option.bind_some _ _).symm.trans H; rw [hy195]; with_reducible exact H2_) | (have H2_ := (Option.bind_some _ _).symm.trans H; with_reducible exact H2_) | with_reducible exact H | (rw [hy195]; exact H) | exact H
         have Ny195 := Aside0.mk hy195
         clear hy195
         have H' := Aside0.mk H
         clear H
         have p191 : 0 ≤ (x4_1 : Int) := of_decide_eq_true as_
         have q191 : x4_1 < (l0.length : Int) := of_decide_eq_true as_
         obtain ⟨ad191, A191_0, c191_0, e191, hx191_0, hl191_0, hi191_0⟩ := at_L1 HR0.out x4_1 p191 q191
         cases e191
         replace hx191_0 := (HB.out.cell (World.block_lt_of_cell? w _ hx191_0)).trans hx191_0
         have HR191_0 := Aside0.mk hi191_0
         have HC191_0 := Aside0.mk hl191_0
         clear hi191_0 hl191_0
         replace p191 := eq_true p191
         replace q191 := eq_true q191
         go_wp2_with (first | ((with_reducible refine gate_callee (f := 28) rfl ?_); refine gl_ 20 Try.func28 #[.slice A191_0 (rd_L1 l0 x4_1).length c191_0] ?_; (with_reducible refine (laws_toIntS.calls k1 _ _ (rd_L1 l0 x4_1) t192 _ ?side1 ?side2 A8.out).mono ?_); (case side1 => exact kC_ HR191_0); (case side2 => exact HC191_0.out); rintro e w11 ⟨v193, rfl, ho0, hb⟩; refine ⟨_, rfl, ?_⟩; replace HO_3 := Aside0.mk (Kd.S_elder' (by (with_reducible repeat (first | apply Kd.S_alloc | apply Kd.S_drewN | apply Kd.S_drew)); exact HO_3.out) (Kd.R_base ho0) hb); have HO194 := Aside0.mk (Kd.R_lower ho0 (below_size hB_)); replace HB := Aside0.mk (below_step hB_ hb); (try clear hb); (try clear hb2); (try clear hk); (try clear hi); (try clear ho0); have p10 : 0 ≤ (x4_1 : Int) := of_decide_eq_true as_; have q10 : (x4_1 : Int) < ((x3_1.length : Int) : Int) := of_decide_eq_true as_; obtain ⟨go10, co10, eo10, gb10, gl10, cl10, HG10⟩ := Kd.S_form HO_3.out (by omega); (first | cases eo10 | (injection eo10 with ea_ en_ ec_; (first | subst ea_ | (injection ea_ with ea_; subst ea_)); subst ec_; clear en_)); have GB10 := Aside0.mk gb10; have GG10 := Aside0.mk HG10; clear gb10 gl10 HG10; obtain ⟨_, ce10, hcl10, hM10, hcc10, hfr10, _, _⟩ := Kd.S_elem HO_3.out [] (x4_1 : Int) p10 q10; obtain ⟨ve10_0, rfl, ge10_0⟩ := hM10; have hx10_0 := hcc10 0 _ rfl; have hf10_0 := hfr10 0; (try simp only [show ((Kd.slice 3 (Kd.int .i64))).sz = 1 from rfl, Nat.mul_one, Nat.add_zero] at hx10_0); (try simp only [show ((Kd.slice 3 (Kd.int .i64))).sz = 1 from rfl, Nat.mul_one, Nat.add_zero] at hf10_0); clear hcl10 hcc10 hfr10; (try clear hM10); replace p10 := eq_true p10; replace q10 := eq_true q10; obtain ⟨Ao14, co14, eo14⟩ := Kd.R_slice HO194.out; subst eo14; have n_ := Aside0.mk (Kd.S_mono (ok' := (fun k_ => some k_ ≠ (.slice Ao14 t192.length co14 : Value).ownBlock)) HO_3.out (fun k_ hk => hk.2)); clear HO_3; have HO_3 := n_; clear n_; have HX12 := Aside0.mk (show Kd.S (Kd.slice 3 (Kd.int .i64)) 36 w11 w.heap.size (fun k_ => ((fun _ => True)) k_ ∧ ¬ ((fun k_ => some k_ = (.slice Ao14 t192.length co14 : Value).ownBlock)) k_) (.slice (some ⟨go10, 0, none⟩) x3_1.length co10) x3_1 from (by (with_reducible repeat (first | apply Kd.S_alloc | apply Kd.S_drewN | apply Kd.S_drew)); exact Kd.S_mono HO_3.out (fun k_ hk => ⟨trivial, fun e_ => hk e_⟩))); obtain ⟨oki12, ce12, hcl12, hM12, hcc12, hfr12, hoki12, hH12⟩ := Kd.S_elem HX12.out [] (x4_1 : Int) (of_decide_eq_true as_) (by have h_ : (x4_1 : Int) < ((x3_1.length : Int) : Int) := of_decide_eq_true as_; first | exact h_ | (have e_ := (Kd.S_reads' HO_3.out).1; omega) | simpa using h_); obtain ⟨ve12_0, rfl, ge12_0⟩ := hM12; have HP12 := Kd.S_seg hH12 (of_decide_eq_true as_) (by have h_ : (x4_1 : Int) < ((x3_1.length : Int) : Int) := of_decide_eq_true as_; first | exact h_ | (have e_ := (Kd.S_reads' HO_3.out).1; omega) | simpa using h_) (seg := [.slice Ao14 t192.length co14]) (j := 0) (show 1 ≤ 1 from by decide) (x' := t192) (Kd.M_row (Kd.R_mono (Kd.R_tight rfl (Kd.R_mono (ok' := fun k_ => ((fun _ => True)) k_ ∧ k_ ≠ go10) (Kd.R_apart' (HO194.out) (Kd.S_typed HO_3.out) (by decide)) (fun k_ hk => ⟨trivial, fun e_ => (hk.2) (by rw [e_]; rfl)⟩))) (fun _ h_ => Or.inr (h_)))) (fun _ hk => hk) (fun k_ hk_ => ((Kd.R_mono (ok' := fun k_ => ((fun _ => True)) k_ ∧ k_ ≠ go10) (Kd.R_apart' (HO194.out) (Kd.S_typed HO_3.out) (by decide)) (fun k_ hk => ⟨trivial, fun e_ => (hk.2) (by rw [e_]; rfl)⟩))).1 k_ hk_.symm); have hx12_0 := hcc12 0 _ rfl; (try simp only [show ((Kd.slice 3 (Kd.int .i64))).sz = 1 from rfl, Nat.mul_one, Nat.add_zero] at hx12_0); have hf12_0 := hfr12 0; (try simp only [show ((Kd.slice 3 (Kd.int .i64))).sz = 1 from rfl, Nat.mul_one, Nat.add_zero] at hf12_0); clear hcl12 hcc12 hfr12; (try clear hM12); clear hoki12 hH12; (try simp only [show ((Kd.slice 3 (Kd.int .i64))).sz = 1 from rfl, Nat.mul_one, Nat.add_zero] at HP12)) | ((with_reducible refine gate_store (t := 36) (p := 21) rfl ?_); refine store_event (t := 36) (p := 21) (v := ?vo_w13) (w1 := (w11.setCell ⟨go10, (x4_1 : Int).toNat, none⟩ (.slice Ao14 t192.length co14))) ?hg ?ho ?hn ?hr ?_; (case ho => rfl); (case hg => rfl); (case hn => rfl); (case hr => first | (go_simp; done) | (go_simp; rfl)); intro w13 hw; have hg : w11.grownBy w13 (some go10) := (by rw [hw]; exact HP12.2); have hp_ : Kd.S (Kd.slice 3 (Kd.int .i64)) 36 w13 w.heap.size (fun _ => True) (.slice (some ⟨go10, 0, none⟩) x3_1.length co10) y195 := (by rw [hw, Ny195.out]; exact HP12.1); clear HP12; have n0_ := Aside0.mk (hp_); have n1_ := Aside0.mk ((by rw [hw]; exact below_set (HB.out) GB10.out : Below w.heap.size w w13)); clear HO_3; clear HB; clear HO194; have HO_3 := n0_; have HB := n1_; clear n0_ n1_; clear hg hw hp_))
         go_roundg k1
         case measure => have := HK1.out; omega
         case rel => exact ⟨(y195), (wrap64 (x4_1 + 1)), rg_, H', ⟨by have := HK1.out; omega⟩, ⟨by (with_reducible repeat (first | apply Kd.S_alloc | apply Kd.S_drewN | apply Kd.S_drew)); exact HO_3.out⟩, ⟨hB_⟩⟩
        ·rw [if_neg c9] at H
         exact absurd H (by simp)
       ·rw [if_neg c7] at H
        exact absurd H (by simp)
      ·rw [if_neg c6] at H
       have c6b0 : decide (x4_1 < (l0.length : Int)) = false := decide_eq_false c6
       clear c6
       obtain rfl := Option.some.inj H
       go_wp2
       go_ret
       exact ⟨_, rf_, by (with_reducible repeat (first | apply Kd.S_alloc | apply Kd.S_drewN | apply Kd.S_drew)); exact HO_3.out, hB_⟩
   ·rw [if_neg c3] at H
    exact absurd H (by simp)
  ·rw [if_neg c2] at H
   exact absurd H (by simp)
/-! ### laws_toHyper: function 6 -/
def laws_toHyper.f (k : Nat) (a0_0 : Int) (l0_1 : List (List Int)) : Option (Int × (List (List Int))) := (laws_toIntSS.f k l0_1).bind fun t199 => (some (a0_0, t199))
theorem laws_toHyper.mono : ∀ a0 a1 k, LeO (laws_toHyper.f k a0 a1) (laws_toHyper.f (k + 1) a0 a1) := by
  intro a0 a1 k
  unfold laws_toHyper.f
  repeat' first
      | (with_reducible exact laws_toIntSS.mono _ _)
      | (with_reducible exact LeO.refl _)
      | (with_reducible exact LeO.none _)
      | (with_reducible refine LeO.ite ?_ ?_)
      | (with_reducible refine LeO.bind ?_ (fun _ => ?_))
      | exact laws_toIntSS.mono _ _
      | exact LeO.none _
      | refine LeO.ite ?_ ?_
      | refine LeO.bind ?_ (fun _ => ?_)
noncomputable def laws_toHyper.F (a0_0 : Int) (l0_1 : List (List Int)) : Option (Int × (List (List Int))) := lim fun k => laws_toHyper.f k a0_0 l0_1
theorem laws_toHyper.F_sup (a0_0 : Int) (l0_1 : List (List Int)) : Sup (fun k => laws_toHyper.f k a0_0 l0_1) (laws_toHyper.F a0_0 l0_1) := Sup.of_mono fun k => laws_toHyper.mono a0_0 l0_1 k
theorem laws_toHyper.F_eq (a0_0 : Int) (l0_1 : List (List Int)) : laws_toHyper.F a0_0 l0_1 = (laws_toIntSS.F l0_1).bind fun t199 => (some (a0_0, t199)) := by
  refine Sup.unique (laws_toHyper.F_sup a0_0 l0_1) (Sup.congr (g' := fun k => (laws_toIntSS.f k l0_1).bind fun t199 => (some (a0_0, t199))) (fun k => by first | rfl | simp only [laws_toHyper.f]) ?_)
  repeat' first
    | (with_reducible exact laws_toIntSS.F_sup _)
    | (with_reducible refine Sup.ite ?_ ?_)
    | (with_reducible refine Sup.bind ?_ (fun _ => ?_))
    | (with_reducible exact Sup.const _)
    | exact laws_toIntSS.F_sup _
    | exact Sup.const _
set_option maxHeartbeats 8000000 in
set_option maxRecDepth 100000 in
theorem laws_toHyper.calls (k : Nat) (a0_0 : Int) (A0_1 : Option Addr) (c0_1 : Nat) (l0_1 : List (List Int)) (r1 : Int) (r2 : List (List Int)) (w : World) (hr0_1 : Kd.C (Kd.slice 3 (Kd.int .i64)) w A0_1 l0_1.length l0_1) (hc0_1 : l0_1.length ≤ c0_1) (h : laws_toHyper.f k a0_0 l0_1 = some (r1, r2)) :
    Calls Try.prog 6 #[.agg #[.int .i64 a0_0, .slice A0_1 l0_1.length c0_1]] w fun e w' => ∃ v1_ : Value, e = .returned (.agg #[.int .i64 r1, v1_]) ∧ Kd.S (Kd.slice 3 (Kd.int .i64)) 36 w' w.heap.size (fun _ => True) v1_ r2 ∧ Below w.heap.size w w' := by
  have hu24 := Try.underlying24
  have hu28 := Try.underlying28
  have hu22 := Try.underlying22
  have HR0_1 := Aside0.mk hr0_1
  have HC0_1 := Aside0.mk hc0_1
  clear hr0_1 hc0_1
  have HB := Aside0.mk (Below.refl w.heap.size w)
  have H : ((laws_toIntSS.f k l0_1).bind fun t199 => (some (a0_0, t199))) = some (r1, r2) := h
  clear h
  replace H := Option.bind_eq_some_iff.mp H
  obtain ⟨t199, A20, H⟩ := H
  replace H : (some (a0_0, t199)) = some (r1, r2) := H
  have A2 := Aside0.mk A20
  clear A20
  simp only [Option.some.injEq, Prod.mk.injEq] at H
  obtain ⟨rfl, rfl⟩ := H
  go_enter Try.func6, Try.ntmps6
  go_wp2_with (first | ((with_reducible refine gate_dst (N := 1) rfl ?_); refine bx_ 1 #[.int .i64 a0_0, .slice A0_1 l0_1.length c0_1] 24 ?_; intro gb196 hg w3 hbox hb; have BK196 := Aside0.mk (hbox); have GW196 := Aside0.mk ((ge_ hg)); have GE196 := Aside0.mk ((ge_ hg)); replace HB := Aside0.mk (below_step hB_ hb); clear hb hbox hg) | ((with_reducible refine gate_dst (N := 2) rfl ?_); refine bx_ 2 #[.int .i64 0, .slice none 0 0] 28 ?_; intro gb197 hg w4 hbox hb; have BK197 := Aside0.mk (hbox); have GW197 := Aside0.mk ((ge_ hg)); have GE197 := Aside0.mk ((ge_ hg)); replace HB := Aside0.mk (below_step hB_ hb); have NB196_197 := Aside0.mk ((ne_ hg BK196)); have NB197_196 := Aside0.mk ((nf_ hg BK196)); replace BK196 := Aside0.mk (blk_below (kB_ BK196) hb); clear hb hbox hg) | ((with_reducible refine gate_dst (N := 3) rfl ?_); refine bx_ 3 #[.int .i64 0, .slice none 0 0] 28 ?_; intro gb198 hg w5 hbox hb; have BK198 := Aside0.mk (hbox); have GW198 := Aside0.mk ((ge_ hg)); have GE198 := Aside0.mk ((ge_ hg)); replace HB := Aside0.mk (below_step hB_ hb); have NB196_198 := Aside0.mk ((ne_ hg BK196)); have NB198_196 := Aside0.mk ((nf_ hg BK196)); replace BK196 := Aside0.mk (blk_below (kB_ BK196) hb); have NB197_198 := Aside0.mk ((ne_ hg BK197)); have NB198_197 := Aside0.mk ((nf_ hg BK197)); replace BK197 := Aside0.mk (blk_below (kB_ BK197) hb); clear hb hbox hg; have hnb6 := NB196_197.out; have hnc6 := NB197_196.out; have hnb7 := NB196_198.out; have hnc7 := NB198_196.out; have hcz8_0 : w5.cell? ⟨gb196, 0, none⟩ = some (.int .i64 a0_0) := (blk_cell BK196.out 0).trans rfl; have hcz8_1 : w5.cell? ⟨gb196, 1, none⟩ = some (.slice A0_1 l0_1.length c0_1) := (blk_cell BK196.out 1).trans rfl; have hfz8_0 := blk_frozen BK196.out 0; have hfz8_1 := blk_frozen BK196.out 1; have hnb9 := NB198_197.out; have hnc9 := NB197_198.out; have hcz10_0 : w5.cell? ⟨gb198, 0, none⟩ = some (.int .i64 0) := (blk_cell BK198.out 0).trans rfl; have hcz10_1 : w5.cell? ⟨gb198, 1, none⟩ = some (.slice none 0 0) := (blk_cell BK198.out 1).trans rfl; have hfz10_0 := blk_frozen BK198.out 0; have hfz10_1 := blk_frozen BK198.out 1) | ((with_reducible refine gate_callee (f := 16) rfl ?_); refine gl_ 9 Try.func16 #[.slice A0_1 l0_1.length c0_1] ?_; (with_reducible refine (laws_toIntSS.calls k _ _ l0_1 t199 _ ?side1 ?side2 A2.out).mono ?_); (case side1 => exact Kd.C_below HR0_1.out hB_); (case side2 => exact HC0_1.out); rintro e w11 ⟨v200, rfl, ho0, hb⟩; refine ⟨_, rfl, ?_⟩; have HO201 := Aside0.mk (Kd.S_lower ho0 (below_size hB_)); replace BK196 := Aside0.mk (blk_below (g := gb196) (o := .cells #[.int .i64 a0_0, .slice A0_1 l0_1.length c0_1] 24 (0, 0)) (by (with_reducible repeat (first | refine blk_drewN ?_ _ | refine blk_drew ?_ | refine blk_alloc ?_ _)); refine blk_far ?_ NB196_198.out _; (with_reducible repeat (first | refine blk_drewN ?_ _ | refine blk_drew ?_ | refine blk_alloc ?_ _)); exact BK196.out) hb); replace BK197 := Aside0.mk (blk_below (g := gb197) (o := .cells #[.int .i64 0, .slice none 0 0] 28 (0, 0)) (by (with_reducible repeat (first | refine blk_drewN ?_ _ | refine blk_drew ?_ | refine blk_alloc ?_ _)); refine blk_far ?_ NB197_198.out _; (with_reducible repeat (first | refine blk_drewN ?_ _ | refine blk_drew ?_ | refine blk_alloc ?_ _)); exact BK197.out) hb); replace BK198 := Aside0.mk (blk_below (g := gb198) (o := .cells #[.int .i64 a0_0, .slice none 0 0] 28 (0, 0)) (by (with_reducible repeat (first | refine blk_drewN ?_ _ | refine blk_drew ?_ | refine blk_alloc ?_ _)); refine blk_put (cs := #[.int .i64 0, .slice none 0 0]) ?_ 0 _ rfl; (with_reducible repeat (first | refine blk_drewN ?_ _ | refine blk_drew ?_ | refine blk_alloc ?_ _)); exact BK198.out) hb); replace HB := Aside0.mk (below_step hB_ hb); (try clear hb); (try clear hb2); (try clear hk); (try clear hi); (try clear ho0); obtain ⟨Ao12, co12, eo12⟩ := Kd.S_slice HO201.out; subst eo12; have hcz13_0 : w11.cell? ⟨gb198, 0, none⟩ = some (.int .i64 a0_0) := (blk_cell BK198.out 0).trans rfl; have hcz13_1 : w11.cell? ⟨gb198, 1, none⟩ = some (.slice none 0 0) := (blk_cell BK198.out 1).trans rfl; have hfz13_0 := blk_frozen BK198.out 0; have hfz13_1 := blk_frozen BK198.out 1; have hcz14_0 : w11.cell? ⟨gb197, 0, none⟩ = some (.int .i64 0) := (blk_cell BK197.out 0).trans rfl; have hcz14_1 : w11.cell? ⟨gb197, 1, none⟩ = some (.slice none 0 0) := (blk_cell BK197.out 1).trans rfl; have hfz14_0 := blk_frozen BK197.out 0; have hfz14_1 := blk_frozen BK197.out 1))
  refine bodyPost_ret (results_cell_row rfl _ _ gb197 28 #[.int .i64 a0_0, .slice Ao12 t199.length co12] (0, 0) _ rfl (by (with_reducible repeat (first | refine blk_drewN ?_ _ | refine blk_drew ?_ | refine blk_alloc ?_ _)); refine blk_put (cs := #[.int .i64 a0_0, .slice none 0 0]) ?_ 1 _ rfl; (with_reducible repeat (first | refine blk_drewN ?_ _ | refine blk_drew ?_ | refine blk_alloc ?_ _)); refine blk_put (cs := #[.int .i64 0, .slice none 0 0]) ?_ 0 _ rfl; (with_reducible repeat (first | refine blk_drewN ?_ _ | refine blk_drew ?_ | refine blk_alloc ?_ _)); refine blk_far ?_ NB197_198.out _; (with_reducible repeat (first | refine blk_drewN ?_ _ | refine blk_drew ?_ | refine blk_alloc ?_ _)); exact BK197.out) Try.underlying28 rfl (by kernel_rfl)) rfl ?_
  exact ⟨_, rf_, by (with_reducible repeat (first | apply Kd.S_alloc | apply Kd.S_drewN | apply Kd.S_drew)); exact Kd.S_mono (Kd.S_far (p := ⟨gb197, 1, none⟩) (Kd.S_far (p := ⟨gb197, 0, none⟩) (Kd.S_far (p := ⟨gb198, 1, none⟩) (Kd.S_types (Kd.S_types HO201.out BK198.out (by decide)) BK197.out (by decide)) (fun _ hk => hk.1.2) (.slice Ao12 t199.length co12)) (fun _ hk => hk.2) (.int .i64 a0_0)) (fun _ hk => hk.2) (.slice Ao12 t199.length co12)) (fun _ hk => trivial), hB_⟩
/-! ### impl_in: function 32 -/
def impl_in.f (a0 : Int) (a1 : Int) (a2 : Int) : Option (Bool) := if a0 ≥ a1 then (some (decide (a0 ≤ a2))) else (some false)
set_option maxHeartbeats 8000000 in
set_option maxRecDepth 100000 in
theorem impl_in.calls (a0 : Int) (a1 : Int) (a2 : Int) (r : Bool) (w : World) (h : impl_in.f a0 a1 a2 = some r) :
    Calls Try.prog 32 #[.int .i64 a0, .int .i64 a1, .int .i64 a2] w fun e w' => e = .returned (.bool r) ∧ Drawn0 w w' := by
  have H : (if a0 ≥ a1 then (some (decide (a0 ≤ a2))) else (some false)) = some r := h
  clear h
  by_cases c4 : a0 ≥ a1
  ·rw [if_pos c4] at H
   have c4b0 : decide (a1 ≤ a0) = true := decide_eq_true c4
   clear c4
   obtain rfl := Option.some.inj H
   go_enter Try.func32, Try.ntmps32
   go_wp2
   go_ret
   exact ⟨rg_, by repeat (first | exact Drawn0.refl _ | apply Drawn0.step)⟩
  ·rw [if_neg c4] at H
   have c4b0 : decide (a1 ≤ a0) = false := decide_eq_false c4
   clear c4
   obtain rfl := Option.some.inj H
   go_enter Try.func32, Try.ntmps32
   go_wp2
   go_ret
   exact ⟨rg_, by repeat (first | exact Drawn0.refl _ | apply Drawn0.step)⟩
/-! ### impl_isEdge: function 31 -/
def impl_isEdge.f (l0 : List Int) (a1 : Int) : Option (Bool) := if (l0.length : Int) = 3 then (if 0 < (l0.length : Int) then (if (rd l0 0) ≥ 0 then (if 1 < (l0.length : Int) then (if (rd l0 0) < (rd l0 1) then (if 2 < (l0.length : Int) then (if (rd l0 1) < (rd l0 2) then (some (decide ((rd l0 2) < a1))) else (some false)) else (none)) else (some false)) else (none)) else (some false)) else (none)) else (some false)
set_option maxHeartbeats 8000000 in
set_option maxRecDepth 100000 in
theorem impl_isEdge.calls (A0 : Option Addr) (c0 : Nat) (l0 : List Int) (a1 : Int) (r : Bool) (w : World) (hr0 : Kd.C (Kd.int .i64) w A0 l0.length l0) (hc0 : l0.length ≤ c0) (h : impl_isEdge.f l0 a1 = some r) :
    Calls Try.prog 31 #[.slice A0 l0.length c0, .int .i64 a1] w fun e w' => e = .returned (.bool r) ∧ Drawn0 w w' := by
  have HR0 := Aside0.mk hr0
  have HC0 := Aside0.mk hc0
  clear hr0 hc0
  have H : (if (l0.length : Int) = 3 then (if 0 < (l0.length : Int) then (if (rd l0 0) ≥ 0 then (if 1 < (l0.length : Int) then (if (rd l0 0) < (rd l0 1) then (if 2 < (l0.length : Int) then (if (rd l0 1) < (rd l0 2) then (some (decide ((rd l0 2) < a1))) else (some false)) else (none)) else (some false)) else (none)) else (some false)) else (none)) else (some false)) = some r := h
  clear h
  by_cases c3 : (l0.length : Int) = 3
  ·rw [if_pos c3] at H
   have c3b0 : ((l0.length : Int) == 3) = true := beq_iff_eq.mpr c3
   have c3b1 : ((l0.length : Int) != 3) = false := bne_eq_false_iff_eq.mpr c3
   clear c3
   by_cases c4 : 0 < (l0.length : Int)
   ·rw [if_pos c4] at H
    have c4b0 : decide (0 < (l0.length : Int)) = true := decide_eq_true c4
    have c4b1 : decide (0 < l0.length) = true := decide_eq_true (by omega)
    clear c4
    by_cases c5 : (rd l0 0) ≥ 0
    ·rw [if_pos c5] at H
     have c5b0 : decide (0 ≤ (rd l0 0)) = true := decide_eq_true c5
     clear c5
     by_cases c6 : 1 < (l0.length : Int)
     ·rw [if_pos c6] at H
      have c6b0 : decide (1 < (l0.length : Int)) = true := decide_eq_true c6
      have c6b1 : decide (1 < l0.length) = true := decide_eq_true (by omega)
      clear c6
      by_cases c7 : (rd l0 0) < (rd l0 1)
      ·rw [if_pos c7] at H
       have c7b0 : decide ((rd l0 0) < (rd l0 1)) = true := decide_eq_true c7
       clear c7
       by_cases c8 : 2 < (l0.length : Int)
       ·rw [if_pos c8] at H
        have c8b0 : decide (2 < (l0.length : Int)) = true := decide_eq_true c8
        have c8b1 : decide (2 < l0.length) = true := decide_eq_true (by omega)
        clear c8
        by_cases c9 : (rd l0 1) < (rd l0 2)
        ·rw [if_pos c9] at H
         have c9b0 : decide ((rd l0 1) < (rd l0 2)) = true := decide_eq_true c9
         clear c9
         obtain rfl := Option.some.inj H
         have p202 : 0 ≤ (0 : Int) := (by omega)
         have q202 : 0 < (l0.length : Int) := of_decide_eq_true as_
         obtain ⟨ad202, e202, hx202_0⟩ := Kd.at_int HR0.out 0 p202 q202
         cases e202
         have qi202 : (0 < l0.length) = True := eq_true (by omega)
         (try rw [show ((0 : Int)).toNat = 0 from rfl] at hx202_0)
         (try rw [Addr.add_zero'] at hx202_0)
         replace p202 := eq_true p202
         replace q202 := eq_true q202
         have p203 : 0 ≤ (0 : Int) := (by omega)
         have q203 : 0 < (l0.length : Int) := of_decide_eq_true as_
         obtain ⟨ad203, e203, hx203_0⟩ := Kd.at_int HR0.out 0 p203 q203
         obtain rfl : ad202 = ad203 := (by injection e203)
         have qi203 : (0 < l0.length) = True := eq_true (by omega)
         (try rw [show ((0 : Int)).toNat = 0 from rfl] at hx203_0)
         (try rw [Addr.add_zero'] at hx203_0)
         replace p203 := eq_true p203
         replace q203 := eq_true q203
         have p204 : 0 ≤ (1 : Int) := (by omega)
         have q204 : 1 < (l0.length : Int) := of_decide_eq_true as_
         obtain ⟨ad204, e204, hx204_0⟩ := Kd.at_int HR0.out 1 p204 q204
         obtain rfl : ad202 = ad204 := (by injection e204)
         (try simp only [show (1 : Int).toNat = 1 from rfl, Nat.reduceMul, Nat.reduceEqDiff, Go.Addr.add, ↓reduceIte] at hx204_0)
         have qi204 : (1 < l0.length) = True := eq_true (by omega)
         (try rw [show ((1 : Int)).toNat = 1 from rfl] at hx204_0)
         replace p204 := eq_true p204
         replace q204 := eq_true q204
         have p205 : 0 ≤ (1 : Int) := (by omega)
         have q205 : 1 < (l0.length : Int) := of_decide_eq_true as_
         obtain ⟨ad205, e205, hx205_0⟩ := Kd.at_int HR0.out 1 p205 q205
         obtain rfl : ad202 = ad205 := (by injection e205)
         (try simp only [show (1 : Int).toNat = 1 from rfl, Nat.reduceMul, Nat.reduceEqDiff, Go.Addr.add, ↓reduceIte] at hx205_0)
         have qi205 : (1 < l0.length) = True := eq_true (by omega)
         (try rw [show ((1 : Int)).toNat = 1 from rfl] at hx205_0)
         replace p205 := eq_true p205
         replace q205 := eq_true q205
         have p206 : 0 ≤ (2 : Int) := (by omega)
         have q206 : 2 < (l0.length : Int) := of_decide_eq_true as_
         obtain ⟨ad206, e206, hx206_0⟩ := Kd.at_int HR0.out 2 p206 q206
         obtain rfl : ad202 = ad206 := (by injection e206)
         (try simp only [show (2 : Int).toNat = 2 from rfl, Nat.reduceMul, Nat.reduceEqDiff, Go.Addr.add, ↓reduceIte] at hx206_0)
         have qi206 : (2 < l0.length) = True := eq_true (by omega)
         (try rw [show ((2 : Int)).toNat = 2 from rfl] at hx206_0)
         replace p206 := eq_true p206
         replace q206 := eq_true q206
         have p207 : 0 ≤ (2 : Int) := (by omega)
         have q207 : 2 < (l0.length : Int) := of_decide_eq_true as_
         obtain ⟨ad207, e207, hx207_0⟩ := Kd.at_int HR0.out 2 p207 q207
         obtain rfl : ad202 = ad207 := (by injection e207)
         (try simp only [show (2 : Int).toNat = 2 from rfl, Nat.reduceMul, Nat.reduceEqDiff, Go.Addr.add, ↓reduceIte] at hx207_0)
         have qi207 : (2 < l0.length) = True := eq_true (by omega)
         (try rw [show ((2 : Int)).toNat = 2 from rfl] at hx207_0)
         replace p207 := eq_true p207
         replace q207 := eq_true q207
         go_enter Try.func31, Try.ntmps31
         go_wp2
         repeat (go_quiet (fail); try go_wp2)
         go_ret
         exact ⟨rg_, by repeat (first | exact Drawn0.refl _ | apply Drawn0.step)⟩
        ·rw [if_neg c9] at H
         have c9b0 : decide ((rd l0 1) < (rd l0 2)) = false := decide_eq_false c9
         clear c9
         obtain rfl := Option.some.inj H
         have p202 : 0 ≤ (0 : Int) := (by omega)
         have q202 : 0 < (l0.length : Int) := of_decide_eq_true as_
         obtain ⟨ad202, e202, hx202_0⟩ := Kd.at_int HR0.out 0 p202 q202
         cases e202
         have qi202 : (0 < l0.length) = True := eq_true (by omega)
         (try rw [show ((0 : Int)).toNat = 0 from rfl] at hx202_0)
         (try rw [Addr.add_zero'] at hx202_0)
         replace p202 := eq_true p202
         replace q202 := eq_true q202
         have p203 : 0 ≤ (0 : Int) := (by omega)
         have q203 : 0 < (l0.length : Int) := of_decide_eq_true as_
         obtain ⟨ad203, e203, hx203_0⟩ := Kd.at_int HR0.out 0 p203 q203
         obtain rfl : ad202 = ad203 := (by injection e203)
         have qi203 : (0 < l0.length) = True := eq_true (by omega)
         (try rw [show ((0 : Int)).toNat = 0 from rfl] at hx203_0)
         (try rw [Addr.add_zero'] at hx203_0)
         replace p203 := eq_true p203
         replace q203 := eq_true q203
         have p204 : 0 ≤ (1 : Int) := (by omega)
         have q204 : 1 < (l0.length : Int) := of_decide_eq_true as_
         obtain ⟨ad204, e204, hx204_0⟩ := Kd.at_int HR0.out 1 p204 q204
         obtain rfl : ad202 = ad204 := (by injection e204)
         (try simp only [show (1 : Int).toNat = 1 from rfl, Nat.reduceMul, Nat.reduceEqDiff, Go.Addr.add, ↓reduceIte] at hx204_0)
         have qi204 : (1 < l0.length) = True := eq_true (by omega)
         (try rw [show ((1 : Int)).toNat = 1 from rfl] at hx204_0)
         replace p204 := eq_true p204
         replace q204 := eq_true q204
         have p205 : 0 ≤ (1 : Int) := (by omega)
         have q205 : 1 < (l0.length : Int) := of_decide_eq_true as_
         obtain ⟨ad205, e205, hx205_0⟩ := Kd.at_int HR0.out 1 p205 q205
         obtain rfl : ad202 = ad205 := (by injection e205)
         (try simp only [show (1 : Int).toNat = 1 from rfl, Nat.reduceMul, Nat.reduceEqDiff, Go.Addr.add, ↓reduceIte] at hx205_0)
         have qi205 : (1 < l0.length) = True := eq_true (by omega)
         (try rw [show ((1 : Int)).toNat = 1 from rfl] at hx205_0)
         replace p205 := eq_true p205
         replace q205 := eq_true q205
         have p206 : 0 ≤ (2 : Int) := (by omega)
         have q206 : 2 < (l0.length : Int) := of_decide_eq_true as_
         obtain ⟨ad206, e206, hx206_0⟩ := Kd.at_int HR0.out 2 p206 q206
         obtain rfl : ad202 = ad206 := (by injection e206)
         (try simp only [show (2 : Int).toNat = 2 from rfl, Nat.reduceMul, Nat.reduceEqDiff, Go.Addr.add, ↓reduceIte] at hx206_0)
         have qi206 : (2 < l0.length) = True := eq_true (by omega)
         (try rw [show ((2 : Int)).toNat = 2 from rfl] at hx206_0)
         replace p206 := eq_true p206
         replace q206 := eq_true q206
         go_enter Try.func31, Try.ntmps31
         go_wp2
         repeat (go_quiet (fail); try go_wp2)
         go_ret
         exact ⟨rg_, by repeat (first | exact Drawn0.refl _ | apply Drawn0.step)⟩
       ·rw [if_neg c8] at H
        exact absurd H (by simp)
      ·rw [if_neg c7] at H
       have c7b0 : decide ((rd l0 0) < (rd l0 1)) = false := decide_eq_false c7
       clear c7
       obtain rfl := Option.some.inj H
       have p202 : 0 ≤ (0 : Int) := (by omega)
       have q202 : 0 < (l0.length : Int) := of_decide_eq_true as_
       obtain ⟨ad202, e202, hx202_0⟩ := Kd.at_int HR0.out 0 p202 q202
       cases e202
       have qi202 : (0 < l0.length) = True := eq_true (by omega)
       (try rw [show ((0 : Int)).toNat = 0 from rfl] at hx202_0)
       (try rw [Addr.add_zero'] at hx202_0)
       replace p202 := eq_true p202
       replace q202 := eq_true q202
       have p203 : 0 ≤ (0 : Int) := (by omega)
       have q203 : 0 < (l0.length : Int) := of_decide_eq_true as_
       obtain ⟨ad203, e203, hx203_0⟩ := Kd.at_int HR0.out 0 p203 q203
       obtain rfl : ad202 = ad203 := (by injection e203)
       have qi203 : (0 < l0.length) = True := eq_true (by omega)
       (try rw [show ((0 : Int)).toNat = 0 from rfl] at hx203_0)
       (try rw [Addr.add_zero'] at hx203_0)
       replace p203 := eq_true p203
       replace q203 := eq_true q203
       have p204 : 0 ≤ (1 : Int) := (by omega)
       have q204 : 1 < (l0.length : Int) := of_decide_eq_true as_
       obtain ⟨ad204, e204, hx204_0⟩ := Kd.at_int HR0.out 1 p204 q204
       obtain rfl : ad202 = ad204 := (by injection e204)
       (try simp only [show (1 : Int).toNat = 1 from rfl, Nat.reduceMul, Nat.reduceEqDiff, Go.Addr.add, ↓reduceIte] at hx204_0)
       have qi204 : (1 < l0.length) = True := eq_true (by omega)
       (try rw [show ((1 : Int)).toNat = 1 from rfl] at hx204_0)
       replace p204 := eq_true p204
       replace q204 := eq_true q204
       go_enter Try.func31, Try.ntmps31
       go_wp2
       repeat (go_quiet (fail); try go_wp2)
       go_ret
       exact ⟨rg_, by repeat (first | exact Drawn0.refl _ | apply Drawn0.step)⟩
     ·rw [if_neg c6] at H
      exact absurd H (by simp)
    ·rw [if_neg c5] at H
     have c5b0 : decide (0 ≤ (rd l0 0)) = false := decide_eq_false c5
     clear c5
     obtain rfl := Option.some.inj H
     have p202 : 0 ≤ (0 : Int) := (by omega)
     have q202 : 0 < (l0.length : Int) := of_decide_eq_true as_
     obtain ⟨ad202, e202, hx202_0⟩ := Kd.at_int HR0.out 0 p202 q202
     cases e202
     have qi202 : (0 < l0.length) = True := eq_true (by omega)
     (try rw [show ((0 : Int)).toNat = 0 from rfl] at hx202_0)
     (try rw [Addr.add_zero'] at hx202_0)
     replace p202 := eq_true p202
     replace q202 := eq_true q202
     go_enter Try.func31, Try.ntmps31
     go_wp2
     repeat (go_quiet (fail); try go_wp2)
     go_ret
     exact ⟨rg_, by repeat (first | exact Drawn0.refl _ | apply Drawn0.step)⟩
   ·rw [if_neg c4] at H
    exact absurd H (by simp)
  ·rw [if_neg c3] at H
   have c3b0 : ((l0.length : Int) == 3) = false := beq_eq_false_iff_ne.mpr c3
   have c3b1 : ((l0.length : Int) != 3) = true := bne_iff_ne.mpr c3
   obtain rfl := Option.some.inj H
   go_enter Try.func31, Try.ntmps31
   go_wp2
   repeat (go_quiet (fail); try go_wp2)
   go_ret
   exact ⟨rg_, by repeat (first | exact Drawn0.refl _ | apply Drawn0.step)⟩
/-! ### impl_IsHyper_1: function 30 -/
def impl_IsHyper_1.f (l0 : List Int) (a1_0 : Int) (l1_1 : List (List Int)) : Option (Bool) := (impl_isEdge.f l0 a1_0).bind fun t208 => (some (!t208))
set_option maxHeartbeats 8000000 in
set_option maxRecDepth 100000 in
theorem impl_IsHyper_1.calls (A0 : Option Addr) (c0 : Nat) (l0 : List Int) (gb1_ : Nat) (a1_0 : Int) (A1_1 : Option Addr) (c1_1 : Nat) (l1_1 : List (List Int)) (r : Bool) (w : World) (hr0 : Kd.C (Kd.int .i64) w A0 l0.length l0) (hc0 : l0.length ≤ c0) (hr1_1 : Kd.C (Kd.slice 3 (Kd.int .i64)) w A1_1 l1_1.length l1_1) (hc1_1 : l1_1.length ≤ c1_1) (hb1_ : w.heap[gb1_]? = some (.cells #[.int .i64 a1_0, .slice A1_1 l1_1.length c1_1] 28 (0, 0))) (h : impl_IsHyper_1.f l0 a1_0 l1_1 = some r) :
    Calls Try.prog 30 #[.slice A0 l0.length c0, .pointer (some ⟨gb1_, 0, none⟩)] w fun e w' => e = .returned (.bool r) ∧ Drawn0 w w' := by
  have HR0 := Aside0.mk hr0
  have HC0 := Aside0.mk hc0
  clear hr0 hc0
  have HR1_1 := Aside0.mk hr1_1
  have HC1_1 := Aside0.mk hc1_1
  clear hr1_1 hc1_1
  have BK1 := Aside0.mk hb1_
  clear hb1_
  have H : ((impl_isEdge.f l0 a1_0).bind fun t208 => (some (!t208))) = some r := h
  clear h
  replace H := Option.bind_eq_some_iff.mp H
  obtain ⟨t208, A30, H⟩ := H
  replace H : (some (!t208)) = some r := H
  have A3 := Aside0.mk A30
  clear A30
  obtain rfl := Option.some.inj H
  have hcz4_0 : w.cell? ⟨gb1_, 0, none⟩ = some (.int .i64 a1_0) := (blk_cell BK1.out 0).trans rfl
  have hcz4_1 : w.cell? ⟨gb1_, 1, none⟩ = some (.slice A1_1 l1_1.length c1_1) := (blk_cell BK1.out 1).trans rfl
  have hfz4_0 := blk_frozen BK1.out 0
  have hfz4_1 := blk_frozen BK1.out 1
  go_enter Try.func30, Try.ntmps30
  go_wp2_with (first | ((with_reducible refine gate_callee (f := 31) rfl ?_); refine gl_ 7 Try.func31 #[.slice A0 l0.length c0, .int .i64 a1_0] ?_; (with_reducible refine (impl_isEdge.calls _ _ l0 a1_0 t208 _ ?side1 ?side2 A3.out).mono ?_); (case side1 => exact kE_ HR0); (case side2 => exact HC0.out); rintro e w' ⟨rfl, ⟨nd, rfl⟩⟩; refine ⟨_, rfl, ?_⟩))
  go_ret
  exact ⟨rg_, by repeat (first | exact Drawn0.refl _ | apply Drawn0.step)⟩
/-! ### slices_IndexFunc_int_int_at_impl_IsHyper_1: function 57 -/
def slices_IndexFunc_int_int_at_impl_IsHyper_1.l0 : Nat → List (List Int) → Int → Int → Int → List (List Int) → Option (Int)
  | 0, _, _, _, _, _ => none
  | k + 1, x0, x7, x8, x2000, x2001 => if x8 < x7 then (if 0 ≤ x8 then (if x8 < (x0.length : Int) then ((impl_IsHyper_1.f (rd_L1 x0 x8) x2000 x2001).bind fun t210 => (if t210 = true then (some x8) else (slices_IndexFunc_int_int_at_impl_IsHyper_1.l0 k x0 x7 (wrap64 (x8 + 1)) x2000 x2001))) else (none)) else (none)) else (some (-1))
def slices_IndexFunc_int_int_at_impl_IsHyper_1.f (k : Nat) (l0 : List (List Int)) (a1_0 : Int) (l1_1 : List (List Int)) : Option (Int) := slices_IndexFunc_int_int_at_impl_IsHyper_1.l0 k l0 (l0.length : Int) 0 a1_0 l1_1
theorem slices_IndexFunc_int_int_at_impl_IsHyper_1.mono_l : ∀ k, (∀ y0 y1 y2 y3 y4, LeO (slices_IndexFunc_int_int_at_impl_IsHyper_1.l0 k y0 y1 y2 y3 y4) (slices_IndexFunc_int_int_at_impl_IsHyper_1.l0 (k + 1) y0 y1 y2 y3 y4))
  | 0 => fun _ _ _ _ _ r h => by simp [slices_IndexFunc_int_int_at_impl_IsHyper_1.l0] at h
  | k + 1 => by
    have ih0 := slices_IndexFunc_int_int_at_impl_IsHyper_1.mono_l k
    · intro y0 y1 y2 y3 y4
      unfold slices_IndexFunc_int_int_at_impl_IsHyper_1.l0
      repeat' first
      | (with_reducible exact ih0 _ _ _ _ _)
      | (with_reducible exact LeO.refl _)
      | (with_reducible exact LeO.none _)
      | (with_reducible refine LeO.ite ?_ ?_)
      | (with_reducible refine LeO.bind ?_ (fun _ => ?_))
      | exact ih0 _ _ _ _ _
      | exact LeO.none _
      | refine LeO.ite ?_ ?_
      | refine LeO.bind ?_ (fun _ => ?_)
theorem slices_IndexFunc_int_int_at_impl_IsHyper_1.mono : ∀ a0 a1 a2 k, LeO (slices_IndexFunc_int_int_at_impl_IsHyper_1.f k a0 a1 a2) (slices_IndexFunc_int_int_at_impl_IsHyper_1.f (k + 1) a0 a1 a2) := by
  intro a0 a1 a2 k
  have ih0 := slices_IndexFunc_int_int_at_impl_IsHyper_1.mono_l k
  unfold slices_IndexFunc_int_int_at_impl_IsHyper_1.f
  repeat' first
      | (with_reducible exact ih0 _ _ _ _ _)
      | (with_reducible exact LeO.refl _)
      | (with_reducible exact LeO.none _)
      | (with_reducible refine LeO.ite ?_ ?_)
      | (with_reducible refine LeO.bind ?_ (fun _ => ?_))
      | exact ih0 _ _ _ _ _
      | exact LeO.none _
      | refine LeO.ite ?_ ?_
      | refine LeO.bind ?_ (fun _ => ?_)
noncomputable def slices_IndexFunc_int_int_at_impl_IsHyper_1.L0 (y0 : List (List Int)) (y1 : Int) (y2 : Int) (y3 : Int) (y4 : List (List Int)) : Option (Int) := lim fun k => slices_IndexFunc_int_int_at_impl_IsHyper_1.l0 k y0 y1 y2 y3 y4
theorem slices_IndexFunc_int_int_at_impl_IsHyper_1.L0_sup (y0 : List (List Int)) (y1 : Int) (y2 : Int) (y3 : Int) (y4 : List (List Int)) : Sup (fun k => slices_IndexFunc_int_int_at_impl_IsHyper_1.l0 k y0 y1 y2 y3 y4) (slices_IndexFunc_int_int_at_impl_IsHyper_1.L0 y0 y1 y2 y3 y4) := Sup.of_mono fun k => slices_IndexFunc_int_int_at_impl_IsHyper_1.mono_l k y0 y1 y2 y3 y4
noncomputable def slices_IndexFunc_int_int_at_impl_IsHyper_1.F (l0 : List (List Int)) (a1_0 : Int) (l1_1 : List (List Int)) : Option (Int) := lim fun k => slices_IndexFunc_int_int_at_impl_IsHyper_1.f k l0 a1_0 l1_1
theorem slices_IndexFunc_int_int_at_impl_IsHyper_1.F_sup (l0 : List (List Int)) (a1_0 : Int) (l1_1 : List (List Int)) : Sup (fun k => slices_IndexFunc_int_int_at_impl_IsHyper_1.f k l0 a1_0 l1_1) (slices_IndexFunc_int_int_at_impl_IsHyper_1.F l0 a1_0 l1_1) := Sup.of_mono fun k => slices_IndexFunc_int_int_at_impl_IsHyper_1.mono l0 a1_0 l1_1 k
theorem slices_IndexFunc_int_int_at_impl_IsHyper_1.L0_eq (x0 : List (List Int)) (x7 : Int) (x8 : Int) (x2000 : Int) (x2001 : List (List Int)) : slices_IndexFunc_int_int_at_impl_IsHyper_1.L0 x0 x7 x8 x2000 x2001 = if x8 < x7 then (if 0 ≤ x8 then (if x8 < (x0.length : Int) then ((impl_IsHyper_1.f (rd_L1 x0 x8) x2000 x2001).bind fun t210 => (if t210 = true then (some x8) else (slices_IndexFunc_int_int_at_impl_IsHyper_1.L0 x0 x7 (wrap64 (x8 + 1)) x2000 x2001))) else (none)) else (none)) else (some (-1)) := by
  refine Sup.unique (slices_IndexFunc_int_int_at_impl_IsHyper_1.L0_sup x0 x7 x8 x2000 x2001) (Sup.shift (fun k => slices_IndexFunc_int_int_at_impl_IsHyper_1.mono_l k x0 x7 x8 x2000 x2001) (Sup.congr (g' := fun k => if x8 < x7 then (if 0 ≤ x8 then (if x8 < (x0.length : Int) then ((impl_IsHyper_1.f (rd_L1 x0 x8) x2000 x2001).bind fun t210 => (if t210 = true then (some x8) else (slices_IndexFunc_int_int_at_impl_IsHyper_1.l0 k x0 x7 (wrap64 (x8 + 1)) x2000 x2001))) else (none)) else (none)) else (some (-1))) (fun k => by first | rfl | simp only [slices_IndexFunc_int_int_at_impl_IsHyper_1.l0]) ?_))
  repeat' first
    | (with_reducible exact slices_IndexFunc_int_int_at_impl_IsHyper_1.L0_sup _ _ _ _ _)
    | (with_reducible refine Sup.ite ?_ ?_)
    | (with_reducible refine Sup.bind ?_ (fun _ => ?_))
    | (with_reducible exact Sup.const _)
    | exact slices_IndexFunc_int_int_at_impl_IsHyper_1.L0_sup _ _ _ _ _
    | exact Sup.const _
theorem slices_IndexFunc_int_int_at_impl_IsHyper_1.F_eq (l0 : List (List Int)) (a1_0 : Int) (l1_1 : List (List Int)) : slices_IndexFunc_int_int_at_impl_IsHyper_1.F l0 a1_0 l1_1 = slices_IndexFunc_int_int_at_impl_IsHyper_1.L0 l0 (l0.length : Int) 0 a1_0 l1_1 := by
  refine Sup.unique (slices_IndexFunc_int_int_at_impl_IsHyper_1.F_sup l0 a1_0 l1_1) (Sup.congr (g' := fun k => slices_IndexFunc_int_int_at_impl_IsHyper_1.l0 k l0 (l0.length : Int) 0 a1_0 l1_1) (fun k => by first | rfl | simp only [slices_IndexFunc_int_int_at_impl_IsHyper_1.f]) ?_)
  repeat' first
    | (with_reducible exact slices_IndexFunc_int_int_at_impl_IsHyper_1.L0_sup _ _ _ _ _)
    | (with_reducible refine Sup.ite ?_ ?_)
    | (with_reducible refine Sup.bind ?_ (fun _ => ?_))
    | (with_reducible exact Sup.const _)
    | exact slices_IndexFunc_int_int_at_impl_IsHyper_1.L0_sup _ _ _ _ _
    | exact Sup.const _
set_option maxHeartbeats 8000000 in
set_option maxRecDepth 100000 in
theorem slices_IndexFunc_int_int_at_impl_IsHyper_1.calls (k : Nat) (A0 : Option Addr) (c0 : Nat) (l0 : List (List Int)) (gb1_ : Nat) (a1_0 : Int) (A1_1 : Option Addr) (c1_1 : Nat) (l1_1 : List (List Int)) (r : Int) (w : World) (hr0 : Kd.C (Kd.slice 3 (Kd.int .i64)) w A0 l0.length l0) (hc0 : l0.length ≤ c0) (hr1_1 : Kd.C (Kd.slice 3 (Kd.int .i64)) w A1_1 l1_1.length l1_1) (hc1_1 : l1_1.length ≤ c1_1) (hb1_ : w.heap[gb1_]? = some (.cells #[.int .i64 a1_0, .slice A1_1 l1_1.length c1_1] 28 (0, 0))) (h : slices_IndexFunc_int_int_at_impl_IsHyper_1.f k l0 a1_0 l1_1 = some r) :
    Calls Try.prog 37 #[.slice A0 l0.length c0, .func (.func 30) #[] #[.pointer (some ⟨gb1_, 0, none⟩)]] w fun e w' => e = .returned (.int .i64 r) ∧ Drawn0 w w' := by
  have hu36 := Try.underlying36
  have HR0 := Aside0.mk hr0
  have HC0 := Aside0.mk hc0
  clear hr0 hc0
  have HR1_1 := Aside0.mk hr1_1
  have HC1_1 := Aside0.mk hc1_1
  clear hr1_1 hc1_1
  have BK1 := Aside0.mk hb1_
  clear hb1_
  have H : (slices_IndexFunc_int_int_at_impl_IsHyper_1.l0 k l0 (l0.length : Int) 0 a1_0 l1_1) = some r := h
  clear h
  have H' := Aside0.mk H
  clear H
  go_enter Try.func37, Try.ntmps37
  go_wp2
  go_loopg [8] k (fun kq v8 w' => ∃ (x8_1 : Int), v8 = .int .i64 x8_1 ∧ Aside0 (slices_IndexFunc_int_int_at_impl_IsHyper_1.l0 kq l0 (l0.length : Int) x8_1 a1_0 l1_1 = some r) ∧ Aside0 (kq ≤ k) ∧ Drawn0 w w')
  case atStart => exact ⟨(0), rg_, H', ⟨Nat.le_refl _⟩, by repeat (first | exact Drawn0.refl _ | apply Drawn0.step)⟩
  case round =>
   clear H'
   try clear c1
   try clear p2
   obtain ⟨x8_1, rfl, HA, HK1, ⟨m1, rfl⟩⟩ := hrel
   cases gk with
   | zero => exact absurd HA.out (by simp [slices_IndexFunc_int_int_at_impl_IsHyper_1.l0])
   | succ k1 =>
    have H := HA.out
    clear HA
    simp only [slices_IndexFunc_int_int_at_impl_IsHyper_1.l0] at H
    by_cases c3 : x8_1 < (l0.length : Int)
    ·rw [if_pos c3] at H
     have c3b0 : decide (x8_1 < (l0.length : Int)) = true := decide_eq_true c3
     clear c3
     by_cases c4 : 0 ≤ x8_1
     ·rw [if_pos c4] at H
      have c4b0 : decide (0 ≤ x8_1) = true := decide_eq_true c4
      clear c4
      by_cases c5 : x8_1 < (l0.length : Int)
      ·rw [if_pos c5] at H
       have c5b0 : decide (x8_1 < (l0.length : Int)) = true := decide_eq_true c5
       clear c5
       replace H := Option.bind_eq_some_iff.mp H
       obtain ⟨t210, A60, H⟩ := H
       replace H : (if t210 = true then (some x8_1) else (slices_IndexFunc_int_int_at_impl_IsHyper_1.l0 k1 l0 (l0.length : Int) (wrap64 (x8_1 + 1)) a1_0 l1_1)) = some r := H
       have A6 := Aside0.mk A60
       clear A60
       by_cases c7 : t210 = true
       ·subst c7
        have H1 : (some x8_1) = some r := by rw [if_pos rfl] at H; exact H
        clear H
        have H := H1
        clear H1
        obtain rfl := Option.some.inj H
        have p209 : 0 ≤ (x8_1 : Int) := of_decide_eq_true as_
        have q209 : x8_1 < (l0.length : Int) := of_decide_eq_true as_
        obtain ⟨ad209, A209_0, c209_0, e209, hx209_0, hl209_0, hi209_0⟩ := at_L1 HR0.out x8_1 p209 q209
        cases e209
        have HR209_0 := Aside0.mk hi209_0
        have HC209_0 := Aside0.mk hl209_0
        clear hi209_0 hl209_0
        replace p209 := eq_true p209
        replace q209 := eq_true q209
        go_wp2_with (first | (go_at_call 30; (with_reducible refine (impl_IsHyper_1.calls _ _ (rd_L1 l0 x8_1) gb1_ a1_0 A1_1 c1_1 l1_1 true _ ?side1 ?side2 ?side3 ?side4 ?side5 A6.out).mono ?_); (case side1 => exact kE_ HR209_0); (case side2 => exact HC209_0.out); (case side3 => exact kE_ HR1_1); (case side4 => exact HC1_1.out); (case side5 => exact (kB_ BK1)); rintro e w' ⟨rfl, ⟨nd, rfl⟩⟩))
        go_ret
        exact ⟨rg_, by repeat (first | exact Drawn0.refl _ | apply Drawn0.step)⟩
       ·replace c7 := Bool.eq_false_iff.mpr c7
        subst c7
        have H1 : (slices_IndexFunc_int_int_at_impl_IsHyper_1.l0 k1 l0 (l0.length : Int) (wrap64 (x8_1 + 1)) a1_0 l1_1) = some r := by rw [if_neg (show ¬ (false = true) by decide)] at H; exact H
        clear H
        have H := H1
        clear H1
        have H' := Aside0.mk H
        clear H
        have p209 : 0 ≤ (x8_1 : Int) := of_decide_eq_true as_
        have q209 : x8_1 < (l0.length : Int) := of_decide_eq_true as_
        obtain ⟨ad209, A209_0, c209_0, e209, hx209_0, hl209_0, hi209_0⟩ := at_L1 HR0.out x8_1 p209 q209
        cases e209
        have HR209_0 := Aside0.mk hi209_0
        have HC209_0 := Aside0.mk hl209_0
        clear hi209_0 hl209_0
        replace p209 := eq_true p209
        replace q209 := eq_true q209
        go_wp2_with (first | (go_at_call 30; (with_reducible refine (impl_IsHyper_1.calls _ _ (rd_L1 l0 x8_1) gb1_ a1_0 A1_1 c1_1 l1_1 false _ ?side1 ?side2 ?side3 ?side4 ?side5 A6.out).mono ?_); (case side1 => exact kE_ HR209_0); (case side2 => exact HC209_0.out); (case side3 => exact kE_ HR1_1); (case side4 => exact HC1_1.out); (case side5 => exact (kB_ BK1)); rintro e w' ⟨rfl, ⟨nd, rfl⟩⟩))
        go_roundg k1
        case measure => have := HK1.out; omega
        case rel => exact ⟨(wrap64 (x8_1 + 1)), rg_, H', ⟨by have := HK1.out; omega⟩, by repeat (first | exact Drawn0.refl _ | apply Drawn0.step)⟩
      ·rw [if_neg c5] at H
       exact absurd H (by simp)
     ·rw [if_neg c4] at H
      exact absurd H (by simp)
    ·rw [if_neg c3] at H
     have c3b0 : decide (x8_1 < (l0.length : Int)) = false := decide_eq_false c3
     clear c3
     obtain rfl := Option.some.inj H
     go_wp2
     go_ret
     exact ⟨rg_, by repeat (first | exact Drawn0.refl _ | apply Drawn0.step)⟩
/-! ### slices_ContainsFunc_int_int_at_impl_IsHyper_1: function 56 -/
def slices_ContainsFunc_int_int_at_impl_IsHyper_1.f (k : Nat) (l0 : List (List Int)) (a1_0 : Int) (l1_1 : List (List Int)) : Option (Bool) := (slices_IndexFunc_int_int_at_impl_IsHyper_1.f k l0 a1_0 l1_1).bind fun t211 => (some (decide (t211 ≥ 0)))
theorem slices_ContainsFunc_int_int_at_impl_IsHyper_1.mono : ∀ a0 a1 a2 k, LeO (slices_ContainsFunc_int_int_at_impl_IsHyper_1.f k a0 a1 a2) (slices_ContainsFunc_int_int_at_impl_IsHyper_1.f (k + 1) a0 a1 a2) := by
  intro a0 a1 a2 k
  unfold slices_ContainsFunc_int_int_at_impl_IsHyper_1.f
  repeat' first
      | (with_reducible exact slices_IndexFunc_int_int_at_impl_IsHyper_1.mono _ _ _ _)
      | (with_reducible exact LeO.refl _)
      | (with_reducible exact LeO.none _)
      | (with_reducible refine LeO.ite ?_ ?_)
      | (with_reducible refine LeO.bind ?_ (fun _ => ?_))
      | exact slices_IndexFunc_int_int_at_impl_IsHyper_1.mono _ _ _ _
      | exact LeO.none _
      | refine LeO.ite ?_ ?_
      | refine LeO.bind ?_ (fun _ => ?_)
noncomputable def slices_ContainsFunc_int_int_at_impl_IsHyper_1.F (l0 : List (List Int)) (a1_0 : Int) (l1_1 : List (List Int)) : Option (Bool) := lim fun k => slices_ContainsFunc_int_int_at_impl_IsHyper_1.f k l0 a1_0 l1_1
theorem slices_ContainsFunc_int_int_at_impl_IsHyper_1.F_sup (l0 : List (List Int)) (a1_0 : Int) (l1_1 : List (List Int)) : Sup (fun k => slices_ContainsFunc_int_int_at_impl_IsHyper_1.f k l0 a1_0 l1_1) (slices_ContainsFunc_int_int_at_impl_IsHyper_1.F l0 a1_0 l1_1) := Sup.of_mono fun k => slices_ContainsFunc_int_int_at_impl_IsHyper_1.mono l0 a1_0 l1_1 k
theorem slices_ContainsFunc_int_int_at_impl_IsHyper_1.F_eq (l0 : List (List Int)) (a1_0 : Int) (l1_1 : List (List Int)) : slices_ContainsFunc_int_int_at_impl_IsHyper_1.F l0 a1_0 l1_1 = (slices_IndexFunc_int_int_at_impl_IsHyper_1.F l0 a1_0 l1_1).bind fun t211 => (some (decide (t211 ≥ 0))) := by
  refine Sup.unique (slices_ContainsFunc_int_int_at_impl_IsHyper_1.F_sup l0 a1_0 l1_1) (Sup.congr (g' := fun k => (slices_IndexFunc_int_int_at_impl_IsHyper_1.f k l0 a1_0 l1_1).bind fun t211 => (some (decide (t211 ≥ 0)))) (fun k => by first | rfl | simp only [slices_ContainsFunc_int_int_at_impl_IsHyper_1.f]) ?_)
  repeat' first
    | (with_reducible exact slices_IndexFunc_int_int_at_impl_IsHyper_1.F_sup _ _ _)
    | (with_reducible refine Sup.ite ?_ ?_)
    | (with_reducible refine Sup.bind ?_ (fun _ => ?_))
    | (with_reducible exact Sup.const _)
    | exact slices_IndexFunc_int_int_at_impl_IsHyper_1.F_sup _ _ _
    | exact Sup.const _
set_option maxHeartbeats 8000000 in
set_option maxRecDepth 100000 in
theorem slices_ContainsFunc_int_int_at_impl_IsHyper_1.calls (k : Nat) (A0 : Option Addr) (c0 : Nat) (l0 : List (List Int)) (gb1_ : Nat) (a1_0 : Int) (A1_1 : Option Addr) (c1_1 : Nat) (l1_1 : List (List Int)) (r : Bool) (w : World) (hr0 : Kd.C (Kd.slice 3 (Kd.int .i64)) w A0 l0.length l0) (hc0 : l0.length ≤ c0) (hr1_1 : Kd.C (Kd.slice 3 (Kd.int .i64)) w A1_1 l1_1.length l1_1) (hc1_1 : l1_1.length ≤ c1_1) (hb1_ : w.heap[gb1_]? = some (.cells #[.int .i64 a1_0, .slice A1_1 l1_1.length c1_1] 28 (0, 0))) (h : slices_ContainsFunc_int_int_at_impl_IsHyper_1.f k l0 a1_0 l1_1 = some r) :
    Calls Try.prog 29 #[.slice A0 l0.length c0, .func (.func 30) #[] #[.pointer (some ⟨gb1_, 0, none⟩)]] w fun e w' => e = .returned (.bool r) ∧ Drawn0 w w' := by
  have HR0 := Aside0.mk hr0
  have HC0 := Aside0.mk hc0
  clear hr0 hc0
  have HR1_1 := Aside0.mk hr1_1
  have HC1_1 := Aside0.mk hc1_1
  clear hr1_1 hc1_1
  have BK1 := Aside0.mk hb1_
  clear hb1_
  have H : ((slices_IndexFunc_int_int_at_impl_IsHyper_1.f k l0 a1_0 l1_1).bind fun t211 => (some (decide (t211 ≥ 0)))) = some r := h
  clear h
  replace H := Option.bind_eq_some_iff.mp H
  obtain ⟨t211, A30, H⟩ := H
  replace H : (some (decide (t211 ≥ 0))) = some r := H
  have A3 := Aside0.mk A30
  clear A30
  obtain rfl := Option.some.inj H
  go_enter Try.func29, Try.ntmps29
  go_wp2_with (first | ((with_reducible refine gate_callee (f := 37) rfl ?_); refine gl_ 7 Try.func37 #[.slice A0 l0.length c0, .func (.func 30) #[] #[.pointer (some ⟨gb1_, 0, none⟩)]] ?_; (with_reducible refine (slices_IndexFunc_int_int_at_impl_IsHyper_1.calls k _ _ l0 gb1_ a1_0 A1_1 c1_1 l1_1 t211 _ ?side1 ?side2 ?side3 ?side4 ?side5 A3.out).mono ?_); (case side1 => exact kE_ HR0); (case side2 => exact HC0.out); (case side3 => exact kE_ HR1_1); (case side4 => exact HC1_1.out); (case side5 => exact (kB_ BK1)); rintro e w' ⟨rfl, ⟨nd, rfl⟩⟩; refine ⟨_, rfl, ?_⟩))
  go_ret
  exact ⟨rg_, by repeat (first | exact Drawn0.refl _ | apply Drawn0.step)⟩
/-! ### impl_IsHyper: function 17 -/
def impl_IsHyper.f (k : Nat) (a0_0 : Int) (l0_1 : List (List Int)) : Option (Bool) := (slices_ContainsFunc_int_int_at_impl_IsHyper_1.f k l0_1 a0_0 l0_1).bind fun t213 => (if t213 = true then (some false) else ((impl_in.f a0_0 1 72).bind fun t214 => (if t214 = true then (some (decide ((l0_1.length : Int) ≤ 40))) else (some false))))
theorem impl_IsHyper.mono : ∀ a0 a1 k, LeO (impl_IsHyper.f k a0 a1) (impl_IsHyper.f (k + 1) a0 a1) := by
  intro a0 a1 k
  unfold impl_IsHyper.f
  repeat' first
      | (with_reducible exact slices_ContainsFunc_int_int_at_impl_IsHyper_1.mono _ _ _ _)
      | (with_reducible exact LeO.refl _)
      | (with_reducible exact LeO.none _)
      | (with_reducible refine LeO.ite ?_ ?_)
      | (with_reducible refine LeO.bind ?_ (fun _ => ?_))
      | exact slices_ContainsFunc_int_int_at_impl_IsHyper_1.mono _ _ _ _
      | exact LeO.none _
      | refine LeO.ite ?_ ?_
      | refine LeO.bind ?_ (fun _ => ?_)
noncomputable def impl_IsHyper.F (a0_0 : Int) (l0_1 : List (List Int)) : Option (Bool) := lim fun k => impl_IsHyper.f k a0_0 l0_1
theorem impl_IsHyper.F_sup (a0_0 : Int) (l0_1 : List (List Int)) : Sup (fun k => impl_IsHyper.f k a0_0 l0_1) (impl_IsHyper.F a0_0 l0_1) := Sup.of_mono fun k => impl_IsHyper.mono a0_0 l0_1 k
theorem impl_IsHyper.F_eq (a0_0 : Int) (l0_1 : List (List Int)) : impl_IsHyper.F a0_0 l0_1 = (slices_ContainsFunc_int_int_at_impl_IsHyper_1.F l0_1 a0_0 l0_1).bind fun t213 => (if t213 = true then (some false) else ((impl_in.f a0_0 1 72).bind fun t214 => (if t214 = true then (some (decide ((l0_1.length : Int) ≤ 40))) else (some false)))) := by
  refine Sup.unique (impl_IsHyper.F_sup a0_0 l0_1) (Sup.congr (g' := fun k => (slices_ContainsFunc_int_int_at_impl_IsHyper_1.f k l0_1 a0_0 l0_1).bind fun t213 => (if t213 = true then (some false) else ((impl_in.f a0_0 1 72).bind fun t214 => (if t214 = true then (some (decide ((l0_1.length : Int) ≤ 40))) else (some false))))) (fun k => by first | rfl | simp only [impl_IsHyper.f]) ?_)
  repeat' first
    | (with_reducible exact slices_ContainsFunc_int_int_at_impl_IsHyper_1.F_sup _ _ _)
    | (with_reducible refine Sup.ite ?_ ?_)
    | (with_reducible refine Sup.bind ?_ (fun _ => ?_))
    | (with_reducible exact Sup.const _)
    | exact slices_ContainsFunc_int_int_at_impl_IsHyper_1.F_sup _ _ _
    | exact Sup.const _
set_option maxHeartbeats 8000000 in
set_option maxRecDepth 100000 in
theorem impl_IsHyper.calls (k : Nat) (a0_0 : Int) (A0_1 : Option Addr) (c0_1 : Nat) (l0_1 : List (List Int)) (r : Bool) (w : World) (hr0_1 : Kd.C (Kd.slice 3 (Kd.int .i64)) w A0_1 l0_1.length l0_1) (hc0_1 : l0_1.length ≤ c0_1) (h : impl_IsHyper.f k a0_0 l0_1 = some r) :
    Calls Try.prog 17 #[.agg #[.int .i64 a0_0, .slice A0_1 l0_1.length c0_1]] w fun e w' => e = .returned (.bool r) ∧ Below w.heap.size w w' := by
  have hu28 := Try.underlying28
  have hu22 := Try.underlying22
  have HR0_1 := Aside0.mk hr0_1
  have HC0_1 := Aside0.mk hc0_1
  clear hr0_1 hc0_1
  have HB := Aside0.mk (Below.refl w.heap.size w)
  have H : ((slices_ContainsFunc_int_int_at_impl_IsHyper_1.f k l0_1 a0_0 l0_1).bind fun t213 => (if t213 = true then (some false) else ((impl_in.f a0_0 1 72).bind fun t214 => (if t214 = true then (some (decide ((l0_1.length : Int) ≤ 40))) else (some false))))) = some r := h
  clear h
  replace H := Option.bind_eq_some_iff.mp H
  obtain ⟨t213, A20, H⟩ := H
  replace H : (if t213 = true then (some false) else ((impl_in.f a0_0 1 72).bind fun t214 => (if t214 = true then (some (decide ((l0_1.length : Int) ≤ 40))) else (some false)))) = some r := H
  have A2 := Aside0.mk A20
  clear A20
  by_cases c3 : t213 = true
  ·subst c3
   have H1 : (some false) = some r := by rw [if_pos rfl] at H; exact H
   clear H
   have H := H1
   clear H1
   obtain rfl := Option.some.inj H
   go_enter Try.func17, Try.ntmps17
   go_wp2_with (first | ((with_reducible refine gate_dst (N := 1) rfl ?_); (try (refine gate_guard (by rfl) ?_; dsimp only)); refine bx_ 1 #[.int .i64 a0_0, .slice A0_1 l0_1.length c0_1] 28 ?_; intro gb212 hg w4 hbox hb; have BK212 := Aside0.mk (hbox); have GW212 := Aside0.mk ((ge_ hg)); have GE212 := Aside0.mk ((ge_ hg)); replace HB := Aside0.mk (below_step hB_ hb); clear hb hbox hg; have hcz5_0 : w4.cell? ⟨gb212, 0, none⟩ = some (.int .i64 a0_0) := (blk_cell BK212.out 0).trans rfl; have hcz5_1 : w4.cell? ⟨gb212, 1, none⟩ = some (.slice A0_1 l0_1.length c0_1) := (blk_cell BK212.out 1).trans rfl; have hfz5_0 := blk_frozen BK212.out 0; have hfz5_1 := blk_frozen BK212.out 1) | ((with_reducible refine gate_callee (f := 29) rfl ?_); refine gl_ 7 Try.func29 #[.slice A0_1 l0_1.length c0_1, .func (.func 30) #[] #[.pointer (some ⟨gb212, 0, none⟩)]] ?_; (with_reducible refine (slices_ContainsFunc_int_int_at_impl_IsHyper_1.calls k _ _ l0_1 gb212 a0_0 A0_1 c0_1 l0_1 true _ ?side1 ?side2 ?side3 ?side4 ?side5 A2.out).mono ?_); (case side1 => exact kC_ HR0_1); (case side2 => exact HC0_1.out); (case side3 => exact kC_ HR0_1); (case side4 => exact HC0_1.out); (case side5 => exact (kB_ BK212)); rintro e w' ⟨rfl, ⟨nd, rfl⟩⟩; refine ⟨_, rfl, ?_⟩))
   go_ret
   exact ⟨rf_, hB_⟩
  ·replace c3 := Bool.eq_false_iff.mpr c3
   subst c3
   have H1 : ((impl_in.f a0_0 1 72).bind fun t214 => (if t214 = true then (some (decide ((l0_1.length : Int) ≤ 40))) else (some false))) = some r := by rw [if_neg (show ¬ (false = true) by decide)] at H; exact H
   clear H
   have H := H1
   clear H1
   replace H := Option.bind_eq_some_iff.mp H
   obtain ⟨t214, A60, H⟩ := H
   replace H : (if t214 = true then (some (decide ((l0_1.length : Int) ≤ 40))) else (some false)) = some r := H
   have A6 := Aside0.mk A60
   clear A60
   by_cases c7 : t214 = true
   ·subst c7
    have H1 : (some (decide ((l0_1.length : Int) ≤ 40))) = some r := by rw [if_pos rfl] at H; exact H
    clear H
    have H := H1
    clear H1
    obtain rfl := Option.some.inj H
    go_enter Try.func17, Try.ntmps17
    go_wp2_with (first | ((with_reducible refine gate_dst (N := 1) rfl ?_); (try (refine gate_guard (by rfl) ?_; dsimp only)); refine bx_ 1 #[.int .i64 a0_0, .slice A0_1 l0_1.length c0_1] 28 ?_; intro gb212 hg w8 hbox hb; have BK212 := Aside0.mk (hbox); have GW212 := Aside0.mk ((ge_ hg)); have GE212 := Aside0.mk ((ge_ hg)); replace HB := Aside0.mk (below_step hB_ hb); clear hb hbox hg; have hcz9_0 : w8.cell? ⟨gb212, 0, none⟩ = some (.int .i64 a0_0) := (blk_cell BK212.out 0).trans rfl; have hcz9_1 : w8.cell? ⟨gb212, 1, none⟩ = some (.slice A0_1 l0_1.length c0_1) := (blk_cell BK212.out 1).trans rfl; have hfz9_0 := blk_frozen BK212.out 0; have hfz9_1 := blk_frozen BK212.out 1) | ((with_reducible refine gate_callee (f := 29) rfl ?_); refine gl_ 7 Try.func29 #[.slice A0_1 l0_1.length c0_1, .func (.func 30) #[] #[.pointer (some ⟨gb212, 0, none⟩)]] ?_; (with_reducible refine (slices_ContainsFunc_int_int_at_impl_IsHyper_1.calls k _ _ l0_1 gb212 a0_0 A0_1 c0_1 l0_1 false _ ?side1 ?side2 ?side3 ?side4 ?side5 A2.out).mono ?_); (case side1 => exact kC_ HR0_1); (case side2 => exact HC0_1.out); (case side3 => exact kC_ HR0_1); (case side4 => exact HC0_1.out); (case side5 => exact (kB_ BK212)); rintro e w' ⟨rfl, ⟨nd, rfl⟩⟩; refine ⟨_, rfl, ?_⟩) | (go_at_call 32; (with_reducible refine (impl_in.calls a0_0 1 72 true _ A6.out).mono ?_); rintro e w' ⟨rfl, ⟨nd, rfl⟩⟩))
    go_ret
    exact ⟨rf_, hB_⟩
   ·replace c7 := Bool.eq_false_iff.mpr c7
    subst c7
    have H1 : (some false) = some r := by rw [if_neg (show ¬ (false = true) by decide)] at H; exact H
    clear H
    have H := H1
    clear H1
    obtain rfl := Option.some.inj H
    go_enter Try.func17, Try.ntmps17
    go_wp2_with (first | ((with_reducible refine gate_dst (N := 1) rfl ?_); (try (refine gate_guard (by rfl) ?_; dsimp only)); refine bx_ 1 #[.int .i64 a0_0, .slice A0_1 l0_1.length c0_1] 28 ?_; intro gb212 hg w10 hbox hb; have BK212 := Aside0.mk (hbox); have GW212 := Aside0.mk ((ge_ hg)); have GE212 := Aside0.mk ((ge_ hg)); replace HB := Aside0.mk (below_step hB_ hb); clear hb hbox hg; have hcz11_0 : w10.cell? ⟨gb212, 0, none⟩ = some (.int .i64 a0_0) := (blk_cell BK212.out 0).trans rfl; have hcz11_1 : w10.cell? ⟨gb212, 1, none⟩ = some (.slice A0_1 l0_1.length c0_1) := (blk_cell BK212.out 1).trans rfl; have hfz11_0 := blk_frozen BK212.out 0; have hfz11_1 := blk_frozen BK212.out 1) | ((with_reducible refine gate_callee (f := 29) rfl ?_); refine gl_ 7 Try.func29 #[.slice A0_1 l0_1.length c0_1, .func (.func 30) #[] #[.pointer (some ⟨gb212, 0, none⟩)]] ?_; (with_reducible refine (slices_ContainsFunc_int_int_at_impl_IsHyper_1.calls k _ _ l0_1 gb212 a0_0 A0_1 c0_1 l0_1 false _ ?side1 ?side2 ?side3 ?side4 ?side5 A2.out).mono ?_); (case side1 => exact kC_ HR0_1); (case side2 => exact HC0_1.out); (case side3 => exact kC_ HR0_1); (case side4 => exact HC0_1.out); (case side5 => exact (kB_ BK212)); rintro e w' ⟨rfl, ⟨nd, rfl⟩⟩; refine ⟨_, rfl, ?_⟩) | (go_at_call 32; (with_reducible refine (impl_in.calls a0_0 1 72 false _ A6.out).mono ?_); rintro e w' ⟨rfl, ⟨nd, rfl⟩⟩))
    go_ret
    exact ⟨rf_, hB_⟩
/-! ### slices_Index_int_int: function 39 -/
def slices_Index_int_int.l0 : Nat → List Int → Int → Int → Int → Option (Int)
  | 0, _, _, _, _ => none
  | k + 1, x0, x1, x7, x8 => if x8 < x7 then (if 0 ≤ x8 then (if x8 < (x0.length : Int) then (if x1 = (rd x0 x8) then (some x8) else (slices_Index_int_int.l0 k x0 x1 x7 (wrap64 (x8 + 1)))) else (none)) else (none)) else (some (-1))
def slices_Index_int_int.f (k : Nat) (l0 : List Int) (a1 : Int) : Option (Int) := slices_Index_int_int.l0 k l0 a1 (l0.length : Int) 0
theorem slices_Index_int_int.mono_l : ∀ k, (∀ y0 y1 y2 y3, LeO (slices_Index_int_int.l0 k y0 y1 y2 y3) (slices_Index_int_int.l0 (k + 1) y0 y1 y2 y3))
  | 0 => fun _ _ _ _ r h => by simp [slices_Index_int_int.l0] at h
  | k + 1 => by
    have ih0 := slices_Index_int_int.mono_l k
    · intro y0 y1 y2 y3
      unfold slices_Index_int_int.l0
      repeat' first
      | (with_reducible exact ih0 _ _ _ _)
      | (with_reducible exact LeO.refl _)
      | (with_reducible exact LeO.none _)
      | (with_reducible refine LeO.ite ?_ ?_)
      | (with_reducible refine LeO.bind ?_ (fun _ => ?_))
      | exact ih0 _ _ _ _
      | exact LeO.none _
      | refine LeO.ite ?_ ?_
      | refine LeO.bind ?_ (fun _ => ?_)
theorem slices_Index_int_int.mono : ∀ a0 a1 k, LeO (slices_Index_int_int.f k a0 a1) (slices_Index_int_int.f (k + 1) a0 a1) := by
  intro a0 a1 k
  have ih0 := slices_Index_int_int.mono_l k
  unfold slices_Index_int_int.f
  repeat' first
      | (with_reducible exact ih0 _ _ _ _)
      | (with_reducible exact LeO.refl _)
      | (with_reducible exact LeO.none _)
      | (with_reducible refine LeO.ite ?_ ?_)
      | (with_reducible refine LeO.bind ?_ (fun _ => ?_))
      | exact ih0 _ _ _ _
      | exact LeO.none _
      | refine LeO.ite ?_ ?_
      | refine LeO.bind ?_ (fun _ => ?_)
noncomputable def slices_Index_int_int.L0 (y0 : List Int) (y1 : Int) (y2 : Int) (y3 : Int) : Option (Int) := lim fun k => slices_Index_int_int.l0 k y0 y1 y2 y3
theorem slices_Index_int_int.L0_sup (y0 : List Int) (y1 : Int) (y2 : Int) (y3 : Int) : Sup (fun k => slices_Index_int_int.l0 k y0 y1 y2 y3) (slices_Index_int_int.L0 y0 y1 y2 y3) := Sup.of_mono fun k => slices_Index_int_int.mono_l k y0 y1 y2 y3
noncomputable def slices_Index_int_int.F (l0 : List Int) (a1 : Int) : Option (Int) := lim fun k => slices_Index_int_int.f k l0 a1
theorem slices_Index_int_int.F_sup (l0 : List Int) (a1 : Int) : Sup (fun k => slices_Index_int_int.f k l0 a1) (slices_Index_int_int.F l0 a1) := Sup.of_mono fun k => slices_Index_int_int.mono l0 a1 k
theorem slices_Index_int_int.L0_eq (x0 : List Int) (x1 : Int) (x7 : Int) (x8 : Int) : slices_Index_int_int.L0 x0 x1 x7 x8 = if x8 < x7 then (if 0 ≤ x8 then (if x8 < (x0.length : Int) then (if x1 = (rd x0 x8) then (some x8) else (slices_Index_int_int.L0 x0 x1 x7 (wrap64 (x8 + 1)))) else (none)) else (none)) else (some (-1)) := by
  refine Sup.unique (slices_Index_int_int.L0_sup x0 x1 x7 x8) (Sup.shift (fun k => slices_Index_int_int.mono_l k x0 x1 x7 x8) (Sup.congr (g' := fun k => if x8 < x7 then (if 0 ≤ x8 then (if x8 < (x0.length : Int) then (if x1 = (rd x0 x8) then (some x8) else (slices_Index_int_int.l0 k x0 x1 x7 (wrap64 (x8 + 1)))) else (none)) else (none)) else (some (-1))) (fun k => by first | rfl | simp only [slices_Index_int_int.l0]) ?_))
  repeat' first
    | (with_reducible exact slices_Index_int_int.L0_sup _ _ _ _)
    | (with_reducible refine Sup.ite ?_ ?_)
    | (with_reducible refine Sup.bind ?_ (fun _ => ?_))
    | (with_reducible exact Sup.const _)
    | exact slices_Index_int_int.L0_sup _ _ _ _
    | exact Sup.const _
theorem slices_Index_int_int.F_eq (l0 : List Int) (a1 : Int) : slices_Index_int_int.F l0 a1 = slices_Index_int_int.L0 l0 a1 (l0.length : Int) 0 := by
  refine Sup.unique (slices_Index_int_int.F_sup l0 a1) (Sup.congr (g' := fun k => slices_Index_int_int.l0 k l0 a1 (l0.length : Int) 0) (fun k => by first | rfl | simp only [slices_Index_int_int.f]) ?_)
  repeat' first
    | (with_reducible exact slices_Index_int_int.L0_sup _ _ _ _)
    | (with_reducible refine Sup.ite ?_ ?_)
    | (with_reducible refine Sup.bind ?_ (fun _ => ?_))
    | (with_reducible exact Sup.const _)
    | exact slices_Index_int_int.L0_sup _ _ _ _
    | exact Sup.const _
set_option maxHeartbeats 8000000 in
set_option maxRecDepth 100000 in
theorem slices_Index_int_int.calls (k : Nat) (A0 : Option Addr) (c0 : Nat) (l0 : List Int) (a1 : Int) (r : Int) (w : World) (hr0 : Kd.C (Kd.int .i64) w A0 l0.length l0) (hc0 : l0.length ≤ c0) (h : slices_Index_int_int.f k l0 a1 = some r) :
    Calls Try.prog 39 #[.slice A0 l0.length c0, .int .i64 a1] w fun e w' => e = .returned (.int .i64 r) ∧ Drawn0 w w' := by
  have HR0 := Aside0.mk hr0
  have HC0 := Aside0.mk hc0
  clear hr0 hc0
  have H : (slices_Index_int_int.l0 k l0 a1 (l0.length : Int) 0) = some r := h
  clear h
  have H' := Aside0.mk H
  clear H
  go_enter Try.func39, Try.ntmps39
  go_wp2
  go_loopg [8] k (fun kq v8 w' => ∃ (x8_1 : Int), v8 = .int .i64 x8_1 ∧ Aside0 (slices_Index_int_int.l0 kq l0 a1 (l0.length : Int) x8_1 = some r) ∧ Aside0 (kq ≤ k) ∧ Drawn0 w w')
  case atStart => exact ⟨(0), rg_, H', ⟨Nat.le_refl _⟩, by repeat (first | exact Drawn0.refl _ | apply Drawn0.step)⟩
  case round =>
   clear H'
   try clear p2
   obtain ⟨x8_1, rfl, HA, HK1, ⟨m1, rfl⟩⟩ := hrel
   cases gk with
   | zero => exact absurd HA.out (by simp [slices_Index_int_int.l0])
   | succ k1 =>
    have H := HA.out
    clear HA
    simp only [slices_Index_int_int.l0] at H
    by_cases c3 : x8_1 < (l0.length : Int)
    ·rw [if_pos c3] at H
     have c3b0 : decide (x8_1 < (l0.length : Int)) = true := decide_eq_true c3
     clear c3
     by_cases c4 : 0 ≤ x8_1
     ·rw [if_pos c4] at H
      have c4b0 : decide (0 ≤ x8_1) = true := decide_eq_true c4
      clear c4
      by_cases c5 : x8_1 < (l0.length : Int)
      ·rw [if_pos c5] at H
       have c5b0 : decide (x8_1 < (l0.length : Int)) = true := decide_eq_true c5
       clear c5
       by_cases c6 : a1 = (rd l0 x8_1)
       ·rw [if_pos c6] at H
        have c6b0 : (a1 == (rd l0 x8_1)) = true := beq_iff_eq.mpr c6
        have c6b1 : (a1 != (rd l0 x8_1)) = false := bne_eq_false_iff_eq.mpr c6
        clear c6
        obtain rfl := Option.some.inj H
        have p215 : 0 ≤ (x8_1 : Int) := of_decide_eq_true as_
        have q215 : x8_1 < (l0.length : Int) := of_decide_eq_true as_
        obtain ⟨ad215, e215, hx215_0⟩ := Kd.at_int HR0.out x8_1 p215 q215
        cases e215
        replace p215 := eq_true p215
        replace q215 := eq_true q215
        go_wp2
        go_ret
        exact ⟨rg_, by repeat (first | exact Drawn0.refl _ | apply Drawn0.step)⟩
       ·rw [if_neg c6] at H
        have c6b0 : (a1 == (rd l0 x8_1)) = false := beq_eq_false_iff_ne.mpr c6
        have c6b1 : (a1 != (rd l0 x8_1)) = true := bne_iff_ne.mpr c6
        have H' := Aside0.mk H
        clear H
        have p215 : 0 ≤ (x8_1 : Int) := of_decide_eq_true as_
        have q215 : x8_1 < (l0.length : Int) := of_decide_eq_true as_
        obtain ⟨ad215, e215, hx215_0⟩ := Kd.at_int HR0.out x8_1 p215 q215
        cases e215
        replace p215 := eq_true p215
        replace q215 := eq_true q215
        go_wp2
        go_roundg k1
        case measure => have := HK1.out; omega
        case rel => exact ⟨(wrap64 (x8_1 + 1)), rg_, H', ⟨by have := HK1.out; omega⟩, by repeat (first | exact Drawn0.refl _ | apply Drawn0.step)⟩
      ·rw [if_neg c5] at H
       exact absurd H (by simp)
     ·rw [if_neg c4] at H
      exact absurd H (by simp)
    ·rw [if_neg c3] at H
     have c3b0 : decide (x8_1 < (l0.length : Int)) = false := decide_eq_false c3
     clear c3
     obtain rfl := Option.some.inj H
     go_wp2
     go_ret
     exact ⟨rg_, by repeat (first | exact Drawn0.refl _ | apply Drawn0.step)⟩
/-! ### slices_Contains_int_int: function 35 -/
def slices_Contains_int_int.f (k : Nat) (l0 : List Int) (a1 : Int) : Option (Bool) := (slices_Index_int_int.f k l0 a1).bind fun t216 => (some (decide (t216 ≥ 0)))
theorem slices_Contains_int_int.mono : ∀ a0 a1 k, LeO (slices_Contains_int_int.f k a0 a1) (slices_Contains_int_int.f (k + 1) a0 a1) := by
  intro a0 a1 k
  unfold slices_Contains_int_int.f
  repeat' first
      | (with_reducible exact slices_Index_int_int.mono _ _ _)
      | (with_reducible exact LeO.refl _)
      | (with_reducible exact LeO.none _)
      | (with_reducible refine LeO.ite ?_ ?_)
      | (with_reducible refine LeO.bind ?_ (fun _ => ?_))
      | exact slices_Index_int_int.mono _ _ _
      | exact LeO.none _
      | refine LeO.ite ?_ ?_
      | refine LeO.bind ?_ (fun _ => ?_)
noncomputable def slices_Contains_int_int.F (l0 : List Int) (a1 : Int) : Option (Bool) := lim fun k => slices_Contains_int_int.f k l0 a1
theorem slices_Contains_int_int.F_sup (l0 : List Int) (a1 : Int) : Sup (fun k => slices_Contains_int_int.f k l0 a1) (slices_Contains_int_int.F l0 a1) := Sup.of_mono fun k => slices_Contains_int_int.mono l0 a1 k
theorem slices_Contains_int_int.F_eq (l0 : List Int) (a1 : Int) : slices_Contains_int_int.F l0 a1 = (slices_Index_int_int.F l0 a1).bind fun t216 => (some (decide (t216 ≥ 0))) := by
  refine Sup.unique (slices_Contains_int_int.F_sup l0 a1) (Sup.congr (g' := fun k => (slices_Index_int_int.f k l0 a1).bind fun t216 => (some (decide (t216 ≥ 0)))) (fun k => by first | rfl | simp only [slices_Contains_int_int.f]) ?_)
  repeat' first
    | (with_reducible exact slices_Index_int_int.F_sup _ _)
    | (with_reducible refine Sup.ite ?_ ?_)
    | (with_reducible refine Sup.bind ?_ (fun _ => ?_))
    | (with_reducible exact Sup.const _)
    | exact slices_Index_int_int.F_sup _ _
    | exact Sup.const _
set_option maxHeartbeats 8000000 in
set_option maxRecDepth 100000 in
theorem slices_Contains_int_int.calls (k : Nat) (A0 : Option Addr) (c0 : Nat) (l0 : List Int) (a1 : Int) (r : Bool) (w : World) (hr0 : Kd.C (Kd.int .i64) w A0 l0.length l0) (hc0 : l0.length ≤ c0) (h : slices_Contains_int_int.f k l0 a1 = some r) :
    Calls Try.prog 35 #[.slice A0 l0.length c0, .int .i64 a1] w fun e w' => e = .returned (.bool r) ∧ Drawn0 w w' := by
  have HR0 := Aside0.mk hr0
  have HC0 := Aside0.mk hc0
  clear hr0 hc0
  have H : ((slices_Index_int_int.f k l0 a1).bind fun t216 => (some (decide (t216 ≥ 0)))) = some r := h
  clear h
  replace H := Option.bind_eq_some_iff.mp H
  obtain ⟨t216, A30, H⟩ := H
  replace H : (some (decide (t216 ≥ 0))) = some r := H
  have A3 := Aside0.mk A30
  clear A30
  obtain rfl := Option.some.inj H
  go_enter Try.func35, Try.ntmps35
  go_wp2_with (first | ((with_reducible refine gate_callee (f := 39) rfl ?_); refine gl_ 7 Try.func39 #[.slice A0 l0.length c0, .int .i64 a1] ?_; (with_reducible refine (slices_Index_int_int.calls k _ _ l0 a1 t216 _ ?side1 ?side2 A3.out).mono ?_); (case side1 => exact kE_ HR0); (case side2 => exact HC0.out); rintro e w' ⟨rfl, ⟨nd, rfl⟩⟩; refine ⟨_, rfl, ?_⟩))
  go_ret
  exact ⟨rg_, by repeat (first | exact Drawn0.refl _ | apply Drawn0.step)⟩
/-! ### impl_groups_1: function 34 -/
def impl_groups_1.f (k : Nat) (a0 : Int) (l1_0 : List (List Int)) (l2_0 : List Int) : Option (Bool) := if 0 < (l2_0.length : Int) then (if 0 ≤ (rd l2_0 0) then (if (rd l2_0 0) < (l1_0.length : Int) then ((slices_Contains_int_int.f k (rd_L1 l1_0 (rd l2_0 0)) a0).bind fun t219 => (some t219)) else (none)) else (none)) else (none)
theorem impl_groups_1.mono : ∀ a0 a1 a2 k, LeO (impl_groups_1.f k a0 a1 a2) (impl_groups_1.f (k + 1) a0 a1 a2) := by
  intro a0 a1 a2 k
  unfold impl_groups_1.f
  repeat' first
      | (with_reducible exact slices_Contains_int_int.mono _ _ _)
      | (with_reducible exact LeO.refl _)
      | (with_reducible exact LeO.none _)
      | (with_reducible refine LeO.ite ?_ ?_)
      | (with_reducible refine LeO.bind ?_ (fun _ => ?_))
      | exact slices_Contains_int_int.mono _ _ _
      | exact LeO.none _
      | refine LeO.ite ?_ ?_
      | refine LeO.bind ?_ (fun _ => ?_)
noncomputable def impl_groups_1.F (a0 : Int) (l1_0 : List (List Int)) (l2_0 : List Int) : Option (Bool) := lim fun k => impl_groups_1.f k a0 l1_0 l2_0
theorem impl_groups_1.F_sup (a0 : Int) (l1_0 : List (List Int)) (l2_0 : List Int) : Sup (fun k => impl_groups_1.f k a0 l1_0 l2_0) (impl_groups_1.F a0 l1_0 l2_0) := Sup.of_mono fun k => impl_groups_1.mono a0 l1_0 l2_0 k
theorem impl_groups_1.F_eq (a0 : Int) (l1_0 : List (List Int)) (l2_0 : List Int) : impl_groups_1.F a0 l1_0 l2_0 = if 0 < (l2_0.length : Int) then (if 0 ≤ (rd l2_0 0) then (if (rd l2_0 0) < (l1_0.length : Int) then ((slices_Contains_int_int.F (rd_L1 l1_0 (rd l2_0 0)) a0).bind fun t219 => (some t219)) else (none)) else (none)) else (none) := by
  refine Sup.unique (impl_groups_1.F_sup a0 l1_0 l2_0) (Sup.congr (g' := fun k => if 0 < (l2_0.length : Int) then (if 0 ≤ (rd l2_0 0) then (if (rd l2_0 0) < (l1_0.length : Int) then ((slices_Contains_int_int.f k (rd_L1 l1_0 (rd l2_0 0)) a0).bind fun t219 => (some t219)) else (none)) else (none)) else (none)) (fun k => by first | rfl | simp only [impl_groups_1.f]) ?_)
  repeat' first
    | (with_reducible exact slices_Contains_int_int.F_sup _ _)
    | (with_reducible refine Sup.ite ?_ ?_)
    | (with_reducible refine Sup.bind ?_ (fun _ => ?_))
    | (with_reducible exact Sup.const _)
    | exact slices_Contains_int_int.F_sup _ _
    | exact Sup.const _
set_option maxHeartbeats 8000000 in
set_option maxRecDepth 100000 in
theorem impl_groups_1.calls (k : Nat) (a0 : Int) (gb1_ : Nat) (A1_0 : Option Addr) (c1_0 : Nat) (l1_0 : List (List Int)) (gb2_ : Nat) (A2_0 : Option Addr) (c2_0 : Nat) (l2_0 : List Int) (r : Bool) (w : World) (hr1_0 : Kd.C (Kd.slice 3 (Kd.int .i64)) w A1_0 l1_0.length l1_0) (hc1_0 : l1_0.length ≤ c1_0) (hr2_0 : Kd.C (Kd.int .i64) w A2_0 l2_0.length l2_0) (hc2_0 : l2_0.length ≤ c2_0) (hb1_ : w.heap[gb1_]? = some (.cells #[.slice A1_0 l1_0.length c1_0] 22 (0, 0))) (hb2_ : w.heap[gb2_]? = some (.cells #[.slice A2_0 l2_0.length c2_0] 36 (0, 0))) (h : impl_groups_1.f k a0 l1_0 l2_0 = some r) :
    Calls Try.prog 34 #[.int .i64 a0, .pointer (some ⟨gb1_, 0, none⟩), .pointer (some ⟨gb2_, 0, none⟩)] w fun e w' => e = .returned (.bool r) ∧ Drawn0 w w' := by
  have hu22 := Try.underlying22
  have hu36 := Try.underlying36
  have HR1_0 := Aside0.mk hr1_0
  have HC1_0 := Aside0.mk hc1_0
  clear hr1_0 hc1_0
  have HR2_0 := Aside0.mk hr2_0
  have HC2_0 := Aside0.mk hc2_0
  clear hr2_0 hc2_0
  have BK1 := Aside0.mk hb1_
  clear hb1_
  have BK2 := Aside0.mk hb2_
  clear hb2_
  have H : (if 0 < (l2_0.length : Int) then (if 0 ≤ (rd l2_0 0) then (if (rd l2_0 0) < (l1_0.length : Int) then ((slices_Contains_int_int.f k (rd_L1 l1_0 (rd l2_0 0)) a0).bind fun t219 => (some t219)) else (none)) else (none)) else (none)) = some r := h
  clear h
  by_cases c4 : 0 < (l2_0.length : Int)
  ·rw [if_pos c4] at H
   have c4b0 : decide (0 < (l2_0.length : Int)) = true := decide_eq_true c4
   have c4b1 : decide (0 < l2_0.length) = true := decide_eq_true (by omega)
   clear c4
   by_cases c5 : 0 ≤ (rd l2_0 0)
   ·rw [if_pos c5] at H
    have c5b0 : decide (0 ≤ (rd l2_0 0)) = true := decide_eq_true c5
    clear c5
    by_cases c6 : (rd l2_0 0) < (l1_0.length : Int)
    ·rw [if_pos c6] at H
     have c6b0 : decide ((rd l2_0 0) < (l1_0.length : Int)) = true := decide_eq_true c6
     clear c6
     replace H := Option.bind_eq_some_iff.mp H
     obtain ⟨t219, A70, H⟩ := H
     replace H : (some t219) = some r := H
     have A7 := Aside0.mk A70
     clear A70
     obtain rfl := Option.some.inj H
     have hcz8_0 : w.cell? ⟨gb1_, 0, none⟩ = some (.slice A1_0 l1_0.length c1_0) := (blk_cell BK1.out 0).trans rfl
     have hfz8_0 := blk_frozen BK1.out 0
     have hcz9_0 : w.cell? ⟨gb2_, 0, none⟩ = some (.slice A2_0 l2_0.length c2_0) := (blk_cell BK2.out 0).trans rfl
     have hfz9_0 := blk_frozen BK2.out 0
     have p217 : 0 ≤ (0 : Int) := (by omega)
     have q217 : 0 < (l2_0.length : Int) := of_decide_eq_true as_
     obtain ⟨ad217, e217, hx217_0⟩ := Kd.at_int HR2_0.out 0 p217 q217
     cases e217
     have qi217 : (0 < l2_0.length) = True := eq_true (by omega)
     (try rw [show ((0 : Int)).toNat = 0 from rfl] at hx217_0)
     (try rw [Addr.add_zero'] at hx217_0)
     replace p217 := eq_true p217
     replace q217 := eq_true q217
     have p218 : 0 ≤ ((rd l2_0 0) : Int) := of_decide_eq_true as_
     have q218 : (rd l2_0 0) < (l1_0.length : Int) := of_decide_eq_true as_
     obtain ⟨ad218, A218_0, c218_0, e218, hx218_0, hl218_0, hi218_0⟩ := at_L1 HR1_0.out (rd l2_0 0) p218 q218
     cases e218
     have HR218_0 := Aside0.mk hi218_0
     have HC218_0 := Aside0.mk hl218_0
     clear hi218_0 hl218_0
     replace p218 := eq_true p218
     replace q218 := eq_true q218
     go_enter Try.func34, Try.ntmps34
     go_wp2_with (first | (go_at_call 35; (with_reducible refine (slices_Contains_int_int.calls k _ _ (rd_L1 l1_0 (rd l2_0 0)) a0 t219 _ ?side1 ?side2 A7.out).mono ?_); (case side1 => exact kE_ HR218_0); (case side2 => exact HC218_0.out); rintro e w' ⟨rfl, ⟨nd, rfl⟩⟩; (try first | exact ⟨rfl, _, World.drewN_drewN _ _ _⟩ | exact ⟨rfl, _, Eq.trans (World.drewN_drewN _ _ _) (congrArg (World.drewN _) (Nat.add_assoc _ _ _))⟩)))
     repeat (go_quiet (first | (go_at_call 35; (with_reducible refine (slices_Contains_int_int.calls k _ _ (rd_L1 l1_0 (rd l2_0 0)) a0 t219 _ ?side1 ?side2 A7.out).mono ?_); (case side1 => exact kE_ HR218_0); (case side2 => exact HC218_0.out); rintro e w' ⟨rfl, ⟨nd, rfl⟩⟩; (try first | exact ⟨rfl, _, World.drewN_drewN _ _ _⟩ | exact ⟨rfl, _, Eq.trans (World.drewN_drewN _ _ _) (congrArg (World.drewN _) (Nat.add_assoc _ _ _))⟩))); try go_wp2_with (first | (go_at_call 35; (with_reducible refine (slices_Contains_int_int.calls k _ _ (rd_L1 l1_0 (rd l2_0 0)) a0 t219 _ ?side1 ?side2 A7.out).mono ?_); (case side1 => exact kE_ HR218_0); (case side2 => exact HC218_0.out); rintro e w' ⟨rfl, ⟨nd, rfl⟩⟩; (try first | exact ⟨rfl, _, World.drewN_drewN _ _ _⟩ | exact ⟨rfl, _, Eq.trans (World.drewN_drewN _ _ _) (congrArg (World.drewN _) (Nat.add_assoc _ _ _))⟩))))
     go_ret
     exact ⟨rg_, by repeat (first | exact Drawn0.refl _ | apply Drawn0.step)⟩
    ·rw [if_neg c6] at H
     exact absurd H (by simp)
   ·rw [if_neg c5] at H
    exact absurd H (by simp)
  ·rw [if_neg c4] at H
   exact absurd H (by simp)
/-! ### slices_IndexFunc_int_int_at_impl_groups_1: function 59 -/
def slices_IndexFunc_int_int_at_impl_groups_1.l0 : Nat → List Int → Int → Int → List (List Int) → List Int → Option (Int)
  | 0, _, _, _, _, _ => none
  | k + 1, x0, x7, x8, x2000, x3000 => if x8 < x7 then (if 0 ≤ x8 then (if x8 < (x0.length : Int) then ((impl_groups_1.f k (rd x0 x8) x2000 x3000).bind fun t221 => (if t221 = true then (some x8) else (slices_IndexFunc_int_int_at_impl_groups_1.l0 k x0 x7 (wrap64 (x8 + 1)) x2000 x3000))) else (none)) else (none)) else (some (-1))
def slices_IndexFunc_int_int_at_impl_groups_1.f (k : Nat) (l0 : List Int) (l1_0 : List (List Int)) (l2_0 : List Int) : Option (Int) := slices_IndexFunc_int_int_at_impl_groups_1.l0 k l0 (l0.length : Int) 0 l1_0 l2_0
theorem slices_IndexFunc_int_int_at_impl_groups_1.mono_l : ∀ k, (∀ y0 y1 y2 y3 y4, LeO (slices_IndexFunc_int_int_at_impl_groups_1.l0 k y0 y1 y2 y3 y4) (slices_IndexFunc_int_int_at_impl_groups_1.l0 (k + 1) y0 y1 y2 y3 y4))
  | 0 => fun _ _ _ _ _ r h => by simp [slices_IndexFunc_int_int_at_impl_groups_1.l0] at h
  | k + 1 => by
    have ih0 := slices_IndexFunc_int_int_at_impl_groups_1.mono_l k
    · intro y0 y1 y2 y3 y4
      unfold slices_IndexFunc_int_int_at_impl_groups_1.l0
      repeat' first
      | (with_reducible exact ih0 _ _ _ _ _)
      | (with_reducible exact impl_groups_1.mono _ _ _ _)
      | (with_reducible exact LeO.refl _)
      | (with_reducible exact LeO.none _)
      | (with_reducible refine LeO.ite ?_ ?_)
      | (with_reducible refine LeO.bind ?_ (fun _ => ?_))
      | exact ih0 _ _ _ _ _
      | exact impl_groups_1.mono _ _ _ _
      | exact LeO.none _
      | refine LeO.ite ?_ ?_
      | refine LeO.bind ?_ (fun _ => ?_)
theorem slices_IndexFunc_int_int_at_impl_groups_1.mono : ∀ a0 a1 a2 k, LeO (slices_IndexFunc_int_int_at_impl_groups_1.f k a0 a1 a2) (slices_IndexFunc_int_int_at_impl_groups_1.f (k + 1) a0 a1 a2) := by
  intro a0 a1 a2 k
  have ih0 := slices_IndexFunc_int_int_at_impl_groups_1.mono_l k
  unfold slices_IndexFunc_int_int_at_impl_groups_1.f
  repeat' first
      | (with_reducible exact ih0 _ _ _ _ _)
      | (with_reducible exact impl_groups_1.mono _ _ _ _)
      | (with_reducible exact LeO.refl _)
      | (with_reducible exact LeO.none _)
      | (with_reducible refine LeO.ite ?_ ?_)
      | (with_reducible refine LeO.bind ?_ (fun _ => ?_))
      | exact ih0 _ _ _ _ _
      | exact impl_groups_1.mono _ _ _ _
      | exact LeO.none _
      | refine LeO.ite ?_ ?_
      | refine LeO.bind ?_ (fun _ => ?_)
noncomputable def slices_IndexFunc_int_int_at_impl_groups_1.L0 (y0 : List Int) (y1 : Int) (y2 : Int) (y3 : List (List Int)) (y4 : List Int) : Option (Int) := lim fun k => slices_IndexFunc_int_int_at_impl_groups_1.l0 k y0 y1 y2 y3 y4
theorem slices_IndexFunc_int_int_at_impl_groups_1.L0_sup (y0 : List Int) (y1 : Int) (y2 : Int) (y3 : List (List Int)) (y4 : List Int) : Sup (fun k => slices_IndexFunc_int_int_at_impl_groups_1.l0 k y0 y1 y2 y3 y4) (slices_IndexFunc_int_int_at_impl_groups_1.L0 y0 y1 y2 y3 y4) := Sup.of_mono fun k => slices_IndexFunc_int_int_at_impl_groups_1.mono_l k y0 y1 y2 y3 y4
noncomputable def slices_IndexFunc_int_int_at_impl_groups_1.F (l0 : List Int) (l1_0 : List (List Int)) (l2_0 : List Int) : Option (Int) := lim fun k => slices_IndexFunc_int_int_at_impl_groups_1.f k l0 l1_0 l2_0
theorem slices_IndexFunc_int_int_at_impl_groups_1.F_sup (l0 : List Int) (l1_0 : List (List Int)) (l2_0 : List Int) : Sup (fun k => slices_IndexFunc_int_int_at_impl_groups_1.f k l0 l1_0 l2_0) (slices_IndexFunc_int_int_at_impl_groups_1.F l0 l1_0 l2_0) := Sup.of_mono fun k => slices_IndexFunc_int_int_at_impl_groups_1.mono l0 l1_0 l2_0 k
theorem slices_IndexFunc_int_int_at_impl_groups_1.L0_eq (x0 : List Int) (x7 : Int) (x8 : Int) (x2000 : List (List Int)) (x3000 : List Int) : slices_IndexFunc_int_int_at_impl_groups_1.L0 x0 x7 x8 x2000 x3000 = if x8 < x7 then (if 0 ≤ x8 then (if x8 < (x0.length : Int) then ((impl_groups_1.F (rd x0 x8) x2000 x3000).bind fun t221 => (if t221 = true then (some x8) else (slices_IndexFunc_int_int_at_impl_groups_1.L0 x0 x7 (wrap64 (x8 + 1)) x2000 x3000))) else (none)) else (none)) else (some (-1)) := by
  refine Sup.unique (slices_IndexFunc_int_int_at_impl_groups_1.L0_sup x0 x7 x8 x2000 x3000) (Sup.shift (fun k => slices_IndexFunc_int_int_at_impl_groups_1.mono_l k x0 x7 x8 x2000 x3000) (Sup.congr (g' := fun k => if x8 < x7 then (if 0 ≤ x8 then (if x8 < (x0.length : Int) then ((impl_groups_1.f k (rd x0 x8) x2000 x3000).bind fun t221 => (if t221 = true then (some x8) else (slices_IndexFunc_int_int_at_impl_groups_1.l0 k x0 x7 (wrap64 (x8 + 1)) x2000 x3000))) else (none)) else (none)) else (some (-1))) (fun k => by first | rfl | simp only [slices_IndexFunc_int_int_at_impl_groups_1.l0]) ?_))
  repeat' first
    | (with_reducible exact slices_IndexFunc_int_int_at_impl_groups_1.L0_sup _ _ _ _ _)
    | (with_reducible exact impl_groups_1.F_sup _ _ _)
    | (with_reducible refine Sup.ite ?_ ?_)
    | (with_reducible refine Sup.bind ?_ (fun _ => ?_))
    | (with_reducible exact Sup.const _)
    | exact slices_IndexFunc_int_int_at_impl_groups_1.L0_sup _ _ _ _ _
    | exact impl_groups_1.F_sup _ _ _
    | exact Sup.const _
theorem slices_IndexFunc_int_int_at_impl_groups_1.F_eq (l0 : List Int) (l1_0 : List (List Int)) (l2_0 : List Int) : slices_IndexFunc_int_int_at_impl_groups_1.F l0 l1_0 l2_0 = slices_IndexFunc_int_int_at_impl_groups_1.L0 l0 (l0.length : Int) 0 l1_0 l2_0 := by
  refine Sup.unique (slices_IndexFunc_int_int_at_impl_groups_1.F_sup l0 l1_0 l2_0) (Sup.congr (g' := fun k => slices_IndexFunc_int_int_at_impl_groups_1.l0 k l0 (l0.length : Int) 0 l1_0 l2_0) (fun k => by first | rfl | simp only [slices_IndexFunc_int_int_at_impl_groups_1.f]) ?_)
  repeat' first
    | (with_reducible exact slices_IndexFunc_int_int_at_impl_groups_1.L0_sup _ _ _ _ _)
    | (with_reducible exact impl_groups_1.F_sup _ _ _)
    | (with_reducible refine Sup.ite ?_ ?_)
    | (with_reducible refine Sup.bind ?_ (fun _ => ?_))
    | (with_reducible exact Sup.const _)
    | exact slices_IndexFunc_int_int_at_impl_groups_1.L0_sup _ _ _ _ _
    | exact impl_groups_1.F_sup _ _ _
    | exact Sup.const _
set_option maxHeartbeats 8000000 in
set_option maxRecDepth 100000 in
theorem slices_IndexFunc_int_int_at_impl_groups_1.calls (k : Nat) (A0 : Option Addr) (c0 : Nat) (l0 : List Int) (gb1_ : Nat) (A1_0 : Option Addr) (c1_0 : Nat) (l1_0 : List (List Int)) (gb2_ : Nat) (A2_0 : Option Addr) (c2_0 : Nat) (l2_0 : List Int) (r : Int) (w : World) (hr0 : Kd.C (Kd.int .i64) w A0 l0.length l0) (hc0 : l0.length ≤ c0) (hr1_0 : Kd.C (Kd.slice 3 (Kd.int .i64)) w A1_0 l1_0.length l1_0) (hc1_0 : l1_0.length ≤ c1_0) (hr2_0 : Kd.C (Kd.int .i64) w A2_0 l2_0.length l2_0) (hc2_0 : l2_0.length ≤ c2_0) (hb1_ : w.heap[gb1_]? = some (.cells #[.slice A1_0 l1_0.length c1_0] 22 (0, 0))) (hb2_ : w.heap[gb2_]? = some (.cells #[.slice A2_0 l2_0.length c2_0] 36 (0, 0))) (h : slices_IndexFunc_int_int_at_impl_groups_1.f k l0 l1_0 l2_0 = some r) :
    Calls Try.prog 38 #[.slice A0 l0.length c0, .func (.func 34) #[] #[.pointer (some ⟨gb1_, 0, none⟩), .pointer (some ⟨gb2_, 0, none⟩)]] w fun e w' => e = .returned (.int .i64 r) ∧ Drawn0 w w' := by
  have HR0 := Aside0.mk hr0
  have HC0 := Aside0.mk hc0
  clear hr0 hc0
  have HR1_0 := Aside0.mk hr1_0
  have HC1_0 := Aside0.mk hc1_0
  clear hr1_0 hc1_0
  have HR2_0 := Aside0.mk hr2_0
  have HC2_0 := Aside0.mk hc2_0
  clear hr2_0 hc2_0
  have BK1 := Aside0.mk hb1_
  clear hb1_
  have BK2 := Aside0.mk hb2_
  clear hb2_
  have H : (slices_IndexFunc_int_int_at_impl_groups_1.l0 k l0 (l0.length : Int) 0 l1_0 l2_0) = some r := h
  clear h
  have H' := Aside0.mk H
  clear H
  go_enter Try.func38, Try.ntmps38
  go_wp2
  go_loopg [8] k (fun kq v8 w' => ∃ (x8_1 : Int), v8 = .int .i64 x8_1 ∧ Aside0 (slices_IndexFunc_int_int_at_impl_groups_1.l0 kq l0 (l0.length : Int) x8_1 l1_0 l2_0 = some r) ∧ Aside0 (kq ≤ k) ∧ Drawn0 w w')
  case atStart => exact ⟨(0), rg_, H', ⟨Nat.le_refl _⟩, by repeat (first | exact Drawn0.refl _ | apply Drawn0.step)⟩
  case round =>
   clear H'
   try clear c1
   try clear c2
   try clear p2
   try clear c3
   obtain ⟨x8_1, rfl, HA, HK1, ⟨m1, rfl⟩⟩ := hrel
   cases gk with
   | zero => exact absurd HA.out (by simp [slices_IndexFunc_int_int_at_impl_groups_1.l0])
   | succ k1 =>
    have H := HA.out
    clear HA
    simp only [slices_IndexFunc_int_int_at_impl_groups_1.l0] at H
    by_cases c4 : x8_1 < (l0.length : Int)
    ·rw [if_pos c4] at H
     have c4b0 : decide (x8_1 < (l0.length : Int)) = true := decide_eq_true c4
     clear c4
     by_cases c5 : 0 ≤ x8_1
     ·rw [if_pos c5] at H
      have c5b0 : decide (0 ≤ x8_1) = true := decide_eq_true c5
      clear c5
      by_cases c6 : x8_1 < (l0.length : Int)
      ·rw [if_pos c6] at H
       have c6b0 : decide (x8_1 < (l0.length : Int)) = true := decide_eq_true c6
       clear c6
       replace H := Option.bind_eq_some_iff.mp H
       obtain ⟨t221, A70, H⟩ := H
       replace H : (if t221 = true then (some x8_1) else (slices_IndexFunc_int_int_at_impl_groups_1.l0 k1 l0 (l0.length : Int) (wrap64 (x8_1 + 1)) l1_0 l2_0)) = some r := H
       have A7 := Aside0.mk A70
       clear A70
       by_cases c8 : t221 = true
       ·subst c8
        have H1 : (some x8_1) = some r := by rw [if_pos rfl] at H; exact H
        clear H
        have H := H1
        clear H1
        obtain rfl := Option.some.inj H
        have p220 : 0 ≤ (x8_1 : Int) := of_decide_eq_true as_
        have q220 : x8_1 < (l0.length : Int) := of_decide_eq_true as_
        obtain ⟨ad220, e220, hx220_0⟩ := Kd.at_int HR0.out x8_1 p220 q220
        cases e220
        replace p220 := eq_true p220
        replace q220 := eq_true q220
        go_wp2_with (first | (go_at_call 34; (with_reducible refine (impl_groups_1.calls k1 (rd l0 x8_1) gb1_ A1_0 c1_0 l1_0 gb2_ A2_0 c2_0 l2_0 true _ ?side1 ?side2 ?side3 ?side4 ?side5 ?side6 A7.out).mono ?_); (case side1 => exact kE_ HR1_0); (case side2 => exact HC1_0.out); (case side3 => exact kE_ HR2_0); (case side4 => exact HC2_0.out); (case side5 => exact (kB_ BK1)); (case side6 => exact (kB_ BK2)); rintro e w' ⟨rfl, ⟨nd, rfl⟩⟩))
        go_ret
        exact ⟨rg_, by repeat (first | exact Drawn0.refl _ | apply Drawn0.step)⟩
       ·replace c8 := Bool.eq_false_iff.mpr c8
        subst c8
        have H1 : (slices_IndexFunc_int_int_at_impl_groups_1.l0 k1 l0 (l0.length : Int) (wrap64 (x8_1 + 1)) l1_0 l2_0) = some r := by rw [if_neg (show ¬ (false = true) by decide)] at H; exact H
        clear H
        have H := H1
        clear H1
        have H' := Aside0.mk H
        clear H
        have p220 : 0 ≤ (x8_1 : Int) := of_decide_eq_true as_
        have q220 : x8_1 < (l0.length : Int) := of_decide_eq_true as_
        obtain ⟨ad220, e220, hx220_0⟩ := Kd.at_int HR0.out x8_1 p220 q220
        cases e220
        replace p220 := eq_true p220
        replace q220 := eq_true q220
        go_wp2_with (first | (go_at_call 34; (with_reducible refine (impl_groups_1.calls k1 (rd l0 x8_1) gb1_ A1_0 c1_0 l1_0 gb2_ A2_0 c2_0 l2_0 false _ ?side1 ?side2 ?side3 ?side4 ?side5 ?side6 A7.out).mono ?_); (case side1 => exact kE_ HR1_0); (case side2 => exact HC1_0.out); (case side3 => exact kE_ HR2_0); (case side4 => exact HC2_0.out); (case side5 => exact (kB_ BK1)); (case side6 => exact (kB_ BK2)); rintro e w' ⟨rfl, ⟨nd, rfl⟩⟩))
        go_roundg k1
        case measure => have := HK1.out; omega
        case rel => exact ⟨(wrap64 (x8_1 + 1)), rg_, H', ⟨by have := HK1.out; omega⟩, by repeat (first | exact Drawn0.refl _ | apply Drawn0.step)⟩
      ·rw [if_neg c6] at H
       exact absurd H (by simp)
     ·rw [if_neg c5] at H
      exact absurd H (by simp)
    ·rw [if_neg c4] at H
     have c4b0 : decide (x8_1 < (l0.length : Int)) = false := decide_eq_false c4
     clear c4
     obtain rfl := Option.some.inj H
     go_wp2
     go_ret
     exact ⟨rg_, by repeat (first | exact Drawn0.refl _ | apply Drawn0.step)⟩
/-! ### slices_ContainsFunc_int_int_at_impl_groups_1: function 58 -/
def slices_ContainsFunc_int_int_at_impl_groups_1.f (k : Nat) (l0 : List Int) (l1_0 : List (List Int)) (l2_0 : List Int) : Option (Bool) := (slices_IndexFunc_int_int_at_impl_groups_1.f k l0 l1_0 l2_0).bind fun t222 => (some (decide (t222 ≥ 0)))
theorem slices_ContainsFunc_int_int_at_impl_groups_1.mono : ∀ a0 a1 a2 k, LeO (slices_ContainsFunc_int_int_at_impl_groups_1.f k a0 a1 a2) (slices_ContainsFunc_int_int_at_impl_groups_1.f (k + 1) a0 a1 a2) := by
  intro a0 a1 a2 k
  unfold slices_ContainsFunc_int_int_at_impl_groups_1.f
  repeat' first
      | (with_reducible exact slices_IndexFunc_int_int_at_impl_groups_1.mono _ _ _ _)
      | (with_reducible exact LeO.refl _)
      | (with_reducible exact LeO.none _)
      | (with_reducible refine LeO.ite ?_ ?_)
      | (with_reducible refine LeO.bind ?_ (fun _ => ?_))
      | exact slices_IndexFunc_int_int_at_impl_groups_1.mono _ _ _ _
      | exact LeO.none _
      | refine LeO.ite ?_ ?_
      | refine LeO.bind ?_ (fun _ => ?_)
noncomputable def slices_ContainsFunc_int_int_at_impl_groups_1.F (l0 : List Int) (l1_0 : List (List Int)) (l2_0 : List Int) : Option (Bool) := lim fun k => slices_ContainsFunc_int_int_at_impl_groups_1.f k l0 l1_0 l2_0
theorem slices_ContainsFunc_int_int_at_impl_groups_1.F_sup (l0 : List Int) (l1_0 : List (List Int)) (l2_0 : List Int) : Sup (fun k => slices_ContainsFunc_int_int_at_impl_groups_1.f k l0 l1_0 l2_0) (slices_ContainsFunc_int_int_at_impl_groups_1.F l0 l1_0 l2_0) := Sup.of_mono fun k => slices_ContainsFunc_int_int_at_impl_groups_1.mono l0 l1_0 l2_0 k
theorem slices_ContainsFunc_int_int_at_impl_groups_1.F_eq (l0 : List Int) (l1_0 : List (List Int)) (l2_0 : List Int) : slices_ContainsFunc_int_int_at_impl_groups_1.F l0 l1_0 l2_0 = (slices_IndexFunc_int_int_at_impl_groups_1.F l0 l1_0 l2_0).bind fun t222 => (some (decide (t222 ≥ 0))) := by
  refine Sup.unique (slices_ContainsFunc_int_int_at_impl_groups_1.F_sup l0 l1_0 l2_0) (Sup.congr (g' := fun k => (slices_IndexFunc_int_int_at_impl_groups_1.f k l0 l1_0 l2_0).bind fun t222 => (some (decide (t222 ≥ 0)))) (fun k => by first | rfl | simp only [slices_ContainsFunc_int_int_at_impl_groups_1.f]) ?_)
  repeat' first
    | (with_reducible exact slices_IndexFunc_int_int_at_impl_groups_1.F_sup _ _ _)
    | (with_reducible refine Sup.ite ?_ ?_)
    | (with_reducible refine Sup.bind ?_ (fun _ => ?_))
    | (with_reducible exact Sup.const _)
    | exact slices_IndexFunc_int_int_at_impl_groups_1.F_sup _ _ _
    | exact Sup.const _
set_option maxHeartbeats 8000000 in
set_option maxRecDepth 100000 in
theorem slices_ContainsFunc_int_int_at_impl_groups_1.calls (k : Nat) (A0 : Option Addr) (c0 : Nat) (l0 : List Int) (gb1_ : Nat) (A1_0 : Option Addr) (c1_0 : Nat) (l1_0 : List (List Int)) (gb2_ : Nat) (A2_0 : Option Addr) (c2_0 : Nat) (l2_0 : List Int) (r : Bool) (w : World) (hr0 : Kd.C (Kd.int .i64) w A0 l0.length l0) (hc0 : l0.length ≤ c0) (hr1_0 : Kd.C (Kd.slice 3 (Kd.int .i64)) w A1_0 l1_0.length l1_0) (hc1_0 : l1_0.length ≤ c1_0) (hr2_0 : Kd.C (Kd.int .i64) w A2_0 l2_0.length l2_0) (hc2_0 : l2_0.length ≤ c2_0) (hb1_ : w.heap[gb1_]? = some (.cells #[.slice A1_0 l1_0.length c1_0] 22 (0, 0))) (hb2_ : w.heap[gb2_]? = some (.cells #[.slice A2_0 l2_0.length c2_0] 36 (0, 0))) (h : slices_ContainsFunc_int_int_at_impl_groups_1.f k l0 l1_0 l2_0 = some r) :
    Calls Try.prog 33 #[.slice A0 l0.length c0, .func (.func 34) #[] #[.pointer (some ⟨gb1_, 0, none⟩), .pointer (some ⟨gb2_, 0, none⟩)]] w fun e w' => e = .returned (.bool r) ∧ Drawn0 w w' := by
  have HR0 := Aside0.mk hr0
  have HC0 := Aside0.mk hc0
  clear hr0 hc0
  have HR1_0 := Aside0.mk hr1_0
  have HC1_0 := Aside0.mk hc1_0
  clear hr1_0 hc1_0
  have HR2_0 := Aside0.mk hr2_0
  have HC2_0 := Aside0.mk hc2_0
  clear hr2_0 hc2_0
  have BK1 := Aside0.mk hb1_
  clear hb1_
  have BK2 := Aside0.mk hb2_
  clear hb2_
  have H : ((slices_IndexFunc_int_int_at_impl_groups_1.f k l0 l1_0 l2_0).bind fun t222 => (some (decide (t222 ≥ 0)))) = some r := h
  clear h
  replace H := Option.bind_eq_some_iff.mp H
  obtain ⟨t222, A40, H⟩ := H
  replace H : (some (decide (t222 ≥ 0))) = some r := H
  have A4 := Aside0.mk A40
  clear A40
  obtain rfl := Option.some.inj H
  go_enter Try.func33, Try.ntmps33
  go_wp2_with (first | ((with_reducible refine gate_callee (f := 38) rfl ?_); refine gl_ 7 Try.func38 #[.slice A0 l0.length c0, .func (.func 34) #[] #[.pointer (some ⟨gb1_, 0, none⟩), .pointer (some ⟨gb2_, 0, none⟩)]] ?_; (with_reducible refine (slices_IndexFunc_int_int_at_impl_groups_1.calls k _ _ l0 gb1_ A1_0 c1_0 l1_0 gb2_ A2_0 c2_0 l2_0 t222 _ ?side1 ?side2 ?side3 ?side4 ?side5 ?side6 ?side7 ?side8 A4.out).mono ?_); (case side1 => exact kE_ HR0); (case side2 => exact HC0.out); (case side3 => exact kE_ HR1_0); (case side4 => exact HC1_0.out); (case side5 => exact kE_ HR2_0); (case side6 => exact HC2_0.out); (case side7 => exact (kB_ BK1)); (case side8 => exact (kB_ BK2)); rintro e w' ⟨rfl, ⟨nd, rfl⟩⟩; refine ⟨_, rfl, ?_⟩))
  go_ret
  exact ⟨rg_, by repeat (first | exact Drawn0.refl _ | apply Drawn0.step)⟩
end Go.Proofs.Ythafknjaljhibaa.X
