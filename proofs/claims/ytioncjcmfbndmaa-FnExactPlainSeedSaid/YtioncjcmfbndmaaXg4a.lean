/- Written by a program of this session: what functions of the given program compute, and that their calls do so. -/
import Derived.Test.YtioncjcmfbndmaaXx0
import Derived.Test.YtioncjcmfbndmaaXg14a
import Derived.Test.YtioncjcmfbndmaaXg404a
import Derived.Test.YtioncjcmfbndmaaXg714a
import Derived.Test.YtioncjcmfbndmaaXg7bda
import Derived.Test.YtioncjcmfbndmaaXgfffa
namespace Go.Proofs.Ytioncjcmfbndmaa.X
open Go.RowKit Go.Proofs.YtioncjcmfbndmaaW.PrintWords Go.Proofs.YtioncjcmfbndmaaW.PrintLast Go.Proofs.YtioncjcmfbndmaaW.PrintMore
attribute [local go_sem] max2_int min2_int max_two min_two max_three min_three max_four min_four   -- for this text's walks alone
set_option linter.unusedVariables false
set_option linter.unusedSimpArgs false
/-! ### spec_l1Most: function 84 -/
def spec_l1Most.f (a0 : Int) (a1 : Int) : Option (Int) := if a0 > a1 then (some a0) else (some a1)
set_option maxHeartbeats 8000000 in
set_option maxRecDepth 100000 in
theorem spec_l1Most.calls (a0 : Int) (a1 : Int) (r : Int) (w : World) (h : spec_l1Most.f a0 a1 = some r) :
    Calls Try.prog 84 #[.int .i64 a0, .int .i64 a1] w fun e w' => e = .returned (.int .i64 r) ∧ Drawn0 w w' := by
  have H : (if a0 > a1 then (some a0) else (some a1)) = some r := h
  clear h
  by_cases c3 : a0 > a1
  ·rw [if_pos c3] at H
   have c3b0 : decide (a1 < a0) = true := decide_eq_true c3
   clear c3
   obtain rfl := Option.some.inj H
   go_enter Try.func84, Try.ntmps84
   go_wp2
   go_ret
   exact ⟨by first | rfl | (simp; done) | (simp [*]; done), by repeat (first | exact Drawn0.refl _ | apply Drawn0.step)⟩
  ·rw [if_neg c3] at H
   have c3b0 : decide (a1 < a0) = false := decide_eq_false c3
   clear c3
   obtain rfl := Option.some.inj H
   go_enter Try.func84, Try.ntmps84
   go_wp2
   go_ret
   exact ⟨by first | rfl | (simp; done) | (simp [*]; done), by repeat (first | exact Drawn0.refl _ | apply Drawn0.step)⟩
/-! ### spec_pfPlain: function 85 -/
def spec_pfPlain.l0 : Nat → List Int → List Int → Int → Int → Option (Bool)
  | 0, _, _, _, _ => none
  | k + 1, x7, x14, x15, x16 => if x16 < x15 then (if 0 ≤ x16 then (if x16 < (x14.length : Int) then (if x16 ≤ (x7.length : Int) then ((spec_l1Has.f k (x7.take (x16 : Int).toNat) (rd x14 x16)).bind fun t314 => (if t314 = true then (some false) else (spec_pfPlain.l0 k x7 x14 x15 (wrap64 (x16 + 1))))) else (none)) else (none)) else (none)) else (some true)
def spec_pfPlain.f (k : Nat) (a0 : Int) (l1 : List ByteArray) (a2 : Int) : Option (Bool) := (spec_biPlaces.f k a0 0 l1 a2).bind fun t306 => (spec_pfPlain.l0 k t306 t306 (t306.length : Int) 0)
theorem spec_pfPlain.mono_l : ∀ k, (∀ y0 y1 y2 y3, LeO (spec_pfPlain.l0 k y0 y1 y2 y3) (spec_pfPlain.l0 (k + 1) y0 y1 y2 y3))
  | 0 => fun _ _ _ _ r h => by simp [spec_pfPlain.l0] at h
  | k + 1 => by
    have ih0 := spec_pfPlain.mono_l k
    · intro y0 y1 y2 y3
      unfold spec_pfPlain.l0
      repeat' first
      | (with_reducible exact ih0 _ _ _ _)
      | (with_reducible exact spec_biPlaces.mono _ _ _ _ _)
      | (with_reducible exact spec_l1Has.mono _ _ _)
      | (with_reducible exact LeO.refl _)
      | (with_reducible exact LeO.none _)
      | (with_reducible refine LeO.ite ?_ ?_)
      | (with_reducible refine LeO.bind ?_ (fun _ => ?_))
      | exact ih0 _ _ _ _
      | exact spec_biPlaces.mono _ _ _ _ _
      | exact spec_l1Has.mono _ _ _
      | exact LeO.none _
      | refine LeO.ite ?_ ?_
      | refine LeO.bind ?_ (fun _ => ?_)
theorem spec_pfPlain.mono : ∀ a0 a1 a2 k, LeO (spec_pfPlain.f k a0 a1 a2) (spec_pfPlain.f (k + 1) a0 a1 a2) := by
  intro a0 a1 a2 k
  have ih0 := spec_pfPlain.mono_l k
  unfold spec_pfPlain.f
  repeat' first
      | (with_reducible exact ih0 _ _ _ _)
      | (with_reducible exact spec_biPlaces.mono _ _ _ _ _)
      | (with_reducible exact spec_l1Has.mono _ _ _)
      | (with_reducible exact LeO.refl _)
      | (with_reducible exact LeO.none _)
      | (with_reducible refine LeO.ite ?_ ?_)
      | (with_reducible refine LeO.bind ?_ (fun _ => ?_))
      | exact ih0 _ _ _ _
      | exact spec_biPlaces.mono _ _ _ _ _
      | exact spec_l1Has.mono _ _ _
      | exact LeO.none _
      | refine LeO.ite ?_ ?_
      | refine LeO.bind ?_ (fun _ => ?_)
noncomputable def spec_pfPlain.L0 (y0 : List Int) (y1 : List Int) (y2 : Int) (y3 : Int) : Option (Bool) := lim fun k => spec_pfPlain.l0 k y0 y1 y2 y3
theorem spec_pfPlain.L0_sup (y0 : List Int) (y1 : List Int) (y2 : Int) (y3 : Int) : Sup (fun k => spec_pfPlain.l0 k y0 y1 y2 y3) (spec_pfPlain.L0 y0 y1 y2 y3) := Sup.of_mono fun k => spec_pfPlain.mono_l k y0 y1 y2 y3
noncomputable def spec_pfPlain.F (a0 : Int) (l1 : List ByteArray) (a2 : Int) : Option (Bool) := lim fun k => spec_pfPlain.f k a0 l1 a2
theorem spec_pfPlain.F_sup (a0 : Int) (l1 : List ByteArray) (a2 : Int) : Sup (fun k => spec_pfPlain.f k a0 l1 a2) (spec_pfPlain.F a0 l1 a2) := Sup.of_mono fun k => spec_pfPlain.mono a0 l1 a2 k
theorem spec_pfPlain.L0_eq (x7 : List Int) (x14 : List Int) (x15 : Int) (x16 : Int) : spec_pfPlain.L0 x7 x14 x15 x16 = if x16 < x15 then (if 0 ≤ x16 then (if x16 < (x14.length : Int) then (if x16 ≤ (x7.length : Int) then ((spec_l1Has.F (x7.take (x16 : Int).toNat) (rd x14 x16)).bind fun t314 => (if t314 = true then (some false) else (spec_pfPlain.L0 x7 x14 x15 (wrap64 (x16 + 1))))) else (none)) else (none)) else (none)) else (some true) := by
  refine Sup.unique (spec_pfPlain.L0_sup x7 x14 x15 x16) (Sup.shift (fun k => spec_pfPlain.mono_l k x7 x14 x15 x16) (Sup.congr (g' := fun k => if x16 < x15 then (if 0 ≤ x16 then (if x16 < (x14.length : Int) then (if x16 ≤ (x7.length : Int) then ((spec_l1Has.f k (x7.take (x16 : Int).toNat) (rd x14 x16)).bind fun t314 => (if t314 = true then (some false) else (spec_pfPlain.l0 k x7 x14 x15 (wrap64 (x16 + 1))))) else (none)) else (none)) else (none)) else (some true)) (fun k => by first | rfl | simp only [spec_pfPlain.l0]) ?_))
  repeat' first
    | (with_reducible exact spec_pfPlain.L0_sup _ _ _ _)
    | (with_reducible exact spec_biPlaces.F_sup _ _ _ _)
    | (with_reducible exact spec_l1Has.F_sup _ _)
    | (with_reducible refine Sup.ite ?_ ?_)
    | (with_reducible refine Sup.bind ?_ (fun _ => ?_))
    | (with_reducible exact Sup.const _)
    | exact spec_pfPlain.L0_sup _ _ _ _
    | exact spec_biPlaces.F_sup _ _ _ _
    | exact spec_l1Has.F_sup _ _
    | exact Sup.const _
theorem spec_pfPlain.F_eq (a0 : Int) (l1 : List ByteArray) (a2 : Int) : spec_pfPlain.F a0 l1 a2 = (spec_biPlaces.F a0 0 l1 a2).bind fun t306 => (spec_pfPlain.L0 t306 t306 (t306.length : Int) 0) := by
  refine Sup.unique (spec_pfPlain.F_sup a0 l1 a2) (Sup.congr (g' := fun k => (spec_biPlaces.f k a0 0 l1 a2).bind fun t306 => (spec_pfPlain.l0 k t306 t306 (t306.length : Int) 0)) (fun k => by first | rfl | simp only [spec_pfPlain.f]) ?_)
  repeat' first
    | (with_reducible exact spec_pfPlain.L0_sup _ _ _ _)
    | (with_reducible exact spec_biPlaces.F_sup _ _ _ _)
    | (with_reducible exact spec_l1Has.F_sup _ _)
    | (with_reducible refine Sup.ite ?_ ?_)
    | (with_reducible refine Sup.bind ?_ (fun _ => ?_))
    | (with_reducible exact Sup.const _)
    | exact spec_pfPlain.L0_sup _ _ _ _
    | exact spec_biPlaces.F_sup _ _ _ _
    | exact spec_l1Has.F_sup _ _
    | exact Sup.const _
set_option maxHeartbeats 8000000 in
set_option maxRecDepth 100000 in
theorem spec_pfPlain.calls (k : Nat) (a0 : Int) (A1 : Option Addr) (c1 : Nat) (l1 : List ByteArray) (a2 : Int) (r : Bool) (w : World) (hr1 : Kd.C Kd.string w A1 l1.length l1) (hc1 : l1.length ≤ c1) (h : spec_pfPlain.f k a0 l1 a2 = some r) :
    Calls Try.prog 85 #[.int .i64 a0, .slice A1 l1.length c1, .int .i64 a2] w fun e w' => e = .returned (.bool r) ∧ Below w.heap.size w w' := by
  have HR1 := Aside0.mk hr1
  have HC1 := Aside0.mk hc1
  clear hr1 hc1
  have HB := Aside0.mk (Below.refl w.heap.size w)
  have H : ((spec_biPlaces.f k a0 0 l1 a2).bind fun t306 => (spec_pfPlain.l0 k t306 t306 (t306.length : Int) 0)) = some r := h
  clear h
  replace H := Option.bind_eq_some_iff.mp H
  obtain ⟨t306, A40, H⟩ := H
  replace H : (spec_pfPlain.l0 k t306 t306 (t306.length : Int) 0) = some r := H
  have A4 := Aside0.mk A40
  clear A40
  have H' := Aside0.mk H
  clear H
  go_enter Try.func85, Try.ntmps85
  go_wp2_with (first | ((with_reducible refine gate_callee (f := 97) rfl ?_); refine goesL_ (some 13) rfl rfl Try.func97 (by kernel_rfl) rfl #[.int .i64 a0, .int .i64 0, .slice A1 l1.length c1, .int .i64 a2] rfl (by (try simp only [List.map_toArray, List.map_cons, List.map_nil]); first | done | rfl | (simp only [List.length_drop, List.length_take]; rfl)) ?_; (with_reducible refine (spec_biPlaces.calls k a0 0 _ _ l1 a2 t306 _ ?side1 ?side2 A4.out).mono ?_); (case side1 => repeat (first | exact HR1.out | (with_reducible refine Kd.C_alloc ?_ _) | (with_reducible refine Kd.C_drewN ?_ _) | (with_reducible refine Kd.C_drew ?_))); (case side2 => exact HC1.out); rintro e w5 ⟨v307, rfl, ho0, hb⟩; refine ⟨_, rfl, ?_⟩; have n0_ := Aside0.mk (Kd.R_lower ho0 (below_size (by repeat (first | (with_reducible first | exact HB.out | apply below_alloc | apply pw_below_drewN | apply below_drew1) | exact HB.out)))); have n1_ := Aside0.mk (below_step (by repeat (first | (with_reducible first | exact HB.out | apply below_alloc | apply pw_below_drewN | apply below_drew1) | exact HB.out)) hb); clear HB; have HO308 := n0_; have HB := n1_; clear n0_ n1_; (try clear hb); (try clear hb2); (try clear hk); (try clear hi); (try clear ho0); obtain ⟨Ao6, co6, eo6⟩ := Kd.R_slice HO308.out; subst eo6))
  go_loopg [16] k (fun kq v16 w' => ∃ (x16_1 : Int), v16 = .int .i64 x16_1 ∧ Aside0 (spec_pfPlain.l0 kq t306 t306 (t306.length : Int) x16_1 = some r) ∧ Aside0 (kq ≤ k) ∧ Aside0 (Kd.R (Kd.int .i64) 3 w' w.heap.size (fun _ => True) (.slice Ao6 t306.length co6) t306) ∧ Aside0 (Kd.R (Kd.int .i64) 3 w' w.heap.size (fun _ => True) (.slice Ao6 t306.length co6) t306) ∧ Aside0 (Below w.heap.size w w'))
  case atStart => exact ⟨(0), (by first | rfl | (simp; done) | (simp [*]; done)), H', ⟨Nat.le_refl _⟩, ⟨by (with_reducible repeat (first | apply Kd.R_alloc | apply Kd.R_drewN | apply Kd.R_drew)); exact HO308.out⟩, ⟨by (with_reducible repeat (first | apply Kd.R_alloc | apply Kd.R_drewN | apply Kd.R_drew)); exact HO308.out⟩, ⟨by repeat (first | (with_reducible first | exact HB.out | apply below_alloc | apply pw_below_drewN | apply below_drew1) | exact HB.out)⟩⟩
  case round =>
   clear H'
   try clear c1
   try clear p2
   obtain ⟨x16_1, rfl, HA, HK1, HO_7, HO_14, HB⟩ := hrel
   cases gk with
   | zero => exact absurd HA.out (by simp [spec_pfPlain.l0])
   | succ k1 =>
    have H := HA.out
    clear HA
    simp only [spec_pfPlain.l0] at H
    by_cases c7 : x16_1 < (t306.length : Int)
    ·rw [if_pos c7] at H
     have c7b0 : decide (x16_1 < (t306.length : Int)) = true := decide_eq_true c7
     clear c7
     by_cases c8 : 0 ≤ x16_1
     ·rw [if_pos c8] at H
      have c8b0 : decide (0 ≤ x16_1) = true := decide_eq_true c8
      clear c8
      by_cases c9 : x16_1 < (t306.length : Int)
      ·rw [if_pos c9] at H
       have c9b0 : decide (x16_1 < (t306.length : Int)) = true := decide_eq_true c9
       clear c9
       have c10b0 := eq_true (of_decide_eq_true (by first | (with_reducible assumption) | assumption) : 0 ≤ x16_1)
       by_cases c11 : x16_1 ≤ (t306.length : Int)
       ·rw [if_pos c11] at H
        have c11b0 := eq_true c11
        have c11b1 : decide (x16_1 ≤ (t306.length : Int)) = true := decide_eq_true c11
        clear c11
        obtain ⟨y310, hy310⟩ : ∃ y_ : List Int, y_ = (t306.take (x16_1 : Int).toNat) := ⟨_, rfl⟩
        replace H : ((spec_l1Has.f k1 y310 (rd t306 x16_1)).bind fun t314 => (if t314 = true then (some false) else (spec_pfPlain.l0 k1 t306 t306 (t306.length : Int) (wrap64 (x16_1 + 1))))) = some r := by first | (rw [hy310]; with_reducible exact H) | (have H2_ := (Option.bind_some _ _).symm.trans H; rw [hy310]; with_reducible exact H2_) | (have H2_ := (Option.bind_some _ _).symm.trans H; with_reducible exact H2_) | with_reducible exact H | (rw [hy310]; exact H) | exact H
        have Ny310 := Aside0.mk hy310
        clear hy310
        replace H := Option.bind_eq_some_iff.mp H
        obtain ⟨t314, A120, H⟩ := H
        replace H : (if t314 = true then (some false) else (spec_pfPlain.l0 k1 t306 t306 (t306.length : Int) (wrap64 (x16_1 + 1)))) = some r := H
        have A12 := Aside0.mk A120
        clear A120
        by_cases c13 : t314 = true
        ·subst c13
         have H1 : (some false) = some r := by rw [if_pos rfl] at H; exact H
         clear H
         have H := H1
         clear H1
         obtain rfl := Option.some.inj H
         have p309 : 0 ≤ (x16_1 : Int) := of_decide_eq_true (by first | (with_reducible assumption) | assumption)
         have q309 : x16_1 < (t306.length : Int) := of_decide_eq_true (by first | (with_reducible assumption) | assumption)
         obtain ⟨ad309, e309, hx309_0⟩ := Kd.at_int (Kd.R_reads' HO_14.out).2.2 x16_1 p309 q309
         cases e309
         replace p309 := eq_true p309
         replace q309 := eq_true q309
         have q14 : (x16_1 : Int) ≤ ((t306.length : Int) : Int) := of_decide_eq_true (by first | (with_reducible assumption) | assumption)
         obtain ⟨i014, hi014, _, hsz14, _⟩ := info_parts info3
         have hroom14 : t306.length ≤ co6 := (Kd.R_reads' HO_7.out).2.1
         have hC14 : Kd.C (Kd.int .i64) _ (some ad309) t306.length t306 := (Kd.R_reads' HO_7.out).2.2
         have hcut14 := cut_to (P := Try.prog) 22 3 .i64 Try.underlying22 hi014 (some ad309) t306.length co6 x16_1 (of_decide_eq_true (by first | (with_reducible assumption) | assumption)) q14 hroom14
         have hr14 := Kd.C_take (m := (x16_1 : Int).toNat) hC14 (by omega)
         have hy14 : y310.length = (x16_1 : Int).toNat := (by rw [Ny310.out, List.length_take]; omega)
         rw [← Ny310.out] at hr14
         rw [← hy14] at hcut14
         have HR313 := Aside0.mk hr14
         have HC313 := Aside0.mk (show y310.length ≤ co6 from by omega)
         clear hr14 hC14 hroom14 hi014 hsz14
         have KY14 := Aside0.mk hy14
         clear hy14
         have KL14 := Aside0.mk (show (x16_1 : Int).toNat ≤ t306.length from by omega)
         replace q14 := eq_true q14
         go_wp2_with (first | ((with_reducible refine gate_callee (f := 127) rfl ?_); refine goesL_ (some 25) rfl rfl Try.func127 (by kernel_rfl) rfl #[.slice (some ad309) y310.length co6, .int .i64 (rd t306 x16_1)] rfl (by (try simp only [List.map_toArray, List.map_cons, List.map_nil]); first | done | rfl | (simp only [List.length_drop, List.length_take]; rfl)) ?_; (with_reducible refine (spec_l1Has.calls k1 _ _ y310 (rd t306 x16_1) true _ ?side1 ?side2 A12.out).mono ?_); (case side1 => repeat (first | exact (by repeat (first | (with_reducible exact HR313.out) | (with_reducible refine Kd.C_alloc ?_ _) | (with_reducible refine Kd.C_drewN ?_ _) | (with_reducible refine Kd.C_drew ?_) | exact HR313.out)) | (with_reducible refine Kd.C_alloc ?_ _) | (with_reducible refine Kd.C_drewN ?_ _) | (with_reducible refine Kd.C_drew ?_))); (case side2 => exact HC313.out); rintro e w' ⟨rfl, ⟨nd, rfl⟩⟩; refine ⟨_, rfl, ?_⟩))
         go_ret
         exact ⟨by first | rfl | (simp [errW_none, errW_some] <;> rfl) | (simp [*, errW_none, errW_some] <;> rfl), by repeat (first | (with_reducible first | exact HB.out | apply below_alloc | apply pw_below_drewN | apply below_drew1) | exact HB.out)⟩
        ·replace c13 := Bool.eq_false_iff.mpr c13
         subst c13
         have H1 : (spec_pfPlain.l0 k1 t306 t306 (t306.length : Int) (wrap64 (x16_1 + 1))) = some r := by rw [if_neg (show ¬ (false = true) by decide)] at H; exact H
         clear H
         have H := H1
         clear H1
         have H' := Aside0.mk H
         clear H
         have p309 : 0 ≤ (x16_1 : Int) := of_decide_eq_true (by first | (with_reducible assumption) | assumption)
         have q309 : x16_1 < (t306.length : Int) := of_decide_eq_true (by first | (with_reducible assumption) | assumption)
         obtain ⟨ad309, e309, hx309_0⟩ := Kd.at_int (Kd.R_reads' HO_14.out).2.2 x16_1 p309 q309
         cases e309
         replace p309 := eq_true p309
         replace q309 := eq_true q309
         have q15 : (x16_1 : Int) ≤ ((t306.length : Int) : Int) := of_decide_eq_true (by first | (with_reducible assumption) | assumption)
         obtain ⟨i015, hi015, _, hsz15, _⟩ := info_parts info3
         have hroom15 : t306.length ≤ co6 := (Kd.R_reads' HO_7.out).2.1
         have hC15 : Kd.C (Kd.int .i64) _ (some ad309) t306.length t306 := (Kd.R_reads' HO_7.out).2.2
         have hcut15 := cut_to (P := Try.prog) 22 3 .i64 Try.underlying22 hi015 (some ad309) t306.length co6 x16_1 (of_decide_eq_true (by first | (with_reducible assumption) | assumption)) q15 hroom15
         have hr15 := Kd.C_take (m := (x16_1 : Int).toNat) hC15 (by omega)
         have hy15 : y310.length = (x16_1 : Int).toNat := (by rw [Ny310.out, List.length_take]; omega)
         rw [← Ny310.out] at hr15
         rw [← hy15] at hcut15
         have HR313 := Aside0.mk hr15
         have HC313 := Aside0.mk (show y310.length ≤ co6 from by omega)
         clear hr15 hC15 hroom15 hi015 hsz15
         have KY15 := Aside0.mk hy15
         clear hy15
         have KL15 := Aside0.mk (show (x16_1 : Int).toNat ≤ t306.length from by omega)
         replace q15 := eq_true q15
         go_wp2_with (first | ((with_reducible refine gate_callee (f := 127) rfl ?_); refine goesL_ (some 25) rfl rfl Try.func127 (by kernel_rfl) rfl #[.slice (some ad309) y310.length co6, .int .i64 (rd t306 x16_1)] rfl (by (try simp only [List.map_toArray, List.map_cons, List.map_nil]); first | done | rfl | (simp only [List.length_drop, List.length_take]; rfl)) ?_; (with_reducible refine (spec_l1Has.calls k1 _ _ y310 (rd t306 x16_1) false _ ?side1 ?side2 A12.out).mono ?_); (case side1 => repeat (first | exact (by repeat (first | (with_reducible exact HR313.out) | (with_reducible refine Kd.C_alloc ?_ _) | (with_reducible refine Kd.C_drewN ?_ _) | (with_reducible refine Kd.C_drew ?_) | exact HR313.out)) | (with_reducible refine Kd.C_alloc ?_ _) | (with_reducible refine Kd.C_drewN ?_ _) | (with_reducible refine Kd.C_drew ?_))); (case side2 => exact HC313.out); rintro e w' ⟨rfl, ⟨nd, rfl⟩⟩; refine ⟨_, rfl, ?_⟩))
         go_roundg k1
         case measure => have := HK1.out; omega
         case rel => exact ⟨(wrap64 (x16_1 + 1)), (by first | rfl | (simp; done) | (simp [*]; done)), H', ⟨by have := HK1.out; omega⟩, ⟨by (with_reducible repeat (first | apply Kd.R_alloc | apply Kd.R_drewN | apply Kd.R_drew)); exact HO_7.out⟩, ⟨by (with_reducible repeat (first | apply Kd.R_alloc | apply Kd.R_drewN | apply Kd.R_drew)); exact HO_14.out⟩, ⟨by repeat (first | (with_reducible first | exact HB.out | apply below_alloc | apply pw_below_drewN | apply below_drew1) | exact HB.out)⟩⟩
       ·rw [if_neg c11] at H
        exact absurd H (by simp)
      ·rw [if_neg c9] at H
       exact absurd H (by simp)
     ·rw [if_neg c8] at H
      exact absurd H (by simp)
    ·rw [if_neg c7] at H
     have c7b0 : decide (x16_1 < (t306.length : Int)) = false := decide_eq_false c7
     clear c7
     obtain rfl := Option.some.inj H
     go_wp2
     go_ret
     exact ⟨by first | rfl | (simp [errW_none, errW_some] <;> rfl) | (simp [*, errW_none, errW_some] <;> rfl), by repeat (first | (with_reducible first | exact HB.out | apply below_alloc | apply pw_below_drewN | apply below_drew1) | exact HB.out)⟩
/-! ### spec_PlainSeed: function 30 -/
mutual
def spec_PlainSeed.j0 : Nat → List ByteArray → Int → Int → Int → Bool → Option (Int × Bool)
  | 0, _, _, _, _, _ => none
  | k + 1, x0, x1, x2, x3, x32 => if x32 = true then (some (0, false)) else (spec_PlainSeed.l0 k x0 x1 x3 x2)
def spec_PlainSeed.l0 : Nat → List ByteArray → Int → Int → Int → Option (Int × Bool)
  | 0, _, _, _, _ => none
  | k + 1, x0, x1, x3, x10 => if x10 < x3 then ((spec_pfPlain.f k x10 x0 x1).bind fun t320 => (if t320 = true then (some (x10, true)) else (spec_PlainSeed.l0 k x0 x1 x3 (wrap64 (x10 + 1))))) else (some (0, false))
end
def spec_PlainSeed.f (k : Nat) (l0 : List ByteArray) (a1 : Int) (a2 : Int) (a3 : Int) : Option (Int × Bool) := (spec_biKeys.f k l0).bind fun t315 => (if t315 = true then ((spec_l1In.f a1 1 4096).bind fun t316 => (if t316 = true then ((spec_l1In.f a3 0 10000).bind fun t317 => (if t317 = true then ((spec_l1Most.f 0 (wrap64 (a3 - 100))).bind fun t318 => ((spec_l1In.f a2 t318 a3).bind fun t319 => (spec_PlainSeed.j0 k l0 a1 a2 a3 (!t319)))) else (spec_PlainSeed.j0 k l0 a1 a2 a3 true))) else (spec_PlainSeed.j0 k l0 a1 a2 a3 true))) else (spec_PlainSeed.j0 k l0 a1 a2 a3 true))
theorem spec_PlainSeed.mono_l : ∀ k, (∀ y0 y1 y2 y3 y4, LeO (spec_PlainSeed.j0 k y0 y1 y2 y3 y4) (spec_PlainSeed.j0 (k + 1) y0 y1 y2 y3 y4)) ∧ (∀ y0 y1 y2 y3, LeO (spec_PlainSeed.l0 k y0 y1 y2 y3) (spec_PlainSeed.l0 (k + 1) y0 y1 y2 y3))
  | 0 => ⟨fun _ _ _ _ _ r h => by simp [spec_PlainSeed.j0] at h, fun _ _ _ _ r h => by simp [spec_PlainSeed.l0] at h⟩
  | k + 1 => by
    obtain ⟨ih0, ih1⟩ := spec_PlainSeed.mono_l k
    refine ⟨?_, ?_⟩
    · intro y0 y1 y2 y3 y4
      unfold spec_PlainSeed.j0
      repeat' first
      | (with_reducible exact ih0 _ _ _ _ _)
      | (with_reducible exact ih1 _ _ _ _)
      | (with_reducible exact spec_biKeys.mono _ _)
      | (with_reducible exact spec_pfPlain.mono _ _ _ _)
      | (with_reducible exact LeO.refl _)
      | (with_reducible exact LeO.none _)
      | (with_reducible refine LeO.ite ?_ ?_)
      | (with_reducible refine LeO.bind ?_ (fun _ => ?_))
      | exact ih0 _ _ _ _ _
      | exact ih1 _ _ _ _
      | exact spec_biKeys.mono _ _
      | exact spec_pfPlain.mono _ _ _ _
      | exact LeO.none _
      | refine LeO.ite ?_ ?_
      | refine LeO.bind ?_ (fun _ => ?_)
    · intro y0 y1 y2 y3
      unfold spec_PlainSeed.l0
      repeat' first
      | (with_reducible exact ih0 _ _ _ _ _)
      | (with_reducible exact ih1 _ _ _ _)
      | (with_reducible exact spec_biKeys.mono _ _)
      | (with_reducible exact spec_pfPlain.mono _ _ _ _)
      | (with_reducible exact LeO.refl _)
      | (with_reducible exact LeO.none _)
      | (with_reducible refine LeO.ite ?_ ?_)
      | (with_reducible refine LeO.bind ?_ (fun _ => ?_))
      | exact ih0 _ _ _ _ _
      | exact ih1 _ _ _ _
      | exact spec_biKeys.mono _ _
      | exact spec_pfPlain.mono _ _ _ _
      | exact LeO.none _
      | refine LeO.ite ?_ ?_
      | refine LeO.bind ?_ (fun _ => ?_)
theorem spec_PlainSeed.mono : ∀ a0 a1 a2 a3 k, LeO (spec_PlainSeed.f k a0 a1 a2 a3) (spec_PlainSeed.f (k + 1) a0 a1 a2 a3) := by
  intro a0 a1 a2 a3 k
  obtain ⟨ih0, ih1⟩ := spec_PlainSeed.mono_l k
  unfold spec_PlainSeed.f
  repeat' first
      | (with_reducible exact ih0 _ _ _ _ _)
      | (with_reducible exact ih1 _ _ _ _)
      | (with_reducible exact spec_biKeys.mono _ _)
      | (with_reducible exact spec_pfPlain.mono _ _ _ _)
      | (with_reducible exact LeO.refl _)
      | (with_reducible exact LeO.none _)
      | (with_reducible refine LeO.ite ?_ ?_)
      | (with_reducible refine LeO.bind ?_ (fun _ => ?_))
      | exact ih0 _ _ _ _ _
      | exact ih1 _ _ _ _
      | exact spec_biKeys.mono _ _
      | exact spec_pfPlain.mono _ _ _ _
      | exact LeO.none _
      | refine LeO.ite ?_ ?_
      | refine LeO.bind ?_ (fun _ => ?_)
noncomputable def spec_PlainSeed.J0 (y0 : List ByteArray) (y1 : Int) (y2 : Int) (y3 : Int) (y4 : Bool) : Option (Int × Bool) := lim fun k => spec_PlainSeed.j0 k y0 y1 y2 y3 y4
theorem spec_PlainSeed.J0_sup (y0 : List ByteArray) (y1 : Int) (y2 : Int) (y3 : Int) (y4 : Bool) : Sup (fun k => spec_PlainSeed.j0 k y0 y1 y2 y3 y4) (spec_PlainSeed.J0 y0 y1 y2 y3 y4) := Sup.of_mono fun k => (spec_PlainSeed.mono_l k).1 y0 y1 y2 y3 y4
noncomputable def spec_PlainSeed.L0 (y0 : List ByteArray) (y1 : Int) (y2 : Int) (y3 : Int) : Option (Int × Bool) := lim fun k => spec_PlainSeed.l0 k y0 y1 y2 y3
theorem spec_PlainSeed.L0_sup (y0 : List ByteArray) (y1 : Int) (y2 : Int) (y3 : Int) : Sup (fun k => spec_PlainSeed.l0 k y0 y1 y2 y3) (spec_PlainSeed.L0 y0 y1 y2 y3) := Sup.of_mono fun k => (spec_PlainSeed.mono_l k).2 y0 y1 y2 y3
noncomputable def spec_PlainSeed.F (l0 : List ByteArray) (a1 : Int) (a2 : Int) (a3 : Int) : Option (Int × Bool) := lim fun k => spec_PlainSeed.f k l0 a1 a2 a3
theorem spec_PlainSeed.F_sup (l0 : List ByteArray) (a1 : Int) (a2 : Int) (a3 : Int) : Sup (fun k => spec_PlainSeed.f k l0 a1 a2 a3) (spec_PlainSeed.F l0 a1 a2 a3) := Sup.of_mono fun k => spec_PlainSeed.mono l0 a1 a2 a3 k
theorem spec_PlainSeed.J0_eq (x0 : List ByteArray) (x1 : Int) (x2 : Int) (x3 : Int) (x32 : Bool) : spec_PlainSeed.J0 x0 x1 x2 x3 x32 = if x32 = true then (some (0, false)) else (spec_PlainSeed.L0 x0 x1 x3 x2) := by
  refine Sup.unique (spec_PlainSeed.J0_sup x0 x1 x2 x3 x32) (Sup.shift (fun k => (spec_PlainSeed.mono_l k).1 x0 x1 x2 x3 x32) (Sup.congr (g' := fun k => if x32 = true then (some (0, false)) else (spec_PlainSeed.l0 k x0 x1 x3 x2)) (fun k => by first | rfl | simp only [spec_PlainSeed.j0]) ?_))
  repeat' first
    | (with_reducible exact spec_PlainSeed.J0_sup _ _ _ _ _)
    | (with_reducible exact spec_PlainSeed.L0_sup _ _ _ _)
    | (with_reducible exact spec_biKeys.F_sup _)
    | (with_reducible exact spec_pfPlain.F_sup _ _ _)
    | (with_reducible refine Sup.ite ?_ ?_)
    | (with_reducible refine Sup.bind ?_ (fun _ => ?_))
    | (with_reducible exact Sup.const _)
    | exact spec_PlainSeed.J0_sup _ _ _ _ _
    | exact spec_PlainSeed.L0_sup _ _ _ _
    | exact spec_biKeys.F_sup _
    | exact spec_pfPlain.F_sup _ _ _
    | exact Sup.const _
theorem spec_PlainSeed.L0_eq (x0 : List ByteArray) (x1 : Int) (x3 : Int) (x10 : Int) : spec_PlainSeed.L0 x0 x1 x3 x10 = if x10 < x3 then ((spec_pfPlain.F x10 x0 x1).bind fun t320 => (if t320 = true then (some (x10, true)) else (spec_PlainSeed.L0 x0 x1 x3 (wrap64 (x10 + 1))))) else (some (0, false)) := by
  refine Sup.unique (spec_PlainSeed.L0_sup x0 x1 x3 x10) (Sup.shift (fun k => (spec_PlainSeed.mono_l k).2 x0 x1 x3 x10) (Sup.congr (g' := fun k => if x10 < x3 then ((spec_pfPlain.f k x10 x0 x1).bind fun t320 => (if t320 = true then (some (x10, true)) else (spec_PlainSeed.l0 k x0 x1 x3 (wrap64 (x10 + 1))))) else (some (0, false))) (fun k => by first | rfl | simp only [spec_PlainSeed.l0]) ?_))
  repeat' first
    | (with_reducible exact spec_PlainSeed.J0_sup _ _ _ _ _)
    | (with_reducible exact spec_PlainSeed.L0_sup _ _ _ _)
    | (with_reducible exact spec_biKeys.F_sup _)
    | (with_reducible exact spec_pfPlain.F_sup _ _ _)
    | (with_reducible refine Sup.ite ?_ ?_)
    | (with_reducible refine Sup.bind ?_ (fun _ => ?_))
    | (with_reducible exact Sup.const _)
    | exact spec_PlainSeed.J0_sup _ _ _ _ _
    | exact spec_PlainSeed.L0_sup _ _ _ _
    | exact spec_biKeys.F_sup _
    | exact spec_pfPlain.F_sup _ _ _
    | exact Sup.const _
theorem spec_PlainSeed.F_eq (l0 : List ByteArray) (a1 : Int) (a2 : Int) (a3 : Int) : spec_PlainSeed.F l0 a1 a2 a3 = (spec_biKeys.F l0).bind fun t315 => (if t315 = true then ((spec_l1In.f a1 1 4096).bind fun t316 => (if t316 = true then ((spec_l1In.f a3 0 10000).bind fun t317 => (if t317 = true then ((spec_l1Most.f 0 (wrap64 (a3 - 100))).bind fun t318 => ((spec_l1In.f a2 t318 a3).bind fun t319 => (spec_PlainSeed.J0 l0 a1 a2 a3 (!t319)))) else (spec_PlainSeed.J0 l0 a1 a2 a3 true))) else (spec_PlainSeed.J0 l0 a1 a2 a3 true))) else (spec_PlainSeed.J0 l0 a1 a2 a3 true)) := by
  refine Sup.unique (spec_PlainSeed.F_sup l0 a1 a2 a3) (Sup.congr (g' := fun k => (spec_biKeys.f k l0).bind fun t315 => (if t315 = true then ((spec_l1In.f a1 1 4096).bind fun t316 => (if t316 = true then ((spec_l1In.f a3 0 10000).bind fun t317 => (if t317 = true then ((spec_l1Most.f 0 (wrap64 (a3 - 100))).bind fun t318 => ((spec_l1In.f a2 t318 a3).bind fun t319 => (spec_PlainSeed.j0 k l0 a1 a2 a3 (!t319)))) else (spec_PlainSeed.j0 k l0 a1 a2 a3 true))) else (spec_PlainSeed.j0 k l0 a1 a2 a3 true))) else (spec_PlainSeed.j0 k l0 a1 a2 a3 true))) (fun k => by first | rfl | simp only [spec_PlainSeed.f]) ?_)
  repeat' first
    | (with_reducible exact spec_PlainSeed.J0_sup _ _ _ _ _)
    | (with_reducible exact spec_PlainSeed.L0_sup _ _ _ _)
    | (with_reducible exact spec_biKeys.F_sup _)
    | (with_reducible exact spec_pfPlain.F_sup _ _ _)
    | (with_reducible refine Sup.ite ?_ ?_)
    | (with_reducible refine Sup.bind ?_ (fun _ => ?_))
    | (with_reducible exact Sup.const _)
    | exact spec_PlainSeed.J0_sup _ _ _ _ _
    | exact spec_PlainSeed.L0_sup _ _ _ _
    | exact spec_biKeys.F_sup _
    | exact spec_pfPlain.F_sup _ _ _
    | exact Sup.const _
set_option maxHeartbeats 8000000 in
set_option maxRecDepth 100000 in
theorem spec_PlainSeed.calls (k : Nat) (A0 : Option Addr) (c0 : Nat) (l0 : List ByteArray) (a1 : Int) (a2 : Int) (a3 : Int) (r1 : Int) (r2 : Bool) (w : World) (hr0 : Kd.C Kd.string w A0 l0.length l0) (hc0 : l0.length ≤ c0) (h : spec_PlainSeed.f k l0 a1 a2 a3 = some (r1, r2)) :
    Calls Try.prog 30 #[.slice A0 l0.length c0, .int .i64 a1, .int .i64 a2, .int .i64 a3] w fun e w' => e = .returned (.tuple #[.int .i64 r1, .bool r2]) ∧ Below w.heap.size w w' := by
  have HR0 := Aside0.mk hr0
  have HC0 := Aside0.mk hc0
  clear hr0 hc0
  have HB := Aside0.mk (Below.refl w.heap.size w)
  have H : ((spec_biKeys.f k l0).bind fun t315 => (if t315 = true then ((spec_l1In.f a1 1 4096).bind fun t316 => (if t316 = true then ((spec_l1In.f a3 0 10000).bind fun t317 => (if t317 = true then ((spec_l1Most.f 0 (wrap64 (a3 - 100))).bind fun t318 => ((spec_l1In.f a2 t318 a3).bind fun t319 => (spec_PlainSeed.j0 k l0 a1 a2 a3 (!t319)))) else (spec_PlainSeed.j0 k l0 a1 a2 a3 true))) else (spec_PlainSeed.j0 k l0 a1 a2 a3 true))) else (spec_PlainSeed.j0 k l0 a1 a2 a3 true))) = some (r1, r2) := h
  clear h
  have HC5 := Aside0.mk H
  clear H
  go_enter Try.func30, Try.ntmps30
  go_upto_region 1 with (fail)
  go_cut [32] (fun v32 wc => ∃ (kq : Nat) (x32_4 : Bool), v32 = .bool x32_4 ∧ Aside0 (spec_PlainSeed.j0 kq l0 a1 a2 a3 x32_4 = some (r1, r2)) ∧ Aside0 (kq ≤ k) ∧ Aside0 (Below w.heap.size w wc))
  case first =>
   have H := HC5.out
   clear HC5
   replace H := Option.bind_eq_some_iff.mp H
   obtain ⟨t315, A60, H⟩ := H
   replace H : (if t315 = true then ((spec_l1In.f a1 1 4096).bind fun t316 => (if t316 = true then ((spec_l1In.f a3 0 10000).bind fun t317 => (if t317 = true then ((spec_l1Most.f 0 (wrap64 (a3 - 100))).bind fun t318 => ((spec_l1In.f a2 t318 a3).bind fun t319 => (spec_PlainSeed.j0 k l0 a1 a2 a3 (!t319)))) else (spec_PlainSeed.j0 k l0 a1 a2 a3 true))) else (spec_PlainSeed.j0 k l0 a1 a2 a3 true))) else (spec_PlainSeed.j0 k l0 a1 a2 a3 true)) = some (r1, r2) := H
   have A6 := Aside0.mk A60
   clear A60
   by_cases c7 : t315 = true
   ·subst c7
    have H1 : ((spec_l1In.f a1 1 4096).bind fun t316 => (if t316 = true then ((spec_l1In.f a3 0 10000).bind fun t317 => (if t317 = true then ((spec_l1Most.f 0 (wrap64 (a3 - 100))).bind fun t318 => ((spec_l1In.f a2 t318 a3).bind fun t319 => (spec_PlainSeed.j0 k l0 a1 a2 a3 (!t319)))) else (spec_PlainSeed.j0 k l0 a1 a2 a3 true))) else (spec_PlainSeed.j0 k l0 a1 a2 a3 true))) = some (r1, r2) := by rw [if_pos rfl] at H; exact H
    clear H
    have H := H1
    clear H1
    replace H := Option.bind_eq_some_iff.mp H
    obtain ⟨t316, A80, H⟩ := H
    replace H : (if t316 = true then ((spec_l1In.f a3 0 10000).bind fun t317 => (if t317 = true then ((spec_l1Most.f 0 (wrap64 (a3 - 100))).bind fun t318 => ((spec_l1In.f a2 t318 a3).bind fun t319 => (spec_PlainSeed.j0 k l0 a1 a2 a3 (!t319)))) else (spec_PlainSeed.j0 k l0 a1 a2 a3 true))) else (spec_PlainSeed.j0 k l0 a1 a2 a3 true)) = some (r1, r2) := H
    have A8 := Aside0.mk A80
    clear A80
    by_cases c9 : t316 = true
    ·subst c9
     have H1 : ((spec_l1In.f a3 0 10000).bind fun t317 => (if t317 = true then ((spec_l1Most.f 0 (wrap64 (a3 - 100))).bind fun t318 => ((spec_l1In.f a2 t318 a3).bind fun t319 => (spec_PlainSeed.j0 k l0 a1 a2 a3 (!t319)))) else (spec_PlainSeed.j0 k l0 a1 a2 a3 true))) = some (r1, r2) := by rw [if_pos rfl] at H; exact H
     clear H
     have H := H1
     clear H1
     replace H := Option.bind_eq_some_iff.mp H
     obtain ⟨t317, A100, H⟩ := H
     replace H : (if t317 = true then ((spec_l1Most.f 0 (wrap64 (a3 - 100))).bind fun t318 => ((spec_l1In.f a2 t318 a3).bind fun t319 => (spec_PlainSeed.j0 k l0 a1 a2 a3 (!t319)))) else (spec_PlainSeed.j0 k l0 a1 a2 a3 true)) = some (r1, r2) := H
     have A10 := Aside0.mk A100
     clear A100
     by_cases c11 : t317 = true
     ·subst c11
      have H1 : ((spec_l1Most.f 0 (wrap64 (a3 - 100))).bind fun t318 => ((spec_l1In.f a2 t318 a3).bind fun t319 => (spec_PlainSeed.j0 k l0 a1 a2 a3 (!t319)))) = some (r1, r2) := by rw [if_pos rfl] at H; exact H
      clear H
      have H := H1
      clear H1
      replace H := Option.bind_eq_some_iff.mp H
      obtain ⟨t318, A120, H⟩ := H
      replace H : ((spec_l1In.f a2 t318 a3).bind fun t319 => (spec_PlainSeed.j0 k l0 a1 a2 a3 (!t319))) = some (r1, r2) := H
      have A12 := Aside0.mk A120
      clear A120
      replace H := Option.bind_eq_some_iff.mp H
      obtain ⟨t319, A130, H⟩ := H
      replace H : (spec_PlainSeed.j0 k l0 a1 a2 a3 (!t319)) = some (r1, r2) := H
      have A13 := Aside0.mk A130
      clear A130
      have H' := Aside0.mk H
      clear H
      go_wp2_with (first | ((with_reducible refine gate_callee (f := 83) rfl ?_); refine goesL_ (some 12) rfl rfl Try.func83 (by kernel_rfl) rfl #[.slice A0 l0.length c0] rfl (by (try simp only [List.map_toArray, List.map_cons, List.map_nil]); first | done | rfl | (simp only [List.length_drop, List.length_take]; rfl)) ?_; (with_reducible refine (spec_biKeys.calls k _ _ l0 true _ ?side1 ?side2 A6.out).mono ?_); (case side1 => repeat (first | exact (Kd.C_below HR0.out HB.out) | (with_reducible refine Kd.C_alloc ?_ _) | (with_reducible refine Kd.C_drewN ?_ _) | (with_reducible refine Kd.C_drew ?_))); (case side2 => exact HC0.out); rintro e w' ⟨rfl, ⟨nd, rfl⟩⟩; refine ⟨_, rfl, ?_⟩) | (go_at_call 76; (with_reducible refine (spec_l1In.calls a1 1 4096 true _ A8.out).mono ?_); rintro e w' ⟨rfl, ⟨nd, rfl⟩⟩) | (go_at_call 76; (with_reducible refine (spec_l1In.calls a3 0 10000 true _ A10.out).mono ?_); rintro e w' ⟨rfl, ⟨nd, rfl⟩⟩) | (go_at_call 84; (with_reducible refine (spec_l1Most.calls 0 (wrap64 (a3 - 100)) t318 _ A12.out).mono ?_); rintro e w' ⟨rfl, ⟨nd, rfl⟩⟩) | (go_at_call 76; (with_reducible refine (spec_l1In.calls a2 t318 a3 t319 _ A13.out).mono ?_); rintro e w' ⟨rfl, ⟨nd, rfl⟩⟩))
      go_meet
      case rel => exact ⟨_, (!t319), (by first | rfl | (simp; done) | (simp [*]; done)), H', ⟨by first | omega | exact Nat.le_refl _⟩, ⟨by repeat (first | (with_reducible first | exact HB.out | apply below_alloc | apply pw_below_drewN | apply below_drew1) | exact HB.out)⟩⟩
     ·replace c11 := Bool.eq_false_iff.mpr c11
      subst c11
      have H1 : (spec_PlainSeed.j0 k l0 a1 a2 a3 true) = some (r1, r2) := by rw [if_neg (show ¬ (false = true) by decide)] at H; exact H
      clear H
      have H := H1
      clear H1
      have H' := Aside0.mk H
      clear H
      go_wp2_with (first | ((with_reducible refine gate_callee (f := 83) rfl ?_); refine goesL_ (some 12) rfl rfl Try.func83 (by kernel_rfl) rfl #[.slice A0 l0.length c0] rfl (by (try simp only [List.map_toArray, List.map_cons, List.map_nil]); first | done | rfl | (simp only [List.length_drop, List.length_take]; rfl)) ?_; (with_reducible refine (spec_biKeys.calls k _ _ l0 true _ ?side1 ?side2 A6.out).mono ?_); (case side1 => repeat (first | exact (Kd.C_below HR0.out HB.out) | (with_reducible refine Kd.C_alloc ?_ _) | (with_reducible refine Kd.C_drewN ?_ _) | (with_reducible refine Kd.C_drew ?_))); (case side2 => exact HC0.out); rintro e w' ⟨rfl, ⟨nd, rfl⟩⟩; refine ⟨_, rfl, ?_⟩) | (go_at_call 76; (with_reducible refine (spec_l1In.calls a1 1 4096 true _ A8.out).mono ?_); rintro e w' ⟨rfl, ⟨nd, rfl⟩⟩) | (go_at_call 76; (with_reducible refine (spec_l1In.calls a3 0 10000 false _ A10.out).mono ?_); rintro e w' ⟨rfl, ⟨nd, rfl⟩⟩))
      go_meet
      case rel => exact ⟨_, (true), (by first | rfl | (simp; done) | (simp [*]; done)), H', ⟨by first | omega | exact Nat.le_refl _⟩, ⟨by repeat (first | (with_reducible first | exact HB.out | apply below_alloc | apply pw_below_drewN | apply below_drew1) | exact HB.out)⟩⟩
    ·replace c9 := Bool.eq_false_iff.mpr c9
     subst c9
     have H1 : (spec_PlainSeed.j0 k l0 a1 a2 a3 true) = some (r1, r2) := by rw [if_neg (show ¬ (false = true) by decide)] at H; exact H
     clear H
     have H := H1
     clear H1
     have H' := Aside0.mk H
     clear H
     go_wp2_with (first | ((with_reducible refine gate_callee (f := 83) rfl ?_); refine goesL_ (some 12) rfl rfl Try.func83 (by kernel_rfl) rfl #[.slice A0 l0.length c0] rfl (by (try simp only [List.map_toArray, List.map_cons, List.map_nil]); first | done | rfl | (simp only [List.length_drop, List.length_take]; rfl)) ?_; (with_reducible refine (spec_biKeys.calls k _ _ l0 true _ ?side1 ?side2 A6.out).mono ?_); (case side1 => repeat (first | exact (Kd.C_below HR0.out HB.out) | (with_reducible refine Kd.C_alloc ?_ _) | (with_reducible refine Kd.C_drewN ?_ _) | (with_reducible refine Kd.C_drew ?_))); (case side2 => exact HC0.out); rintro e w' ⟨rfl, ⟨nd, rfl⟩⟩; refine ⟨_, rfl, ?_⟩) | (go_at_call 76; (with_reducible refine (spec_l1In.calls a1 1 4096 false _ A8.out).mono ?_); rintro e w' ⟨rfl, ⟨nd, rfl⟩⟩))
     go_meet
     case rel => exact ⟨_, (true), (by first | rfl | (simp; done) | (simp [*]; done)), H', ⟨by first | omega | exact Nat.le_refl _⟩, ⟨by repeat (first | (with_reducible first | exact HB.out | apply below_alloc | apply pw_below_drewN | apply below_drew1) | exact HB.out)⟩⟩
   ·replace c7 := Bool.eq_false_iff.mpr c7
    subst c7
    have H1 : (spec_PlainSeed.j0 k l0 a1 a2 a3 true) = some (r1, r2) := by rw [if_neg (show ¬ (false = true) by decide)] at H; exact H
    clear H
    have H := H1
    clear H1
    have H' := Aside0.mk H
    clear H
    go_wp2_with (first | ((with_reducible refine gate_callee (f := 83) rfl ?_); refine goesL_ (some 12) rfl rfl Try.func83 (by kernel_rfl) rfl #[.slice A0 l0.length c0] rfl (by (try simp only [List.map_toArray, List.map_cons, List.map_nil]); first | done | rfl | (simp only [List.length_drop, List.length_take]; rfl)) ?_; (with_reducible refine (spec_biKeys.calls k _ _ l0 false _ ?side1 ?side2 A6.out).mono ?_); (case side1 => repeat (first | exact (Kd.C_below HR0.out HB.out) | (with_reducible refine Kd.C_alloc ?_ _) | (with_reducible refine Kd.C_drewN ?_ _) | (with_reducible refine Kd.C_drew ?_))); (case side2 => exact HC0.out); rintro e w' ⟨rfl, ⟨nd, rfl⟩⟩; refine ⟨_, rfl, ?_⟩))
    go_meet
    case rel => exact ⟨_, (true), (by first | rfl | (simp; done) | (simp [*]; done)), H', ⟨by first | omega | exact Nat.le_refl _⟩, ⟨by repeat (first | (with_reducible first | exact HB.out | apply below_alloc | apply pw_below_drewN | apply below_drew1) | exact HB.out)⟩⟩
  case rest =>
   clear HC5
   try clear c1
   try clear p2
   try clear c3
   try clear p6
   try clear c7
   try clear c8
   try clear c9
   try clear c11
   obtain ⟨kq, x32_4, rfl, HA, HJ4, HB⟩ := hcut
   cases kq with
   | zero => exact absurd HA.out (by simp [spec_PlainSeed.j0])
   | succ kj4 =>
    have H := HA.out
    clear HA
    simp only [spec_PlainSeed.j0] at H
    by_cases c14 : x32_4 = true
    ·subst c14
     have H1 : (some (0, false)) = some (r1, r2) := by rw [if_pos rfl] at H; exact H
     clear H
     have H := H1
     clear H1
     simp only [Option.some.injEq, Prod.mk.injEq] at H
     obtain ⟨rfl, rfl⟩ := H
     go_wp2
     go_ret2
     exact ⟨by first | rfl | (simp [errW_none, errW_some] <;> rfl) | (simp [*, errW_none, errW_some] <;> rfl), by repeat (first | (with_reducible first | exact HB.out | apply below_alloc | apply pw_below_drewN | apply below_drew1) | exact HB.out)⟩
    ·replace c14 := Bool.eq_false_iff.mpr c14
     subst c14
     have H1 : (spec_PlainSeed.l0 kj4 l0 a1 a3 a2) = some (r1, r2) := by rw [if_neg (show ¬ (false = true) by decide)] at H; exact H
     clear H
     have H := H1
     clear H1
     have H' := Aside0.mk H
     clear H
     go_wp2
     go_loopg [10] kj4 (fun kq v10 w' => ∃ (x10_2 : Int), v10 = .int .i64 x10_2 ∧ Aside0 (spec_PlainSeed.l0 kq l0 a1 a3 x10_2 = some (r1, r2)) ∧ Aside0 (kq ≤ kj4) ∧ Aside0 (Below w.heap.size w w'))
     case atStart => exact ⟨(a2), (by first | rfl | (simp; done) | (simp [*]; done)), H', ⟨Nat.le_refl _⟩, ⟨by repeat (first | (with_reducible first | exact HB.out | apply below_alloc | apply pw_below_drewN | apply below_drew1) | exact HB.out)⟩⟩
     case round =>
      clear H'
      try clear c1
      try clear p2
      try clear c3
      try clear p6
      try clear c7
      try clear c8
      try clear c9
      try clear c11
      try clear c14
      try clear p2
      try clear p6
      obtain ⟨x10_2, rfl, HA, HK2, HB⟩ := hrel
      cases gk with
      | zero => exact absurd HA.out (by simp [spec_PlainSeed.l0])
      | succ k2 =>
       have H := HA.out
       clear HA
       simp only [spec_PlainSeed.l0] at H
       by_cases c15 : x10_2 < a3
       ·rw [if_pos c15] at H
        have c15b0 : decide (x10_2 < a3) = true := decide_eq_true c15
        clear c15
        replace H := Option.bind_eq_some_iff.mp H
        obtain ⟨t320, A160, H⟩ := H
        replace H : (if t320 = true then (some (x10_2, true)) else (spec_PlainSeed.l0 k2 l0 a1 a3 (wrap64 (x10_2 + 1)))) = some (r1, r2) := H
        have A16 := Aside0.mk A160
        clear A160
        by_cases c17 : t320 = true
        ·subst c17
         have H1 : (some (x10_2, true)) = some (r1, r2) := by rw [if_pos rfl] at H; exact H
         clear H
         have H := H1
         clear H1
         simp only [Option.some.injEq, Prod.mk.injEq] at H
         obtain ⟨rfl, rfl⟩ := H
         go_wp2_with (first | ((with_reducible refine gate_callee (f := 85) rfl ?_); refine goesL_ (some 42) rfl rfl Try.func85 (by kernel_rfl) rfl #[.int .i64 x10_2, .slice A0 l0.length c0, .int .i64 a1] rfl (by (try simp only [List.map_toArray, List.map_cons, List.map_nil]); first | done | rfl | (simp only [List.length_drop, List.length_take]; rfl)) ?_; (with_reducible refine (spec_pfPlain.calls k2 x10_2 _ _ l0 a1 true _ ?side1 ?side2 A16.out).mono ?_); (case side1 => repeat (first | exact (Kd.C_below HR0.out HB.out) | (with_reducible refine Kd.C_alloc ?_ _) | (with_reducible refine Kd.C_drewN ?_ _) | (with_reducible refine Kd.C_drew ?_))); (case side2 => exact HC0.out); rintro e w18 ⟨rfl, hb⟩; refine ⟨_, rfl, ?_⟩; have n0_ := Aside0.mk (below_step (by repeat (first | (with_reducible first | exact HB.out | apply below_alloc | apply pw_below_drewN | apply below_drew1) | exact HB.out)) hb); clear HB; have HB := n0_; clear n0_; (try clear hb); (try clear hb2); (try clear hk); (try clear hi)))
         go_ret2
         exact ⟨by first | rfl | (simp [errW_none, errW_some] <;> rfl) | (simp [*, errW_none, errW_some] <;> rfl), by repeat (first | (with_reducible first | exact HB.out | apply below_alloc | apply pw_below_drewN | apply below_drew1) | exact HB.out)⟩
        ·replace c17 := Bool.eq_false_iff.mpr c17
         subst c17
         have H1 : (spec_PlainSeed.l0 k2 l0 a1 a3 (wrap64 (x10_2 + 1))) = some (r1, r2) := by rw [if_neg (show ¬ (false = true) by decide)] at H; exact H
         clear H
         have H := H1
         clear H1
         have H' := Aside0.mk H
         clear H
         go_wp2_with (first | ((with_reducible refine gate_callee (f := 85) rfl ?_); refine goesL_ (some 42) rfl rfl Try.func85 (by kernel_rfl) rfl #[.int .i64 x10_2, .slice A0 l0.length c0, .int .i64 a1] rfl (by (try simp only [List.map_toArray, List.map_cons, List.map_nil]); first | done | rfl | (simp only [List.length_drop, List.length_take]; rfl)) ?_; (with_reducible refine (spec_pfPlain.calls k2 x10_2 _ _ l0 a1 false _ ?side1 ?side2 A16.out).mono ?_); (case side1 => repeat (first | exact (Kd.C_below HR0.out HB.out) | (with_reducible refine Kd.C_alloc ?_ _) | (with_reducible refine Kd.C_drewN ?_ _) | (with_reducible refine Kd.C_drew ?_))); (case side2 => exact HC0.out); rintro e w19 ⟨rfl, hb⟩; refine ⟨_, rfl, ?_⟩; have n0_ := Aside0.mk (below_step (by repeat (first | (with_reducible first | exact HB.out | apply below_alloc | apply pw_below_drewN | apply below_drew1) | exact HB.out)) hb); clear HB; have HB := n0_; clear n0_; (try clear hb); (try clear hb2); (try clear hk); (try clear hi)))
         go_roundg k2
         case measure => have := HJ4.out; have := HK2.out; omega
         case rel => exact ⟨(wrap64 (x10_2 + 1)), (by first | rfl | (simp; done) | (simp [*]; done)), H', ⟨by have := HJ4.out; have := HK2.out; omega⟩, ⟨by repeat (first | (with_reducible first | exact HB.out | apply below_alloc | apply pw_below_drewN | apply below_drew1) | exact HB.out)⟩⟩
       ·rw [if_neg c15] at H
        have c15b0 : decide (x10_2 < a3) = false := decide_eq_false c15
        clear c15
        simp only [Option.some.injEq, Prod.mk.injEq] at H
        obtain ⟨rfl, rfl⟩ := H
        go_wp2
        go_ret2
        exact ⟨by first | rfl | (simp [errW_none, errW_some] <;> rfl) | (simp [*, errW_none, errW_some] <;> rfl), by repeat (first | (with_reducible first | exact HB.out | apply below_alloc | apply pw_below_drewN | apply below_drew1) | exact HB.out)⟩
/-! ### impl_PlainSeed_1: function 89 -/
def impl_PlainSeed_1.l0 : Nat → Int → List Int → List ByteArray → Int → Int → Int → Option (Bool)
  | 0, _, _, _, _, _, _ => none
  | k + 1, x0, x5, x9, x10, x11, x3000 => if x11 < x10 then (if 0 ≤ x11 then (if x11 < (x9.length : Int) then ((impl_place.f k x0 0 (rdOf ByteArray.empty x9 x11) x3000).bind fun t333 => (if x5.length < 17592186044416 then (impl_PlainSeed_1.l0 k x0 (x5 ++ [t333]) x9 x10 (wrap64 (x11 + 1)) x3000) else (none))) else (none)) else (none)) else ((impl_distinct.f k x5).bind fun t337 => (some t337))
def impl_PlainSeed_1.f (k : Nat) (a0 : Int) (l1_0 : List ByteArray) (a2_0 : Int) : Option (Bool) := impl_PlainSeed_1.l0 k a0 (([] : List Int)) l1_0 (l1_0.length : Int) 0 a2_0
theorem impl_PlainSeed_1.mono_l : ∀ k, (∀ y0 y1 y2 y3 y4 y5, LeO (impl_PlainSeed_1.l0 k y0 y1 y2 y3 y4 y5) (impl_PlainSeed_1.l0 (k + 1) y0 y1 y2 y3 y4 y5))
  | 0 => fun _ _ _ _ _ _ r h => by simp [impl_PlainSeed_1.l0] at h
  | k + 1 => by
    have ih0 := impl_PlainSeed_1.mono_l k
    · intro y0 y1 y2 y3 y4 y5
      unfold impl_PlainSeed_1.l0
      repeat' first
      | (with_reducible exact ih0 _ _ _ _ _ _)
      | (with_reducible exact impl_distinct.mono _ _)
      | (with_reducible exact impl_place.mono _ _ _ _ _)
      | (with_reducible exact LeO.refl _)
      | (with_reducible exact LeO.none _)
      | (with_reducible refine LeO.ite ?_ ?_)
      | (with_reducible refine LeO.bind ?_ (fun _ => ?_))
      | exact ih0 _ _ _ _ _ _
      | exact impl_distinct.mono _ _
      | exact impl_place.mono _ _ _ _ _
      | exact LeO.none _
      | refine LeO.ite ?_ ?_
      | refine LeO.bind ?_ (fun _ => ?_)
theorem impl_PlainSeed_1.mono : ∀ a0 a1 a2 k, LeO (impl_PlainSeed_1.f k a0 a1 a2) (impl_PlainSeed_1.f (k + 1) a0 a1 a2) := by
  intro a0 a1 a2 k
  have ih0 := impl_PlainSeed_1.mono_l k
  unfold impl_PlainSeed_1.f
  repeat' first
      | (with_reducible exact ih0 _ _ _ _ _ _)
      | (with_reducible exact impl_distinct.mono _ _)
      | (with_reducible exact impl_place.mono _ _ _ _ _)
      | (with_reducible exact LeO.refl _)
      | (with_reducible exact LeO.none _)
      | (with_reducible refine LeO.ite ?_ ?_)
      | (with_reducible refine LeO.bind ?_ (fun _ => ?_))
      | exact ih0 _ _ _ _ _ _
      | exact impl_distinct.mono _ _
      | exact impl_place.mono _ _ _ _ _
      | exact LeO.none _
      | refine LeO.ite ?_ ?_
      | refine LeO.bind ?_ (fun _ => ?_)
noncomputable def impl_PlainSeed_1.L0 (y0 : Int) (y1 : List Int) (y2 : List ByteArray) (y3 : Int) (y4 : Int) (y5 : Int) : Option (Bool) := lim fun k => impl_PlainSeed_1.l0 k y0 y1 y2 y3 y4 y5
theorem impl_PlainSeed_1.L0_sup (y0 : Int) (y1 : List Int) (y2 : List ByteArray) (y3 : Int) (y4 : Int) (y5 : Int) : Sup (fun k => impl_PlainSeed_1.l0 k y0 y1 y2 y3 y4 y5) (impl_PlainSeed_1.L0 y0 y1 y2 y3 y4 y5) := Sup.of_mono fun k => impl_PlainSeed_1.mono_l k y0 y1 y2 y3 y4 y5
noncomputable def impl_PlainSeed_1.F (a0 : Int) (l1_0 : List ByteArray) (a2_0 : Int) : Option (Bool) := lim fun k => impl_PlainSeed_1.f k a0 l1_0 a2_0
theorem impl_PlainSeed_1.F_sup (a0 : Int) (l1_0 : List ByteArray) (a2_0 : Int) : Sup (fun k => impl_PlainSeed_1.f k a0 l1_0 a2_0) (impl_PlainSeed_1.F a0 l1_0 a2_0) := Sup.of_mono fun k => impl_PlainSeed_1.mono a0 l1_0 a2_0 k
theorem impl_PlainSeed_1.L0_eq (x0 : Int) (x5 : List Int) (x9 : List ByteArray) (x10 : Int) (x11 : Int) (x3000 : Int) : impl_PlainSeed_1.L0 x0 x5 x9 x10 x11 x3000 = if x11 < x10 then (if 0 ≤ x11 then (if x11 < (x9.length : Int) then ((impl_place.F x0 0 (rdOf ByteArray.empty x9 x11) x3000).bind fun t333 => (if x5.length < 17592186044416 then (impl_PlainSeed_1.L0 x0 (x5 ++ [t333]) x9 x10 (wrap64 (x11 + 1)) x3000) else (none))) else (none)) else (none)) else ((impl_distinct.F x5).bind fun t337 => (some t337)) := by
  refine Sup.unique (impl_PlainSeed_1.L0_sup x0 x5 x9 x10 x11 x3000) (Sup.shift (fun k => impl_PlainSeed_1.mono_l k x0 x5 x9 x10 x11 x3000) (Sup.congr (g' := fun k => if x11 < x10 then (if 0 ≤ x11 then (if x11 < (x9.length : Int) then ((impl_place.f k x0 0 (rdOf ByteArray.empty x9 x11) x3000).bind fun t333 => (if x5.length < 17592186044416 then (impl_PlainSeed_1.l0 k x0 (x5 ++ [t333]) x9 x10 (wrap64 (x11 + 1)) x3000) else (none))) else (none)) else (none)) else ((impl_distinct.f k x5).bind fun t337 => (some t337))) (fun k => by first | rfl | simp only [impl_PlainSeed_1.l0]) ?_))
  repeat' first
    | (with_reducible exact impl_PlainSeed_1.L0_sup _ _ _ _ _ _)
    | (with_reducible exact impl_place.F_sup _ _ _ _)
    | (with_reducible exact impl_distinct.F_sup _)
    | (with_reducible refine Sup.ite ?_ ?_)
    | (with_reducible refine Sup.bind ?_ (fun _ => ?_))
    | (with_reducible exact Sup.const _)
    | exact impl_PlainSeed_1.L0_sup _ _ _ _ _ _
    | exact impl_place.F_sup _ _ _ _
    | exact impl_distinct.F_sup _
    | exact Sup.const _
theorem impl_PlainSeed_1.F_eq (a0 : Int) (l1_0 : List ByteArray) (a2_0 : Int) : impl_PlainSeed_1.F a0 l1_0 a2_0 = impl_PlainSeed_1.L0 a0 (([] : List Int)) l1_0 (l1_0.length : Int) 0 a2_0 := by
  refine Sup.unique (impl_PlainSeed_1.F_sup a0 l1_0 a2_0) (Sup.congr (g' := fun k => impl_PlainSeed_1.l0 k a0 (([] : List Int)) l1_0 (l1_0.length : Int) 0 a2_0) (fun k => by first | rfl | simp only [impl_PlainSeed_1.f]) ?_)
  repeat' first
    | (with_reducible exact impl_PlainSeed_1.L0_sup _ _ _ _ _ _)
    | (with_reducible exact impl_place.F_sup _ _ _ _)
    | (with_reducible exact impl_distinct.F_sup _)
    | (with_reducible refine Sup.ite ?_ ?_)
    | (with_reducible refine Sup.bind ?_ (fun _ => ?_))
    | (with_reducible exact Sup.const _)
    | exact impl_PlainSeed_1.L0_sup _ _ _ _ _ _
    | exact impl_place.F_sup _ _ _ _
    | exact impl_distinct.F_sup _
    | exact Sup.const _
set_option maxHeartbeats 8000000 in
set_option maxRecDepth 100000 in
theorem impl_PlainSeed_1.calls (k : Nat) (a0 : Int) (gb1_ : Nat) (A1_0 : Option Addr) (c1_0 : Nat) (l1_0 : List ByteArray) (gb2_ : Nat) (a2_0 : Int) (r : Bool) (w : World) (hr1_0 : Kd.C Kd.string w A1_0 l1_0.length l1_0) (hc1_0 : l1_0.length ≤ c1_0) (hb1_ : w.heap[gb1_]? = some (.cells #[.slice A1_0 l1_0.length c1_0] 46 (0, 0))) (hb2_ : w.heap[gb2_]? = some (.cells #[.int .i64 a2_0] 3 (0, 0))) (h : impl_PlainSeed_1.f k a0 l1_0 a2_0 = some r) :
    Calls Try.prog 89 #[.int .i64 a0, .pointer (some ⟨gb1_, 0, none⟩), .pointer (some ⟨gb2_, 0, none⟩)] w fun e w' => e = .returned (.bool r) ∧ Below w.heap.size w w' := by
  have hu46 := Try.underlying46
  have HR1_0 := Aside0.mk hr1_0
  have HC1_0 := Aside0.mk hc1_0
  clear hr1_0 hc1_0
  have BK1 := Aside0.mk hb1_
  clear hb1_
  have BK2 := Aside0.mk hb2_
  clear hb2_
  have HB := Aside0.mk (Below.refl w.heap.size w)
  have H : (impl_PlainSeed_1.l0 k a0 (([] : List Int)) l1_0 (l1_0.length : Int) 0 a2_0) = some r := h
  clear h
  obtain ⟨y329, hy329⟩ : ∃ y_ : List Int, y_ = (([] : List Int)) := ⟨_, rfl⟩
  replace H : (impl_PlainSeed_1.l0 k a0 y329 l1_0 (l1_0.length : Int) 0 a2_0) = some r := by first | (rw [hy329]; with_reducible exact H) | (have H2_ := (Option.bind_some _ _).symm.trans H; rw [hy329]; with_reducible exact H2_) | (have H2_ := (Option.bind_some _ _).symm.trans H; with_reducible exact H2_) | with_reducible exact H | (rw [hy329]; exact H) | exact H
  have Ny329 := Aside0.mk hy329
  clear hy329
  have H' := Aside0.mk H
  clear H
  go_enter Try.func89, Try.ntmps89
  go_wp2_with (first | ((with_reducible refine gate_dst (N := 8) rfl ?_); refine Kd.R_lit (Kd.int .i64) _ 3 ?hg (N := 8) ?hd (xs := ([] : List Int)) (inner := []) (ok := fun _ => True) (okp := fun _ => True) ?hr ?hp (fun _ hk => hk) trivial (Below.refl _ _) (Nat.le_refl _) (by simp) ?_; (case hd => rfl); (case hg => rfl); (case hr => first | (go_simp; done) | (go_simp; rfl)); (case hp => exact (Reps.none _ _)); intro v330 w4 ho5 hb hg_ hnew_; clear hg_ hnew_; (first | rw [← Ny329.out] at ho5 | (simp only [Int.reduceToNat] at ho5; rw [← Ny329.out] at ho5)); have n0_ := Aside0.mk (Kd.R_lower (Kd.R_newB ho5 (g := gb2_) (o := .cells #[.int .i64 a2_0] 3 (0, 0)) (by (with_reducible repeat (first | refine blk_drewN ?_ _ | refine blk_drew ?_ | refine blk_alloc ?_ _)); exact BK2.out)) (below_size (by repeat (first | (with_reducible first | exact HB.out | apply below_alloc | apply pw_below_drewN | apply below_drew1 | refine below_set ?_ GE1.out | refine below_set ?_ GE2.out) | exact HB.out)))); have n1_ := Aside0.mk (blk_below (g := gb1_) (o := .cells #[.slice A1_0 l1_0.length c1_0] 46 (0, 0)) (by (with_reducible repeat (first | refine blk_drewN ?_ _ | refine blk_drew ?_ | refine blk_alloc ?_ _)); exact BK1.out) hb); have n2_ := Aside0.mk (blk_below (g := gb2_) (o := .cells #[.int .i64 a2_0] 3 (0, 0)) (by (with_reducible repeat (first | refine blk_drewN ?_ _ | refine blk_drew ?_ | refine blk_alloc ?_ _)); exact BK2.out) hb); have n3_ := Aside0.mk (below_step (by repeat (first | (with_reducible first | exact HB.out | apply below_alloc | apply pw_below_drewN | apply below_drew1 | refine below_set ?_ GE1.out | refine below_set ?_ GE2.out) | exact HB.out)) hb); clear BK1; clear BK2; clear HB; have HO331 := n0_; have BK1 := n1_; have BK2 := n2_; have HB := n3_; clear n0_ n1_ n2_ n3_; clear hb ho5; have hcz6_0 : w4.cell? ⟨gb1_, 0, none⟩ = some (.slice A1_0 l1_0.length c1_0) := (blk_cell BK1.out 0).trans rfl; have hfz6_0 := blk_frozen BK1.out 0))
  go_loopg [5, 11] k (fun kq v5 v11 w' => ∃ (x5_1 : List Int) (x11_1 : Int), v11 = .int .i64 x11_1 ∧ Aside0 (impl_PlainSeed_1.l0 kq a0 x5_1 l1_0 (l1_0.length : Int) x11_1 a2_0 = some r) ∧ Aside0 (kq ≤ k) ∧ Aside0 (Kd.R (Kd.int .i64) 3 w' w.heap.size (fun k_ => k_ ≠ gb2_) v5 x5_1) ∧ Aside0 (w'.heap[gb1_]? = some (.cells #[(.slice A1_0 l1_0.length c1_0)] 46 (0, 0))) ∧ Aside0 (w'.heap[gb2_]? = some (.cells #[.int .i64 a2_0] 3 (0, 0))) ∧ Aside0 (Below w.heap.size w w'))
  case atStart => exact ⟨(y329), (0), (by first | rfl | (simp; done) | (simp [*]; done)), H', ⟨Nat.le_refl _⟩, ⟨by (with_reducible repeat (first | apply Kd.R_alloc | apply Kd.R_drewN | apply Kd.R_drew)); exact Kd.R_mono HO331.out (fun _ hk => hk.2)⟩, ⟨by (with_reducible repeat (first | refine blk_drewN ?_ _ | refine blk_drew ?_ | refine blk_alloc ?_ _)); exact BK1.out⟩, ⟨by (with_reducible repeat (first | refine blk_drewN ?_ _ | refine blk_drew ?_ | refine blk_alloc ?_ _)); exact BK2.out⟩, ⟨by repeat (first | (with_reducible first | exact HB.out | apply below_alloc | apply pw_below_drewN | apply below_drew1 | refine below_set ?_ GE1.out | refine below_set ?_ GE2.out) | exact HB.out)⟩⟩
  case round =>
   clear H'
   try clear c1
   try clear p2
   try clear hcz6_0
   try clear hfz6_0
   obtain ⟨x5_1, x11_1, rfl, HA, HK1, HO_5, BK1, BK2, HB⟩ := hrel
   cases gk with
   | zero => exact absurd HA.out (by simp [impl_PlainSeed_1.l0])
   | succ k1 =>
    have H := HA.out
    clear HA
    simp only [impl_PlainSeed_1.l0] at H
    by_cases c7 : x11_1 < (l1_0.length : Int)
    ·rw [if_pos c7] at H
     have c7b0 : decide (x11_1 < (l1_0.length : Int)) = true := decide_eq_true c7
     clear c7
     by_cases c8 : 0 ≤ x11_1
     ·rw [if_pos c8] at H
      have c8b0 : decide (0 ≤ x11_1) = true := decide_eq_true c8
      clear c8
      by_cases c9 : x11_1 < (l1_0.length : Int)
      ·rw [if_pos c9] at H
       have c9b0 : decide (x11_1 < (l1_0.length : Int)) = true := decide_eq_true c9
       clear c9
       replace H := Option.bind_eq_some_iff.mp H
       obtain ⟨t333, A100, H⟩ := H
       replace H : (if x5_1.length < 17592186044416 then (impl_PlainSeed_1.l0 k1 a0 (x5_1 ++ [t333]) l1_0 (l1_0.length : Int) (wrap64 (x11_1 + 1)) a2_0) else (none)) = some r := H
       have A10 := Aside0.mk A100
       clear A100
       by_cases c11 : x5_1.length < 17592186044416
       ·rw [if_pos c11] at H
        have LMc11 := Aside0.mk c11
        clear c11
        obtain ⟨y334, hy334⟩ : ∃ y_ : List Int, y_ = (x5_1 ++ [t333]) := ⟨_, rfl⟩
        replace H : (impl_PlainSeed_1.l0 k1 a0 y334 l1_0 (l1_0.length : Int) (wrap64 (x11_1 + 1)) a2_0) = some r := by first | (rw [hy334]; with_reducible exact H) | (have H2_ := (Option.bind_some _ _).symm.trans H; rw [hy334]; with_reducible exact H2_) | (have H2_ := (Option.bind_some _ _).symm.trans H; with_reducible exact H2_) | with_reducible exact H | (rw [hy334]; exact H) | exact H
        have Ny334 := Aside0.mk hy334
        clear hy334
        have H' := Aside0.mk H
        clear H
        have p332 : 0 ≤ (x11_1 : Int) := of_decide_eq_true (by first | (with_reducible assumption) | assumption)
        have q332 : x11_1 < (l1_0.length : Int) := of_decide_eq_true (by first | (with_reducible assumption) | assumption)
        obtain ⟨ad332, e332, hx332_0⟩ := Kd.at_string HR1_0.out x11_1 p332 q332
        cases e332
        replace hx332_0 := (HB.out.cell (World.block_lt_of_cell? w _ hx332_0)).trans hx332_0
        replace p332 := eq_true p332
        replace q332 := eq_true q332
        have hcz12_0 : wr.cell? ⟨gb2_, 0, none⟩ = some (.int .i64 a2_0) := (blk_cell BK2.out 0).trans rfl
        have hfz12_0 := blk_frozen BK2.out 0
        go_wp2_with (first | ((with_reducible refine gate_callee (f := 90) rfl ?_); refine goesL_ (some 19) rfl rfl Try.func90 (by kernel_rfl) rfl #[.int .i64 a0, .int .i64 0, .string (rdOf ByteArray.empty l1_0 x11_1), .int .i64 a2_0] rfl (by (try simp only [List.map_toArray, List.map_cons, List.map_nil]); first | done | rfl | (simp only [List.length_drop, List.length_take]; rfl)) ?_; (with_reducible refine (impl_place.calls k1 a0 0 (rdOf ByteArray.empty l1_0 x11_1) a2_0 t333 _ A10.out).mono ?_); rintro e w' ⟨rfl, ⟨nd, rfl⟩⟩; refine ⟨_, rfl, ?_⟩) | ((with_reducible refine gate_builtin (b := .append) (xs := #[.tmp 15, .tmp 20]) rfl ?_); at_builtin; refine Kd.R_append (Kd.int .i64) (w0 := w) w.heap.size rfl (.tmp 15) (.tmp 20) 22 3 (.int .i64 0) 8 rfl Try.underlying22 info3 rfl (by decide) (by omega) u5 x5_1 t333 [.int .i64 t333] (fun k_ => k_ ≠ gb2_) (fun _ => False) rfl rfl ?aP (fun _ hk => hk.elim) ?aF ?aO ?aB ?aS ?aL ?_; (case aP => exact rfl); (case aB => exact (by repeat (first | (with_reducible first | exact HB.out | apply below_alloc | apply pw_below_drewN | apply below_drew1 | refine below_set ?_ GE1.out | refine below_set ?_ GE2.out) | exact HB.out))); (case aF => exact (fun k_ hk => Kd.freshB (g := gb2_) (o := .cells #[.int .i64 a2_0] 3 (0, 0)) (by (with_reducible repeat (first | refine blk_drewN ?_ _ | refine blk_drew ?_ | refine blk_alloc ?_ _)); exact BK2.out) k_ hk)); (case aO => exact (by (with_reducible repeat (first | apply Kd.R_alloc | apply Kd.R_drewN | apply Kd.R_drew)); exact HO_5.out)); (case aS => exact (below_size (by repeat (first | (with_reducible first | exact HB.out | apply below_alloc | apply pw_below_drewN | apply below_drew1 | refine below_set ?_ GE1.out | refine below_set ?_ GE2.out) | exact HB.out)))); (case aL => have := LMc11.out; omega); intro v335 w13 ho hb hg hat; rw [← Ny334.out] at ho; have n0_ := Aside0.mk (blk_grown (g := gb1_) (o := .cells #[.slice (some ad332) l1_0.length c1_0] 46 (0, 0)) (by (with_reducible repeat (first | refine blk_drewN ?_ _ | refine blk_drew ?_ | refine blk_alloc ?_ _)); exact BK1.out) hg (Kd.R_ne HO_5.out BK1.out (by decide))); have n1_ := Aside0.mk (blk_grown (g := gb2_) (o := .cells #[.int .i64 a2_0] 3 (0, 0)) (by (with_reducible repeat (first | refine blk_drewN ?_ _ | refine blk_drew ?_ | refine blk_alloc ?_ _)); exact BK2.out) hg (Kd.R_away HO_5.out (fun _ hk => hk))); have n2_ := Aside0.mk (hb); have n3_ := Aside0.mk (ho); clear BK1; clear BK2; clear HB; clear HO_5; have BK1 := n0_; have BK2 := n1_; have HB := n2_; have HO336 := n3_; clear n0_ n1_ n2_ n3_; clear ho hb hg hat))
        go_roundg k1
        case measure => have := HK1.out; omega
        case rel => exact ⟨(y334), (wrap64 (x11_1 + 1)), (by first | rfl | (simp; done) | (simp [*]; done)), H', ⟨by have := HK1.out; omega⟩, ⟨by (with_reducible repeat (first | apply Kd.R_alloc | apply Kd.R_drewN | apply Kd.R_drew)); exact HO336.out⟩, ⟨by (with_reducible repeat (first | refine blk_drewN ?_ _ | refine blk_drew ?_ | refine blk_alloc ?_ _)); exact BK1.out⟩, ⟨by (with_reducible repeat (first | refine blk_drewN ?_ _ | refine blk_drew ?_ | refine blk_alloc ?_ _)); exact BK2.out⟩, ⟨by repeat (first | (with_reducible first | exact HB.out | apply below_alloc | apply pw_below_drewN | apply below_drew1 | refine below_set ?_ GE1.out | refine below_set ?_ GE2.out) | exact HB.out)⟩⟩
       ·rw [if_neg c11] at H
        exact absurd H (by simp)
      ·rw [if_neg c9] at H
       exact absurd H (by simp)
     ·rw [if_neg c8] at H
      exact absurd H (by simp)
    ·rw [if_neg c7] at H
     have c7b0 : decide (x11_1 < (l1_0.length : Int)) = false := decide_eq_false c7
     clear c7
     replace H := Option.bind_eq_some_iff.mp H
     obtain ⟨t337, A140, H⟩ := H
     replace H : (some t337) = some r := H
     have A14 := Aside0.mk A140
     clear A140
     obtain rfl := Option.some.inj H
     obtain ⟨Ao15, co15, eo15⟩ := Kd.R_slice HO_5.out
     subst eo15
     go_wp2_with (first | ((with_reducible refine gate_callee (f := 91) rfl ?_); refine goesL_ (some 24) rfl rfl Try.func91 (by kernel_rfl) rfl #[.slice Ao15 x5_1.length co15] rfl (by (try simp only [List.map_toArray, List.map_cons, List.map_nil]); first | done | rfl | (simp only [List.length_drop, List.length_take]; rfl)) ?_; (with_reducible refine (impl_distinct.calls k1 _ _ x5_1 t337 _ ?side1 ?side2 A14.out).mono ?_); (case side1 => repeat (first | exact (Kd.R_reads' HO_5.out).2.2 | (with_reducible refine Kd.C_alloc ?_ _) | (with_reducible refine Kd.C_drewN ?_ _) | (with_reducible refine Kd.C_drew ?_))); (case side2 => exact (Kd.R_reads' HO_5.out).2.1); rintro e w16 ⟨rfl, hb⟩; refine ⟨_, rfl, ?_⟩; have n0_ := Aside0.mk (Kd.R_below (by (with_reducible repeat (first | apply Kd.R_alloc | apply Kd.R_drewN | apply Kd.R_drew)); exact HO_5.out) hb); have n1_ := Aside0.mk (blk_below (g := gb1_) (o := .cells #[.slice A1_0 l1_0.length c1_0] 46 (0, 0)) (by (with_reducible repeat (first | refine blk_drewN ?_ _ | refine blk_drew ?_ | refine blk_alloc ?_ _)); exact BK1.out) hb); have n2_ := Aside0.mk (blk_below (g := gb2_) (o := .cells #[.int .i64 a2_0] 3 (0, 0)) (by (with_reducible repeat (first | refine blk_drewN ?_ _ | refine blk_drew ?_ | refine blk_alloc ?_ _)); exact BK2.out) hb); have n3_ := Aside0.mk (below_step (by repeat (first | (with_reducible first | exact HB.out | apply below_alloc | apply pw_below_drewN | apply below_drew1 | refine below_set ?_ GE1.out | refine below_set ?_ GE2.out) | exact HB.out)) hb); clear HO_5; clear BK1; clear BK2; clear HB; have HO_5 := n0_; have BK1 := n1_; have BK2 := n2_; have HB := n3_; clear n0_ n1_ n2_ n3_; (try clear hb); (try clear hb2); (try clear hk); (try clear hi)))
     go_ret
     exact ⟨by first | rfl | (simp [errW_none, errW_some] <;> rfl) | (simp [*, errW_none, errW_some] <;> rfl), by repeat (first | (with_reducible first | exact HB.out | apply below_alloc | apply pw_below_drewN | apply below_drew1 | refine below_set ?_ GE1.out | refine below_set ?_ GE2.out) | exact HB.out)⟩
/-! ### impl_firstSeed_at_impl_PlainSeed_1: function 167 -/
mutual
def impl_firstSeed_at_impl_PlainSeed_1.j0 : Nat → Int → Int → Bool → List ByteArray → Int → Option (Int × Bool)
  | 0, _, _, _, _, _ => none
  | k + 1, x0, x1, x25, x3000, x4000 => if x25 = true then (some (0, false)) else (impl_firstSeed_at_impl_PlainSeed_1.l0 k x1 x0 x3000 x4000)
def impl_firstSeed_at_impl_PlainSeed_1.l0 : Nat → Int → Int → List ByteArray → Int → Option (Int × Bool)
  | 0, _, _, _, _ => none
  | k + 1, x1, x8, x3000, x4000 => if x8 < x1 then ((impl_PlainSeed_1.f k x8 x3000 x4000).bind fun t338 => (if t338 = true then (some (x8, true)) else (impl_firstSeed_at_impl_PlainSeed_1.l0 k x1 (wrap64 (x8 + 1)) x3000 x4000))) else (some (0, false))
end
def impl_firstSeed_at_impl_PlainSeed_1.f (k : Nat) (a0 : Int) (a1 : Int) (l2_0 : List ByteArray) (a3_0 : Int) : Option (Int × Bool) := if a0 < 0 then (impl_firstSeed_at_impl_PlainSeed_1.j0 k a0 a1 true l2_0 a3_0) else (if a0 > a1 then (impl_firstSeed_at_impl_PlainSeed_1.j0 k a0 a1 true l2_0 a3_0) else (if a1 > 10000 then (impl_firstSeed_at_impl_PlainSeed_1.j0 k a0 a1 true l2_0 a3_0) else (impl_firstSeed_at_impl_PlainSeed_1.j0 k a0 a1 (decide (a1 > (wrap64 (a0 + 100)))) l2_0 a3_0)))
theorem impl_firstSeed_at_impl_PlainSeed_1.mono_l : ∀ k, (∀ y0 y1 y2 y3 y4, LeO (impl_firstSeed_at_impl_PlainSeed_1.j0 k y0 y1 y2 y3 y4) (impl_firstSeed_at_impl_PlainSeed_1.j0 (k + 1) y0 y1 y2 y3 y4)) ∧ (∀ y0 y1 y2 y3, LeO (impl_firstSeed_at_impl_PlainSeed_1.l0 k y0 y1 y2 y3) (impl_firstSeed_at_impl_PlainSeed_1.l0 (k + 1) y0 y1 y2 y3))
  | 0 => ⟨fun _ _ _ _ _ r h => by simp [impl_firstSeed_at_impl_PlainSeed_1.j0] at h, fun _ _ _ _ r h => by simp [impl_firstSeed_at_impl_PlainSeed_1.l0] at h⟩
  | k + 1 => by
    obtain ⟨ih0, ih1⟩ := impl_firstSeed_at_impl_PlainSeed_1.mono_l k
    refine ⟨?_, ?_⟩
    · intro y0 y1 y2 y3 y4
      unfold impl_firstSeed_at_impl_PlainSeed_1.j0
      repeat' first
      | (with_reducible exact ih0 _ _ _ _ _)
      | (with_reducible exact ih1 _ _ _ _)
      | (with_reducible exact impl_PlainSeed_1.mono _ _ _ _)
      | (with_reducible exact LeO.refl _)
      | (with_reducible exact LeO.none _)
      | (with_reducible refine LeO.ite ?_ ?_)
      | (with_reducible refine LeO.bind ?_ (fun _ => ?_))
      | exact ih0 _ _ _ _ _
      | exact ih1 _ _ _ _
      | exact impl_PlainSeed_1.mono _ _ _ _
      | exact LeO.none _
      | refine LeO.ite ?_ ?_
      | refine LeO.bind ?_ (fun _ => ?_)
    · intro y0 y1 y2 y3
      unfold impl_firstSeed_at_impl_PlainSeed_1.l0
      repeat' first
      | (with_reducible exact ih0 _ _ _ _ _)
      | (with_reducible exact ih1 _ _ _ _)
      | (with_reducible exact impl_PlainSeed_1.mono _ _ _ _)
      | (with_reducible exact LeO.refl _)
      | (with_reducible exact LeO.none _)
      | (with_reducible refine LeO.ite ?_ ?_)
      | (with_reducible refine LeO.bind ?_ (fun _ => ?_))
      | exact ih0 _ _ _ _ _
      | exact ih1 _ _ _ _
      | exact impl_PlainSeed_1.mono _ _ _ _
      | exact LeO.none _
      | refine LeO.ite ?_ ?_
      | refine LeO.bind ?_ (fun _ => ?_)
theorem impl_firstSeed_at_impl_PlainSeed_1.mono : ∀ a0 a1 a2 a3 k, LeO (impl_firstSeed_at_impl_PlainSeed_1.f k a0 a1 a2 a3) (impl_firstSeed_at_impl_PlainSeed_1.f (k + 1) a0 a1 a2 a3) := by
  intro a0 a1 a2 a3 k
  obtain ⟨ih0, ih1⟩ := impl_firstSeed_at_impl_PlainSeed_1.mono_l k
  unfold impl_firstSeed_at_impl_PlainSeed_1.f
  repeat' first
      | (with_reducible exact ih0 _ _ _ _ _)
      | (with_reducible exact ih1 _ _ _ _)
      | (with_reducible exact impl_PlainSeed_1.mono _ _ _ _)
      | (with_reducible exact LeO.refl _)
      | (with_reducible exact LeO.none _)
      | (with_reducible refine LeO.ite ?_ ?_)
      | (with_reducible refine LeO.bind ?_ (fun _ => ?_))
      | exact ih0 _ _ _ _ _
      | exact ih1 _ _ _ _
      | exact impl_PlainSeed_1.mono _ _ _ _
      | exact LeO.none _
      | refine LeO.ite ?_ ?_
      | refine LeO.bind ?_ (fun _ => ?_)
noncomputable def impl_firstSeed_at_impl_PlainSeed_1.J0 (y0 : Int) (y1 : Int) (y2 : Bool) (y3 : List ByteArray) (y4 : Int) : Option (Int × Bool) := lim fun k => impl_firstSeed_at_impl_PlainSeed_1.j0 k y0 y1 y2 y3 y4
theorem impl_firstSeed_at_impl_PlainSeed_1.J0_sup (y0 : Int) (y1 : Int) (y2 : Bool) (y3 : List ByteArray) (y4 : Int) : Sup (fun k => impl_firstSeed_at_impl_PlainSeed_1.j0 k y0 y1 y2 y3 y4) (impl_firstSeed_at_impl_PlainSeed_1.J0 y0 y1 y2 y3 y4) := Sup.of_mono fun k => (impl_firstSeed_at_impl_PlainSeed_1.mono_l k).1 y0 y1 y2 y3 y4
noncomputable def impl_firstSeed_at_impl_PlainSeed_1.L0 (y0 : Int) (y1 : Int) (y2 : List ByteArray) (y3 : Int) : Option (Int × Bool) := lim fun k => impl_firstSeed_at_impl_PlainSeed_1.l0 k y0 y1 y2 y3
theorem impl_firstSeed_at_impl_PlainSeed_1.L0_sup (y0 : Int) (y1 : Int) (y2 : List ByteArray) (y3 : Int) : Sup (fun k => impl_firstSeed_at_impl_PlainSeed_1.l0 k y0 y1 y2 y3) (impl_firstSeed_at_impl_PlainSeed_1.L0 y0 y1 y2 y3) := Sup.of_mono fun k => (impl_firstSeed_at_impl_PlainSeed_1.mono_l k).2 y0 y1 y2 y3
noncomputable def impl_firstSeed_at_impl_PlainSeed_1.F (a0 : Int) (a1 : Int) (l2_0 : List ByteArray) (a3_0 : Int) : Option (Int × Bool) := lim fun k => impl_firstSeed_at_impl_PlainSeed_1.f k a0 a1 l2_0 a3_0
theorem impl_firstSeed_at_impl_PlainSeed_1.F_sup (a0 : Int) (a1 : Int) (l2_0 : List ByteArray) (a3_0 : Int) : Sup (fun k => impl_firstSeed_at_impl_PlainSeed_1.f k a0 a1 l2_0 a3_0) (impl_firstSeed_at_impl_PlainSeed_1.F a0 a1 l2_0 a3_0) := Sup.of_mono fun k => impl_firstSeed_at_impl_PlainSeed_1.mono a0 a1 l2_0 a3_0 k
theorem impl_firstSeed_at_impl_PlainSeed_1.J0_eq (x0 : Int) (x1 : Int) (x25 : Bool) (x3000 : List ByteArray) (x4000 : Int) : impl_firstSeed_at_impl_PlainSeed_1.J0 x0 x1 x25 x3000 x4000 = if x25 = true then (some (0, false)) else (impl_firstSeed_at_impl_PlainSeed_1.L0 x1 x0 x3000 x4000) := by
  refine Sup.unique (impl_firstSeed_at_impl_PlainSeed_1.J0_sup x0 x1 x25 x3000 x4000) (Sup.shift (fun k => (impl_firstSeed_at_impl_PlainSeed_1.mono_l k).1 x0 x1 x25 x3000 x4000) (Sup.congr (g' := fun k => if x25 = true then (some (0, false)) else (impl_firstSeed_at_impl_PlainSeed_1.l0 k x1 x0 x3000 x4000)) (fun k => by first | rfl | simp only [impl_firstSeed_at_impl_PlainSeed_1.j0]) ?_))
  repeat' first
    | (with_reducible exact impl_firstSeed_at_impl_PlainSeed_1.J0_sup _ _ _ _ _)
    | (with_reducible exact impl_firstSeed_at_impl_PlainSeed_1.L0_sup _ _ _ _)
    | (with_reducible exact impl_PlainSeed_1.F_sup _ _ _)
    | (with_reducible refine Sup.ite ?_ ?_)
    | (with_reducible refine Sup.bind ?_ (fun _ => ?_))
    | (with_reducible exact Sup.const _)
    | exact impl_firstSeed_at_impl_PlainSeed_1.J0_sup _ _ _ _ _
    | exact impl_firstSeed_at_impl_PlainSeed_1.L0_sup _ _ _ _
    | exact impl_PlainSeed_1.F_sup _ _ _
    | exact Sup.const _
theorem impl_firstSeed_at_impl_PlainSeed_1.L0_eq (x1 : Int) (x8 : Int) (x3000 : List ByteArray) (x4000 : Int) : impl_firstSeed_at_impl_PlainSeed_1.L0 x1 x8 x3000 x4000 = if x8 < x1 then ((impl_PlainSeed_1.F x8 x3000 x4000).bind fun t338 => (if t338 = true then (some (x8, true)) else (impl_firstSeed_at_impl_PlainSeed_1.L0 x1 (wrap64 (x8 + 1)) x3000 x4000))) else (some (0, false)) := by
  refine Sup.unique (impl_firstSeed_at_impl_PlainSeed_1.L0_sup x1 x8 x3000 x4000) (Sup.shift (fun k => (impl_firstSeed_at_impl_PlainSeed_1.mono_l k).2 x1 x8 x3000 x4000) (Sup.congr (g' := fun k => if x8 < x1 then ((impl_PlainSeed_1.f k x8 x3000 x4000).bind fun t338 => (if t338 = true then (some (x8, true)) else (impl_firstSeed_at_impl_PlainSeed_1.l0 k x1 (wrap64 (x8 + 1)) x3000 x4000))) else (some (0, false))) (fun k => by first | rfl | simp only [impl_firstSeed_at_impl_PlainSeed_1.l0]) ?_))
  repeat' first
    | (with_reducible exact impl_firstSeed_at_impl_PlainSeed_1.J0_sup _ _ _ _ _)
    | (with_reducible exact impl_firstSeed_at_impl_PlainSeed_1.L0_sup _ _ _ _)
    | (with_reducible exact impl_PlainSeed_1.F_sup _ _ _)
    | (with_reducible refine Sup.ite ?_ ?_)
    | (with_reducible refine Sup.bind ?_ (fun _ => ?_))
    | (with_reducible exact Sup.const _)
    | exact impl_firstSeed_at_impl_PlainSeed_1.J0_sup _ _ _ _ _
    | exact impl_firstSeed_at_impl_PlainSeed_1.L0_sup _ _ _ _
    | exact impl_PlainSeed_1.F_sup _ _ _
    | exact Sup.const _
theorem impl_firstSeed_at_impl_PlainSeed_1.F_eq (a0 : Int) (a1 : Int) (l2_0 : List ByteArray) (a3_0 : Int) : impl_firstSeed_at_impl_PlainSeed_1.F a0 a1 l2_0 a3_0 = if a0 < 0 then (impl_firstSeed_at_impl_PlainSeed_1.J0 a0 a1 true l2_0 a3_0) else (if a0 > a1 then (impl_firstSeed_at_impl_PlainSeed_1.J0 a0 a1 true l2_0 a3_0) else (if a1 > 10000 then (impl_firstSeed_at_impl_PlainSeed_1.J0 a0 a1 true l2_0 a3_0) else (impl_firstSeed_at_impl_PlainSeed_1.J0 a0 a1 (decide (a1 > (wrap64 (a0 + 100)))) l2_0 a3_0))) := by
  refine Sup.unique (impl_firstSeed_at_impl_PlainSeed_1.F_sup a0 a1 l2_0 a3_0) (Sup.congr (g' := fun k => if a0 < 0 then (impl_firstSeed_at_impl_PlainSeed_1.j0 k a0 a1 true l2_0 a3_0) else (if a0 > a1 then (impl_firstSeed_at_impl_PlainSeed_1.j0 k a0 a1 true l2_0 a3_0) else (if a1 > 10000 then (impl_firstSeed_at_impl_PlainSeed_1.j0 k a0 a1 true l2_0 a3_0) else (impl_firstSeed_at_impl_PlainSeed_1.j0 k a0 a1 (decide (a1 > (wrap64 (a0 + 100)))) l2_0 a3_0)))) (fun k => by first | rfl | simp only [impl_firstSeed_at_impl_PlainSeed_1.f]) ?_)
  repeat' first
    | (with_reducible exact impl_firstSeed_at_impl_PlainSeed_1.J0_sup _ _ _ _ _)
    | (with_reducible exact impl_firstSeed_at_impl_PlainSeed_1.L0_sup _ _ _ _)
    | (with_reducible exact impl_PlainSeed_1.F_sup _ _ _)
    | (with_reducible refine Sup.ite ?_ ?_)
    | (with_reducible refine Sup.bind ?_ (fun _ => ?_))
    | (with_reducible exact Sup.const _)
    | exact impl_firstSeed_at_impl_PlainSeed_1.J0_sup _ _ _ _ _
    | exact impl_firstSeed_at_impl_PlainSeed_1.L0_sup _ _ _ _
    | exact impl_PlainSeed_1.F_sup _ _ _
    | exact Sup.const _
set_option maxHeartbeats 8000000 in
set_option maxRecDepth 100000 in
theorem impl_firstSeed_at_impl_PlainSeed_1.calls (k : Nat) (a0 : Int) (a1 : Int) (gb2_ : Nat) (A2_0 : Option Addr) (c2_0 : Nat) (l2_0 : List ByteArray) (gb3_ : Nat) (a3_0 : Int) (r1 : Int) (r2 : Bool) (w : World) (hr2_0 : Kd.C Kd.string w A2_0 l2_0.length l2_0) (hc2_0 : l2_0.length ≤ c2_0) (hb2_ : w.heap[gb2_]? = some (.cells #[.slice A2_0 l2_0.length c2_0] 46 (0, 0))) (hb3_ : w.heap[gb3_]? = some (.cells #[.int .i64 a3_0] 3 (0, 0))) (h : impl_firstSeed_at_impl_PlainSeed_1.f k a0 a1 l2_0 a3_0 = some (r1, r2)) :
    Calls Try.prog 88 #[.int .i64 a0, .int .i64 a1, .func (.func 89) #[] #[.pointer (some ⟨gb2_, 0, none⟩), .pointer (some ⟨gb3_, 0, none⟩)]] w fun e w' => e = .returned (.tuple #[.int .i64 r1, .bool r2]) ∧ Below w.heap.size w w' := by
  have HR2_0 := Aside0.mk hr2_0
  have HC2_0 := Aside0.mk hc2_0
  clear hr2_0 hc2_0
  have BK2 := Aside0.mk hb2_
  clear hb2_
  have BK3 := Aside0.mk hb3_
  clear hb3_
  have HB := Aside0.mk (Below.refl w.heap.size w)
  have H : (if a0 < 0 then (impl_firstSeed_at_impl_PlainSeed_1.j0 k a0 a1 true l2_0 a3_0) else (if a0 > a1 then (impl_firstSeed_at_impl_PlainSeed_1.j0 k a0 a1 true l2_0 a3_0) else (if a1 > 10000 then (impl_firstSeed_at_impl_PlainSeed_1.j0 k a0 a1 true l2_0 a3_0) else (impl_firstSeed_at_impl_PlainSeed_1.j0 k a0 a1 (decide (a1 > (wrap64 (a0 + 100)))) l2_0 a3_0)))) = some (r1, r2) := h
  clear h
  have HC5 := Aside0.mk H
  clear H
  go_enter Try.func88, Try.ntmps88
  go_upto_region 1 with (fail)
  go_cut [25] (fun v25 wc => ∃ (kq : Nat) (x25_4 : Bool), v25 = .bool x25_4 ∧ Aside0 (impl_firstSeed_at_impl_PlainSeed_1.j0 kq a0 a1 x25_4 l2_0 a3_0 = some (r1, r2)) ∧ Aside0 (kq ≤ k) ∧ Aside0 (wc.heap[gb2_]? = some (.cells #[(.slice A2_0 l2_0.length c2_0)] 46 (0, 0))) ∧ Aside0 (wc.heap[gb3_]? = some (.cells #[.int .i64 a3_0] 3 (0, 0))) ∧ Aside0 (Below w.heap.size w wc))
  case first =>
   have H := HC5.out
   clear HC5
   by_cases c6 : a0 < 0
   ·rw [if_pos c6] at H
    have c6b0 : decide (a0 < 0) = true := decide_eq_true c6
    clear c6
    (first | rw [c6b0] | (simp only [i64_w, i32_w]; rw [c6b0]) | skip)
    have H' := Aside0.mk H
    clear H
    go_wp2
    go_meet
    case rel => exact ⟨_, (true), (by first | rfl | (simp; done) | (simp [*]; done)), H', ⟨by first | omega | exact Nat.le_refl _⟩, ⟨by (with_reducible repeat (first | refine blk_drewN ?_ _ | refine blk_drew ?_ | refine blk_alloc ?_ _)); exact BK2.out⟩, ⟨by (with_reducible repeat (first | refine blk_drewN ?_ _ | refine blk_drew ?_ | refine blk_alloc ?_ _)); exact BK3.out⟩, ⟨by repeat (first | (with_reducible first | exact HB.out | apply below_alloc | apply pw_below_drewN | apply below_drew1 | refine below_set ?_ GE2.out | refine below_set ?_ GE3.out) | exact HB.out)⟩⟩
   ·rw [if_neg c6] at H
    have c6b0 : decide (a0 < 0) = false := decide_eq_false c6
    clear c6
    (first | rw [c6b0] | (simp only [i64_w, i32_w]; rw [c6b0]) | skip)
    by_cases c7 : a0 > a1
    ·rw [if_pos c7] at H
     have c7b0 : decide (a1 < a0) = true := decide_eq_true c7
     clear c7
     have H' := Aside0.mk H
     clear H
     go_wp2
     go_meet
     case rel => exact ⟨_, (true), (by first | rfl | (simp; done) | (simp [*]; done)), H', ⟨by first | omega | exact Nat.le_refl _⟩, ⟨by (with_reducible repeat (first | refine blk_drewN ?_ _ | refine blk_drew ?_ | refine blk_alloc ?_ _)); exact BK2.out⟩, ⟨by (with_reducible repeat (first | refine blk_drewN ?_ _ | refine blk_drew ?_ | refine blk_alloc ?_ _)); exact BK3.out⟩, ⟨by repeat (first | (with_reducible first | exact HB.out | apply below_alloc | apply pw_below_drewN | apply below_drew1 | refine below_set ?_ GE2.out | refine below_set ?_ GE3.out) | exact HB.out)⟩⟩
    ·rw [if_neg c7] at H
     have c7b0 : decide (a1 < a0) = false := decide_eq_false c7
     clear c7
     by_cases c8 : a1 > 10000
     ·rw [if_pos c8] at H
      have c8b0 : decide (10000 < a1) = true := decide_eq_true c8
      clear c8
      have H' := Aside0.mk H
      clear H
      go_wp2
      go_meet
      case rel => exact ⟨_, (true), (by first | rfl | (simp; done) | (simp [*]; done)), H', ⟨by first | omega | exact Nat.le_refl _⟩, ⟨by (with_reducible repeat (first | refine blk_drewN ?_ _ | refine blk_drew ?_ | refine blk_alloc ?_ _)); exact BK2.out⟩, ⟨by (with_reducible repeat (first | refine blk_drewN ?_ _ | refine blk_drew ?_ | refine blk_alloc ?_ _)); exact BK3.out⟩, ⟨by repeat (first | (with_reducible first | exact HB.out | apply below_alloc | apply pw_below_drewN | apply below_drew1 | refine below_set ?_ GE2.out | refine below_set ?_ GE3.out) | exact HB.out)⟩⟩
     ·rw [if_neg c8] at H
      have c8b0 : decide (10000 < a1) = false := decide_eq_false c8
      clear c8
      have H' := Aside0.mk H
      clear H
      go_wp2
      go_meet
      case rel => exact ⟨_, (decide (a1 > (wrap64 (a0 + 100)))), (by first | rfl | (simp; done) | (simp [*]; done)), H', ⟨by first | omega | exact Nat.le_refl _⟩, ⟨by (with_reducible repeat (first | refine blk_drewN ?_ _ | refine blk_drew ?_ | refine blk_alloc ?_ _)); exact BK2.out⟩, ⟨by (with_reducible repeat (first | refine blk_drewN ?_ _ | refine blk_drew ?_ | refine blk_alloc ?_ _)); exact BK3.out⟩, ⟨by repeat (first | (with_reducible first | exact HB.out | apply below_alloc | apply pw_below_drewN | apply below_drew1 | refine below_set ?_ GE2.out | refine below_set ?_ GE3.out) | exact HB.out)⟩⟩
  case rest =>
   clear HC5
   try clear c2
   try clear p2
   try clear c6
   try clear c6b0
   try clear p6
   try clear c7
   try clear c7b0
   try clear c8
   try clear c8b0
   obtain ⟨kq, x25_4, rfl, HA, HJ4, BK2, BK3, HB⟩ := hcut
   cases kq with
   | zero => exact absurd HA.out (by simp [impl_firstSeed_at_impl_PlainSeed_1.j0])
   | succ kj4 =>
    have H := HA.out
    clear HA
    simp only [impl_firstSeed_at_impl_PlainSeed_1.j0] at H
    by_cases c9 : x25_4 = true
    ·subst c9
     have H1 : (some (0, false)) = some (r1, r2) := by rw [if_pos rfl] at H; exact H
     clear H
     have H := H1
     clear H1
     simp only [Option.some.injEq, Prod.mk.injEq] at H
     obtain ⟨rfl, rfl⟩ := H
     go_wp2
     go_ret2
     exact ⟨by first | rfl | (simp [errW_none, errW_some] <;> rfl) | (simp [*, errW_none, errW_some] <;> rfl), by repeat (first | (with_reducible first | exact HB.out | apply below_alloc | apply pw_below_drewN | apply below_drew1 | refine below_set ?_ GE2.out | refine below_set ?_ GE3.out) | exact HB.out)⟩
    ·replace c9 := Bool.eq_false_iff.mpr c9
     subst c9
     have H1 : (impl_firstSeed_at_impl_PlainSeed_1.l0 kj4 a1 a0 l2_0 a3_0) = some (r1, r2) := by rw [if_neg (show ¬ (false = true) by decide)] at H; exact H
     clear H
     have H := H1
     clear H1
     have H' := Aside0.mk H
     clear H
     go_wp2
     go_loopg [8] kj4 (fun kq v8 w' => ∃ (x8_2 : Int), v8 = .int .i64 x8_2 ∧ Aside0 (impl_firstSeed_at_impl_PlainSeed_1.l0 kq a1 x8_2 l2_0 a3_0 = some (r1, r2)) ∧ Aside0 (kq ≤ kj4) ∧ Aside0 (w'.heap[gb2_]? = some (.cells #[(.slice A2_0 l2_0.length c2_0)] 46 (0, 0))) ∧ Aside0 (w'.heap[gb3_]? = some (.cells #[.int .i64 a3_0] 3 (0, 0))) ∧ Aside0 (Below w.heap.size w w'))
     case atStart => exact ⟨(a0), (by first | rfl | (simp; done) | (simp [*]; done)), H', ⟨Nat.le_refl _⟩, ⟨by (with_reducible repeat (first | refine blk_drewN ?_ _ | refine blk_drew ?_ | refine blk_alloc ?_ _)); exact BK2.out⟩, ⟨by (with_reducible repeat (first | refine blk_drewN ?_ _ | refine blk_drew ?_ | refine blk_alloc ?_ _)); exact BK3.out⟩, ⟨by repeat (first | (with_reducible first | exact HB.out | apply below_alloc | apply pw_below_drewN | apply below_drew1 | refine below_set ?_ GE2.out | refine below_set ?_ GE3.out) | exact HB.out)⟩⟩
     case round =>
      clear H'
      try clear c2
      try clear p2
      try clear c6
      try clear c6b0
      try clear p6
      try clear c7
      try clear c7b0
      try clear c8
      try clear c8b0
      try clear c9
      try clear p2
      try clear p6
      obtain ⟨x8_2, rfl, HA, HK2, BK2, BK3, HB⟩ := hrel
      cases gk with
      | zero => exact absurd HA.out (by simp [impl_firstSeed_at_impl_PlainSeed_1.l0])
      | succ k2 =>
       have H := HA.out
       clear HA
       simp only [impl_firstSeed_at_impl_PlainSeed_1.l0] at H
       by_cases c10 : x8_2 < a1
       ·rw [if_pos c10] at H
        have c10b0 : decide (x8_2 < a1) = true := decide_eq_true c10
        clear c10
        replace H := Option.bind_eq_some_iff.mp H
        obtain ⟨t338, A110, H⟩ := H
        replace H : (if t338 = true then (some (x8_2, true)) else (impl_firstSeed_at_impl_PlainSeed_1.l0 k2 a1 (wrap64 (x8_2 + 1)) l2_0 a3_0)) = some (r1, r2) := H
        have A11 := Aside0.mk A110
        clear A110
        by_cases c12 : t338 = true
        ·subst c12
         have H1 : (some (x8_2, true)) = some (r1, r2) := by rw [if_pos rfl] at H; exact H
         clear H
         have H := H1
         clear H1
         simp only [Option.some.injEq, Prod.mk.injEq] at H
         obtain ⟨rfl, rfl⟩ := H
         go_wp2_with (first | (go_at_call 89; (with_reducible refine (impl_PlainSeed_1.calls k2 x8_2 gb2_ A2_0 c2_0 l2_0 gb3_ a3_0 true _ ?side1 ?side2 ?side3 ?side4 A11.out).mono ?_); (case side1 => repeat (first | exact (Kd.C_below HR2_0.out HB.out) | (with_reducible refine Kd.C_alloc ?_ _) | (with_reducible refine Kd.C_drewN ?_ _) | (with_reducible refine Kd.C_drew ?_))); (case side2 => exact HC2_0.out); (case side3 => exact (by (with_reducible repeat (first | refine blk_drewN ?_ _ | refine blk_drew ?_ | refine blk_alloc ?_ _)); exact BK2.out)); (case side4 => exact (by (with_reducible repeat (first | refine blk_drewN ?_ _ | refine blk_drew ?_ | refine blk_alloc ?_ _)); exact BK3.out)); rintro e w13 ⟨rfl, hb⟩; have n0_ := Aside0.mk (blk_below (g := gb2_) (o := .cells #[.slice A2_0 l2_0.length c2_0] 46 (0, 0)) (by (with_reducible repeat (first | refine blk_drewN ?_ _ | refine blk_drew ?_ | refine blk_alloc ?_ _)); exact BK2.out) hb); have n1_ := Aside0.mk (blk_below (g := gb3_) (o := .cells #[.int .i64 a3_0] 3 (0, 0)) (by (with_reducible repeat (first | refine blk_drewN ?_ _ | refine blk_drew ?_ | refine blk_alloc ?_ _)); exact BK3.out) hb); have n2_ := Aside0.mk (below_step (by repeat (first | (with_reducible first | exact HB.out | apply below_alloc | apply pw_below_drewN | apply below_drew1 | refine below_set ?_ GE2.out | refine below_set ?_ GE3.out) | exact HB.out)) hb); clear BK2; clear BK3; clear HB; have BK2 := n0_; have BK3 := n1_; have HB := n2_; clear n0_ n1_ n2_; (try clear hb); (try clear hb2); (try clear hk); (try clear hi)))
         go_ret2
         exact ⟨by first | rfl | (simp [errW_none, errW_some] <;> rfl) | (simp [*, errW_none, errW_some] <;> rfl), by repeat (first | (with_reducible first | exact HB.out | apply below_alloc | apply pw_below_drewN | apply below_drew1 | refine below_set ?_ GE2.out | refine below_set ?_ GE3.out) | exact HB.out)⟩
        ·replace c12 := Bool.eq_false_iff.mpr c12
         subst c12
         have H1 : (impl_firstSeed_at_impl_PlainSeed_1.l0 k2 a1 (wrap64 (x8_2 + 1)) l2_0 a3_0) = some (r1, r2) := by rw [if_neg (show ¬ (false = true) by decide)] at H; exact H
         clear H
         have H := H1
         clear H1
         have H' := Aside0.mk H
         clear H
         go_wp2_with (first | (go_at_call 89; (with_reducible refine (impl_PlainSeed_1.calls k2 x8_2 gb2_ A2_0 c2_0 l2_0 gb3_ a3_0 false _ ?side1 ?side2 ?side3 ?side4 A11.out).mono ?_); (case side1 => repeat (first | exact (Kd.C_below HR2_0.out HB.out) | (with_reducible refine Kd.C_alloc ?_ _) | (with_reducible refine Kd.C_drewN ?_ _) | (with_reducible refine Kd.C_drew ?_))); (case side2 => exact HC2_0.out); (case side3 => exact (by (with_reducible repeat (first | refine blk_drewN ?_ _ | refine blk_drew ?_ | refine blk_alloc ?_ _)); exact BK2.out)); (case side4 => exact (by (with_reducible repeat (first | refine blk_drewN ?_ _ | refine blk_drew ?_ | refine blk_alloc ?_ _)); exact BK3.out)); rintro e w14 ⟨rfl, hb⟩; have n0_ := Aside0.mk (blk_below (g := gb2_) (o := .cells #[.slice A2_0 l2_0.length c2_0] 46 (0, 0)) (by (with_reducible repeat (first | refine blk_drewN ?_ _ | refine blk_drew ?_ | refine blk_alloc ?_ _)); exact BK2.out) hb); have n1_ := Aside0.mk (blk_below (g := gb3_) (o := .cells #[.int .i64 a3_0] 3 (0, 0)) (by (with_reducible repeat (first | refine blk_drewN ?_ _ | refine blk_drew ?_ | refine blk_alloc ?_ _)); exact BK3.out) hb); have n2_ := Aside0.mk (below_step (by repeat (first | (with_reducible first | exact HB.out | apply below_alloc | apply pw_below_drewN | apply below_drew1 | refine below_set ?_ GE2.out | refine below_set ?_ GE3.out) | exact HB.out)) hb); clear BK2; clear BK3; clear HB; have BK2 := n0_; have BK3 := n1_; have HB := n2_; clear n0_ n1_ n2_; (try clear hb); (try clear hb2); (try clear hk); (try clear hi)))
         go_roundg k2
         case measure => have := HJ4.out; have := HK2.out; omega
         case rel => exact ⟨(wrap64 (x8_2 + 1)), (by first | rfl | (simp; done) | (simp [*]; done)), H', ⟨by have := HJ4.out; have := HK2.out; omega⟩, ⟨by (with_reducible repeat (first | refine blk_drewN ?_ _ | refine blk_drew ?_ | refine blk_alloc ?_ _)); exact BK2.out⟩, ⟨by (with_reducible repeat (first | refine blk_drewN ?_ _ | refine blk_drew ?_ | refine blk_alloc ?_ _)); exact BK3.out⟩, ⟨by repeat (first | (with_reducible first | exact HB.out | apply below_alloc | apply pw_below_drewN | apply below_drew1 | refine below_set ?_ GE2.out | refine below_set ?_ GE3.out) | exact HB.out)⟩⟩
       ·rw [if_neg c10] at H
        have c10b0 : decide (x8_2 < a1) = false := decide_eq_false c10
        clear c10
        simp only [Option.some.injEq, Prod.mk.injEq] at H
        obtain ⟨rfl, rfl⟩ := H
        go_wp2
        go_ret2
        exact ⟨by first | rfl | (simp [errW_none, errW_some] <;> rfl) | (simp [*, errW_none, errW_some] <;> rfl), by repeat (first | (with_reducible first | exact HB.out | apply below_alloc | apply pw_below_drewN | apply below_drew1 | refine below_set ?_ GE2.out | refine below_set ?_ GE3.out) | exact HB.out)⟩
/-! ### impl_PlainSeed: function 32 -/
def impl_PlainSeed.f (k : Nat) (l0 : List ByteArray) (a1 : Int) (a2 : Int) (a3 : Int) : Option (Int × Bool) := (impl_AreKeys.f k l0).bind fun t341 => (if t341 = true then ((impl_in.f a1 1 4096).bind fun t342 => (if t342 = true then ((impl_firstSeed_at_impl_PlainSeed_1.f k a2 a3 l0 a1).bind fun bt343 => (some (bt343.1, bt343.2))) else (some (0, false)))) else (some (0, false)))
theorem impl_PlainSeed.mono : ∀ a0 a1 a2 a3 k, LeO (impl_PlainSeed.f k a0 a1 a2 a3) (impl_PlainSeed.f (k + 1) a0 a1 a2 a3) := by
  intro a0 a1 a2 a3 k
  unfold impl_PlainSeed.f
  repeat' first
      | (with_reducible exact impl_AreKeys.mono _ _)
      | (with_reducible exact impl_firstSeed_at_impl_PlainSeed_1.mono _ _ _ _ _)
      | (with_reducible exact LeO.refl _)
      | (with_reducible exact LeO.none _)
      | (with_reducible refine LeO.ite ?_ ?_)
      | (with_reducible refine LeO.bind ?_ (fun _ => ?_))
      | exact impl_AreKeys.mono _ _
      | exact impl_firstSeed_at_impl_PlainSeed_1.mono _ _ _ _ _
      | exact LeO.none _
      | refine LeO.ite ?_ ?_
      | refine LeO.bind ?_ (fun _ => ?_)
noncomputable def impl_PlainSeed.F (l0 : List ByteArray) (a1 : Int) (a2 : Int) (a3 : Int) : Option (Int × Bool) := lim fun k => impl_PlainSeed.f k l0 a1 a2 a3
theorem impl_PlainSeed.F_sup (l0 : List ByteArray) (a1 : Int) (a2 : Int) (a3 : Int) : Sup (fun k => impl_PlainSeed.f k l0 a1 a2 a3) (impl_PlainSeed.F l0 a1 a2 a3) := Sup.of_mono fun k => impl_PlainSeed.mono l0 a1 a2 a3 k
theorem impl_PlainSeed.F_eq (l0 : List ByteArray) (a1 : Int) (a2 : Int) (a3 : Int) : impl_PlainSeed.F l0 a1 a2 a3 = (impl_AreKeys.F l0).bind fun t341 => (if t341 = true then ((impl_in.f a1 1 4096).bind fun t342 => (if t342 = true then ((impl_firstSeed_at_impl_PlainSeed_1.F a2 a3 l0 a1).bind fun bt343 => (some (bt343.1, bt343.2))) else (some (0, false)))) else (some (0, false))) := by
  refine Sup.unique (impl_PlainSeed.F_sup l0 a1 a2 a3) (Sup.congr (g' := fun k => (impl_AreKeys.f k l0).bind fun t341 => (if t341 = true then ((impl_in.f a1 1 4096).bind fun t342 => (if t342 = true then ((impl_firstSeed_at_impl_PlainSeed_1.f k a2 a3 l0 a1).bind fun bt343 => (some (bt343.1, bt343.2))) else (some (0, false)))) else (some (0, false)))) (fun k => by first | rfl | simp only [impl_PlainSeed.f]) ?_)
  repeat' first
    | (with_reducible exact impl_AreKeys.F_sup _)
    | (with_reducible exact impl_firstSeed_at_impl_PlainSeed_1.F_sup _ _ _ _)
    | (with_reducible refine Sup.ite ?_ ?_)
    | (with_reducible refine Sup.bind ?_ (fun _ => ?_))
    | (with_reducible exact Sup.const _)
    | exact impl_AreKeys.F_sup _
    | exact impl_firstSeed_at_impl_PlainSeed_1.F_sup _ _ _ _
    | exact Sup.const _
set_option maxHeartbeats 8000000 in
set_option maxRecDepth 100000 in
theorem impl_PlainSeed.calls (k : Nat) (A0 : Option Addr) (c0 : Nat) (l0 : List ByteArray) (a1 : Int) (a2 : Int) (a3 : Int) (r1 : Int) (r2 : Bool) (w : World) (hr0 : Kd.C Kd.string w A0 l0.length l0) (hc0 : l0.length ≤ c0) (h : impl_PlainSeed.f k l0 a1 a2 a3 = some (r1, r2)) :
    Calls Try.prog 32 #[.slice A0 l0.length c0, .int .i64 a1, .int .i64 a2, .int .i64 a3] w fun e w' => e = .returned (.tuple #[.int .i64 r1, .bool r2]) ∧ Below w.heap.size w w' := by
  have hu46 := Try.underlying46
  have HR0 := Aside0.mk hr0
  have HC0 := Aside0.mk hc0
  clear hr0 hc0
  have HB := Aside0.mk (Below.refl w.heap.size w)
  have H : ((impl_AreKeys.f k l0).bind fun t341 => (if t341 = true then ((impl_in.f a1 1 4096).bind fun t342 => (if t342 = true then ((impl_firstSeed_at_impl_PlainSeed_1.f k a2 a3 l0 a1).bind fun bt343 => (some (bt343.1, bt343.2))) else (some (0, false)))) else (some (0, false)))) = some (r1, r2) := h
  clear h
  replace H := Option.bind_eq_some_iff.mp H
  obtain ⟨t341, A50, H⟩ := H
  replace H : (if t341 = true then ((impl_in.f a1 1 4096).bind fun t342 => (if t342 = true then ((impl_firstSeed_at_impl_PlainSeed_1.f k a2 a3 l0 a1).bind fun bt343 => (some (bt343.1, bt343.2))) else (some (0, false)))) else (some (0, false))) = some (r1, r2) := H
  have A5 := Aside0.mk A50
  clear A50
  by_cases c6 : t341 = true
  ·subst c6
   have H1 : ((impl_in.f a1 1 4096).bind fun t342 => (if t342 = true then ((impl_firstSeed_at_impl_PlainSeed_1.f k a2 a3 l0 a1).bind fun bt343 => (some (bt343.1, bt343.2))) else (some (0, false)))) = some (r1, r2) := by rw [if_pos rfl] at H; exact H
   clear H
   have H := H1
   clear H1
   replace H := Option.bind_eq_some_iff.mp H
   obtain ⟨t342, A70, H⟩ := H
   replace H : (if t342 = true then ((impl_firstSeed_at_impl_PlainSeed_1.f k a2 a3 l0 a1).bind fun bt343 => (some (bt343.1, bt343.2))) else (some (0, false))) = some (r1, r2) := H
   have A7 := Aside0.mk A70
   clear A70
   by_cases c8 : t342 = true
   ·subst c8
    have H1 : ((impl_firstSeed_at_impl_PlainSeed_1.f k a2 a3 l0 a1).bind fun bt343 => (some (bt343.1, bt343.2))) = some (r1, r2) := by rw [if_pos rfl] at H; exact H
    clear H
    have H := H1
    clear H1
    replace H := Option.bind_eq_some_iff.mp H
    obtain ⟨⟨t343, t344⟩, A90, H⟩ := H
    replace H : (some (t343, t344)) = some (r1, r2) := H
    have A9 := Aside0.mk A90
    clear A90
    simp only [Option.some.injEq, Prod.mk.injEq] at H
    obtain ⟨rfl, rfl⟩ := H
    go_enter Try.func32, Try.ntmps32
    go_wp2_with (first | ((with_reducible refine gate_dst (N := 4) rfl ?_); refine box_event ?hg (N := 4) ?hd (cs := #[.slice A0 l0.length c0]) (t := 46) ?hr ?_; (case hd => rfl); (case hg => rfl); (case hr => first | (go_simp; done) | (go_simp; rfl)); intro gb339 hg w10 hbox hb; have n0_ := Aside0.mk (below_step (by repeat (first | (with_reducible first | exact HB.out | apply below_alloc | apply pw_below_drewN | apply below_drew1) | exact HB.out)) hb); have n1_ := Aside0.mk (hbox); have n2_ := Aside0.mk ((by rw [hg]; exact (below_size (by repeat (first | (with_reducible first | exact HB.out | apply below_alloc | apply pw_below_drewN | apply below_drew1) | exact HB.out))) : w.heap.size ≤ gb339)); have n3_ := Aside0.mk ((by rw [hg]; exact (below_size (by repeat (first | (with_reducible first | exact HB.out | apply below_alloc | apply pw_below_drewN | apply below_drew1) | exact HB.out))) : w.heap.size ≤ gb339)); clear HB; have HB := n0_; have BK339 := n1_; have GW339 := n2_; have GE339 := n3_; clear n0_ n1_ n2_ n3_; clear hb hbox hg) | ((with_reducible refine gate_dst (N := 5) rfl ?_); refine box_event ?hg (N := 5) ?hd (cs := #[.int .i64 a1]) (t := 3) ?hr ?_; (case hd => rfl); (case hg => rfl); (case hr => first | (go_simp; done) | (go_simp; rfl)); intro gb340 hg w11 hbox hb; have n0_ := Aside0.mk (blk_below (g := gb339) (o := .cells #[.slice A0 l0.length c0] 46 (0, 0)) (by (with_reducible repeat (first | refine blk_drewN ?_ _ | refine blk_drew ?_ | refine blk_alloc ?_ _)); exact BK339.out) hb); have n1_ := Aside0.mk (below_step (by repeat (first | (with_reducible first | exact HB.out | apply below_alloc | apply pw_below_drewN | apply below_drew1 | refine below_set ?_ GE339.out) | exact HB.out)) hb); have n2_ := Aside0.mk (hbox); have n3_ := Aside0.mk ((by rw [hg]; exact (below_size (by repeat (first | (with_reducible first | exact HB.out | apply below_alloc | apply pw_below_drewN | apply below_drew1 | refine below_set ?_ GE339.out) | exact HB.out))) : w.heap.size ≤ gb340)); have n4_ := Aside0.mk ((by rw [hg]; exact (below_size (by repeat (first | (with_reducible first | exact HB.out | apply below_alloc | apply pw_below_drewN | apply below_drew1 | refine below_set ?_ GE339.out) | exact HB.out))) : w.heap.size ≤ gb340)); have n5_ := Aside0.mk ((by rw [hg]; exact Nat.ne_of_lt (blk_lt (g := gb339) (o := .cells #[.slice A0 l0.length c0] 46 (0, 0)) (by (with_reducible repeat (first | refine blk_drewN ?_ _ | refine blk_drew ?_ | refine blk_alloc ?_ _)); exact BK339.out)) : gb339 ≠ gb340)); have n6_ := Aside0.mk ((by rw [hg]; exact Nat.ne_of_gt (blk_lt (g := gb339) (o := .cells #[.slice A0 l0.length c0] 46 (0, 0)) (by (with_reducible repeat (first | refine blk_drewN ?_ _ | refine blk_drew ?_ | refine blk_alloc ?_ _)); exact BK339.out)) : gb340 ≠ gb339)); clear BK339; clear HB; have BK339 := n0_; have HB := n1_; have BK340 := n2_; have GW340 := n3_; have GE340 := n4_; have NB339_340 := n5_; have NB340_339 := n6_; clear n0_ n1_ n2_ n3_ n4_ n5_ n6_; clear hb hbox hg; have hnb12 := NB339_340.out; have hnc12 := NB340_339.out; have hcz13_0 : w11.cell? ⟨gb339, 0, none⟩ = some (.slice A0 l0.length c0) := (blk_cell BK339.out 0).trans rfl; have hfz13_0 := blk_frozen BK339.out 0) | ((with_reducible refine gate_callee (f := 86) rfl ?_); refine goesL_ (some 11) rfl rfl Try.func86 (by kernel_rfl) rfl #[.slice A0 l0.length c0] rfl (by (try simp only [List.map_toArray, List.map_cons, List.map_nil]); first | done | rfl | (simp only [List.length_drop, List.length_take]; rfl)) ?_; (with_reducible refine (impl_AreKeys.calls k _ _ l0 true _ ?side1 ?side2 A5.out).mono ?_); (case side1 => repeat (first | exact (Kd.C_below HR0.out HB.out) | (with_reducible refine Kd.C_alloc ?_ _) | (with_reducible refine Kd.C_drewN ?_ _) | (with_reducible refine Kd.C_drew ?_))); (case side2 => exact HC0.out); rintro e w' ⟨rfl, ⟨nd, rfl⟩⟩; refine ⟨_, rfl, ?_⟩; have hcz14_0 : w11.cell? ⟨gb340, 0, none⟩ = some (.int .i64 a1) := (blk_cell BK340.out 0).trans rfl; have hfz14_0 := blk_frozen BK340.out 0) | (go_at_call 87; (with_reducible refine (impl_in.calls a1 1 4096 true _ A7.out).mono ?_); rintro e w' ⟨rfl, ⟨nd, rfl⟩⟩) | ((with_reducible refine gate_callee (f := 88) rfl ?_); refine goesL_ (some 21) rfl rfl Try.func88 (by kernel_rfl) rfl #[.int .i64 a2, .int .i64 a3, .func (.func 89) #[] #[.pointer (some ⟨gb339, 0, none⟩), .pointer (some ⟨gb340, 0, none⟩)]] rfl (by (try simp only [List.map_toArray, List.map_cons, List.map_nil]); first | done | rfl | (simp only [List.length_drop, List.length_take]; rfl)) ?_; (with_reducible refine (impl_firstSeed_at_impl_PlainSeed_1.calls k a2 a3 gb339 A0 c0 l0 gb340 a1 t343 t344 _ ?side1 ?side2 ?side3 ?side4 A9.out).mono ?_); (case side1 => repeat (first | exact (Kd.C_below HR0.out (by repeat (first | (with_reducible first | exact HB.out | apply below_alloc | apply pw_below_drewN | apply below_drew1 | refine below_set ?_ GE339.out | refine below_set ?_ GE340.out) | exact HB.out))) | (with_reducible refine Kd.C_alloc ?_ _) | (with_reducible refine Kd.C_drewN ?_ _) | (with_reducible refine Kd.C_drew ?_))); (case side2 => exact HC0.out); (case side3 => exact (by (with_reducible repeat (first | refine blk_drewN ?_ _ | refine blk_drew ?_ | refine blk_alloc ?_ _)); exact BK339.out)); (case side4 => exact (by (with_reducible repeat (first | refine blk_drewN ?_ _ | refine blk_drew ?_ | refine blk_alloc ?_ _)); exact BK340.out)); rintro e w15 ⟨rfl, hb⟩; refine ⟨_, rfl, ?_⟩; have n0_ := Aside0.mk (blk_below (g := gb339) (o := .cells #[.slice A0 l0.length c0] 46 (0, 0)) (by (with_reducible repeat (first | refine blk_drewN ?_ _ | refine blk_drew ?_ | refine blk_alloc ?_ _)); exact BK339.out) hb); have n1_ := Aside0.mk (blk_below (g := gb340) (o := .cells #[.int .i64 a1] 3 (0, 0)) (by (with_reducible repeat (first | refine blk_drewN ?_ _ | refine blk_drew ?_ | refine blk_alloc ?_ _)); exact BK340.out) hb); have n2_ := Aside0.mk (below_step (by repeat (first | (with_reducible first | exact HB.out | apply below_alloc | apply pw_below_drewN | apply below_drew1 | refine below_set ?_ GE339.out | refine below_set ?_ GE340.out) | exact HB.out)) hb); clear BK339; clear BK340; clear HB; have BK339 := n0_; have BK340 := n1_; have HB := n2_; clear n0_ n1_ n2_; (try clear hb); (try clear hb2); (try clear hk); (try clear hi)))
    go_ret2
    exact ⟨by first | rfl | (simp [errW_none, errW_some] <;> rfl) | (simp [*, errW_none, errW_some] <;> rfl), by repeat (first | (with_reducible first | exact HB.out | apply below_alloc | apply pw_below_drewN | apply below_drew1 | refine below_set ?_ GE339.out | refine below_set ?_ GE340.out) | exact HB.out)⟩
   ·replace c8 := Bool.eq_false_iff.mpr c8
    subst c8
    have H1 : (some (0, false)) = some (r1, r2) := by rw [if_neg (show ¬ (false = true) by decide)] at H; exact H
    clear H
    have H := H1
    clear H1
    simp only [Option.some.injEq, Prod.mk.injEq] at H
    obtain ⟨rfl, rfl⟩ := H
    go_enter Try.func32, Try.ntmps32
    go_wp2_with (first | ((with_reducible refine gate_dst (N := 4) rfl ?_); refine box_event ?hg (N := 4) ?hd (cs := #[.slice A0 l0.length c0]) (t := 46) ?hr ?_; (case hd => rfl); (case hg => rfl); (case hr => first | (go_simp; done) | (go_simp; rfl)); intro gb339 hg w16 hbox hb; have n0_ := Aside0.mk (below_step (by repeat (first | (with_reducible first | exact HB.out | apply below_alloc | apply pw_below_drewN | apply below_drew1) | exact HB.out)) hb); have n1_ := Aside0.mk (hbox); have n2_ := Aside0.mk ((by rw [hg]; exact (below_size (by repeat (first | (with_reducible first | exact HB.out | apply below_alloc | apply pw_below_drewN | apply below_drew1) | exact HB.out))) : w.heap.size ≤ gb339)); have n3_ := Aside0.mk ((by rw [hg]; exact (below_size (by repeat (first | (with_reducible first | exact HB.out | apply below_alloc | apply pw_below_drewN | apply below_drew1) | exact HB.out))) : w.heap.size ≤ gb339)); clear HB; have HB := n0_; have BK339 := n1_; have GW339 := n2_; have GE339 := n3_; clear n0_ n1_ n2_ n3_; clear hb hbox hg) | ((with_reducible refine gate_dst (N := 5) rfl ?_); refine box_event ?hg (N := 5) ?hd (cs := #[.int .i64 a1]) (t := 3) ?hr ?_; (case hd => rfl); (case hg => rfl); (case hr => first | (go_simp; done) | (go_simp; rfl)); intro gb340 hg w17 hbox hb; have n0_ := Aside0.mk (blk_below (g := gb339) (o := .cells #[.slice A0 l0.length c0] 46 (0, 0)) (by (with_reducible repeat (first | refine blk_drewN ?_ _ | refine blk_drew ?_ | refine blk_alloc ?_ _)); exact BK339.out) hb); have n1_ := Aside0.mk (below_step (by repeat (first | (with_reducible first | exact HB.out | apply below_alloc | apply pw_below_drewN | apply below_drew1 | refine below_set ?_ GE339.out) | exact HB.out)) hb); have n2_ := Aside0.mk (hbox); have n3_ := Aside0.mk ((by rw [hg]; exact (below_size (by repeat (first | (with_reducible first | exact HB.out | apply below_alloc | apply pw_below_drewN | apply below_drew1 | refine below_set ?_ GE339.out) | exact HB.out))) : w.heap.size ≤ gb340)); have n4_ := Aside0.mk ((by rw [hg]; exact (below_size (by repeat (first | (with_reducible first | exact HB.out | apply below_alloc | apply pw_below_drewN | apply below_drew1 | refine below_set ?_ GE339.out) | exact HB.out))) : w.heap.size ≤ gb340)); have n5_ := Aside0.mk ((by rw [hg]; exact Nat.ne_of_lt (blk_lt (g := gb339) (o := .cells #[.slice A0 l0.length c0] 46 (0, 0)) (by (with_reducible repeat (first | refine blk_drewN ?_ _ | refine blk_drew ?_ | refine blk_alloc ?_ _)); exact BK339.out)) : gb339 ≠ gb340)); have n6_ := Aside0.mk ((by rw [hg]; exact Nat.ne_of_gt (blk_lt (g := gb339) (o := .cells #[.slice A0 l0.length c0] 46 (0, 0)) (by (with_reducible repeat (first | refine blk_drewN ?_ _ | refine blk_drew ?_ | refine blk_alloc ?_ _)); exact BK339.out)) : gb340 ≠ gb339)); clear BK339; clear HB; have BK339 := n0_; have HB := n1_; have BK340 := n2_; have GW340 := n3_; have GE340 := n4_; have NB339_340 := n5_; have NB340_339 := n6_; clear n0_ n1_ n2_ n3_ n4_ n5_ n6_; clear hb hbox hg; have hnb18 := NB339_340.out; have hnc18 := NB340_339.out; have hcz19_0 : w17.cell? ⟨gb339, 0, none⟩ = some (.slice A0 l0.length c0) := (blk_cell BK339.out 0).trans rfl; have hfz19_0 := blk_frozen BK339.out 0) | ((with_reducible refine gate_callee (f := 86) rfl ?_); refine goesL_ (some 11) rfl rfl Try.func86 (by kernel_rfl) rfl #[.slice A0 l0.length c0] rfl (by (try simp only [List.map_toArray, List.map_cons, List.map_nil]); first | done | rfl | (simp only [List.length_drop, List.length_take]; rfl)) ?_; (with_reducible refine (impl_AreKeys.calls k _ _ l0 true _ ?side1 ?side2 A5.out).mono ?_); (case side1 => repeat (first | exact (Kd.C_below HR0.out HB.out) | (with_reducible refine Kd.C_alloc ?_ _) | (with_reducible refine Kd.C_drewN ?_ _) | (with_reducible refine Kd.C_drew ?_))); (case side2 => exact HC0.out); rintro e w' ⟨rfl, ⟨nd, rfl⟩⟩; refine ⟨_, rfl, ?_⟩; have hcz20_0 : w17.cell? ⟨gb340, 0, none⟩ = some (.int .i64 a1) := (blk_cell BK340.out 0).trans rfl; have hfz20_0 := blk_frozen BK340.out 0) | (go_at_call 87; (with_reducible refine (impl_in.calls a1 1 4096 false _ A7.out).mono ?_); rintro e w' ⟨rfl, ⟨nd, rfl⟩⟩))
    go_ret2
    exact ⟨by first | rfl | (simp [errW_none, errW_some] <;> rfl) | (simp [*, errW_none, errW_some] <;> rfl), by repeat (first | (with_reducible first | exact HB.out | apply below_alloc | apply pw_below_drewN | apply below_drew1 | refine below_set ?_ GE339.out | refine below_set ?_ GE340.out) | exact HB.out)⟩
  ·replace c6 := Bool.eq_false_iff.mpr c6
   subst c6
   have H1 : (some (0, false)) = some (r1, r2) := by rw [if_neg (show ¬ (false = true) by decide)] at H; exact H
   clear H
   have H := H1
   clear H1
   simp only [Option.some.injEq, Prod.mk.injEq] at H
   obtain ⟨rfl, rfl⟩ := H
   go_enter Try.func32, Try.ntmps32
   go_wp2_with (first | ((with_reducible refine gate_dst (N := 4) rfl ?_); refine box_event ?hg (N := 4) ?hd (cs := #[.slice A0 l0.length c0]) (t := 46) ?hr ?_; (case hd => rfl); (case hg => rfl); (case hr => first | (go_simp; done) | (go_simp; rfl)); intro gb339 hg w21 hbox hb; have n0_ := Aside0.mk (below_step (by repeat (first | (with_reducible first | exact HB.out | apply below_alloc | apply pw_below_drewN | apply below_drew1) | exact HB.out)) hb); have n1_ := Aside0.mk (hbox); have n2_ := Aside0.mk ((by rw [hg]; exact (below_size (by repeat (first | (with_reducible first | exact HB.out | apply below_alloc | apply pw_below_drewN | apply below_drew1) | exact HB.out))) : w.heap.size ≤ gb339)); have n3_ := Aside0.mk ((by rw [hg]; exact (below_size (by repeat (first | (with_reducible first | exact HB.out | apply below_alloc | apply pw_below_drewN | apply below_drew1) | exact HB.out))) : w.heap.size ≤ gb339)); clear HB; have HB := n0_; have BK339 := n1_; have GW339 := n2_; have GE339 := n3_; clear n0_ n1_ n2_ n3_; clear hb hbox hg) | ((with_reducible refine gate_dst (N := 5) rfl ?_); refine box_event ?hg (N := 5) ?hd (cs := #[.int .i64 a1]) (t := 3) ?hr ?_; (case hd => rfl); (case hg => rfl); (case hr => first | (go_simp; done) | (go_simp; rfl)); intro gb340 hg w22 hbox hb; have n0_ := Aside0.mk (blk_below (g := gb339) (o := .cells #[.slice A0 l0.length c0] 46 (0, 0)) (by (with_reducible repeat (first | refine blk_drewN ?_ _ | refine blk_drew ?_ | refine blk_alloc ?_ _)); exact BK339.out) hb); have n1_ := Aside0.mk (below_step (by repeat (first | (with_reducible first | exact HB.out | apply below_alloc | apply pw_below_drewN | apply below_drew1 | refine below_set ?_ GE339.out) | exact HB.out)) hb); have n2_ := Aside0.mk (hbox); have n3_ := Aside0.mk ((by rw [hg]; exact (below_size (by repeat (first | (with_reducible first | exact HB.out | apply below_alloc | apply pw_below_drewN | apply below_drew1 | refine below_set ?_ GE339.out) | exact HB.out))) : w.heap.size ≤ gb340)); have n4_ := Aside0.mk ((by rw [hg]; exact (below_size (by repeat (first | (with_reducible first | exact HB.out | apply below_alloc | apply pw_below_drewN | apply below_drew1 | refine below_set ?_ GE339.out) | exact HB.out))) : w.heap.size ≤ gb340)); have n5_ := Aside0.mk ((by rw [hg]; exact Nat.ne_of_lt (blk_lt (g := gb339) (o := .cells #[.slice A0 l0.length c0] 46 (0, 0)) (by (with_reducible repeat (first | refine blk_drewN ?_ _ | refine blk_drew ?_ | refine blk_alloc ?_ _)); exact BK339.out)) : gb339 ≠ gb340)); have n6_ := Aside0.mk ((by rw [hg]; exact Nat.ne_of_gt (blk_lt (g := gb339) (o := .cells #[.slice A0 l0.length c0] 46 (0, 0)) (by (with_reducible repeat (first | refine blk_drewN ?_ _ | refine blk_drew ?_ | refine blk_alloc ?_ _)); exact BK339.out)) : gb340 ≠ gb339)); clear BK339; clear HB; have BK339 := n0_; have HB := n1_; have BK340 := n2_; have GW340 := n3_; have GE340 := n4_; have NB339_340 := n5_; have NB340_339 := n6_; clear n0_ n1_ n2_ n3_ n4_ n5_ n6_; clear hb hbox hg; have hnb23 := NB339_340.out; have hnc23 := NB340_339.out; have hcz24_0 : w22.cell? ⟨gb339, 0, none⟩ = some (.slice A0 l0.length c0) := (blk_cell BK339.out 0).trans rfl; have hfz24_0 := blk_frozen BK339.out 0) | ((with_reducible refine gate_callee (f := 86) rfl ?_); refine goesL_ (some 11) rfl rfl Try.func86 (by kernel_rfl) rfl #[.slice A0 l0.length c0] rfl (by (try simp only [List.map_toArray, List.map_cons, List.map_nil]); first | done | rfl | (simp only [List.length_drop, List.length_take]; rfl)) ?_; (with_reducible refine (impl_AreKeys.calls k _ _ l0 false _ ?side1 ?side2 A5.out).mono ?_); (case side1 => repeat (first | exact (Kd.C_below HR0.out HB.out) | (with_reducible refine Kd.C_alloc ?_ _) | (with_reducible refine Kd.C_drewN ?_ _) | (with_reducible refine Kd.C_drew ?_))); (case side2 => exact HC0.out); rintro e w' ⟨rfl, ⟨nd, rfl⟩⟩; refine ⟨_, rfl, ?_⟩))
   go_ret2
   exact ⟨by first | rfl | (simp [errW_none, errW_some] <;> rfl) | (simp [*, errW_none, errW_some] <;> rfl), by repeat (first | (with_reducible first | exact HB.out | apply below_alloc | apply pw_below_drewN | apply below_drew1 | refine below_set ?_ GE339.out | refine below_set ?_ GE340.out) | exact HB.out)⟩
/-! ### laws_FnExactPlainSeed: function 5 -/
def laws_FnExactPlainSeed.f (k : Nat) (l0 : List ByteArray) (a1 : Int) (a2 : Int) (a3 : Int) : Option (Bool) := (laws_szStringS.f k l0 1048576).bind fun t347 => (if t347 < 0 then (some true) else ((laws_toStringS.f k l0).bind fun t348 => ((spec_PlainSeed.f k t348 a1 a2 a3).bind fun bt351 => ((laws_toStringS.f k l0).bind fun t353 => ((impl_PlainSeed.f k t353 a1 a2 a3).bind fun bt356 => (if bt356.1 = bt351.1 then (if (bt356.2 != bt351.2) = true then (none) else ((laws_toStringS.f k l0).bind fun t358 => ((laws_eqStringS.f k t353 t358).bind fun t361 => (if t361 = true then (some true) else (none))))) else (none)))))))
theorem laws_FnExactPlainSeed.mono : ∀ a0 a1 a2 a3 k, LeO (laws_FnExactPlainSeed.f k a0 a1 a2 a3) (laws_FnExactPlainSeed.f (k + 1) a0 a1 a2 a3) := by
  intro a0 a1 a2 a3 k
  unfold laws_FnExactPlainSeed.f
  repeat' first
      | (with_reducible exact impl_PlainSeed.mono _ _ _ _ _)
      | (with_reducible exact laws_eqStringS.mono _ _ _)
      | (with_reducible exact laws_szStringS.mono _ _ _)
      | (with_reducible exact laws_toStringS.mono _ _)
      | (with_reducible exact spec_PlainSeed.mono _ _ _ _ _)
      | (with_reducible exact LeO.refl _)
      | (with_reducible exact LeO.none _)
      | (with_reducible refine LeO.ite ?_ ?_)
      | (with_reducible refine LeO.bind ?_ (fun _ => ?_))
      | exact impl_PlainSeed.mono _ _ _ _ _
      | exact laws_eqStringS.mono _ _ _
      | exact laws_szStringS.mono _ _ _
      | exact laws_toStringS.mono _ _
      | exact spec_PlainSeed.mono _ _ _ _ _
      | exact LeO.none _
      | refine LeO.ite ?_ ?_
      | refine LeO.bind ?_ (fun _ => ?_)
noncomputable def laws_FnExactPlainSeed.F (l0 : List ByteArray) (a1 : Int) (a2 : Int) (a3 : Int) : Option (Bool) := lim fun k => laws_FnExactPlainSeed.f k l0 a1 a2 a3
theorem laws_FnExactPlainSeed.F_sup (l0 : List ByteArray) (a1 : Int) (a2 : Int) (a3 : Int) : Sup (fun k => laws_FnExactPlainSeed.f k l0 a1 a2 a3) (laws_FnExactPlainSeed.F l0 a1 a2 a3) := Sup.of_mono fun k => laws_FnExactPlainSeed.mono l0 a1 a2 a3 k
theorem laws_FnExactPlainSeed.F_eq (l0 : List ByteArray) (a1 : Int) (a2 : Int) (a3 : Int) : laws_FnExactPlainSeed.F l0 a1 a2 a3 = (laws_szStringS.F l0 1048576).bind fun t347 => (if t347 < 0 then (some true) else ((laws_toStringS.F l0).bind fun t348 => ((spec_PlainSeed.F t348 a1 a2 a3).bind fun bt351 => ((laws_toStringS.F l0).bind fun t353 => ((impl_PlainSeed.F t353 a1 a2 a3).bind fun bt356 => (if bt356.1 = bt351.1 then (if (bt356.2 != bt351.2) = true then (none) else ((laws_toStringS.F l0).bind fun t358 => ((laws_eqStringS.F t353 t358).bind fun t361 => (if t361 = true then (some true) else (none))))) else (none))))))) := by
  refine Sup.unique (laws_FnExactPlainSeed.F_sup l0 a1 a2 a3) (Sup.congr (g' := fun k => (laws_szStringS.f k l0 1048576).bind fun t347 => (if t347 < 0 then (some true) else ((laws_toStringS.f k l0).bind fun t348 => ((spec_PlainSeed.f k t348 a1 a2 a3).bind fun bt351 => ((laws_toStringS.f k l0).bind fun t353 => ((impl_PlainSeed.f k t353 a1 a2 a3).bind fun bt356 => (if bt356.1 = bt351.1 then (if (bt356.2 != bt351.2) = true then (none) else ((laws_toStringS.f k l0).bind fun t358 => ((laws_eqStringS.f k t353 t358).bind fun t361 => (if t361 = true then (some true) else (none))))) else (none)))))))) (fun k => by first | rfl | simp only [laws_FnExactPlainSeed.f]) ?_)
  repeat' first
    | (with_reducible exact laws_szStringS.F_sup _ _)
    | (with_reducible exact spec_PlainSeed.F_sup _ _ _ _)
    | (with_reducible exact laws_toStringS.F_sup _)
    | (with_reducible exact impl_PlainSeed.F_sup _ _ _ _)
    | (with_reducible exact laws_eqStringS.F_sup _ _)
    | (with_reducible refine Sup.ite ?_ ?_)
    | (with_reducible refine Sup.bind ?_ (fun _ => ?_))
    | (with_reducible exact Sup.const _)
    | exact laws_szStringS.F_sup _ _
    | exact spec_PlainSeed.F_sup _ _ _ _
    | exact laws_toStringS.F_sup _
    | exact impl_PlainSeed.F_sup _ _ _ _
    | exact laws_eqStringS.F_sup _ _
    | exact Sup.const _
set_option maxHeartbeats 8000000 in
set_option maxRecDepth 100000 in
theorem laws_FnExactPlainSeed.calls (k : Nat) (A0 : Option Addr) (c0 : Nat) (l0 : List ByteArray) (a1 : Int) (a2 : Int) (a3 : Int) (r : Bool) (w : World) (hr0 : Kd.C Kd.string w A0 l0.length l0) (hc0 : l0.length ≤ c0) (h : laws_FnExactPlainSeed.f k l0 a1 a2 a3 = some r) :
    Calls Try.prog 5 #[.slice A0 l0.length c0, .int .i64 a1, .int .i64 a2, .int .i64 a3] w fun e w' => e = .returned (.bool r) ∧ Below w.heap.size w w' := by
  have HR0 := Aside0.mk hr0
  have HC0 := Aside0.mk hc0
  clear hr0 hc0
  have HB := Aside0.mk (Below.refl w.heap.size w)
  have H : ((laws_szStringS.f k l0 1048576).bind fun t347 => (if t347 < 0 then (some true) else ((laws_toStringS.f k l0).bind fun t348 => ((spec_PlainSeed.f k t348 a1 a2 a3).bind fun bt351 => ((laws_toStringS.f k l0).bind fun t353 => ((impl_PlainSeed.f k t353 a1 a2 a3).bind fun bt356 => (if bt356.1 = bt351.1 then (if (bt356.2 != bt351.2) = true then (none) else ((laws_toStringS.f k l0).bind fun t358 => ((laws_eqStringS.f k t353 t358).bind fun t361 => (if t361 = true then (some true) else (none))))) else (none)))))))) = some r := h
  clear h
  replace H := Option.bind_eq_some_iff.mp H
  obtain ⟨t347, A50, H⟩ := H
  replace H : (if t347 < 0 then (some true) else ((laws_toStringS.f k l0).bind fun t348 => ((spec_PlainSeed.f k t348 a1 a2 a3).bind fun bt351 => ((laws_toStringS.f k l0).bind fun t353 => ((impl_PlainSeed.f k t353 a1 a2 a3).bind fun bt356 => (if bt356.1 = bt351.1 then (if (bt356.2 != bt351.2) = true then (none) else ((laws_toStringS.f k l0).bind fun t358 => ((laws_eqStringS.f k t353 t358).bind fun t361 => (if t361 = true then (some true) else (none))))) else (none))))))) = some r := H
  have A5 := Aside0.mk A50
  clear A50
  by_cases c6 : t347 < 0
  ·rw [if_pos c6] at H
   have c6b0 : decide (t347 < 0) = true := decide_eq_true c6
   clear c6
   obtain rfl := Option.some.inj H
   go_enter Try.func5, Try.ntmps5
   go_wp2_with (first | ((with_reducible refine gate_callee (f := 29) rfl ?_); refine goesL_ (some 17) rfl rfl Try.func29 (by kernel_rfl) rfl #[.slice A0 l0.length c0, .int .i64 1048576] rfl (by (try simp only [List.map_toArray, List.map_cons, List.map_nil]); first | done | rfl | (simp only [List.length_drop, List.length_take]; rfl)) ?_; (with_reducible refine (laws_szStringS.calls k _ _ l0 1048576 t347 _ ?side1 ?side2 A5.out).mono ?_); (case side1 => repeat (first | exact HR0.out | (with_reducible refine Kd.C_alloc ?_ _) | (with_reducible refine Kd.C_drewN ?_ _) | (with_reducible refine Kd.C_drew ?_))); (case side2 => exact HC0.out); rintro e w' ⟨rfl, ⟨nd, rfl⟩⟩; refine ⟨_, rfl, ?_⟩))
   go_ret
   exact ⟨by first | rfl | (simp [errW_none, errW_some] <;> rfl) | (simp [*, errW_none, errW_some] <;> rfl), by repeat (first | (with_reducible first | exact HB.out | apply below_alloc | apply pw_below_drewN | apply below_drew1) | exact HB.out)⟩
  ·rw [if_neg c6] at H
   have c6b0 : decide (t347 < 0) = false := decide_eq_false c6
   clear c6
   replace H := Option.bind_eq_some_iff.mp H
   obtain ⟨t348, A70, H⟩ := H
   replace H : ((spec_PlainSeed.f k t348 a1 a2 a3).bind fun bt351 => ((laws_toStringS.f k l0).bind fun t353 => ((impl_PlainSeed.f k t353 a1 a2 a3).bind fun bt356 => (if bt356.1 = bt351.1 then (if (bt356.2 != bt351.2) = true then (none) else ((laws_toStringS.f k l0).bind fun t358 => ((laws_eqStringS.f k t353 t358).bind fun t361 => (if t361 = true then (some true) else (none))))) else (none))))) = some r := H
   have A7 := Aside0.mk A70
   clear A70
   replace H := Option.bind_eq_some_iff.mp H
   obtain ⟨⟨t351, t352⟩, A80, H⟩ := H
   replace H : ((laws_toStringS.f k l0).bind fun t353 => ((impl_PlainSeed.f k t353 a1 a2 a3).bind fun bt356 => (if bt356.1 = t351 then (if (bt356.2 != t352) = true then (none) else ((laws_toStringS.f k l0).bind fun t358 => ((laws_eqStringS.f k t353 t358).bind fun t361 => (if t361 = true then (some true) else (none))))) else (none)))) = some r := H
   have A8 := Aside0.mk A80
   clear A80
   replace H := Option.bind_eq_some_iff.mp H
   obtain ⟨t353, A90, H⟩ := H
   replace H : ((impl_PlainSeed.f k t353 a1 a2 a3).bind fun bt356 => (if bt356.1 = t351 then (if (bt356.2 != t352) = true then (none) else ((laws_toStringS.f k l0).bind fun t358 => ((laws_eqStringS.f k t353 t358).bind fun t361 => (if t361 = true then (some true) else (none))))) else (none))) = some r := H
   have A9 := Aside0.mk A90
   clear A90
   replace H := Option.bind_eq_some_iff.mp H
   obtain ⟨⟨t356, t357⟩, A100, H⟩ := H
   replace H : (if t356 = t351 then (if (t357 != t352) = true then (none) else ((laws_toStringS.f k l0).bind fun t358 => ((laws_eqStringS.f k t353 t358).bind fun t361 => (if t361 = true then (some true) else (none))))) else (none)) = some r := H
   have A10 := Aside0.mk A100
   clear A100
   by_cases c11 : t356 = t351
   ·rw [if_pos c11] at H
    have c11b0 : (t356 == t351) = true := beq_iff_eq.mpr c11
    have c11b1 : (t356 != t351) = false := bne_eq_false_iff_eq.mpr c11
    clear c11
    by_cases c12 : (t357 != t352) = true
    ·rw [if_pos c12] at H
     exact absurd H (by simp)
    ·rw [if_neg c12] at H
     have c12b0 : (t357 != t352) = false := by simpa using c12
     (try (have c12b1 : decide (t357 = t352) = true := by simpa using c12))
     (try (have c12b2 : (t357 == t352) = true := by simpa using c12))
     clear c12
     replace H := Option.bind_eq_some_iff.mp H
     obtain ⟨t358, A130, H⟩ := H
     replace H : ((laws_eqStringS.f k t353 t358).bind fun t361 => (if t361 = true then (some true) else (none))) = some r := H
     have A13 := Aside0.mk A130
     clear A130
     replace H := Option.bind_eq_some_iff.mp H
     obtain ⟨t361, A140, H⟩ := H
     replace H : (if t361 = true then (some true) else (none)) = some r := H
     have A14 := Aside0.mk A140
     clear A140
     by_cases c15 : t361 = true
     ·subst c15
      have H1 : (some true) = some r := by rw [if_pos rfl] at H; exact H
      clear H
      have H := H1
      clear H1
      obtain rfl := Option.some.inj H
      go_enter Try.func5, Try.ntmps5
      go_wp2_with (first | ((with_reducible refine gate_callee (f := 29) rfl ?_); refine goesL_ (some 17) rfl rfl Try.func29 (by kernel_rfl) rfl #[.slice A0 l0.length c0, .int .i64 1048576] rfl (by (try simp only [List.map_toArray, List.map_cons, List.map_nil]); first | done | rfl | (simp only [List.length_drop, List.length_take]; rfl)) ?_; (with_reducible refine (laws_szStringS.calls k _ _ l0 1048576 t347 _ ?side1 ?side2 A5.out).mono ?_); (case side1 => repeat (first | exact HR0.out | (with_reducible refine Kd.C_alloc ?_ _) | (with_reducible refine Kd.C_drewN ?_ _) | (with_reducible refine Kd.C_drew ?_))); (case side2 => exact HC0.out); rintro e w' ⟨rfl, ⟨nd, rfl⟩⟩; refine ⟨_, rfl, ?_⟩) | ((with_reducible refine gate_callee (f := 31) rfl ?_); refine goesL_ (some 22) rfl rfl Try.func31 (by kernel_rfl) rfl #[.slice A0 l0.length c0] rfl (by (try simp only [List.map_toArray, List.map_cons, List.map_nil]); first | done | rfl | (simp only [List.length_drop, List.length_take]; rfl)) ?_; (with_reducible refine (laws_toStringS.calls k _ _ l0 t348 _ ?side1 ?side2 A7.out).mono ?_); (case side1 => repeat (first | exact HR0.out | (with_reducible refine Kd.C_alloc ?_ _) | (with_reducible refine Kd.C_drewN ?_ _) | (with_reducible refine Kd.C_drew ?_))); (case side2 => exact HC0.out); rintro e w16 ⟨v349, rfl, ho0, hb⟩; refine ⟨_, rfl, ?_⟩; have n0_ := Aside0.mk (Kd.R_lower ho0 (below_size (by repeat (first | (with_reducible first | exact HB.out | apply below_alloc | apply pw_below_drewN | apply below_drew1) | exact HB.out)))); have n1_ := Aside0.mk (below_step (by repeat (first | (with_reducible first | exact HB.out | apply below_alloc | apply pw_below_drewN | apply below_drew1) | exact HB.out)) hb); clear HB; have HO350 := n0_; have HB := n1_; clear n0_ n1_; (try clear hb); (try clear hb2); (try clear hk); (try clear hi); (try clear ho0); obtain ⟨Ao17, co17, eo17⟩ := Kd.R_slice HO350.out; subst eo17) | ((with_reducible refine gate_callee (f := 30) rfl ?_); refine goesL_ (some 26) rfl rfl Try.func30 (by kernel_rfl) rfl #[.slice Ao17 t348.length co17, .int .i64 a1, .int .i64 a2, .int .i64 a3] rfl (by (try simp only [List.map_toArray, List.map_cons, List.map_nil]); first | done | rfl | (simp only [List.length_drop, List.length_take]; rfl)) ?_; (with_reducible refine (spec_PlainSeed.calls k _ _ t348 a1 a2 a3 t351 t352 _ ?side1 ?side2 A8.out).mono ?_); (case side1 => repeat (first | exact (Kd.R_reads' HO350.out).2.2 | (with_reducible refine Kd.C_alloc ?_ _) | (with_reducible refine Kd.C_drewN ?_ _) | (with_reducible refine Kd.C_drew ?_))); (case side2 => exact (Kd.R_reads' HO350.out).2.1); rintro e w18 ⟨rfl, hb⟩; refine ⟨_, rfl, ?_⟩; have n0_ := Aside0.mk (Kd.R_below (by (with_reducible repeat (first | apply Kd.R_alloc | apply Kd.R_drewN | apply Kd.R_drew)); exact HO350.out) hb); have n1_ := Aside0.mk (below_step (by repeat (first | (with_reducible first | exact HB.out | apply below_alloc | apply pw_below_drewN | apply below_drew1) | exact HB.out)) hb); clear HO350; clear HB; have HO350 := n0_; have HB := n1_; clear n0_ n1_; (try clear hb); (try clear hb2); (try clear hk); (try clear hi)) | ((with_reducible refine gate_callee (f := 31) rfl ?_); refine goesL_ (some 30) rfl rfl Try.func31 (by kernel_rfl) rfl #[.slice A0 l0.length c0] rfl (by (try simp only [List.map_toArray, List.map_cons, List.map_nil]); first | done | rfl | (simp only [List.length_drop, List.length_take]; rfl)) ?_; (with_reducible refine (laws_toStringS.calls k _ _ l0 t353 _ ?side1 ?side2 A9.out).mono ?_); (case side1 => repeat (first | exact (Kd.C_below HR0.out HB.out) | (with_reducible refine Kd.C_alloc ?_ _) | (with_reducible refine Kd.C_drewN ?_ _) | (with_reducible refine Kd.C_drew ?_))); (case side2 => exact HC0.out); rintro e w19 ⟨v354, rfl, ho0, hb⟩; refine ⟨_, rfl, ?_⟩; have n0_ := Aside0.mk (Kd.R_elder' (by (with_reducible repeat (first | apply Kd.R_alloc | apply Kd.R_drewN | apply Kd.R_drew)); exact HO350.out) (Kd.R_base ho0) hb); have n1_ := Aside0.mk (Kd.R_lower (Kd.R_new' ho0 (Kd.R_lt (by (with_reducible repeat (first | apply Kd.R_alloc | apply Kd.R_drewN | apply Kd.R_drew)); exact HO350.out))) (below_size (by repeat (first | (with_reducible first | exact HB.out | apply below_alloc | apply pw_below_drewN | apply below_drew1) | exact HB.out)))); have n2_ := Aside0.mk (below_step (by repeat (first | (with_reducible first | exact HB.out | apply below_alloc | apply pw_below_drewN | apply below_drew1) | exact HB.out)) hb); clear HO350; clear HB; have HO350 := n0_; have HO355 := n1_; have HB := n2_; clear n0_ n1_ n2_; (try clear hb); (try clear hb2); (try clear hk); (try clear hi); (try clear ho0); obtain ⟨Ao20, co20, eo20⟩ := Kd.R_slice HO355.out; subst eo20) | ((with_reducible refine gate_callee (f := 32) rfl ?_); refine goesL_ (some 36) rfl rfl Try.func32 (by kernel_rfl) rfl #[.slice Ao20 t353.length co20, .int .i64 a1, .int .i64 a2, .int .i64 a3] rfl (by (try simp only [List.map_toArray, List.map_cons, List.map_nil]); first | done | rfl | (simp only [List.length_drop, List.length_take]; rfl)) ?_; (with_reducible refine (impl_PlainSeed.calls k _ _ t353 a1 a2 a3 t356 t357 _ ?side1 ?side2 A10.out).mono ?_); (case side1 => repeat (first | exact (Kd.R_reads' HO355.out).2.2 | (with_reducible refine Kd.C_alloc ?_ _) | (with_reducible refine Kd.C_drewN ?_ _) | (with_reducible refine Kd.C_drew ?_))); (case side2 => exact (Kd.R_reads' HO355.out).2.1); rintro e w21 ⟨rfl, hb⟩; refine ⟨_, rfl, ?_⟩; have n0_ := Aside0.mk (Kd.R_below (by (with_reducible repeat (first | apply Kd.R_alloc | apply Kd.R_drewN | apply Kd.R_drew)); exact HO350.out) hb); have n1_ := Aside0.mk (Kd.R_below (by (with_reducible repeat (first | apply Kd.R_alloc | apply Kd.R_drewN | apply Kd.R_drew)); exact HO355.out) hb); have n2_ := Aside0.mk (below_step (by repeat (first | (with_reducible first | exact HB.out | apply below_alloc | apply pw_below_drewN | apply below_drew1) | exact HB.out)) hb); clear HO350; clear HO355; clear HB; have HO350 := n0_; have HO355 := n1_; have HB := n2_; clear n0_ n1_ n2_; (try clear hb); (try clear hb2); (try clear hk); (try clear hi)) | ((with_reducible refine gate_callee (f := 31) rfl ?_); refine goesL_ (some 49) rfl rfl Try.func31 (by kernel_rfl) rfl #[.slice A0 l0.length c0] rfl (by (try simp only [List.map_toArray, List.map_cons, List.map_nil]); first | done | rfl | (simp only [List.length_drop, List.length_take]; rfl)) ?_; (with_reducible refine (laws_toStringS.calls k _ _ l0 t358 _ ?side1 ?side2 A13.out).mono ?_); (case side1 => repeat (first | exact (Kd.C_below HR0.out HB.out) | (with_reducible refine Kd.C_alloc ?_ _) | (with_reducible refine Kd.C_drewN ?_ _) | (with_reducible refine Kd.C_drew ?_))); (case side2 => exact HC0.out); rintro e w22 ⟨v359, rfl, ho0, hb⟩; refine ⟨_, rfl, ?_⟩; have n0_ := Aside0.mk (Kd.R_elder' (by (with_reducible repeat (first | apply Kd.R_alloc | apply Kd.R_drewN | apply Kd.R_drew)); exact HO350.out) (Kd.R_base ho0) hb); have n1_ := Aside0.mk (Kd.R_elder' (by (with_reducible repeat (first | apply Kd.R_alloc | apply Kd.R_drewN | apply Kd.R_drew)); exact HO355.out) (Kd.R_base ho0) hb); have n2_ := Aside0.mk (Kd.R_lower (Kd.R_new' (Kd.R_new' ho0 (Kd.R_lt (by (with_reducible repeat (first | apply Kd.R_alloc | apply Kd.R_drewN | apply Kd.R_drew)); exact HO350.out))) (Kd.R_lt (by (with_reducible repeat (first | apply Kd.R_alloc | apply Kd.R_drewN | apply Kd.R_drew)); exact HO355.out))) (below_size (by repeat (first | (with_reducible first | exact HB.out | apply below_alloc | apply pw_below_drewN | apply below_drew1) | exact HB.out)))); have n3_ := Aside0.mk (below_step (by repeat (first | (with_reducible first | exact HB.out | apply below_alloc | apply pw_below_drewN | apply below_drew1) | exact HB.out)) hb); clear HO350; clear HO355; clear HB; have HO350 := n0_; have HO355 := n1_; have HO360 := n2_; have HB := n3_; clear n0_ n1_ n2_ n3_; (try clear hb); (try clear hb2); (try clear hk); (try clear hi); (try clear ho0); obtain ⟨Ao23, co23, eo23⟩ := Kd.R_slice HO360.out; subst eo23) | ((with_reducible refine gate_callee (f := 33) rfl ?_); refine goesL_ (some 50) rfl rfl Try.func33 (by kernel_rfl) rfl #[.slice Ao20 t353.length co20, .slice Ao23 t358.length co23] rfl (by (try simp only [List.map_toArray, List.map_cons, List.map_nil]); first | done | rfl | (simp only [List.length_drop, List.length_take]; rfl)) ?_; (with_reducible refine (laws_eqStringS.calls k _ _ t353 _ _ t358 true _ ?side1 ?side2 ?side3 ?side4 A14.out).mono ?_); (case side1 => repeat (first | exact (Kd.R_reads' HO355.out).2.2 | (with_reducible refine Kd.C_alloc ?_ _) | (with_reducible refine Kd.C_drewN ?_ _) | (with_reducible refine Kd.C_drew ?_))); (case side2 => exact (Kd.R_reads' HO355.out).2.1); (case side3 => repeat (first | exact (Kd.R_reads' HO360.out).2.2 | (with_reducible refine Kd.C_alloc ?_ _) | (with_reducible refine Kd.C_drewN ?_ _) | (with_reducible refine Kd.C_drew ?_))); (case side4 => exact (Kd.R_reads' HO360.out).2.1); rintro e w' ⟨rfl, ⟨nd, rfl⟩⟩; refine ⟨_, rfl, ?_⟩))
      go_ret
      exact ⟨by first | rfl | (simp [errW_none, errW_some] <;> rfl) | (simp [*, errW_none, errW_some] <;> rfl), by repeat (first | (with_reducible first | exact HB.out | apply below_alloc | apply pw_below_drewN | apply below_drew1) | exact HB.out)⟩
     ·replace c15 := Bool.eq_false_iff.mpr c15
      subst c15
      have H1 : (none) = some r := by rw [if_neg (show ¬ (false = true) by decide)] at H; exact H
      clear H
      have H := H1
      clear H1
      exact absurd H (by simp)
   ·rw [if_neg c11] at H
    exact absurd H (by simp)

/-- What is to be shown of laws_FnExactPlainSeed: plain. -/
def laws_FnExactPlainSeed.Pure : Prop := ∀ (l0 : List ByteArray) (a1 : Int) (a2 : Int) (a3 : Int), (wfL wfS) l0 → (wfI .i64) a1 → (wfI .i64) a2 → (wfI .i64) a3 → ∃ k, laws_FnExactPlainSeed.f k l0 a1 a2 a3 = some true
theorem laws_FnExactPlainSeed.walk (P : laws_FnExactPlainSeed.Pure) (A0 : Option Addr) (c0 : Nat) (l0 : List ByteArray) (a1 : Int) (a2 : Int) (a3 : Int) (w : World) (hr0 : Kd.C Kd.string w A0 l0.length l0) (hc0 : l0.length ≤ c0) (hw0 : (wfL wfS) l0) (hw1 : (wfI .i64) a1) (hw2 : (wfI .i64) a2) (hw3 : (wfI .i64) a3) :
    Calls Try.prog 5 #[.slice A0 l0.length c0, .int .i64 a1, .int .i64 a2, .int .i64 a3] w fun e w' => e = .returned (.bool true) ∧ Below w.heap.size w w' := by
  obtain ⟨k, h⟩ := P l0 a1 a2 a3 hw0 hw1 hw2 hw3
  refine (laws_FnExactPlainSeed.calls k A0 c0 l0 a1 a2 a3 true w hr0 hc0 h).mono ?_
  rintro e w' ⟨rfl, hd⟩
  exact ⟨rfl, hd⟩
end Go.Proofs.Ytioncjcmfbndmaa.X
