/- Written by a program of this session: what functions of the given program compute, and that their calls do so. -/
import Derived.Test.YtioncjcmfbndmaaXx0
import Derived.Test.YtioncjcmfbndmaaXg110a
import Derived.Test.YtioncjcmfbndmaaXg710a
import Derived.Test.YtioncjcmfbndmaaXg7b9a
import Derived.Test.YtioncjcmfbndmaaXg900a
import Derived.Test.YtioncjcmfbndmaaXg952a
import Derived.Test.YtioncjcmfbndmaaXgffba
namespace Go.Proofs.Ytioncjcmfbndmaa.X
open Go.RowKit Go.Proofs.YtioncjcmfbndmaaW.PrintWords Go.Proofs.YtioncjcmfbndmaaW.PrintLast Go.Proofs.YtioncjcmfbndmaaW.PrintMore
attribute [local go_sem] max2_int min2_int max_two min_two max_three min_three max_four min_four   -- for this text's walks alone
set_option linter.unusedVariables false
set_option linter.unusedSimpArgs false
/-! ### spec_pfBuckets: function 109 -/
def spec_pfBuckets.l0 : Nat → Int → Int → List (List Int) → List ByteArray → Int → Int → Option ((List (List Int)))
  | 0, _, _, _, _, _, _ => none
  | k + 1, x0, x2, x7, x14, x15, x16 => if x16 < x15 then (if 0 ≤ x16 then (if x16 < (x14.length : Int) then ((spec_biPlace.f k x0 0 (rdOf ByteArray.empty x14 x16) x2).bind fun t724 => (if 0 ≤ t724 then (if t724 < (x7.length : Int) then ((spec_l1Own.f (rd_L4 x7 t724)).bind fun t726 => (if t726.length < 17592186044416 then (spec_pfBuckets.l0 k x0 x2 (x7.set (t724 : Int).toNat (t726 ++ [x16])) x14 x15 (wrap64 (x16 + 1))) else (none))) else (none)) else (none))) else (none)) else (none)) else (some x7)
def spec_pfBuckets.f (k : Nat) (a0 : Int) (l1 : List ByteArray) (a2 : Int) : Option ((List (List Int))) := if 0 ≤ a2 then (if (a2 : Int).toNat ≤ 11728124029610 then (spec_pfBuckets.l0 k a0 a2 (List.replicate (a2 : Int).toNat []) l1 (l1.length : Int) 0) else (none)) else (none)
theorem spec_pfBuckets.mono_l : ∀ k, (∀ y0 y1 y2 y3 y4 y5, LeO (spec_pfBuckets.l0 k y0 y1 y2 y3 y4 y5) (spec_pfBuckets.l0 (k + 1) y0 y1 y2 y3 y4 y5))
  | 0 => fun _ _ _ _ _ _ r h => by simp [spec_pfBuckets.l0] at h
  | k + 1 => by
    have ih0 := spec_pfBuckets.mono_l k
    · intro y0 y1 y2 y3 y4 y5
      unfold spec_pfBuckets.l0
      repeat' first
      | (with_reducible exact ih0 _ _ _ _ _ _)
      | (with_reducible exact spec_biPlace.mono _ _ _ _ _)
      | (with_reducible exact LeO.refl _)
      | (with_reducible exact LeO.none _)
      | (with_reducible refine LeO.ite ?_ ?_)
      | (with_reducible refine LeO.bind ?_ (fun _ => ?_))
      | exact ih0 _ _ _ _ _ _
      | exact spec_biPlace.mono _ _ _ _ _
      | exact LeO.none _
      | refine LeO.ite ?_ ?_
      | refine LeO.bind ?_ (fun _ => ?_)
theorem spec_pfBuckets.mono : ∀ a0 a1 a2 k, LeO (spec_pfBuckets.f k a0 a1 a2) (spec_pfBuckets.f (k + 1) a0 a1 a2) := by
  intro a0 a1 a2 k
  have ih0 := spec_pfBuckets.mono_l k
  unfold spec_pfBuckets.f
  repeat' first
      | (with_reducible exact ih0 _ _ _ _ _ _)
      | (with_reducible exact spec_biPlace.mono _ _ _ _ _)
      | (with_reducible exact LeO.refl _)
      | (with_reducible exact LeO.none _)
      | (with_reducible refine LeO.ite ?_ ?_)
      | (with_reducible refine LeO.bind ?_ (fun _ => ?_))
      | exact ih0 _ _ _ _ _ _
      | exact spec_biPlace.mono _ _ _ _ _
      | exact LeO.none _
      | refine LeO.ite ?_ ?_
      | refine LeO.bind ?_ (fun _ => ?_)
noncomputable def spec_pfBuckets.L0 (y0 : Int) (y1 : Int) (y2 : List (List Int)) (y3 : List ByteArray) (y4 : Int) (y5 : Int) : Option ((List (List Int))) := lim fun k => spec_pfBuckets.l0 k y0 y1 y2 y3 y4 y5
theorem spec_pfBuckets.L0_sup (y0 : Int) (y1 : Int) (y2 : List (List Int)) (y3 : List ByteArray) (y4 : Int) (y5 : Int) : Sup (fun k => spec_pfBuckets.l0 k y0 y1 y2 y3 y4 y5) (spec_pfBuckets.L0 y0 y1 y2 y3 y4 y5) := Sup.of_mono fun k => spec_pfBuckets.mono_l k y0 y1 y2 y3 y4 y5
noncomputable def spec_pfBuckets.F (a0 : Int) (l1 : List ByteArray) (a2 : Int) : Option ((List (List Int))) := lim fun k => spec_pfBuckets.f k a0 l1 a2
theorem spec_pfBuckets.F_sup (a0 : Int) (l1 : List ByteArray) (a2 : Int) : Sup (fun k => spec_pfBuckets.f k a0 l1 a2) (spec_pfBuckets.F a0 l1 a2) := Sup.of_mono fun k => spec_pfBuckets.mono a0 l1 a2 k
theorem spec_pfBuckets.L0_eq (x0 : Int) (x2 : Int) (x7 : List (List Int)) (x14 : List ByteArray) (x15 : Int) (x16 : Int) : spec_pfBuckets.L0 x0 x2 x7 x14 x15 x16 = if x16 < x15 then (if 0 ≤ x16 then (if x16 < (x14.length : Int) then ((spec_biPlace.F x0 0 (rdOf ByteArray.empty x14 x16) x2).bind fun t724 => (if 0 ≤ t724 then (if t724 < (x7.length : Int) then ((spec_l1Own.f (rd_L4 x7 t724)).bind fun t726 => (if t726.length < 17592186044416 then (spec_pfBuckets.L0 x0 x2 (x7.set (t724 : Int).toNat (t726 ++ [x16])) x14 x15 (wrap64 (x16 + 1))) else (none))) else (none)) else (none))) else (none)) else (none)) else (some x7) := by
  refine Sup.unique (spec_pfBuckets.L0_sup x0 x2 x7 x14 x15 x16) (Sup.shift (fun k => spec_pfBuckets.mono_l k x0 x2 x7 x14 x15 x16) (Sup.congr (g' := fun k => if x16 < x15 then (if 0 ≤ x16 then (if x16 < (x14.length : Int) then ((spec_biPlace.f k x0 0 (rdOf ByteArray.empty x14 x16) x2).bind fun t724 => (if 0 ≤ t724 then (if t724 < (x7.length : Int) then ((spec_l1Own.f (rd_L4 x7 t724)).bind fun t726 => (if t726.length < 17592186044416 then (spec_pfBuckets.l0 k x0 x2 (x7.set (t724 : Int).toNat (t726 ++ [x16])) x14 x15 (wrap64 (x16 + 1))) else (none))) else (none)) else (none))) else (none)) else (none)) else (some x7)) (fun k => by first | rfl | simp only [spec_pfBuckets.l0]) ?_))
  repeat' first
    | (with_reducible exact spec_pfBuckets.L0_sup _ _ _ _ _ _)
    | (with_reducible exact spec_biPlace.F_sup _ _ _ _)
    | (with_reducible refine Sup.ite ?_ ?_)
    | (with_reducible refine Sup.bind ?_ (fun _ => ?_))
    | (with_reducible exact Sup.const _)
    | exact spec_pfBuckets.L0_sup _ _ _ _ _ _
    | exact spec_biPlace.F_sup _ _ _ _
    | exact Sup.const _
theorem spec_pfBuckets.F_eq (a0 : Int) (l1 : List ByteArray) (a2 : Int) : spec_pfBuckets.F a0 l1 a2 = if 0 ≤ a2 then (if (a2 : Int).toNat ≤ 11728124029610 then (spec_pfBuckets.L0 a0 a2 (List.replicate (a2 : Int).toNat []) l1 (l1.length : Int) 0) else (none)) else (none) := by
  refine Sup.unique (spec_pfBuckets.F_sup a0 l1 a2) (Sup.congr (g' := fun k => if 0 ≤ a2 then (if (a2 : Int).toNat ≤ 11728124029610 then (spec_pfBuckets.l0 k a0 a2 (List.replicate (a2 : Int).toNat []) l1 (l1.length : Int) 0) else (none)) else (none)) (fun k => by first | rfl | simp only [spec_pfBuckets.f]) ?_)
  repeat' first
    | (with_reducible exact spec_pfBuckets.L0_sup _ _ _ _ _ _)
    | (with_reducible exact spec_biPlace.F_sup _ _ _ _)
    | (with_reducible refine Sup.ite ?_ ?_)
    | (with_reducible refine Sup.bind ?_ (fun _ => ?_))
    | (with_reducible exact Sup.const _)
    | exact spec_pfBuckets.L0_sup _ _ _ _ _ _
    | exact spec_biPlace.F_sup _ _ _ _
    | exact Sup.const _
set_option maxHeartbeats 8000000 in
set_option maxRecDepth 100000 in
theorem spec_pfBuckets.calls (k : Nat) (a0 : Int) (A1 : Option Addr) (c1 : Nat) (l1 : List ByteArray) (a2 : Int) (r : List (List Int)) (w : World) (hr1 : Kd.C Kd.string w A1 l1.length l1) (hc1 : l1.length ≤ c1) (h : spec_pfBuckets.f k a0 l1 a2 = some r) :
    Calls Try.prog 109 #[.int .i64 a0, .slice A1 l1.length c1, .int .i64 a2] w fun e w' => ∃ v0_ : Value, e = .returned (v0_) ∧ Kd.S (Kd.slice 3 (Kd.int .i64)) 22 w' w.heap.size (fun _ => True) v0_ r ∧ Below w.heap.size w w' := by
  have HR1 := Aside0.mk hr1
  have HC1 := Aside0.mk hc1
  clear hr1 hc1
  have HB := Aside0.mk (Below.refl w.heap.size w)
  have H : (if 0 ≤ a2 then (if (a2 : Int).toNat ≤ 11728124029610 then (spec_pfBuckets.l0 k a0 a2 (List.replicate (a2 : Int).toNat []) l1 (l1.length : Int) 0) else (none)) else (none)) = some r := h
  clear h
  by_cases c4 : 0 ≤ a2
  ·rw [if_pos c4] at H
   have c4b0 := eq_true c4
   have c4b1 : decide (0 ≤ a2) = true := decide_eq_true c4
   clear c4
   by_cases c5 : (a2 : Int).toNat ≤ 11728124029610
   ·rw [if_pos c5] at H
    have c5b0 := eq_true c5
    have c5b1 : decide ((a2 : Int).toNat ≤ 11728124029610) = true := decide_eq_true c5
    clear c5
    obtain ⟨y720, hy720⟩ : ∃ y_ : List (List Int), y_ = (List.replicate (a2 : Int).toNat []) := ⟨_, rfl⟩
    replace H : (spec_pfBuckets.l0 k a0 a2 y720 l1 (l1.length : Int) 0) = some r := by first | (rw [hy720]; with_reducible exact H) | (have H2_ := (Option.bind_some _ _).symm.trans H; rw [hy720]; with_reducible exact H2_) | (have H2_ := (Option.bind_some _ _).symm.trans H; with_reducible exact H2_) | with_reducible exact H | (rw [hy720]; exact H) | exact H
    have Ny720 := Aside0.mk hy720
    clear hy720
    have H' := Aside0.mk H
    clear H
    go_enter Try.func109, Try.ntmps109
    go_wp2_with (first | ((with_reducible refine gate_dst (N := 13) rfl ?_); refine Kd.S_make (Kd.slice 3 (Kd.int .i64)) _ 22 rfl (N := 13) rfl 73 _ _ rfl a2 rfl rfl Try.underlying73 (.slice none 0 0) 24 info22 rfl (by decide) (by omega) [] (ok := fun _ => True) (okp := fun _ => True) ⟨_, rfl, Kd.R_nil _ _ _ _ _⟩ (fun _ hk => hk) trivial (of_decide_eq_true (by first | (with_reducible assumption) | assumption)) (Nat.le_trans (Nat.mul_le_mul_right _ (of_decide_eq_true (by first | (with_reducible assumption) | assumption) : a2.toNat ≤ 11728124029610)) (by omega)) (Below.refl _ _) (Nat.le_refl _) ?_; intro v721 w6 ho7 hb hg_ hnew_; clear hg_ hnew_; (first | rw [← Ny720.out] at ho7 | (simp only [Int.reduceToNat] at ho7; rw [← Ny720.out] at ho7)); have n0_ := Aside0.mk (Kd.S_lower ho7 (below_size (by repeat (first | (with_reducible first | exact HB.out | apply below_alloc | apply pw_below_drewN | apply below_drew1) | exact HB.out)))); have n1_ := Aside0.mk (below_step (by repeat (first | (with_reducible first | exact HB.out | apply below_alloc | apply pw_below_drewN | apply below_drew1) | exact HB.out)) hb); clear HB; have HO722 := n0_; have HB := n1_; clear n0_ n1_; clear hb ho7))
    go_loopg [16] k (fun kq v16 w' => ∃ (x7_1 : List (List Int)) (x16_1 : Int), v16 = .int .i64 x16_1 ∧ Aside0 (spec_pfBuckets.l0 kq a0 a2 x7_1 l1 (l1.length : Int) x16_1 = some r) ∧ Aside0 (kq ≤ k) ∧ Aside0 (Kd.S (Kd.slice 3 (Kd.int .i64)) 22 w' w.heap.size (fun _ => True) v721 x7_1) ∧ Aside0 (Below w.heap.size w w'))
    case atStart => exact ⟨(y720), (0), (by first | rfl | (simp; done) | (simp [*]; done)), H', ⟨Nat.le_refl _⟩, ⟨by (with_reducible repeat (first | apply Kd.S_alloc | apply Kd.S_drewN | apply Kd.S_drew)); exact HO722.out⟩, ⟨by repeat (first | (with_reducible first | exact HB.out | apply below_alloc | apply pw_below_drewN | apply below_drew1) | exact HB.out)⟩⟩
    case round =>
     clear H'
     try clear c1
     try clear p2
     try clear c4
     try clear c4b0
     try clear c4b1
     try clear c5
     try clear c5b0
     try clear c5b1
     obtain ⟨x7_1, x16_1, rfl, HA, HK1, HO_7, HB⟩ := hrel
     cases gk with
     | zero => exact absurd HA.out (by simp [spec_pfBuckets.l0])
     | succ k1 =>
      have H := HA.out
      clear HA
      simp only [spec_pfBuckets.l0] at H
      by_cases c8 : x16_1 < (l1.length : Int)
      ·rw [if_pos c8] at H
       have c8b0 : decide (x16_1 < (l1.length : Int)) = true := decide_eq_true c8
       clear c8
       by_cases c9 : 0 ≤ x16_1
       ·rw [if_pos c9] at H
        have c9b0 : decide (0 ≤ x16_1) = true := decide_eq_true c9
        clear c9
        by_cases c10 : x16_1 < (l1.length : Int)
        ·rw [if_pos c10] at H
         have c10b0 : decide (x16_1 < (l1.length : Int)) = true := decide_eq_true c10
         clear c10
         replace H := Option.bind_eq_some_iff.mp H
         obtain ⟨t724, A110, H⟩ := H
         replace H : (if 0 ≤ t724 then (if t724 < (x7_1.length : Int) then ((spec_l1Own.f (rd_L4 x7_1 t724)).bind fun t726 => (if t726.length < 17592186044416 then (spec_pfBuckets.l0 k1 a0 a2 (x7_1.set (t724 : Int).toNat (t726 ++ [x16_1])) l1 (l1.length : Int) (wrap64 (x16_1 + 1))) else (none))) else (none)) else (none)) = some r := H
         have A11 := Aside0.mk A110
         clear A110
         by_cases c12 : 0 ≤ t724
         ·rw [if_pos c12] at H
          have c12b0 : decide (0 ≤ t724) = true := decide_eq_true c12
          clear c12
          by_cases c13 : t724 < (x7_1.length : Int)
          ·rw [if_pos c13] at H
           have c13b0 : decide (t724 < (x7_1.length : Int)) = true := decide_eq_true c13
           clear c13
           replace H := Option.bind_eq_some_iff.mp H
           obtain ⟨t726, A140, H⟩ := H
           replace H : (if t726.length < 17592186044416 then (spec_pfBuckets.l0 k1 a0 a2 (x7_1.set (t724 : Int).toNat (t726 ++ [x16_1])) l1 (l1.length : Int) (wrap64 (x16_1 + 1))) else (none)) = some r := H
           have A14 := Aside0.mk A140
           clear A140
           by_cases c15 : t726.length < 17592186044416
           ·rw [if_pos c15] at H
            have LMc15 := Aside0.mk c15
            clear c15
            obtain ⟨y729, hy729⟩ : ∃ y_ : List Int, y_ = (t726 ++ [x16_1]) := ⟨_, rfl⟩
            replace H : (spec_pfBuckets.l0 k1 a0 a2 (x7_1.set (t724 : Int).toNat y729) l1 (l1.length : Int) (wrap64 (x16_1 + 1))) = some r := by first | (rw [hy729]; with_reducible exact H) | (have H2_ := (Option.bind_some _ _).symm.trans H; rw [hy729]; with_reducible exact H2_) | (have H2_ := (Option.bind_some _ _).symm.trans H; with_reducible exact H2_) | with_reducible exact H | (rw [hy729]; exact H) | exact H
            have Ny729 := Aside0.mk hy729
            clear hy729
            obtain ⟨y732, hy732⟩ : ∃ y_ : List (List Int), y_ = (x7_1.set (t724 : Int).toNat y729) := ⟨_, rfl⟩
            replace H : (spec_pfBuckets.l0 k1 a0 a2 y732 l1 (l1.length : Int) (wrap64 (x16_1 + 1))) = some r := by first | (rw [hy732]; with_reducible exact H) | (have H2_ := (Option.bind_some _ _).symm.trans H; rw [hy732]; with_reducible exact H2_) | (have H2_ := (Option.bind_some _ _).symm.trans H; with_reducible exact H2_) | with_reducible exact H | (rw [hy732]; exact H) | exact H
            have Ny732 := Aside0.mk hy732
            clear hy732
            have H' := Aside0.mk H
            clear H
            have p723 : 0 ≤ (x16_1 : Int) := of_decide_eq_true (by first | (with_reducible assumption) | assumption)
            have q723 : x16_1 < (l1.length : Int) := of_decide_eq_true (by first | (with_reducible assumption) | assumption)
            obtain ⟨ad723, e723, hx723_0⟩ := Kd.at_string HR1.out x16_1 p723 q723
            cases e723
            replace hx723_0 := (HB.out.cell (World.block_lt_of_cell? w _ hx723_0)).trans hx723_0
            replace p723 := eq_true p723
            replace q723 := eq_true q723
            go_wp2_with (first | ((with_reducible refine gate_callee (f := 120) rfl ?_); refine goesL_ (some 24) rfl rfl Try.func120 (by kernel_rfl) rfl #[.int .i64 a0, .int .i64 0, .string (rdOf ByteArray.empty l1 x16_1), .int .i64 a2] rfl (by (try simp only [List.map_toArray, List.map_cons, List.map_nil]); first | done | rfl | (simp only [List.length_drop, List.length_take]; rfl)) ?_; (with_reducible refine (spec_biPlace.calls k1 a0 0 (rdOf ByteArray.empty l1 x16_1) a2 t724 _ A11.out).mono ?_); rintro e w' ⟨rfl, ⟨nd, rfl⟩⟩; refine ⟨_, rfl, ?_⟩; (try (rw [drewN_self wr]; generalize hq_ : World.drewN wr _ = wr; have n0_ : Aside0 (Kd.S (Kd.slice 3 (Kd.int .i64)) 22 wr w.heap.size (fun k_ => True) v721 x7_1) := ⟨by rw [← hq_]; exact (by (with_reducible repeat (first | apply Kd.S_alloc | apply Kd.S_drewN | apply Kd.S_drew)); exact HO_7.out)⟩; have n1_ : Aside0 (Below w.heap.size w wr) := ⟨by rw [← hq_]; exact (by repeat (first | (with_reducible first | exact HB.out | apply below_alloc | apply pw_below_drewN | apply below_drew1) | exact HB.out))⟩; clear HO_7 HB hq_; have HO_7 := n0_; have HB := n1_; clear n0_ n1_)); obtain ⟨Ao17, co17, eo17⟩ := Kd.S_slice HO_7.out; subst eo17; have p725 : 0 ≤ (t724 : Int) := of_decide_eq_true (by first | (with_reducible assumption) | assumption); have q725 : t724 < (x7_1.length : Int) := of_decide_eq_true (by first | (with_reducible assumption) | assumption); obtain ⟨ad725, A725_0, c725_0, e725, hx725_0, hl725_0, hi725_0⟩ := at_L4 (Kd.S_reads' HO_7.out).2.2 t724 p725 q725; cases e725; obtain ⟨ce725, hce725, hMe725, hcc725⟩ := Kd.S_get HO_7.out [] t724 p725 (by first | exact q725 | exact of_decide_eq_true (by first | (with_reducible assumption) | assumption) | (have e_ := (Kd.S_reads' HO_7.out).1; omega)); obtain ⟨ve725_0, rfl, ge725_0⟩ := hMe725; have hv725_0 := hcc725 0 _ rfl; rw [Nat.add_zero, show ((Kd.slice 3 (Kd.int .i64))).sz = 1 from rfl, Nat.mul_one] at hv725_0; replace hv725_0 := Option.some.inj (hv725_0.symm.trans hx725_0); rw [hv725_0] at ge725_0; have HL725_0 := Aside0.mk (show Kd.R (Kd.int .i64) 3 _ _ _ _ (rd_L4 x7_1 t724) from ge725_0); clear hv725_0 ge725_0; clear hcc725 hce725; have HR725_0 := Aside0.mk hi725_0; have HC725_0 := Aside0.mk hl725_0; clear hi725_0 hl725_0; replace p725 := eq_true p725; replace q725 := eq_true q725) | ((with_reducible refine gate_callee (f := 138) rfl ?_); refine goesL_ (some 29) rfl rfl Try.func138 (by kernel_rfl) rfl #[.slice A725_0 (rd_L4 x7_1 t724).length c725_0] rfl (by (try simp only [List.map_toArray, List.map_cons, List.map_nil]); first | done | rfl | (simp only [List.length_drop, List.length_take]; rfl)) ?_; (with_reducible refine (spec_l1Own.calls _ _ (rd_L4 x7_1 t724) t726 _ ?side1 ?side2 A14.out).mono ?_); (case side1 => repeat (first | exact (by repeat (first | (with_reducible exact HR725_0.out) | (with_reducible refine Kd.C_alloc ?_ _) | (with_reducible refine Kd.C_drewN ?_ _) | (with_reducible refine Kd.C_drew ?_) | exact HR725_0.out)) | (with_reducible refine Kd.C_alloc ?_ _) | (with_reducible refine Kd.C_drewN ?_ _) | (with_reducible refine Kd.C_drew ?_))); (case side2 => exact HC725_0.out); rintro e w18 ⟨v727, rfl, ho0, hb⟩; refine ⟨_, rfl, ?_⟩; have n0_ := Aside0.mk (Kd.S_elder' (by (with_reducible repeat (first | apply Kd.S_alloc | apply Kd.S_drewN | apply Kd.S_drew)); exact HO_7.out) (Kd.R_base ho0) hb); have n1_ := Aside0.mk (Kd.R_elder' (by (with_reducible repeat (first | apply Kd.R_alloc | apply Kd.R_drewN | apply Kd.R_drew)); exact HL725_0.out) (Kd.R_base ho0) hb); have n2_ := Aside0.mk (Kd.R_lower (Kd.R_new' ho0 (Kd.R_lt (by (with_reducible repeat (first | apply Kd.R_alloc | apply Kd.R_drewN | apply Kd.R_drew)); exact HL725_0.out))) (below_size (by repeat (first | (with_reducible first | exact HB.out | apply below_alloc | apply pw_below_drewN | apply below_drew1) | exact HB.out)))); have n3_ := Aside0.mk (Kd.C_below (by repeat (first | (with_reducible exact HR725_0.out) | (with_reducible refine Kd.C_alloc ?_ _) | (with_reducible refine Kd.C_drewN ?_ _) | (with_reducible refine Kd.C_drew ?_) | exact HR725_0.out)) hb); have n4_ := Aside0.mk (below_step (by repeat (first | (with_reducible first | exact HB.out | apply below_alloc | apply pw_below_drewN | apply below_drew1) | exact HB.out)) hb); clear HO_7; clear HL725_0; clear HR725_0; clear HB; have HO_7 := n0_; have HL725_0 := n1_; have HO728 := n2_; have HR725_0 := n3_; have HB := n4_; clear n0_ n1_ n2_ n3_ n4_; (try clear hb); (try clear hb2); (try clear hk); (try clear hi); (try clear ho0)) | ((with_reducible refine gate_builtin (b := .append) (xs := #[.tmp 32, .tmp 34]) rfl ?_); at_builtin; refine Kd.R_append (Kd.int .i64) (w0 := w) w.heap.size rfl (.tmp 32) (.tmp 34) 22 3 (.int .i64 0) 8 rfl Try.underlying22 info3 rfl (by decide) (by omega) v727 t726 x16_1 [.int .i64 x16_1] (fun k_ => some k_ ≠ (.slice A725_0 (rd_L4 x7_1 t724).length c725_0 : Value).ownBlock) (fun _ => False) rfl rfl ?aP (fun _ hk => hk.elim) ?aF ?aO ?aB ?aS ?aL ?_; (case aP => exact rfl); (case aB => exact (by repeat (first | (with_reducible first | exact HB.out | apply below_alloc | apply pw_below_drewN | apply below_drew1) | exact HB.out))); (case aF => exact (fun k_ hk => Kd.fresh' (Kd.R_lt (by (with_reducible repeat (first | apply Kd.R_alloc | apply Kd.R_drewN | apply Kd.R_drew)); exact HL725_0.out)) k_ hk)); (case aO => exact (by (with_reducible repeat (first | apply Kd.R_alloc | apply Kd.R_drewN | apply Kd.R_drew)); exact Kd.R_mono HO728.out (fun _ hk => hk.2))); (case aS => exact (below_size (by repeat (first | (with_reducible first | exact HB.out | apply below_alloc | apply pw_below_drewN | apply below_drew1) | exact HB.out)))); (case aL => have := LMc15.out; omega); intro v730 w19 ho hb hg hat; rw [← Ny729.out] at ho; have n0_ := Aside0.mk (Kd.S_after (ok := (fun _ => True)) (by (with_reducible repeat (first | apply Kd.S_alloc | apply Kd.S_drewN | apply Kd.S_drew)); exact HO_7.out) hg hat); have n1_ := Aside0.mk (Kd.R_after (ok := (fun k_ => some k_ ≠ (.slice (some ad725) x7_1.length co17 : Value).ownBlock)) (by (with_reducible repeat (first | apply Kd.R_alloc | apply Kd.R_drewN | apply Kd.R_drew)); exact Kd.R_mono HL725_0.out (fun _ hk => ⟨hk.1.2, hk.2⟩)) hg hat); have n2_ := Aside0.mk (hb); have n3_ := Aside0.mk (ho); clear HO_7; clear HL725_0; clear HB; clear HO728; have HO_7 := n0_; have HL725_0 := n1_; have HB := n2_; have HO731 := n3_; clear n0_ n1_ n2_ n3_; clear ho hb hg hat; have p16 : 0 ≤ (t724 : Int) := of_decide_eq_true (by first | (with_reducible assumption) | assumption); have q16 : (t724 : Int) < ((x7_1.length : Int) : Int) := of_decide_eq_true (by first | (with_reducible assumption) | assumption); obtain ⟨go16, co16, eo16, gb16, gl16, cl16, HG16⟩ := Kd.S_form HO_7.out (by omega); (first | cases eo16 | (injection eo16 with ea_ en_ ec_; (first | subst ea_ | (injection ea_ with ea_; subst ea_)); subst ec_; clear en_)); have GB16 := Aside0.mk gb16; have GG16 := Aside0.mk HG16; clear gb16 gl16 HG16; (first | simp only [add_plain] at hx725_0 | skip); obtain ⟨_, ce16, hcl16, hM16, hcc16, hfr16, _, _⟩ := Kd.S_elem HO_7.out [] (t724 : Int) p16 q16; obtain ⟨ve16_0, rfl, ge16_0⟩ := hM16; have hx16_0 := hcc16 0 _ rfl; have hf16_0 := hfr16 0; (try simp only [show ((Kd.slice 3 (Kd.int .i64))).sz = 1 from rfl, Nat.mul_one, Nat.add_zero] at hx16_0); (try simp only [show ((Kd.slice 3 (Kd.int .i64))).sz = 1 from rfl, Nat.mul_one, Nat.add_zero] at hf16_0); clear hcl16 hcc16 hfr16; (try clear hM16); replace p16 := eq_true p16; replace q16 := eq_true q16; obtain ⟨Ao22, co22, eo22⟩ := Kd.R_slice HO731.out; subst eo22; have n_ := Aside0.mk (Kd.S_mono (ok' := (fun k_ => some k_ ≠ (.slice Ao22 y729.length co22 : Value).ownBlock)) HO_7.out (fun k_ hk => hk.2)); clear HO_7; have HO_7 := n_; clear n_; have HX20 := Aside0.mk (show Kd.S (Kd.slice 3 (Kd.int .i64)) 22 w19 w.heap.size (fun k_ => ((fun _ => True)) k_ ∧ ¬ ((fun k_ => some k_ = (.slice Ao22 y729.length co22 : Value).ownBlock)) k_) (.slice (some ⟨go16, 0, none⟩) x7_1.length co17) x7_1 from (by (with_reducible repeat (first | apply Kd.S_alloc | apply Kd.S_drewN | apply Kd.S_drew)); exact Kd.S_mono HO_7.out (fun k_ hk => ⟨trivial, fun e_ => hk e_⟩))); obtain ⟨oki20, ce20, hcl20, hM20, hcc20, hfr20, hoki20, hH20⟩ := Kd.S_elem HX20.out [] (t724 : Int) (of_decide_eq_true (by first | (with_reducible assumption) | assumption)) (by have h_ : (t724 : Int) < ((x7_1.length : Int) : Int) := of_decide_eq_true (by first | (with_reducible assumption) | assumption); first | exact h_ | (have e_ := (Kd.S_reads' HO_7.out).1; omega) | simpa using h_); obtain ⟨ve20_0, rfl, ge20_0⟩ := hM20; have HP20 := Kd.S_seg hH20 (of_decide_eq_true (by first | (with_reducible assumption) | assumption)) (by have h_ : (t724 : Int) < ((x7_1.length : Int) : Int) := of_decide_eq_true (by first | (with_reducible assumption) | assumption); first | exact h_ | (have e_ := (Kd.S_reads' HO_7.out).1; omega) | simpa using h_) (seg := [.slice Ao22 y729.length co22]) (j := 0) (show 1 ≤ 1 from by decide) (x' := y729) (Kd.M_row (Kd.R_mono (Kd.R_tight rfl (Kd.R_mono (ok' := fun k_ => ((fun _ => True)) k_ ∧ k_ ≠ go16) (Kd.R_apart' (HO731.out) (Kd.S_typed HO_7.out) (by decide)) (fun k_ hk => ⟨trivial, fun e_ => (hk.2) (by rw [e_]; rfl)⟩))) (fun _ h_ => Or.inr (h_)))) (fun _ hk => hk) (fun k_ hk_ => ((Kd.R_mono (ok' := fun k_ => ((fun _ => True)) k_ ∧ k_ ≠ go16) (Kd.R_apart' (HO731.out) (Kd.S_typed HO_7.out) (by decide)) (fun k_ hk => ⟨trivial, fun e_ => (hk.2) (by rw [e_]; rfl)⟩))).1 k_ hk_.symm); have hx20_0 := hcc20 0 _ rfl; (try simp only [show ((Kd.slice 3 (Kd.int .i64))).sz = 1 from rfl, Nat.mul_one, Nat.add_zero] at hx20_0); have hf20_0 := hfr20 0; (try simp only [show ((Kd.slice 3 (Kd.int .i64))).sz = 1 from rfl, Nat.mul_one, Nat.add_zero] at hf20_0); clear hcl20 hcc20 hfr20; (try clear hM20); clear hoki20 hH20; (try simp only [show ((Kd.slice 3 (Kd.int .i64))).sz = 1 from rfl, Nat.mul_one, Nat.add_zero] at HP20)) | ((with_reducible refine gate_store (t := 22) (p := 36) rfl ?_); refine store_event (t := 22) (p := 36) (v := ?vo_w21) (w1 := (w19.setCell ⟨go16, (t724 : Int).toNat, none⟩ (.slice Ao22 y729.length co22))) ?hg ?ho ?hn ?hr ?_; (case ho => rfl); (case hg => rfl); (case hn => rfl); (case hr => first | (go_simp; done) | (go_simp; rfl)); intro w21 hw; have hg : w19.grownBy w21 (some go16) := (by rw [hw]; exact HP20.2); have hp_ : Kd.S (Kd.slice 3 (Kd.int .i64)) 22 w21 w.heap.size (fun _ => True) (.slice (some ⟨go16, 0, none⟩) x7_1.length co17) y732 := (by rw [hw, Ny732.out]; exact HP20.1); clear HP20; have n0_ := Aside0.mk (hp_); have n1_ := Aside0.mk (Kd.R_after (v := (.slice (some ⟨go16, 0, none⟩) x7_1.length co17)) (v1 := (.slice (some ⟨go16, 0, none⟩) x7_1.length co17)) (ok := (fun k_ => some k_ ≠ (.slice Ao22 y729.length co22 : Value).ownBlock)) (by (with_reducible repeat (first | apply Kd.R_alloc | apply Kd.R_drewN | apply Kd.R_drew)); exact Kd.R_mono HL725_0.out (fun _ hk => ⟨hk.2, hk.1⟩)) hg (.inl rfl)); have n2_ := Aside0.mk ((by rw [hw]; exact below_set (HB.out) GB16.out : Below w.heap.size w w21)); clear HO_7; clear HL725_0; clear HB; clear HO731; have HO_7 := n0_; have HL725_0 := n1_; have HB := n2_; clear n0_ n1_ n2_; clear hg hw hp_))
            go_roundg k1
            case measure => have := HK1.out; omega
            case rel => exact ⟨(y732), (wrap64 (x16_1 + 1)), (by first | rfl | (simp; done) | (simp [*]; done)), H', ⟨by have := HK1.out; omega⟩, ⟨by (with_reducible repeat (first | apply Kd.S_alloc | apply Kd.S_drewN | apply Kd.S_drew)); exact HO_7.out⟩, ⟨by repeat (first | (with_reducible first | exact HB.out | apply below_alloc | apply pw_below_drewN | apply below_drew1) | exact HB.out)⟩⟩
           ·rw [if_neg c15] at H
            exact absurd H (by simp)
          ·rw [if_neg c13] at H
           exact absurd H (by simp)
         ·rw [if_neg c12] at H
          exact absurd H (by simp)
        ·rw [if_neg c10] at H
         exact absurd H (by simp)
       ·rw [if_neg c9] at H
        exact absurd H (by simp)
      ·rw [if_neg c8] at H
       have c8b0 : decide (x16_1 < (l1.length : Int)) = false := decide_eq_false c8
       clear c8
       obtain rfl := Option.some.inj H
       go_wp2
       go_ret
       exact ⟨_, by first | rfl | (simp [errW_none, errW_some] <;> rfl) | (simp [*, errW_none, errW_some] <;> rfl), by (with_reducible repeat (first | apply Kd.S_alloc | apply Kd.S_drewN | apply Kd.S_drew)); exact HO_7.out, by repeat (first | (with_reducible first | exact HB.out | apply below_alloc | apply pw_below_drewN | apply below_drew1) | exact HB.out)⟩
   ·rw [if_neg c5] at H
    exact absurd H (by simp)
  ·rw [if_neg c4] at H
   exact absurd H (by simp)
/-! ### spec_BucketsOf: function 54 -/
def spec_BucketsOf.f (k : Nat) (a0 : Int) (l1 : List ByteArray) (a2 : Int) : Option ((List (List Int)) × Bool) := (spec_l1In.f a0 0 9999).bind fun t733 => (if t733 = true then ((spec_biKeys.f k l1).bind fun t734 => (if t734 = true then ((spec_l1In.f a2 1 24).bind fun t735 => (if t735 = true then ((spec_pfBuckets.f k a0 l1 a2).bind fun t736 => (some (t736, true))) else (some (([] : List (List Int)), false)))) else (some (([] : List (List Int)), false)))) else (some (([] : List (List Int)), false)))
theorem spec_BucketsOf.mono : ∀ a0 a1 a2 k, LeO (spec_BucketsOf.f k a0 a1 a2) (spec_BucketsOf.f (k + 1) a0 a1 a2) := by
  intro a0 a1 a2 k
  unfold spec_BucketsOf.f
  repeat' first
      | (with_reducible exact spec_biKeys.mono _ _)
      | (with_reducible exact spec_pfBuckets.mono _ _ _ _)
      | (with_reducible exact LeO.refl _)
      | (with_reducible exact LeO.none _)
      | (with_reducible refine LeO.ite ?_ ?_)
      | (with_reducible refine LeO.bind ?_ (fun _ => ?_))
      | exact spec_biKeys.mono _ _
      | exact spec_pfBuckets.mono _ _ _ _
      | exact LeO.none _
      | refine LeO.ite ?_ ?_
      | refine LeO.bind ?_ (fun _ => ?_)
noncomputable def spec_BucketsOf.F (a0 : Int) (l1 : List ByteArray) (a2 : Int) : Option ((List (List Int)) × Bool) := lim fun k => spec_BucketsOf.f k a0 l1 a2
theorem spec_BucketsOf.F_sup (a0 : Int) (l1 : List ByteArray) (a2 : Int) : Sup (fun k => spec_BucketsOf.f k a0 l1 a2) (spec_BucketsOf.F a0 l1 a2) := Sup.of_mono fun k => spec_BucketsOf.mono a0 l1 a2 k
theorem spec_BucketsOf.F_eq (a0 : Int) (l1 : List ByteArray) (a2 : Int) : spec_BucketsOf.F a0 l1 a2 = (spec_l1In.f a0 0 9999).bind fun t733 => (if t733 = true then ((spec_biKeys.F l1).bind fun t734 => (if t734 = true then ((spec_l1In.f a2 1 24).bind fun t735 => (if t735 = true then ((spec_pfBuckets.F a0 l1 a2).bind fun t736 => (some (t736, true))) else (some (([] : List (List Int)), false)))) else (some (([] : List (List Int)), false)))) else (some (([] : List (List Int)), false))) := by
  refine Sup.unique (spec_BucketsOf.F_sup a0 l1 a2) (Sup.congr (g' := fun k => (spec_l1In.f a0 0 9999).bind fun t733 => (if t733 = true then ((spec_biKeys.f k l1).bind fun t734 => (if t734 = true then ((spec_l1In.f a2 1 24).bind fun t735 => (if t735 = true then ((spec_pfBuckets.f k a0 l1 a2).bind fun t736 => (some (t736, true))) else (some (([] : List (List Int)), false)))) else (some (([] : List (List Int)), false)))) else (some (([] : List (List Int)), false)))) (fun k => by first | rfl | simp only [spec_BucketsOf.f]) ?_)
  repeat' first
    | (with_reducible exact spec_biKeys.F_sup _)
    | (with_reducible exact spec_pfBuckets.F_sup _ _ _)
    | (with_reducible refine Sup.ite ?_ ?_)
    | (with_reducible refine Sup.bind ?_ (fun _ => ?_))
    | (with_reducible exact Sup.const _)
    | exact spec_biKeys.F_sup _
    | exact spec_pfBuckets.F_sup _ _ _
    | exact Sup.const _
set_option maxHeartbeats 8000000 in
set_option maxRecDepth 100000 in
theorem spec_BucketsOf.calls (k : Nat) (a0 : Int) (A1 : Option Addr) (c1 : Nat) (l1 : List ByteArray) (a2 : Int) (r1 : List (List Int)) (r2 : Bool) (w : World) (hr1 : Kd.C Kd.string w A1 l1.length l1) (hc1 : l1.length ≤ c1) (h : spec_BucketsOf.f k a0 l1 a2 = some (r1, r2)) :
    Calls Try.prog 54 #[.int .i64 a0, .slice A1 l1.length c1, .int .i64 a2] w fun e w' => ∃ v0_ : Value, e = .returned (.tuple #[v0_, .bool r2]) ∧ Kd.S (Kd.slice 3 (Kd.int .i64)) 22 w' w.heap.size (fun _ => True) v0_ r1 ∧ Below w.heap.size w w' := by
  have HR1 := Aside0.mk hr1
  have HC1 := Aside0.mk hc1
  clear hr1 hc1
  have HB := Aside0.mk (Below.refl w.heap.size w)
  have H : ((spec_l1In.f a0 0 9999).bind fun t733 => (if t733 = true then ((spec_biKeys.f k l1).bind fun t734 => (if t734 = true then ((spec_l1In.f a2 1 24).bind fun t735 => (if t735 = true then ((spec_pfBuckets.f k a0 l1 a2).bind fun t736 => (some (t736, true))) else (some (([] : List (List Int)), false)))) else (some (([] : List (List Int)), false)))) else (some (([] : List (List Int)), false)))) = some (r1, r2) := h
  clear h
  replace H := Option.bind_eq_some_iff.mp H
  obtain ⟨t733, A40, H⟩ := H
  replace H : (if t733 = true then ((spec_biKeys.f k l1).bind fun t734 => (if t734 = true then ((spec_l1In.f a2 1 24).bind fun t735 => (if t735 = true then ((spec_pfBuckets.f k a0 l1 a2).bind fun t736 => (some (t736, true))) else (some (([] : List (List Int)), false)))) else (some (([] : List (List Int)), false)))) else (some (([] : List (List Int)), false))) = some (r1, r2) := H
  have A4 := Aside0.mk A40
  clear A40
  by_cases c5 : t733 = true
  ·subst c5
   have H1 : ((spec_biKeys.f k l1).bind fun t734 => (if t734 = true then ((spec_l1In.f a2 1 24).bind fun t735 => (if t735 = true then ((spec_pfBuckets.f k a0 l1 a2).bind fun t736 => (some (t736, true))) else (some (([] : List (List Int)), false)))) else (some (([] : List (List Int)), false)))) = some (r1, r2) := by rw [if_pos rfl] at H; exact H
   clear H
   have H := H1
   clear H1
   replace H := Option.bind_eq_some_iff.mp H
   obtain ⟨t734, A60, H⟩ := H
   replace H : (if t734 = true then ((spec_l1In.f a2 1 24).bind fun t735 => (if t735 = true then ((spec_pfBuckets.f k a0 l1 a2).bind fun t736 => (some (t736, true))) else (some (([] : List (List Int)), false)))) else (some (([] : List (List Int)), false))) = some (r1, r2) := H
   have A6 := Aside0.mk A60
   clear A60
   by_cases c7 : t734 = true
   ·subst c7
    have H1 : ((spec_l1In.f a2 1 24).bind fun t735 => (if t735 = true then ((spec_pfBuckets.f k a0 l1 a2).bind fun t736 => (some (t736, true))) else (some (([] : List (List Int)), false)))) = some (r1, r2) := by rw [if_pos rfl] at H; exact H
    clear H
    have H := H1
    clear H1
    replace H := Option.bind_eq_some_iff.mp H
    obtain ⟨t735, A80, H⟩ := H
    replace H : (if t735 = true then ((spec_pfBuckets.f k a0 l1 a2).bind fun t736 => (some (t736, true))) else (some (([] : List (List Int)), false))) = some (r1, r2) := H
    have A8 := Aside0.mk A80
    clear A80
    by_cases c9 : t735 = true
    ·subst c9
     have H1 : ((spec_pfBuckets.f k a0 l1 a2).bind fun t736 => (some (t736, true))) = some (r1, r2) := by rw [if_pos rfl] at H; exact H
     clear H
     have H := H1
     clear H1
     replace H := Option.bind_eq_some_iff.mp H
     obtain ⟨t736, A100, H⟩ := H
     replace H : (some (t736, true)) = some (r1, r2) := H
     have A10 := Aside0.mk A100
     clear A100
     simp only [Option.some.injEq, Prod.mk.injEq] at H
     obtain ⟨rfl, rfl⟩ := H
     go_enter Try.func54, Try.ntmps54
     go_wp2_with (first | ((with_reducible refine gate_callee (f := 76) rfl ?_); refine goesL_ (some 9) rfl rfl Try.func76 (by kernel_rfl) rfl #[.int .i64 a0, .int .i64 0, .int .i64 9999] rfl (by (try simp only [List.map_toArray, List.map_cons, List.map_nil]); first | done | rfl | (simp only [List.length_drop, List.length_take]; rfl)) ?_; (with_reducible refine (spec_l1In.calls a0 0 9999 true _ A4.out).mono ?_); rintro e w' ⟨rfl, ⟨nd, rfl⟩⟩; refine ⟨_, rfl, ?_⟩) | (go_at_call 83; (with_reducible refine (spec_biKeys.calls k _ _ l1 true _ ?side1 ?side2 A6.out).mono ?_); (case side1 => repeat (first | exact HR1.out | (with_reducible refine Kd.C_alloc ?_ _) | (with_reducible refine Kd.C_drewN ?_ _) | (with_reducible refine Kd.C_drew ?_))); (case side2 => exact HC1.out); rintro e w' ⟨rfl, ⟨nd, rfl⟩⟩) | (go_at_call 76; (with_reducible refine (spec_l1In.calls a2 1 24 true _ A8.out).mono ?_); rintro e w' ⟨rfl, ⟨nd, rfl⟩⟩) | ((with_reducible refine gate_callee (f := 109) rfl ?_); refine goesL_ (some 24) rfl rfl Try.func109 (by kernel_rfl) rfl #[.int .i64 a0, .slice A1 l1.length c1, .int .i64 a2] rfl (by (try simp only [List.map_toArray, List.map_cons, List.map_nil]); first | done | rfl | (simp only [List.length_drop, List.length_take]; rfl)) ?_; (with_reducible refine (spec_pfBuckets.calls k a0 _ _ l1 a2 t736 _ ?side1 ?side2 A10.out).mono ?_); (case side1 => repeat (first | exact HR1.out | (with_reducible refine Kd.C_alloc ?_ _) | (with_reducible refine Kd.C_drewN ?_ _) | (with_reducible refine Kd.C_drew ?_))); (case side2 => exact HC1.out); rintro e w11 ⟨v737, rfl, ho0, hb⟩; refine ⟨_, rfl, ?_⟩; have n0_ := Aside0.mk (Kd.S_lower ho0 (below_size (by repeat (first | (with_reducible first | exact HB.out | apply below_alloc | apply pw_below_drewN | apply below_drew1) | exact HB.out)))); have n1_ := Aside0.mk (below_step (by repeat (first | (with_reducible first | exact HB.out | apply below_alloc | apply pw_below_drewN | apply below_drew1) | exact HB.out)) hb); clear HB; have HO738 := n0_; have HB := n1_; clear n0_ n1_; (try clear hb); (try clear hb2); (try clear hk); (try clear hi); (try clear ho0)))
     go_ret2
     exact ⟨_, by first | rfl | (simp [errW_none, errW_some] <;> rfl) | (simp [*, errW_none, errW_some] <;> rfl), by (with_reducible repeat (first | apply Kd.S_alloc | apply Kd.S_drewN | apply Kd.S_drew)); exact HO738.out, by repeat (first | (with_reducible first | exact HB.out | apply below_alloc | apply pw_below_drewN | apply below_drew1) | exact HB.out)⟩
    ·replace c9 := Bool.eq_false_iff.mpr c9
     subst c9
     have H1 : (some (([] : List (List Int)), false)) = some (r1, r2) := by rw [if_neg (show ¬ (false = true) by decide)] at H; exact H
     clear H
     have H := H1
     clear H1
     simp only [Option.some.injEq, Prod.mk.injEq] at H
     obtain ⟨rfl, rfl⟩ := H
     go_enter Try.func54, Try.ntmps54
     go_wp2_with (first | ((with_reducible refine gate_callee (f := 76) rfl ?_); refine goesL_ (some 9) rfl rfl Try.func76 (by kernel_rfl) rfl #[.int .i64 a0, .int .i64 0, .int .i64 9999] rfl (by (try simp only [List.map_toArray, List.map_cons, List.map_nil]); first | done | rfl | (simp only [List.length_drop, List.length_take]; rfl)) ?_; (with_reducible refine (spec_l1In.calls a0 0 9999 true _ A4.out).mono ?_); rintro e w' ⟨rfl, ⟨nd, rfl⟩⟩; refine ⟨_, rfl, ?_⟩) | (go_at_call 83; (with_reducible refine (spec_biKeys.calls k _ _ l1 true _ ?side1 ?side2 A6.out).mono ?_); (case side1 => repeat (first | exact HR1.out | (with_reducible refine Kd.C_alloc ?_ _) | (with_reducible refine Kd.C_drewN ?_ _) | (with_reducible refine Kd.C_drew ?_))); (case side2 => exact HC1.out); rintro e w' ⟨rfl, ⟨nd, rfl⟩⟩) | (go_at_call 76; (with_reducible refine (spec_l1In.calls a2 1 24 false _ A8.out).mono ?_); rintro e w' ⟨rfl, ⟨nd, rfl⟩⟩))
     go_ret2
     exact ⟨_, by first | rfl | (simp [errW_none, errW_some] <;> rfl) | (simp [*, errW_none, errW_some] <;> rfl), by first | exact Kd.S_nil _ _ _ _ _ | exact Kd.N_nil _ _ _ _ _ | exact Kd.V_nil _ _ _ _ _ | exact Kd.Q_nil _ _ _ _ _ | exact Kd.R_nil _ _ _ _ _, by repeat (first | (with_reducible first | exact HB.out | apply below_alloc | apply pw_below_drewN | apply below_drew1) | exact HB.out)⟩
   ·replace c7 := Bool.eq_false_iff.mpr c7
    subst c7
    have H1 : (some (([] : List (List Int)), false)) = some (r1, r2) := by rw [if_neg (show ¬ (false = true) by decide)] at H; exact H
    clear H
    have H := H1
    clear H1
    simp only [Option.some.injEq, Prod.mk.injEq] at H
    obtain ⟨rfl, rfl⟩ := H
    go_enter Try.func54, Try.ntmps54
    go_wp2_with (first | ((with_reducible refine gate_callee (f := 76) rfl ?_); refine goesL_ (some 9) rfl rfl Try.func76 (by kernel_rfl) rfl #[.int .i64 a0, .int .i64 0, .int .i64 9999] rfl (by (try simp only [List.map_toArray, List.map_cons, List.map_nil]); first | done | rfl | (simp only [List.length_drop, List.length_take]; rfl)) ?_; (with_reducible refine (spec_l1In.calls a0 0 9999 true _ A4.out).mono ?_); rintro e w' ⟨rfl, ⟨nd, rfl⟩⟩; refine ⟨_, rfl, ?_⟩) | (go_at_call 83; (with_reducible refine (spec_biKeys.calls k _ _ l1 false _ ?side1 ?side2 A6.out).mono ?_); (case side1 => repeat (first | exact HR1.out | (with_reducible refine Kd.C_alloc ?_ _) | (with_reducible refine Kd.C_drewN ?_ _) | (with_reducible refine Kd.C_drew ?_))); (case side2 => exact HC1.out); rintro e w' ⟨rfl, ⟨nd, rfl⟩⟩))
    go_ret2
    exact ⟨_, by first | rfl | (simp [errW_none, errW_some] <;> rfl) | (simp [*, errW_none, errW_some] <;> rfl), by first | exact Kd.S_nil _ _ _ _ _ | exact Kd.N_nil _ _ _ _ _ | exact Kd.V_nil _ _ _ _ _ | exact Kd.Q_nil _ _ _ _ _ | exact Kd.R_nil _ _ _ _ _, by repeat (first | (with_reducible first | exact HB.out | apply below_alloc | apply pw_below_drewN | apply below_drew1) | exact HB.out)⟩
  ·replace c5 := Bool.eq_false_iff.mpr c5
   subst c5
   have H1 : (some (([] : List (List Int)), false)) = some (r1, r2) := by rw [if_neg (show ¬ (false = true) by decide)] at H; exact H
   clear H
   have H := H1
   clear H1
   simp only [Option.some.injEq, Prod.mk.injEq] at H
   obtain ⟨rfl, rfl⟩ := H
   go_enter Try.func54, Try.ntmps54
   go_wp2_with (first | ((with_reducible refine gate_callee (f := 76) rfl ?_); refine goesL_ (some 9) rfl rfl Try.func76 (by kernel_rfl) rfl #[.int .i64 a0, .int .i64 0, .int .i64 9999] rfl (by (try simp only [List.map_toArray, List.map_cons, List.map_nil]); first | done | rfl | (simp only [List.length_drop, List.length_take]; rfl)) ?_; (with_reducible refine (spec_l1In.calls a0 0 9999 false _ A4.out).mono ?_); rintro e w' ⟨rfl, ⟨nd, rfl⟩⟩; refine ⟨_, rfl, ?_⟩))
   go_ret2
   exact ⟨_, by first | rfl | (simp [errW_none, errW_some] <;> rfl) | (simp [*, errW_none, errW_some] <;> rfl), by first | exact Kd.S_nil _ _ _ _ _ | exact Kd.N_nil _ _ _ _ _ | exact Kd.V_nil _ _ _ _ _ | exact Kd.Q_nil _ _ _ _ _ | exact Kd.R_nil _ _ _ _ _, by repeat (first | (with_reducible first | exact HB.out | apply below_alloc | apply pw_below_drewN | apply below_drew1) | exact HB.out)⟩
/-! ### impl_buckets: function 110 -/
def impl_buckets.l0 : Nat → Int → Int → List (List Int) → List ByteArray → Int → Int → Option ((List (List Int)))
  | 0, _, _, _, _, _, _ => none
  | k + 1, x0, x2, x7, x13, x14, x15 => if x15 < x14 then (if 0 ≤ x15 then (if x15 < (x13.length : Int) then ((impl_place.f k x0 0 (rdOf ByteArray.empty x13 x15) x2).bind fun t743 => (if 0 ≤ t743 then (if t743 < (x7.length : Int) then (if (rd_L4 x7 t743).length < 17592186044416 then (impl_buckets.l0 k x0 x2 (x7.set (t743 : Int).toNat ((rd_L4 x7 t743) ++ [x15])) x13 x14 (wrap64 (x15 + 1))) else (none)) else (none)) else (none))) else (none)) else (none)) else (some x7)
def impl_buckets.f (k : Nat) (a0 : Int) (l1 : List ByteArray) (a2 : Int) : Option ((List (List Int))) := if 0 ≤ a2 then (if (a2 : Int).toNat ≤ 11728124029610 then (impl_buckets.l0 k a0 a2 (List.replicate (a2 : Int).toNat []) l1 (l1.length : Int) 0) else (none)) else (none)
theorem impl_buckets.mono_l : ∀ k, (∀ y0 y1 y2 y3 y4 y5, LeO (impl_buckets.l0 k y0 y1 y2 y3 y4 y5) (impl_buckets.l0 (k + 1) y0 y1 y2 y3 y4 y5))
  | 0 => fun _ _ _ _ _ _ r h => by simp [impl_buckets.l0] at h
  | k + 1 => by
    have ih0 := impl_buckets.mono_l k
    · intro y0 y1 y2 y3 y4 y5
      unfold impl_buckets.l0
      repeat' first
      | (with_reducible exact ih0 _ _ _ _ _ _)
      | (with_reducible exact impl_place.mono _ _ _ _ _)
      | (with_reducible exact LeO.refl _)
      | (with_reducible exact LeO.none _)
      | (with_reducible refine LeO.ite ?_ ?_)
      | (with_reducible refine LeO.bind ?_ (fun _ => ?_))
      | exact ih0 _ _ _ _ _ _
      | exact impl_place.mono _ _ _ _ _
      | exact LeO.none _
      | refine LeO.ite ?_ ?_
      | refine LeO.bind ?_ (fun _ => ?_)
theorem impl_buckets.mono : ∀ a0 a1 a2 k, LeO (impl_buckets.f k a0 a1 a2) (impl_buckets.f (k + 1) a0 a1 a2) := by
  intro a0 a1 a2 k
  have ih0 := impl_buckets.mono_l k
  unfold impl_buckets.f
  repeat' first
      | (with_reducible exact ih0 _ _ _ _ _ _)
      | (with_reducible exact impl_place.mono _ _ _ _ _)
      | (with_reducible exact LeO.refl _)
      | (with_reducible exact LeO.none _)
      | (with_reducible refine LeO.ite ?_ ?_)
      | (with_reducible refine LeO.bind ?_ (fun _ => ?_))
      | exact ih0 _ _ _ _ _ _
      | exact impl_place.mono _ _ _ _ _
      | exact LeO.none _
      | refine LeO.ite ?_ ?_
      | refine LeO.bind ?_ (fun _ => ?_)
noncomputable def impl_buckets.L0 (y0 : Int) (y1 : Int) (y2 : List (List Int)) (y3 : List ByteArray) (y4 : Int) (y5 : Int) : Option ((List (List Int))) := lim fun k => impl_buckets.l0 k y0 y1 y2 y3 y4 y5
theorem impl_buckets.L0_sup (y0 : Int) (y1 : Int) (y2 : List (List Int)) (y3 : List ByteArray) (y4 : Int) (y5 : Int) : Sup (fun k => impl_buckets.l0 k y0 y1 y2 y3 y4 y5) (impl_buckets.L0 y0 y1 y2 y3 y4 y5) := Sup.of_mono fun k => impl_buckets.mono_l k y0 y1 y2 y3 y4 y5
noncomputable def impl_buckets.F (a0 : Int) (l1 : List ByteArray) (a2 : Int) : Option ((List (List Int))) := lim fun k => impl_buckets.f k a0 l1 a2
theorem impl_buckets.F_sup (a0 : Int) (l1 : List ByteArray) (a2 : Int) : Sup (fun k => impl_buckets.f k a0 l1 a2) (impl_buckets.F a0 l1 a2) := Sup.of_mono fun k => impl_buckets.mono a0 l1 a2 k
theorem impl_buckets.L0_eq (x0 : Int) (x2 : Int) (x7 : List (List Int)) (x13 : List ByteArray) (x14 : Int) (x15 : Int) : impl_buckets.L0 x0 x2 x7 x13 x14 x15 = if x15 < x14 then (if 0 ≤ x15 then (if x15 < (x13.length : Int) then ((impl_place.F x0 0 (rdOf ByteArray.empty x13 x15) x2).bind fun t743 => (if 0 ≤ t743 then (if t743 < (x7.length : Int) then (if (rd_L4 x7 t743).length < 17592186044416 then (impl_buckets.L0 x0 x2 (x7.set (t743 : Int).toNat ((rd_L4 x7 t743) ++ [x15])) x13 x14 (wrap64 (x15 + 1))) else (none)) else (none)) else (none))) else (none)) else (none)) else (some x7) := by
  refine Sup.unique (impl_buckets.L0_sup x0 x2 x7 x13 x14 x15) (Sup.shift (fun k => impl_buckets.mono_l k x0 x2 x7 x13 x14 x15) (Sup.congr (g' := fun k => if x15 < x14 then (if 0 ≤ x15 then (if x15 < (x13.length : Int) then ((impl_place.f k x0 0 (rdOf ByteArray.empty x13 x15) x2).bind fun t743 => (if 0 ≤ t743 then (if t743 < (x7.length : Int) then (if (rd_L4 x7 t743).length < 17592186044416 then (impl_buckets.l0 k x0 x2 (x7.set (t743 : Int).toNat ((rd_L4 x7 t743) ++ [x15])) x13 x14 (wrap64 (x15 + 1))) else (none)) else (none)) else (none))) else (none)) else (none)) else (some x7)) (fun k => by first | rfl | simp only [impl_buckets.l0]) ?_))
  repeat' first
    | (with_reducible exact impl_buckets.L0_sup _ _ _ _ _ _)
    | (with_reducible exact impl_place.F_sup _ _ _ _)
    | (with_reducible refine Sup.ite ?_ ?_)
    | (with_reducible refine Sup.bind ?_ (fun _ => ?_))
    | (with_reducible exact Sup.const _)
    | exact impl_buckets.L0_sup _ _ _ _ _ _
    | exact impl_place.F_sup _ _ _ _
    | exact Sup.const _
theorem impl_buckets.F_eq (a0 : Int) (l1 : List ByteArray) (a2 : Int) : impl_buckets.F a0 l1 a2 = if 0 ≤ a2 then (if (a2 : Int).toNat ≤ 11728124029610 then (impl_buckets.L0 a0 a2 (List.replicate (a2 : Int).toNat []) l1 (l1.length : Int) 0) else (none)) else (none) := by
  refine Sup.unique (impl_buckets.F_sup a0 l1 a2) (Sup.congr (g' := fun k => if 0 ≤ a2 then (if (a2 : Int).toNat ≤ 11728124029610 then (impl_buckets.l0 k a0 a2 (List.replicate (a2 : Int).toNat []) l1 (l1.length : Int) 0) else (none)) else (none)) (fun k => by first | rfl | simp only [impl_buckets.f]) ?_)
  repeat' first
    | (with_reducible exact impl_buckets.L0_sup _ _ _ _ _ _)
    | (with_reducible exact impl_place.F_sup _ _ _ _)
    | (with_reducible refine Sup.ite ?_ ?_)
    | (with_reducible refine Sup.bind ?_ (fun _ => ?_))
    | (with_reducible exact Sup.const _)
    | exact impl_buckets.L0_sup _ _ _ _ _ _
    | exact impl_place.F_sup _ _ _ _
    | exact Sup.const _
set_option maxHeartbeats 8000000 in
set_option maxRecDepth 100000 in
theorem impl_buckets.calls (k : Nat) (a0 : Int) (A1 : Option Addr) (c1 : Nat) (l1 : List ByteArray) (a2 : Int) (r : List (List Int)) (w : World) (hr1 : Kd.C Kd.string w A1 l1.length l1) (hc1 : l1.length ≤ c1) (h : impl_buckets.f k a0 l1 a2 = some r) :
    Calls Try.prog 110 #[.int .i64 a0, .slice A1 l1.length c1, .int .i64 a2] w fun e w' => ∃ v0_ : Value, e = .returned (v0_) ∧ Kd.S (Kd.slice 3 (Kd.int .i64)) 22 w' w.heap.size (fun _ => True) v0_ r ∧ Below w.heap.size w w' := by
  have HR1 := Aside0.mk hr1
  have HC1 := Aside0.mk hc1
  clear hr1 hc1
  have HB := Aside0.mk (Below.refl w.heap.size w)
  have H : (if 0 ≤ a2 then (if (a2 : Int).toNat ≤ 11728124029610 then (impl_buckets.l0 k a0 a2 (List.replicate (a2 : Int).toNat []) l1 (l1.length : Int) 0) else (none)) else (none)) = some r := h
  clear h
  by_cases c4 : 0 ≤ a2
  ·rw [if_pos c4] at H
   have c4b0 := eq_true c4
   have c4b1 : decide (0 ≤ a2) = true := decide_eq_true c4
   clear c4
   by_cases c5 : (a2 : Int).toNat ≤ 11728124029610
   ·rw [if_pos c5] at H
    have c5b0 := eq_true c5
    have c5b1 : decide ((a2 : Int).toNat ≤ 11728124029610) = true := decide_eq_true c5
    clear c5
    obtain ⟨y739, hy739⟩ : ∃ y_ : List (List Int), y_ = (List.replicate (a2 : Int).toNat []) := ⟨_, rfl⟩
    replace H : (impl_buckets.l0 k a0 a2 y739 l1 (l1.length : Int) 0) = some r := by first | (rw [hy739]; with_reducible exact H) | (have H2_ := (Option.bind_some _ _).symm.trans H; rw [hy739]; with_reducible exact H2_) | (have H2_ := (Option.bind_some _ _).symm.trans H; with_reducible exact H2_) | with_reducible exact H | (rw [hy739]; exact H) | exact H
    have Ny739 := Aside0.mk hy739
    clear hy739
    have H' := Aside0.mk H
    clear H
    go_enter Try.func110, Try.ntmps110
    go_wp2_with (first | ((with_reducible refine gate_dst (N := 12) rfl ?_); refine Kd.S_make (Kd.slice 3 (Kd.int .i64)) _ 22 rfl (N := 12) rfl 73 _ _ rfl a2 rfl rfl Try.underlying73 (.slice none 0 0) 24 info22 rfl (by decide) (by omega) [] (ok := fun _ => True) (okp := fun _ => True) ⟨_, rfl, Kd.R_nil _ _ _ _ _⟩ (fun _ hk => hk) trivial (of_decide_eq_true (by first | (with_reducible assumption) | assumption)) (Nat.le_trans (Nat.mul_le_mul_right _ (of_decide_eq_true (by first | (with_reducible assumption) | assumption) : a2.toNat ≤ 11728124029610)) (by omega)) (Below.refl _ _) (Nat.le_refl _) ?_; intro v740 w6 ho7 hb hg_ hnew_; clear hg_ hnew_; (first | rw [← Ny739.out] at ho7 | (simp only [Int.reduceToNat] at ho7; rw [← Ny739.out] at ho7)); have n0_ := Aside0.mk (Kd.S_lower ho7 (below_size (by repeat (first | (with_reducible first | exact HB.out | apply below_alloc | apply pw_below_drewN | apply below_drew1) | exact HB.out)))); have n1_ := Aside0.mk (below_step (by repeat (first | (with_reducible first | exact HB.out | apply below_alloc | apply pw_below_drewN | apply below_drew1) | exact HB.out)) hb); clear HB; have HO741 := n0_; have HB := n1_; clear n0_ n1_; clear hb ho7))
    go_loopg [15] k (fun kq v15 w' => ∃ (x7_1 : List (List Int)) (x15_1 : Int), v15 = .int .i64 x15_1 ∧ Aside0 (impl_buckets.l0 kq a0 a2 x7_1 l1 (l1.length : Int) x15_1 = some r) ∧ Aside0 (kq ≤ k) ∧ Aside0 (Kd.S (Kd.slice 3 (Kd.int .i64)) 22 w' w.heap.size (fun _ => True) v740 x7_1) ∧ Aside0 (Below w.heap.size w w'))
    case atStart => exact ⟨(y739), (0), (by first | rfl | (simp; done) | (simp [*]; done)), H', ⟨Nat.le_refl _⟩, ⟨by (with_reducible repeat (first | apply Kd.S_alloc | apply Kd.S_drewN | apply Kd.S_drew)); exact HO741.out⟩, ⟨by repeat (first | (with_reducible first | exact HB.out | apply below_alloc | apply pw_below_drewN | apply below_drew1) | exact HB.out)⟩⟩
    case round =>
     clear H'
     try clear c1
     try clear p2
     try clear c4
     try clear c4b0
     try clear c4b1
     try clear c5
     try clear c5b0
     try clear c5b1
     obtain ⟨x7_1, x15_1, rfl, HA, HK1, HO_7, HB⟩ := hrel
     cases gk with
     | zero => exact absurd HA.out (by simp [impl_buckets.l0])
     | succ k1 =>
      have H := HA.out
      clear HA
      simp only [impl_buckets.l0] at H
      by_cases c8 : x15_1 < (l1.length : Int)
      ·rw [if_pos c8] at H
       have c8b0 : decide (x15_1 < (l1.length : Int)) = true := decide_eq_true c8
       clear c8
       by_cases c9 : 0 ≤ x15_1
       ·rw [if_pos c9] at H
        have c9b0 : decide (0 ≤ x15_1) = true := decide_eq_true c9
        clear c9
        by_cases c10 : x15_1 < (l1.length : Int)
        ·rw [if_pos c10] at H
         have c10b0 : decide (x15_1 < (l1.length : Int)) = true := decide_eq_true c10
         clear c10
         replace H := Option.bind_eq_some_iff.mp H
         obtain ⟨t743, A110, H⟩ := H
         replace H : (if 0 ≤ t743 then (if t743 < (x7_1.length : Int) then (if (rd_L4 x7_1 t743).length < 17592186044416 then (impl_buckets.l0 k1 a0 a2 (x7_1.set (t743 : Int).toNat ((rd_L4 x7_1 t743) ++ [x15_1])) l1 (l1.length : Int) (wrap64 (x15_1 + 1))) else (none)) else (none)) else (none)) = some r := H
         have A11 := Aside0.mk A110
         clear A110
         by_cases c12 : 0 ≤ t743
         ·rw [if_pos c12] at H
          have c12b0 : decide (0 ≤ t743) = true := decide_eq_true c12
          clear c12
          by_cases c13 : t743 < (x7_1.length : Int)
          ·rw [if_pos c13] at H
           have c13b0 : decide (t743 < (x7_1.length : Int)) = true := decide_eq_true c13
           clear c13
           by_cases c14 : (rd_L4 x7_1 t743).length < 17592186044416
           ·rw [if_pos c14] at H
            have LMc14 := Aside0.mk c14
            clear c14
            obtain ⟨y745, hy745⟩ : ∃ y_ : List Int, y_ = ((rd_L4 x7_1 t743) ++ [x15_1]) := ⟨_, rfl⟩
            replace H : (impl_buckets.l0 k1 a0 a2 (x7_1.set (t743 : Int).toNat y745) l1 (l1.length : Int) (wrap64 (x15_1 + 1))) = some r := by first | (rw [hy745]; with_reducible exact H) | (have H2_ := (Option.bind_some _ _).symm.trans H; rw [hy745]; with_reducible exact H2_) | (have H2_ := (Option.bind_some _ _).symm.trans H; with_reducible exact H2_) | with_reducible exact H | (rw [hy745]; exact H) | exact H
            have Ny745 := Aside0.mk hy745
            clear hy745
            obtain ⟨y748, hy748⟩ : ∃ y_ : List (List Int), y_ = (x7_1.set (t743 : Int).toNat y745) := ⟨_, rfl⟩
            replace H : (impl_buckets.l0 k1 a0 a2 y748 l1 (l1.length : Int) (wrap64 (x15_1 + 1))) = some r := by first | (rw [hy748]; with_reducible exact H) | (have H2_ := (Option.bind_some _ _).symm.trans H; rw [hy748]; with_reducible exact H2_) | (have H2_ := (Option.bind_some _ _).symm.trans H; with_reducible exact H2_) | with_reducible exact H | (rw [hy748]; exact H) | exact H
            have Ny748 := Aside0.mk hy748
            clear hy748
            have H' := Aside0.mk H
            clear H
            have p742 : 0 ≤ (x15_1 : Int) := of_decide_eq_true (by first | (with_reducible assumption) | assumption)
            have q742 : x15_1 < (l1.length : Int) := of_decide_eq_true (by first | (with_reducible assumption) | assumption)
            obtain ⟨ad742, e742, hx742_0⟩ := Kd.at_string HR1.out x15_1 p742 q742
            cases e742
            replace hx742_0 := (HB.out.cell (World.block_lt_of_cell? w _ hx742_0)).trans hx742_0
            replace p742 := eq_true p742
            replace q742 := eq_true q742
            go_wp2_with (first | ((with_reducible refine gate_callee (f := 90) rfl ?_); refine goesL_ (some 23) rfl rfl Try.func90 (by kernel_rfl) rfl #[.int .i64 a0, .int .i64 0, .string (rdOf ByteArray.empty l1 x15_1), .int .i64 a2] rfl (by (try simp only [List.map_toArray, List.map_cons, List.map_nil]); first | done | rfl | (simp only [List.length_drop, List.length_take]; rfl)) ?_; (with_reducible refine (impl_place.calls k1 a0 0 (rdOf ByteArray.empty l1 x15_1) a2 t743 _ A11.out).mono ?_); rintro e w' ⟨rfl, ⟨nd, rfl⟩⟩; refine ⟨_, rfl, ?_⟩; (try (rw [drewN_self wr]; generalize hq_ : World.drewN wr _ = wr; have n0_ : Aside0 (Kd.S (Kd.slice 3 (Kd.int .i64)) 22 wr w.heap.size (fun k_ => True) v740 x7_1) := ⟨by rw [← hq_]; exact (by (with_reducible repeat (first | apply Kd.S_alloc | apply Kd.S_drewN | apply Kd.S_drew)); exact HO_7.out)⟩; have n1_ : Aside0 (Below w.heap.size w wr) := ⟨by rw [← hq_]; exact (by repeat (first | (with_reducible first | exact HB.out | apply below_alloc | apply pw_below_drewN | apply below_drew1) | exact HB.out))⟩; clear HO_7 HB hq_; have HO_7 := n0_; have HB := n1_; clear n0_ n1_)); obtain ⟨Ao16, co16, eo16⟩ := Kd.S_slice HO_7.out; subst eo16; have p744 : 0 ≤ (t743 : Int) := of_decide_eq_true (by first | (with_reducible assumption) | assumption); have q744 : t743 < (x7_1.length : Int) := of_decide_eq_true (by first | (with_reducible assumption) | assumption); obtain ⟨ad744, A744_0, c744_0, e744, hx744_0, hl744_0, hi744_0⟩ := at_L4 (Kd.S_reads' HO_7.out).2.2 t743 p744 q744; cases e744; obtain ⟨ce744, hce744, hMe744, hcc744⟩ := Kd.S_get HO_7.out [] t743 p744 (by first | exact q744 | exact of_decide_eq_true (by first | (with_reducible assumption) | assumption) | (have e_ := (Kd.S_reads' HO_7.out).1; omega)); obtain ⟨ve744_0, rfl, ge744_0⟩ := hMe744; have hv744_0 := hcc744 0 _ rfl; rw [Nat.add_zero, show ((Kd.slice 3 (Kd.int .i64))).sz = 1 from rfl, Nat.mul_one] at hv744_0; replace hv744_0 := Option.some.inj (hv744_0.symm.trans hx744_0); rw [hv744_0] at ge744_0; have HL744_0 := Aside0.mk (show Kd.R (Kd.int .i64) 3 _ _ _ _ (rd_L4 x7_1 t743) from ge744_0); clear hv744_0 ge744_0; have HX744_0 := Aside0.mk hx744_0; clear hcc744 hce744; have HR744_0 := Aside0.mk hi744_0; have HC744_0 := Aside0.mk hl744_0; clear hi744_0 hl744_0; replace p744 := eq_true p744; replace q744 := eq_true q744; obtain ⟨go17, co17, eo17, gb17, gl17, cl17, HG17⟩ := Kd.S_form HO_7.out (by have h_ : (t743 : Int) < ((x7_1.length : Int) : Int) := of_decide_eq_true (by first | (with_reducible assumption) | assumption); have h2_ : 0 ≤ (t743 : Int) := (of_decide_eq_true (by first | (with_reducible assumption) | assumption)); omega); (first | cases eo17 | (injection eo17 with ea_ en_ ec_; (first | subst ea_ | (injection ea_ with ea_; subst ea_)); subst ec_; clear en_)); have GB17 := Aside0.mk gb17; have GG17 := Aside0.mk HG17; clear gb17 gl17 HG17; (first | simp only [add_plain] at hx744_0 | skip); obtain ⟨oki17, ce17, hcl17, hM17, hcc17, _, _, hH17⟩ := Kd.S_elem HO_7.out [] (t743 : Int) (of_decide_eq_true (by first | (with_reducible assumption) | assumption)) (by have h_ : (t743 : Int) < ((x7_1.length : Int) : Int) := of_decide_eq_true (by first | (with_reducible assumption) | assumption); first | exact h_ | (have e_ := (Kd.S_reads' HO_7.out).1; omega) | simpa using h_); obtain ⟨ve17_0, rfl, ge17_0⟩ := hM17; have hv17 := hcc17 0 _ rfl; have hX17 := HX744_0.out; (try simp only [add_plain] at hX17); (try simp only [Nat.add_zero] at hv17); (try rw [show ((Kd.slice 3 (Kd.int .i64))).sz = 1 from rfl, Nat.mul_one] at hv17); replace hv17 := Option.some.inj (hv17.symm.trans hX17); subst hv17; clear hX17 hcc17 hcl17; have UU17 := Aside0.mk (show Kd.R (Kd.int .i64) 3 _ w.heap.size oki17 (.slice A744_0 (rd_L4 x7_1 t743).length c744_0) (rd_L4 x7_1 t743) from ge17_0); have HH17 := Aside0.mk hH17; have HN17 := Aside0.mk (Kd.S_reads' HO_7.out).1; clear hH17 ge17_0) | ((with_reducible refine gate_builtin (b := .append) (xs := #[.tmp 29, .tmp 31]) rfl ?_); at_builtin; refine Kd.R_append (Kd.int .i64) (w0 := w) w.heap.size rfl (.tmp 29) (.tmp 31) 22 3 (.int .i64 0) 8 rfl Try.underlying22 info3 rfl (by decide) (by omega) (.slice A744_0 (rd_L4 x7_1 t743).length c744_0) (rd_L4 x7_1 t743) x15_1 [.int .i64 x15_1] (fun k_ => oki17 k_ ∨ ((fun _ => True)) k_ ∧ wr.heap.size ≤ k_) (fun _ => False) rfl rfl ?aP (fun _ hk => hk.elim) ?aF ?aO ?aB ?aS ?aL ?_; (case aP => exact rfl); (case aB => exact (by repeat (first | (with_reducible first | exact HB.out | apply below_alloc | apply pw_below_drewN | apply below_drew1) | exact HB.out))); (case aF => exact (fun k_ hk => .inr ⟨trivial, hk⟩)); (case aO => exact (by (with_reducible repeat (first | apply Kd.R_alloc | apply Kd.R_drewN | apply Kd.R_drew)); exact Kd.R_mono UU17.out (fun _ hk => .inl hk))); (case aS => exact (below_size (by repeat (first | (with_reducible first | exact HB.out | apply below_alloc | apply pw_below_drewN | apply below_drew1) | exact HB.out)))); (case aL => have := LMc14.out; omega); intro v746 w18 ho hb hg hat; rw [← Ny745.out] at ho; have n0_ := Aside0.mk (hb); have n1_ := Aside0.mk (Kd.H_grown (Kd.H_widen (by repeat (first | exact HH17.out | refine Kd.H_alloc ?_ _ | refine Kd.H_drewN ?_ _ | refine Kd.H_drew ?_))) hg (fun k_ e_ => .inl (UU17.out.1 k_ e_))); have n2_ := Aside0.mk (ho); clear HB; clear HH17; clear HO_7; clear UU17; clear HL744_0; have HB := n0_; have HH17 := n1_; have HO747 := n2_; clear n0_ n1_ n2_; clear ho hb hg hat; have p15 : 0 ≤ (t743 : Int) := of_decide_eq_true (by first | (with_reducible assumption) | assumption); have q15 : (t743 : Int) < ((x7_1.length : Int) : Int) := of_decide_eq_true (by first | (with_reducible assumption) | assumption); replace p15 := eq_true p15; replace q15 := eq_true q15; obtain ⟨Ao21, co21, eo21⟩ := Kd.R_slice HO747.out; subst eo21; obtain ⟨_, _, hraw19, _, _, hcc19, _⟩ := Kd.H_raw HH17.out (of_decide_eq_true (by first | (with_reducible assumption) | assumption)) (by have h_ : (t743 : Int) < ((x7_1.length : Int) : Int) := of_decide_eq_true (by first | (with_reducible assumption) | assumption); first | exact h_ | (have e_ := (HN17.out); omega) | simpa using h_); obtain ⟨_, hfr19⟩ := Kd.H_at HH17.out (of_decide_eq_true (by first | (with_reducible assumption) | assumption)) (by have h_ : (t743 : Int) < ((x7_1.length : Int) : Int) := of_decide_eq_true (by first | (with_reducible assumption) | assumption); first | exact h_ | (have e_ := (HN17.out); omega) | simpa using h_); have hx19_0 := hcc19 0 _ rfl; have hf19_0 := hfr19 0; (try simp only [Nat.add_zero] at hx19_0 hf19_0); (try rw [show ((Kd.slice 3 (Kd.int .i64))).sz = 1 from rfl, Nat.mul_one] at hx19_0); (try rw [show ((Kd.slice 3 (Kd.int .i64))).sz = 1 from rfl, Nat.mul_one] at hf19_0); have HP19 := Kd.S_seg0 HH17.out (of_decide_eq_true (by first | (with_reducible assumption) | assumption)) (by have h_ : (t743 : Int) < ((x7_1.length : Int) : Int) := of_decide_eq_true (by first | (with_reducible assumption) | assumption); first | exact h_ | (have e_ := (HN17.out); omega) | simpa using h_) (seg := [.slice Ao21 y745.length co21]) (j := 0) (show 1 ≤ 1 from by decide) (x' := y745) (Kd.M_row HO747.out) (fun _ hk => hk); (try simp only [show ((Kd.slice 3 (Kd.int .i64))).sz = 1 from rfl, Nat.mul_one, Nat.add_zero] at HP19); clear hcc19 hfr19) | ((with_reducible refine gate_store (t := 22) (p := 33) rfl ?_); refine store_event (t := 22) (p := 33) (v := ?vo_w20) (w1 := (w18.setCell ⟨go17, (t743 : Int).toNat, none⟩ (.slice Ao21 y745.length co21))) ?hg ?ho ?hn ?hr ?_; (case ho => rfl); (case hg => rfl); (case hn => rfl); (case hr => first | (go_simp; done) | (go_simp; rfl)); intro w20 hw; have hg : w18.grownBy w20 (some go17) := (by rw [hw]; exact HP19.2); have hp_ : Kd.S (Kd.slice 3 (Kd.int .i64)) 22 w20 w.heap.size (fun _ => True) (.slice (some ⟨go17, 0, none⟩) x7_1.length co16) y748 := (by rw [hw, Ny748.out]; exact HP19.1); clear HP19; have n0_ := Aside0.mk ((by rw [hw]; exact below_set HB.out GB17.out : Below w.heap.size w w20)); have n1_ := Aside0.mk (hp_); clear HB; clear HO747; clear HH17; have HB := n0_; have HO_7 := n1_; clear n0_ n1_; clear hg hw hp_ hraw19))
            go_roundg k1
            case measure => have := HK1.out; omega
            case rel => exact ⟨(y748), (wrap64 (x15_1 + 1)), (by first | rfl | (simp; done) | (simp [*]; done)), H', ⟨by have := HK1.out; omega⟩, ⟨by (with_reducible repeat (first | apply Kd.S_alloc | apply Kd.S_drewN | apply Kd.S_drew)); exact HO_7.out⟩, ⟨by repeat (first | (with_reducible first | exact HB.out | apply below_alloc | apply pw_below_drewN | apply below_drew1) | exact HB.out)⟩⟩
           ·rw [if_neg c14] at H
            exact absurd H (by simp)
          ·rw [if_neg c13] at H
           exact absurd H (by simp)
         ·rw [if_neg c12] at H
          exact absurd H (by simp)
        ·rw [if_neg c10] at H
         exact absurd H (by simp)
       ·rw [if_neg c9] at H
        exact absurd H (by simp)
      ·rw [if_neg c8] at H
       have c8b0 : decide (x15_1 < (l1.length : Int)) = false := decide_eq_false c8
       clear c8
       obtain rfl := Option.some.inj H
       go_wp2
       go_ret
       exact ⟨_, by first | rfl | (simp [errW_none, errW_some] <;> rfl) | (simp [*, errW_none, errW_some] <;> rfl), by (with_reducible repeat (first | apply Kd.S_alloc | apply Kd.S_drewN | apply Kd.S_drew)); exact HO_7.out, by repeat (first | (with_reducible first | exact HB.out | apply below_alloc | apply pw_below_drewN | apply below_drew1) | exact HB.out)⟩
   ·rw [if_neg c5] at H
    exact absurd H (by simp)
  ·rw [if_neg c4] at H
   exact absurd H (by simp)
/-! ### impl_BucketsOf: function 55 -/
def impl_BucketsOf.f (k : Nat) (a0 : Int) (l1 : List ByteArray) (a2 : Int) : Option ((List (List Int)) × Bool) := (impl_isSeed.f a0).bind fun t749 => (if t749 = true then ((impl_AreKeys.f k l1).bind fun t750 => (if t750 = true then ((impl_in.f a2 1 24).bind fun t751 => (if t751 = true then ((impl_buckets.f k a0 l1 a2).bind fun t752 => (some (t752, true))) else (some (([] : List (List Int)), false)))) else (some (([] : List (List Int)), false)))) else (some (([] : List (List Int)), false)))
theorem impl_BucketsOf.mono : ∀ a0 a1 a2 k, LeO (impl_BucketsOf.f k a0 a1 a2) (impl_BucketsOf.f (k + 1) a0 a1 a2) := by
  intro a0 a1 a2 k
  unfold impl_BucketsOf.f
  repeat' first
      | (with_reducible exact impl_AreKeys.mono _ _)
      | (with_reducible exact impl_buckets.mono _ _ _ _)
      | (with_reducible exact LeO.refl _)
      | (with_reducible exact LeO.none _)
      | (with_reducible refine LeO.ite ?_ ?_)
      | (with_reducible refine LeO.bind ?_ (fun _ => ?_))
      | exact impl_AreKeys.mono _ _
      | exact impl_buckets.mono _ _ _ _
      | exact LeO.none _
      | refine LeO.ite ?_ ?_
      | refine LeO.bind ?_ (fun _ => ?_)
noncomputable def impl_BucketsOf.F (a0 : Int) (l1 : List ByteArray) (a2 : Int) : Option ((List (List Int)) × Bool) := lim fun k => impl_BucketsOf.f k a0 l1 a2
theorem impl_BucketsOf.F_sup (a0 : Int) (l1 : List ByteArray) (a2 : Int) : Sup (fun k => impl_BucketsOf.f k a0 l1 a2) (impl_BucketsOf.F a0 l1 a2) := Sup.of_mono fun k => impl_BucketsOf.mono a0 l1 a2 k
theorem impl_BucketsOf.F_eq (a0 : Int) (l1 : List ByteArray) (a2 : Int) : impl_BucketsOf.F a0 l1 a2 = (impl_isSeed.f a0).bind fun t749 => (if t749 = true then ((impl_AreKeys.F l1).bind fun t750 => (if t750 = true then ((impl_in.f a2 1 24).bind fun t751 => (if t751 = true then ((impl_buckets.F a0 l1 a2).bind fun t752 => (some (t752, true))) else (some (([] : List (List Int)), false)))) else (some (([] : List (List Int)), false)))) else (some (([] : List (List Int)), false))) := by
  refine Sup.unique (impl_BucketsOf.F_sup a0 l1 a2) (Sup.congr (g' := fun k => (impl_isSeed.f a0).bind fun t749 => (if t749 = true then ((impl_AreKeys.f k l1).bind fun t750 => (if t750 = true then ((impl_in.f a2 1 24).bind fun t751 => (if t751 = true then ((impl_buckets.f k a0 l1 a2).bind fun t752 => (some (t752, true))) else (some (([] : List (List Int)), false)))) else (some (([] : List (List Int)), false)))) else (some (([] : List (List Int)), false)))) (fun k => by first | rfl | simp only [impl_BucketsOf.f]) ?_)
  repeat' first
    | (with_reducible exact impl_AreKeys.F_sup _)
    | (with_reducible exact impl_buckets.F_sup _ _ _)
    | (with_reducible refine Sup.ite ?_ ?_)
    | (with_reducible refine Sup.bind ?_ (fun _ => ?_))
    | (with_reducible exact Sup.const _)
    | exact impl_AreKeys.F_sup _
    | exact impl_buckets.F_sup _ _ _
    | exact Sup.const _
set_option maxHeartbeats 8000000 in
set_option maxRecDepth 100000 in
theorem impl_BucketsOf.calls (k : Nat) (a0 : Int) (A1 : Option Addr) (c1 : Nat) (l1 : List ByteArray) (a2 : Int) (r1 : List (List Int)) (r2 : Bool) (w : World) (hr1 : Kd.C Kd.string w A1 l1.length l1) (hc1 : l1.length ≤ c1) (h : impl_BucketsOf.f k a0 l1 a2 = some (r1, r2)) :
    Calls Try.prog 55 #[.int .i64 a0, .slice A1 l1.length c1, .int .i64 a2] w fun e w' => ∃ v0_ : Value, e = .returned (.tuple #[v0_, .bool r2]) ∧ Kd.S (Kd.slice 3 (Kd.int .i64)) 22 w' w.heap.size (fun _ => True) v0_ r1 ∧ Below w.heap.size w w' := by
  have HR1 := Aside0.mk hr1
  have HC1 := Aside0.mk hc1
  clear hr1 hc1
  have HB := Aside0.mk (Below.refl w.heap.size w)
  have H : ((impl_isSeed.f a0).bind fun t749 => (if t749 = true then ((impl_AreKeys.f k l1).bind fun t750 => (if t750 = true then ((impl_in.f a2 1 24).bind fun t751 => (if t751 = true then ((impl_buckets.f k a0 l1 a2).bind fun t752 => (some (t752, true))) else (some (([] : List (List Int)), false)))) else (some (([] : List (List Int)), false)))) else (some (([] : List (List Int)), false)))) = some (r1, r2) := h
  clear h
  replace H := Option.bind_eq_some_iff.mp H
  obtain ⟨t749, A40, H⟩ := H
  replace H : (if t749 = true then ((impl_AreKeys.f k l1).bind fun t750 => (if t750 = true then ((impl_in.f a2 1 24).bind fun t751 => (if t751 = true then ((impl_buckets.f k a0 l1 a2).bind fun t752 => (some (t752, true))) else (some (([] : List (List Int)), false)))) else (some (([] : List (List Int)), false)))) else (some (([] : List (List Int)), false))) = some (r1, r2) := H
  have A4 := Aside0.mk A40
  clear A40
  by_cases c5 : t749 = true
  ·subst c5
   have H1 : ((impl_AreKeys.f k l1).bind fun t750 => (if t750 = true then ((impl_in.f a2 1 24).bind fun t751 => (if t751 = true then ((impl_buckets.f k a0 l1 a2).bind fun t752 => (some (t752, true))) else (some (([] : List (List Int)), false)))) else (some (([] : List (List Int)), false)))) = some (r1, r2) := by rw [if_pos rfl] at H; exact H
   clear H
   have H := H1
   clear H1
   replace H := Option.bind_eq_some_iff.mp H
   obtain ⟨t750, A60, H⟩ := H
   replace H : (if t750 = true then ((impl_in.f a2 1 24).bind fun t751 => (if t751 = true then ((impl_buckets.f k a0 l1 a2).bind fun t752 => (some (t752, true))) else (some (([] : List (List Int)), false)))) else (some (([] : List (List Int)), false))) = some (r1, r2) := H
   have A6 := Aside0.mk A60
   clear A60
   by_cases c7 : t750 = true
   ·subst c7
    have H1 : ((impl_in.f a2 1 24).bind fun t751 => (if t751 = true then ((impl_buckets.f k a0 l1 a2).bind fun t752 => (some (t752, true))) else (some (([] : List (List Int)), false)))) = some (r1, r2) := by rw [if_pos rfl] at H; exact H
    clear H
    have H := H1
    clear H1
    replace H := Option.bind_eq_some_iff.mp H
    obtain ⟨t751, A80, H⟩ := H
    replace H : (if t751 = true then ((impl_buckets.f k a0 l1 a2).bind fun t752 => (some (t752, true))) else (some (([] : List (List Int)), false))) = some (r1, r2) := H
    have A8 := Aside0.mk A80
    clear A80
    by_cases c9 : t751 = true
    ·subst c9
     have H1 : ((impl_buckets.f k a0 l1 a2).bind fun t752 => (some (t752, true))) = some (r1, r2) := by rw [if_pos rfl] at H; exact H
     clear H
     have H := H1
     clear H1
     replace H := Option.bind_eq_some_iff.mp H
     obtain ⟨t752, A100, H⟩ := H
     replace H : (some (t752, true)) = some (r1, r2) := H
     have A10 := Aside0.mk A100
     clear A100
     simp only [Option.some.injEq, Prod.mk.injEq] at H
     obtain ⟨rfl, rfl⟩ := H
     go_enter Try.func55, Try.ntmps55
     go_wp2_with (first | ((with_reducible refine gate_callee (f := 80) rfl ?_); refine goesL_ (some 9) rfl rfl Try.func80 (by kernel_rfl) rfl #[.int .i64 a0] rfl (by (try simp only [List.map_toArray, List.map_cons, List.map_nil]); first | done | rfl | (simp only [List.length_drop, List.length_take]; rfl)) ?_; (with_reducible refine (impl_isSeed.calls a0 true _ A4.out).mono ?_); rintro e w' ⟨rfl, ⟨nd, rfl⟩⟩; refine ⟨_, rfl, ?_⟩) | (go_at_call 86; (with_reducible refine (impl_AreKeys.calls k _ _ l1 true _ ?side1 ?side2 A6.out).mono ?_); (case side1 => repeat (first | exact HR1.out | (with_reducible refine Kd.C_alloc ?_ _) | (with_reducible refine Kd.C_drewN ?_ _) | (with_reducible refine Kd.C_drew ?_))); (case side2 => exact HC1.out); rintro e w' ⟨rfl, ⟨nd, rfl⟩⟩) | (go_at_call 87; (with_reducible refine (impl_in.calls a2 1 24 true _ A8.out).mono ?_); rintro e w' ⟨rfl, ⟨nd, rfl⟩⟩) | ((with_reducible refine gate_callee (f := 110) rfl ?_); refine goesL_ (some 24) rfl rfl Try.func110 (by kernel_rfl) rfl #[.int .i64 a0, .slice A1 l1.length c1, .int .i64 a2] rfl (by (try simp only [List.map_toArray, List.map_cons, List.map_nil]); first | done | rfl | (simp only [List.length_drop, List.length_take]; rfl)) ?_; (with_reducible refine (impl_buckets.calls k a0 _ _ l1 a2 t752 _ ?side1 ?side2 A10.out).mono ?_); (case side1 => repeat (first | exact HR1.out | (with_reducible refine Kd.C_alloc ?_ _) | (with_reducible refine Kd.C_drewN ?_ _) | (with_reducible refine Kd.C_drew ?_))); (case side2 => exact HC1.out); rintro e w11 ⟨v753, rfl, ho0, hb⟩; refine ⟨_, rfl, ?_⟩; have n0_ := Aside0.mk (Kd.S_lower ho0 (below_size (by repeat (first | (with_reducible first | exact HB.out | apply below_alloc | apply pw_below_drewN | apply below_drew1) | exact HB.out)))); have n1_ := Aside0.mk (below_step (by repeat (first | (with_reducible first | exact HB.out | apply below_alloc | apply pw_below_drewN | apply below_drew1) | exact HB.out)) hb); clear HB; have HO754 := n0_; have HB := n1_; clear n0_ n1_; (try clear hb); (try clear hb2); (try clear hk); (try clear hi); (try clear ho0)))
     go_ret2
     exact ⟨_, by first | rfl | (simp [errW_none, errW_some] <;> rfl) | (simp [*, errW_none, errW_some] <;> rfl), by (with_reducible repeat (first | apply Kd.S_alloc | apply Kd.S_drewN | apply Kd.S_drew)); exact HO754.out, by repeat (first | (with_reducible first | exact HB.out | apply below_alloc | apply pw_below_drewN | apply below_drew1) | exact HB.out)⟩
    ·replace c9 := Bool.eq_false_iff.mpr c9
     subst c9
     have H1 : (some (([] : List (List Int)), false)) = some (r1, r2) := by rw [if_neg (show ¬ (false = true) by decide)] at H; exact H
     clear H
     have H := H1
     clear H1
     simp only [Option.some.injEq, Prod.mk.injEq] at H
     obtain ⟨rfl, rfl⟩ := H
     go_enter Try.func55, Try.ntmps55
     go_wp2_with (first | ((with_reducible refine gate_callee (f := 80) rfl ?_); refine goesL_ (some 9) rfl rfl Try.func80 (by kernel_rfl) rfl #[.int .i64 a0] rfl (by (try simp only [List.map_toArray, List.map_cons, List.map_nil]); first | done | rfl | (simp only [List.length_drop, List.length_take]; rfl)) ?_; (with_reducible refine (impl_isSeed.calls a0 true _ A4.out).mono ?_); rintro e w' ⟨rfl, ⟨nd, rfl⟩⟩; refine ⟨_, rfl, ?_⟩) | (go_at_call 86; (with_reducible refine (impl_AreKeys.calls k _ _ l1 true _ ?side1 ?side2 A6.out).mono ?_); (case side1 => repeat (first | exact HR1.out | (with_reducible refine Kd.C_alloc ?_ _) | (with_reducible refine Kd.C_drewN ?_ _) | (with_reducible refine Kd.C_drew ?_))); (case side2 => exact HC1.out); rintro e w' ⟨rfl, ⟨nd, rfl⟩⟩) | (go_at_call 87; (with_reducible refine (impl_in.calls a2 1 24 false _ A8.out).mono ?_); rintro e w' ⟨rfl, ⟨nd, rfl⟩⟩))
     go_ret2
     exact ⟨_, by first | rfl | (simp [errW_none, errW_some] <;> rfl) | (simp [*, errW_none, errW_some] <;> rfl), by first | exact Kd.S_nil _ _ _ _ _ | exact Kd.N_nil _ _ _ _ _ | exact Kd.V_nil _ _ _ _ _ | exact Kd.Q_nil _ _ _ _ _ | exact Kd.R_nil _ _ _ _ _, by repeat (first | (with_reducible first | exact HB.out | apply below_alloc | apply pw_below_drewN | apply below_drew1) | exact HB.out)⟩
   ·replace c7 := Bool.eq_false_iff.mpr c7
    subst c7
    have H1 : (some (([] : List (List Int)), false)) = some (r1, r2) := by rw [if_neg (show ¬ (false = true) by decide)] at H; exact H
    clear H
    have H := H1
    clear H1
    simp only [Option.some.injEq, Prod.mk.injEq] at H
    obtain ⟨rfl, rfl⟩ := H
    go_enter Try.func55, Try.ntmps55
    go_wp2_with (first | ((with_reducible refine gate_callee (f := 80) rfl ?_); refine goesL_ (some 9) rfl rfl Try.func80 (by kernel_rfl) rfl #[.int .i64 a0] rfl (by (try simp only [List.map_toArray, List.map_cons, List.map_nil]); first | done | rfl | (simp only [List.length_drop, List.length_take]; rfl)) ?_; (with_reducible refine (impl_isSeed.calls a0 true _ A4.out).mono ?_); rintro e w' ⟨rfl, ⟨nd, rfl⟩⟩; refine ⟨_, rfl, ?_⟩) | (go_at_call 86; (with_reducible refine (impl_AreKeys.calls k _ _ l1 false _ ?side1 ?side2 A6.out).mono ?_); (case side1 => repeat (first | exact HR1.out | (with_reducible refine Kd.C_alloc ?_ _) | (with_reducible refine Kd.C_drewN ?_ _) | (with_reducible refine Kd.C_drew ?_))); (case side2 => exact HC1.out); rintro e w' ⟨rfl, ⟨nd, rfl⟩⟩))
    go_ret2
    exact ⟨_, by first | rfl | (simp [errW_none, errW_some] <;> rfl) | (simp [*, errW_none, errW_some] <;> rfl), by first | exact Kd.S_nil _ _ _ _ _ | exact Kd.N_nil _ _ _ _ _ | exact Kd.V_nil _ _ _ _ _ | exact Kd.Q_nil _ _ _ _ _ | exact Kd.R_nil _ _ _ _ _, by repeat (first | (with_reducible first | exact HB.out | apply below_alloc | apply pw_below_drewN | apply below_drew1) | exact HB.out)⟩
  ·replace c5 := Bool.eq_false_iff.mpr c5
   subst c5
   have H1 : (some (([] : List (List Int)), false)) = some (r1, r2) := by rw [if_neg (show ¬ (false = true) by decide)] at H; exact H
   clear H
   have H := H1
   clear H1
   simp only [Option.some.injEq, Prod.mk.injEq] at H
   obtain ⟨rfl, rfl⟩ := H
   go_enter Try.func55, Try.ntmps55
   go_wp2_with (first | ((with_reducible refine gate_callee (f := 80) rfl ?_); refine goesL_ (some 9) rfl rfl Try.func80 (by kernel_rfl) rfl #[.int .i64 a0] rfl (by (try simp only [List.map_toArray, List.map_cons, List.map_nil]); first | done | rfl | (simp only [List.length_drop, List.length_take]; rfl)) ?_; (with_reducible refine (impl_isSeed.calls a0 false _ A4.out).mono ?_); rintro e w' ⟨rfl, ⟨nd, rfl⟩⟩; refine ⟨_, rfl, ?_⟩))
   go_ret2
   exact ⟨_, by first | rfl | (simp [errW_none, errW_some] <;> rfl) | (simp [*, errW_none, errW_some] <;> rfl), by first | exact Kd.S_nil _ _ _ _ _ | exact Kd.N_nil _ _ _ _ _ | exact Kd.V_nil _ _ _ _ _ | exact Kd.Q_nil _ _ _ _ _ | exact Kd.R_nil _ _ _ _ _, by repeat (first | (with_reducible first | exact HB.out | apply below_alloc | apply pw_below_drewN | apply below_drew1) | exact HB.out)⟩
/-! ### laws_eqIntSS: function 56 -/
def laws_eqIntSS.l0 : Nat → List (List Int) → List (List Int) → Int → Option (Bool)
  | 0, _, _, _ => none
  | k + 1, x0, x1, x5 => if x5 < (x0.length : Int) then (if 0 ≤ x5 then (if x5 < (x1.length : Int) then ((laws_eqIntS.f k (rd_L4 x0 x5) (rd_L4 x1 x5)).bind fun t757 => (if t757 = true then (laws_eqIntSS.l0 k x0 x1 (wrap64 (x5 + 1))) else (some false))) else (none)) else (none)) else (some true)
def laws_eqIntSS.f (k : Nat) (l0 : List (List Int)) (l1 : List (List Int)) : Option (Bool) := if (l0.length : Int) = (l1.length : Int) then (laws_eqIntSS.l0 k l0 l1 0) else (some false)
theorem laws_eqIntSS.mono_l : ∀ k, (∀ y0 y1 y2, LeO (laws_eqIntSS.l0 k y0 y1 y2) (laws_eqIntSS.l0 (k + 1) y0 y1 y2))
  | 0 => fun _ _ _ r h => by simp [laws_eqIntSS.l0] at h
  | k + 1 => by
    have ih0 := laws_eqIntSS.mono_l k
    · intro y0 y1 y2
      unfold laws_eqIntSS.l0
      repeat' first
      | (with_reducible exact ih0 _ _ _)
      | (with_reducible exact laws_eqIntS.mono _ _ _)
      | (with_reducible exact LeO.refl _)
      | (with_reducible exact LeO.none _)
      | (with_reducible refine LeO.ite ?_ ?_)
      | (with_reducible refine LeO.bind ?_ (fun _ => ?_))
      | exact ih0 _ _ _
      | exact laws_eqIntS.mono _ _ _
      | exact LeO.none _
      | refine LeO.ite ?_ ?_
      | refine LeO.bind ?_ (fun _ => ?_)
theorem laws_eqIntSS.mono : ∀ a0 a1 k, LeO (laws_eqIntSS.f k a0 a1) (laws_eqIntSS.f (k + 1) a0 a1) := by
  intro a0 a1 k
  have ih0 := laws_eqIntSS.mono_l k
  unfold laws_eqIntSS.f
  repeat' first
      | (with_reducible exact ih0 _ _ _)
      | (with_reducible exact laws_eqIntS.mono _ _ _)
      | (with_reducible exact LeO.refl _)
      | (with_reducible exact LeO.none _)
      | (with_reducible refine LeO.ite ?_ ?_)
      | (with_reducible refine LeO.bind ?_ (fun _ => ?_))
      | exact ih0 _ _ _
      | exact laws_eqIntS.mono _ _ _
      | exact LeO.none _
      | refine LeO.ite ?_ ?_
      | refine LeO.bind ?_ (fun _ => ?_)
noncomputable def laws_eqIntSS.L0 (y0 : List (List Int)) (y1 : List (List Int)) (y2 : Int) : Option (Bool) := lim fun k => laws_eqIntSS.l0 k y0 y1 y2
theorem laws_eqIntSS.L0_sup (y0 : List (List Int)) (y1 : List (List Int)) (y2 : Int) : Sup (fun k => laws_eqIntSS.l0 k y0 y1 y2) (laws_eqIntSS.L0 y0 y1 y2) := Sup.of_mono fun k => laws_eqIntSS.mono_l k y0 y1 y2
noncomputable def laws_eqIntSS.F (l0 : List (List Int)) (l1 : List (List Int)) : Option (Bool) := lim fun k => laws_eqIntSS.f k l0 l1
theorem laws_eqIntSS.F_sup (l0 : List (List Int)) (l1 : List (List Int)) : Sup (fun k => laws_eqIntSS.f k l0 l1) (laws_eqIntSS.F l0 l1) := Sup.of_mono fun k => laws_eqIntSS.mono l0 l1 k
theorem laws_eqIntSS.L0_eq (x0 : List (List Int)) (x1 : List (List Int)) (x5 : Int) : laws_eqIntSS.L0 x0 x1 x5 = if x5 < (x0.length : Int) then (if 0 ≤ x5 then (if x5 < (x1.length : Int) then ((laws_eqIntS.F (rd_L4 x0 x5) (rd_L4 x1 x5)).bind fun t757 => (if t757 = true then (laws_eqIntSS.L0 x0 x1 (wrap64 (x5 + 1))) else (some false))) else (none)) else (none)) else (some true) := by
  refine Sup.unique (laws_eqIntSS.L0_sup x0 x1 x5) (Sup.shift (fun k => laws_eqIntSS.mono_l k x0 x1 x5) (Sup.congr (g' := fun k => if x5 < (x0.length : Int) then (if 0 ≤ x5 then (if x5 < (x1.length : Int) then ((laws_eqIntS.f k (rd_L4 x0 x5) (rd_L4 x1 x5)).bind fun t757 => (if t757 = true then (laws_eqIntSS.l0 k x0 x1 (wrap64 (x5 + 1))) else (some false))) else (none)) else (none)) else (some true)) (fun k => by first | rfl | simp only [laws_eqIntSS.l0]) ?_))
  repeat' first
    | (with_reducible exact laws_eqIntSS.L0_sup _ _ _)
    | (with_reducible exact laws_eqIntS.F_sup _ _)
    | (with_reducible refine Sup.ite ?_ ?_)
    | (with_reducible refine Sup.bind ?_ (fun _ => ?_))
    | (with_reducible exact Sup.const _)
    | exact laws_eqIntSS.L0_sup _ _ _
    | exact laws_eqIntS.F_sup _ _
    | exact Sup.const _
theorem laws_eqIntSS.F_eq (l0 : List (List Int)) (l1 : List (List Int)) : laws_eqIntSS.F l0 l1 = if (l0.length : Int) = (l1.length : Int) then (laws_eqIntSS.L0 l0 l1 0) else (some false) := by
  refine Sup.unique (laws_eqIntSS.F_sup l0 l1) (Sup.congr (g' := fun k => if (l0.length : Int) = (l1.length : Int) then (laws_eqIntSS.l0 k l0 l1 0) else (some false)) (fun k => by first | rfl | simp only [laws_eqIntSS.f]) ?_)
  repeat' first
    | (with_reducible exact laws_eqIntSS.L0_sup _ _ _)
    | (with_reducible exact laws_eqIntS.F_sup _ _)
    | (with_reducible refine Sup.ite ?_ ?_)
    | (with_reducible refine Sup.bind ?_ (fun _ => ?_))
    | (with_reducible exact Sup.const _)
    | exact laws_eqIntSS.L0_sup _ _ _
    | exact laws_eqIntS.F_sup _ _
    | exact Sup.const _
set_option maxHeartbeats 8000000 in
set_option maxRecDepth 100000 in
theorem laws_eqIntSS.calls (k : Nat) (A0 : Option Addr) (c0 : Nat) (l0 : List (List Int)) (A1 : Option Addr) (c1 : Nat) (l1 : List (List Int)) (r : Bool) (w : World) (hr0 : Kd.C (Kd.slice 3 (Kd.int .i64)) w A0 l0.length l0) (hc0 : l0.length ≤ c0) (hr1 : Kd.C (Kd.slice 3 (Kd.int .i64)) w A1 l1.length l1) (hc1 : l1.length ≤ c1) (h : laws_eqIntSS.f k l0 l1 = some r) :
    Calls Try.prog 56 #[.slice A0 l0.length c0, .slice A1 l1.length c1] w fun e w' => e = .returned (.bool r) ∧ Drawn0 w w' := by
  have HR0 := Aside0.mk hr0
  have HC0 := Aside0.mk hc0
  clear hr0 hc0
  have HR1 := Aside0.mk hr1
  have HC1 := Aside0.mk hc1
  clear hr1 hc1
  have H : (if (l0.length : Int) = (l1.length : Int) then (laws_eqIntSS.l0 k l0 l1 0) else (some false)) = some r := h
  clear h
  by_cases c3 : (l0.length : Int) = (l1.length : Int)
  ·rw [if_pos c3] at H
   have c3b0 : ((l0.length : Int) == (l1.length : Int)) = true := beq_iff_eq.mpr c3
   have c3b1 : ((l0.length : Int) != (l1.length : Int)) = false := bne_eq_false_iff_eq.mpr c3
   have c3b2 : (l0.length == l1.length) = true := by first | simpa using c3 | (simp at c3 ⊢; omega)
   clear c3
   have H' := Aside0.mk H
   clear H
   go_enter Try.func56, Try.ntmps56
   go_wp2
   repeat (go_quiet (fail); try go_wp2)
   go_loopg [5] k (fun kq v5 w' => ∃ (x5_1 : Int), v5 = .int .i64 x5_1 ∧ Aside0 (laws_eqIntSS.l0 kq l0 l1 x5_1 = some r) ∧ Aside0 (kq ≤ k) ∧ Drawn0 w w')
   case atStart => exact ⟨(0), (by first | rfl | (simp; done) | (simp [*]; done)), H', ⟨Nat.le_refl _⟩, by repeat (first | exact Drawn0.refl _ | apply Drawn0.step)⟩
   case round =>
    clear H'
    try clear c1
    try clear p2
    try clear c3
    try clear c3b0
    try clear c3b1
    try clear c3b2
    obtain ⟨x5_1, rfl, HA, HK1, ⟨m1, rfl⟩⟩ := hrel
    cases gk with
    | zero => exact absurd HA.out (by simp [laws_eqIntSS.l0])
    | succ k1 =>
     have H := HA.out
     clear HA
     simp only [laws_eqIntSS.l0] at H
     by_cases c4 : x5_1 < (l0.length : Int)
     ·rw [if_pos c4] at H
      have c4b0 : decide (x5_1 < (l0.length : Int)) = true := decide_eq_true c4
      clear c4
      by_cases c5 : 0 ≤ x5_1
      ·rw [if_pos c5] at H
       have c5b0 : decide (0 ≤ x5_1) = true := decide_eq_true c5
       clear c5
       by_cases c6 : x5_1 < (l1.length : Int)
       ·rw [if_pos c6] at H
        have c6b0 : decide (x5_1 < (l1.length : Int)) = true := decide_eq_true c6
        clear c6
        replace H := Option.bind_eq_some_iff.mp H
        obtain ⟨t757, A70, H⟩ := H
        replace H : (if t757 = true then (laws_eqIntSS.l0 k1 l0 l1 (wrap64 (x5_1 + 1))) else (some false)) = some r := H
        have A7 := Aside0.mk A70
        clear A70
        by_cases c8 : t757 = true
        ·subst c8
         have H1 : (laws_eqIntSS.l0 k1 l0 l1 (wrap64 (x5_1 + 1))) = some r := by rw [if_pos rfl] at H; exact H
         clear H
         have H := H1
         clear H1
         have H' := Aside0.mk H
         clear H
         have p755 : 0 ≤ (x5_1 : Int) := of_decide_eq_true (by first | (with_reducible assumption) | assumption)
         have q755 : x5_1 < (l0.length : Int) := of_decide_eq_true (by first | (with_reducible assumption) | assumption)
         obtain ⟨ad755, A755_0, c755_0, e755, hx755_0, hl755_0, hi755_0⟩ := at_L4 HR0.out x5_1 p755 q755
         cases e755
         have HR755_0 := Aside0.mk hi755_0
         have HC755_0 := Aside0.mk hl755_0
         clear hi755_0 hl755_0
         replace p755 := eq_true p755
         replace q755 := eq_true q755
         have p756 : 0 ≤ (x5_1 : Int) := of_decide_eq_true (by first | (with_reducible assumption) | assumption)
         have q756 : x5_1 < (l1.length : Int) := of_decide_eq_true (by first | (with_reducible assumption) | assumption)
         obtain ⟨ad756, A756_0, c756_0, e756, hx756_0, hl756_0, hi756_0⟩ := at_L4 HR1.out x5_1 p756 q756
         cases e756
         have HR756_0 := Aside0.mk hi756_0
         have HC756_0 := Aside0.mk hl756_0
         clear hi756_0 hl756_0
         replace p756 := eq_true p756
         replace q756 := eq_true q756
         go_wp2_with (first | (go_at_call 40; (with_reducible refine (laws_eqIntS.calls k1 _ _ (rd_L4 l0 x5_1) _ _ (rd_L4 l1 x5_1) true _ ?side1 ?side2 ?side3 ?side4 A7.out).mono ?_); (case side1 => repeat (first | exact HR755_0.out | (with_reducible refine Kd.C_alloc ?_ _) | (with_reducible refine Kd.C_drewN ?_ _) | (with_reducible refine Kd.C_drew ?_))); (case side2 => exact HC755_0.out); (case side3 => repeat (first | exact HR756_0.out | (with_reducible refine Kd.C_alloc ?_ _) | (with_reducible refine Kd.C_drewN ?_ _) | (with_reducible refine Kd.C_drew ?_))); (case side4 => exact HC756_0.out); rintro e w' ⟨rfl, ⟨nd, rfl⟩⟩; (try first | exact ⟨rfl, _, World.drewN_drewN _ _ _⟩ | exact ⟨rfl, _, Eq.trans (World.drewN_drewN _ _ _) (congrArg (World.drewN _) (Nat.add_assoc _ _ _))⟩)))
         repeat (go_quiet (first | (go_at_call 40; (with_reducible refine (laws_eqIntS.calls k1 _ _ (rd_L4 l0 x5_1) _ _ (rd_L4 l1 x5_1) true _ ?side1 ?side2 ?side3 ?side4 A7.out).mono ?_); (case side1 => repeat (first | exact HR755_0.out | (with_reducible refine Kd.C_alloc ?_ _) | (with_reducible refine Kd.C_drewN ?_ _) | (with_reducible refine Kd.C_drew ?_))); (case side2 => exact HC755_0.out); (case side3 => repeat (first | exact HR756_0.out | (with_reducible refine Kd.C_alloc ?_ _) | (with_reducible refine Kd.C_drewN ?_ _) | (with_reducible refine Kd.C_drew ?_))); (case side4 => exact HC756_0.out); rintro e w' ⟨rfl, ⟨nd, rfl⟩⟩; (try first | exact ⟨rfl, _, World.drewN_drewN _ _ _⟩ | exact ⟨rfl, _, Eq.trans (World.drewN_drewN _ _ _) (congrArg (World.drewN _) (Nat.add_assoc _ _ _))⟩))); try go_wp2_with (first | (go_at_call 40; (with_reducible refine (laws_eqIntS.calls k1 _ _ (rd_L4 l0 x5_1) _ _ (rd_L4 l1 x5_1) true _ ?side1 ?side2 ?side3 ?side4 A7.out).mono ?_); (case side1 => repeat (first | exact HR755_0.out | (with_reducible refine Kd.C_alloc ?_ _) | (with_reducible refine Kd.C_drewN ?_ _) | (with_reducible refine Kd.C_drew ?_))); (case side2 => exact HC755_0.out); (case side3 => repeat (first | exact HR756_0.out | (with_reducible refine Kd.C_alloc ?_ _) | (with_reducible refine Kd.C_drewN ?_ _) | (with_reducible refine Kd.C_drew ?_))); (case side4 => exact HC756_0.out); rintro e w' ⟨rfl, ⟨nd, rfl⟩⟩; (try first | exact ⟨rfl, _, World.drewN_drewN _ _ _⟩ | exact ⟨rfl, _, Eq.trans (World.drewN_drewN _ _ _) (congrArg (World.drewN _) (Nat.add_assoc _ _ _))⟩))))
         go_roundg k1
         case measure => have := HK1.out; omega
         case rel => exact ⟨(wrap64 (x5_1 + 1)), (by first | rfl | (simp; done) | (simp [*]; done)), H', ⟨by have := HK1.out; omega⟩, by repeat (first | exact Drawn0.refl _ | apply Drawn0.step)⟩
        ·replace c8 := Bool.eq_false_iff.mpr c8
         subst c8
         have H1 : (some false) = some r := by rw [if_neg (show ¬ (false = true) by decide)] at H; exact H
         clear H
         have H := H1
         clear H1
         obtain rfl := Option.some.inj H
         have p755 : 0 ≤ (x5_1 : Int) := of_decide_eq_true (by first | (with_reducible assumption) | assumption)
         have q755 : x5_1 < (l0.length : Int) := of_decide_eq_true (by first | (with_reducible assumption) | assumption)
         obtain ⟨ad755, A755_0, c755_0, e755, hx755_0, hl755_0, hi755_0⟩ := at_L4 HR0.out x5_1 p755 q755
         cases e755
         have HR755_0 := Aside0.mk hi755_0
         have HC755_0 := Aside0.mk hl755_0
         clear hi755_0 hl755_0
         replace p755 := eq_true p755
         replace q755 := eq_true q755
         have p756 : 0 ≤ (x5_1 : Int) := of_decide_eq_true (by first | (with_reducible assumption) | assumption)
         have q756 : x5_1 < (l1.length : Int) := of_decide_eq_true (by first | (with_reducible assumption) | assumption)
         obtain ⟨ad756, A756_0, c756_0, e756, hx756_0, hl756_0, hi756_0⟩ := at_L4 HR1.out x5_1 p756 q756
         cases e756
         have HR756_0 := Aside0.mk hi756_0
         have HC756_0 := Aside0.mk hl756_0
         clear hi756_0 hl756_0
         replace p756 := eq_true p756
         replace q756 := eq_true q756
         go_wp2_with (first | (go_at_call 40; (with_reducible refine (laws_eqIntS.calls k1 _ _ (rd_L4 l0 x5_1) _ _ (rd_L4 l1 x5_1) false _ ?side1 ?side2 ?side3 ?side4 A7.out).mono ?_); (case side1 => repeat (first | exact HR755_0.out | (with_reducible refine Kd.C_alloc ?_ _) | (with_reducible refine Kd.C_drewN ?_ _) | (with_reducible refine Kd.C_drew ?_))); (case side2 => exact HC755_0.out); (case side3 => repeat (first | exact HR756_0.out | (with_reducible refine Kd.C_alloc ?_ _) | (with_reducible refine Kd.C_drewN ?_ _) | (with_reducible refine Kd.C_drew ?_))); (case side4 => exact HC756_0.out); rintro e w' ⟨rfl, ⟨nd, rfl⟩⟩; (try first | exact ⟨rfl, _, World.drewN_drewN _ _ _⟩ | exact ⟨rfl, _, Eq.trans (World.drewN_drewN _ _ _) (congrArg (World.drewN _) (Nat.add_assoc _ _ _))⟩)))
         repeat (go_quiet (first | (go_at_call 40; (with_reducible refine (laws_eqIntS.calls k1 _ _ (rd_L4 l0 x5_1) _ _ (rd_L4 l1 x5_1) false _ ?side1 ?side2 ?side3 ?side4 A7.out).mono ?_); (case side1 => repeat (first | exact HR755_0.out | (with_reducible refine Kd.C_alloc ?_ _) | (with_reducible refine Kd.C_drewN ?_ _) | (with_reducible refine Kd.C_drew ?_))); (case side2 => exact HC755_0.out); (case side3 => repeat (first | exact HR756_0.out | (with_reducible refine Kd.C_alloc ?_ _) | (with_reducible refine Kd.C_drewN ?_ _) | (with_reducible refine Kd.C_drew ?_))); (case side4 => exact HC756_0.out); rintro e w' ⟨rfl, ⟨nd, rfl⟩⟩; (try first | exact ⟨rfl, _, World.drewN_drewN _ _ _⟩ | exact ⟨rfl, _, Eq.trans (World.drewN_drewN _ _ _) (congrArg (World.drewN _) (Nat.add_assoc _ _ _))⟩))); try go_wp2_with (first | (go_at_call 40; (with_reducible refine (laws_eqIntS.calls k1 _ _ (rd_L4 l0 x5_1) _ _ (rd_L4 l1 x5_1) false _ ?side1 ?side2 ?side3 ?side4 A7.out).mono ?_); (case side1 => repeat (first | exact HR755_0.out | (with_reducible refine Kd.C_alloc ?_ _) | (with_reducible refine Kd.C_drewN ?_ _) | (with_reducible refine Kd.C_drew ?_))); (case side2 => exact HC755_0.out); (case side3 => repeat (first | exact HR756_0.out | (with_reducible refine Kd.C_alloc ?_ _) | (with_reducible refine Kd.C_drewN ?_ _) | (with_reducible refine Kd.C_drew ?_))); (case side4 => exact HC756_0.out); rintro e w' ⟨rfl, ⟨nd, rfl⟩⟩; (try first | exact ⟨rfl, _, World.drewN_drewN _ _ _⟩ | exact ⟨rfl, _, Eq.trans (World.drewN_drewN _ _ _) (congrArg (World.drewN _) (Nat.add_assoc _ _ _))⟩))))
         go_ret
         exact ⟨by first | rfl | (simp; done) | (simp [*]; done), by repeat (first | exact Drawn0.refl _ | apply Drawn0.step)⟩
       ·rw [if_neg c6] at H
        exact absurd H (by simp)
      ·rw [if_neg c5] at H
       exact absurd H (by simp)
     ·rw [if_neg c4] at H
      have c4b0 : decide (x5_1 < (l0.length : Int)) = false := decide_eq_false c4
      clear c4
      obtain rfl := Option.some.inj H
      go_wp2
      repeat (go_quiet (fail); try go_wp2)
      go_ret
      exact ⟨by first | rfl | (simp; done) | (simp [*]; done), by repeat (first | exact Drawn0.refl _ | apply Drawn0.step)⟩
  ·rw [if_neg c3] at H
   have c3b0 : ((l0.length : Int) == (l1.length : Int)) = false := beq_eq_false_iff_ne.mpr c3
   have c3b1 : ((l0.length : Int) != (l1.length : Int)) = true := bne_iff_ne.mpr c3
   have c3b2 : (l0.length == l1.length) = false := by first | simpa using c3 | (simp at c3 ⊢; omega)
   obtain rfl := Option.some.inj H
   go_enter Try.func56, Try.ntmps56
   go_wp2
   repeat (go_quiet (fail); try go_wp2)
   go_ret
   exact ⟨by first | rfl | (simp; done) | (simp [*]; done), by repeat (first | exact Drawn0.refl _ | apply Drawn0.step)⟩
/-! ### laws_markIntSS: function 57 -/
def laws_markIntSS.l0 : Nat → List (List Int) → Int → Int → Option (Int × (List (List Int)))
  | 0, _, _, _ => none
  | k + 1, x0, x1, x5 => if x5 < (x0.length : Int) then (if 0 ≤ x5 then ((laws_markIntS.f k (rd_L4 x0 x5) x1).bind fun bt => (laws_markIntSS.l0 k (x0.set (x5 : Int).toNat bt.2) bt.1 (wrap64 (x5 + 1)))) else (none)) else (some (x1, x0))
def laws_markIntSS.f (k : Nat) (l0 : List (List Int)) (a1 : Int) : Option (Int × (List (List Int))) := laws_markIntSS.l0 k l0 a1 0
theorem laws_markIntSS.mono_l : ∀ k, (∀ y0 y1 y2, LeO (laws_markIntSS.l0 k y0 y1 y2) (laws_markIntSS.l0 (k + 1) y0 y1 y2))
  | 0 => fun _ _ _ r h => by simp [laws_markIntSS.l0] at h
  | k + 1 => by
    have ih0 := laws_markIntSS.mono_l k
    · intro y0 y1 y2
      unfold laws_markIntSS.l0
      repeat' first
      | (with_reducible exact ih0 _ _ _)
      | (with_reducible exact laws_markIntS.mono _ _ _)
      | (with_reducible exact LeO.refl _)
      | (with_reducible exact LeO.none _)
      | (with_reducible refine LeO.ite ?_ ?_)
      | (with_reducible refine LeO.bind ?_ (fun _ => ?_))
      | exact ih0 _ _ _
      | exact laws_markIntS.mono _ _ _
      | exact LeO.none _
      | refine LeO.ite ?_ ?_
      | refine LeO.bind ?_ (fun _ => ?_)
theorem laws_markIntSS.mono : ∀ a0 a1 k, LeO (laws_markIntSS.f k a0 a1) (laws_markIntSS.f (k + 1) a0 a1) := by
  intro a0 a1 k
  have ih0 := laws_markIntSS.mono_l k
  unfold laws_markIntSS.f
  repeat' first
      | (with_reducible exact ih0 _ _ _)
      | (with_reducible exact laws_markIntS.mono _ _ _)
      | (with_reducible exact LeO.refl _)
      | (with_reducible exact LeO.none _)
      | (with_reducible refine LeO.ite ?_ ?_)
      | (with_reducible refine LeO.bind ?_ (fun _ => ?_))
      | exact ih0 _ _ _
      | exact laws_markIntS.mono _ _ _
      | exact LeO.none _
      | refine LeO.ite ?_ ?_
      | refine LeO.bind ?_ (fun _ => ?_)
noncomputable def laws_markIntSS.L0 (y0 : List (List Int)) (y1 : Int) (y2 : Int) : Option (Int × (List (List Int))) := lim fun k => laws_markIntSS.l0 k y0 y1 y2
theorem laws_markIntSS.L0_sup (y0 : List (List Int)) (y1 : Int) (y2 : Int) : Sup (fun k => laws_markIntSS.l0 k y0 y1 y2) (laws_markIntSS.L0 y0 y1 y2) := Sup.of_mono fun k => laws_markIntSS.mono_l k y0 y1 y2
noncomputable def laws_markIntSS.F (l0 : List (List Int)) (a1 : Int) : Option (Int × (List (List Int))) := lim fun k => laws_markIntSS.f k l0 a1
theorem laws_markIntSS.F_sup (l0 : List (List Int)) (a1 : Int) : Sup (fun k => laws_markIntSS.f k l0 a1) (laws_markIntSS.F l0 a1) := Sup.of_mono fun k => laws_markIntSS.mono l0 a1 k
theorem laws_markIntSS.L0_eq (x0 : List (List Int)) (x1 : Int) (x5 : Int) : laws_markIntSS.L0 x0 x1 x5 = if x5 < (x0.length : Int) then (if 0 ≤ x5 then ((laws_markIntS.F (rd_L4 x0 x5) x1).bind fun bt => (laws_markIntSS.L0 (x0.set (x5 : Int).toNat bt.2) bt.1 (wrap64 (x5 + 1)))) else (none)) else (some (x1, x0)) := by
  refine Sup.unique (laws_markIntSS.L0_sup x0 x1 x5) (Sup.shift (fun k => laws_markIntSS.mono_l k x0 x1 x5) (Sup.congr (g' := fun k => if x5 < (x0.length : Int) then (if 0 ≤ x5 then ((laws_markIntS.f k (rd_L4 x0 x5) x1).bind fun bt => (laws_markIntSS.l0 k (x0.set (x5 : Int).toNat bt.2) bt.1 (wrap64 (x5 + 1)))) else (none)) else (some (x1, x0))) (fun k => by first | rfl | simp only [laws_markIntSS.l0]) ?_))
  repeat' first
    | (with_reducible exact laws_markIntSS.L0_sup _ _ _)
    | (with_reducible exact laws_markIntS.F_sup _ _)
    | (with_reducible refine Sup.ite ?_ ?_)
    | (with_reducible refine Sup.bind ?_ (fun _ => ?_))
    | (with_reducible exact Sup.const _)
    | exact laws_markIntSS.L0_sup _ _ _
    | exact laws_markIntS.F_sup _ _
    | exact Sup.const _
theorem laws_markIntSS.F_eq (l0 : List (List Int)) (a1 : Int) : laws_markIntSS.F l0 a1 = laws_markIntSS.L0 l0 a1 0 := by
  refine Sup.unique (laws_markIntSS.F_sup l0 a1) (Sup.congr (g' := fun k => laws_markIntSS.l0 k l0 a1 0) (fun k => by first | rfl | simp only [laws_markIntSS.f]) ?_)
  repeat' first
    | (with_reducible exact laws_markIntSS.L0_sup _ _ _)
    | (with_reducible exact laws_markIntS.F_sup _ _)
    | (with_reducible refine Sup.ite ?_ ?_)
    | (with_reducible refine Sup.bind ?_ (fun _ => ?_))
    | (with_reducible exact Sup.const _)
    | exact laws_markIntSS.L0_sup _ _ _
    | exact laws_markIntS.F_sup _ _
    | exact Sup.const _
set_option maxHeartbeats 8000000 in
set_option maxRecDepth 100000 in
theorem laws_markIntSS.calls (k : Nat) (P0_ : Nat → Prop) (u9000_ : Value) (l0 : List (List Int)) (a1 : Int) (r1 : Int) (r2 : List (List Int)) (w0 w : World) (hB : Below w0.heap.size w0 w) (ho0 : Kd.S ((Kd.slice 3 (Kd.int .i64))) 22 w w0.heap.size P0_ u9000_ l0) (h : laws_markIntSS.f k l0 a1 = some (r1, r2)) :
    Calls Try.prog 57 #[u9000_, .int .i64 a1] w fun e w' => e = .returned (.int .i64 r1) ∧ Kd.S ((Kd.slice 3 (Kd.int .i64))) 22 w' w0.heap.size P0_ u9000_ r2 ∧ Below w0.heap.size w0 w' ∧ Kept w w' P0_ := by
  have HO0 := Aside0.mk ho0
  have HK := Aside0.mk (Kept.refl w P0_)
  have HB := Aside0.mk hB
  clear hB ho0
  have H' := Aside0.mk (show laws_markIntSS.l0 k l0 a1 0 = some (r1, r2) from h)
  clear h
  go_enter Try.func57, Try.ntmps57
  go_wp2
  go_loopg [1, 5] k (fun kq v1 v5 w' => ∃ (x0_1 : List (List Int)) (x1_1 : Int) (x5_1 : Int), v1 = .int .i64 x1_1 ∧ v5 = .int .i64 x5_1 ∧ Aside0 (laws_markIntSS.l0 kq x0_1 x1_1 x5_1 = some (r1, r2)) ∧ Aside0 (kq ≤ k) ∧ Aside0 (Kd.S ((Kd.slice 3 (Kd.int .i64))) 22 w' w0.heap.size P0_ u9000_ x0_1) ∧ Aside0 (Kept w w' P0_) ∧ Aside0 (Below w0.heap.size w0 w'))
  case atStart => exact ⟨l0, a1, 0, rfl, rfl, H', ⟨Nat.le_refl _⟩, HO0, HK, HB⟩
  case round =>
   clear H' HO0 HK HB
   obtain ⟨x0_1, x1_1, x5_1, rfl, rfl, HA, HK1, HO_0, HK, HB⟩ := hrel
   cases gk with
   | zero => exact absurd HA.out (by simp [laws_markIntSS.l0])
   | succ k1 =>
    have H := HA.out
    clear HA
    simp only [laws_markIntSS.l0] at H
    by_cases c3 : x5_1 < (x0_1.length : Int)
    ·rw [if_pos c3] at H
     have c3b0 : decide (x5_1 < (x0_1.length : Int)) = true := decide_eq_true c3
     by_cases c4 : 0 ≤ x5_1
     ·rw [if_pos c4] at H
      have c4b0 : decide (0 ≤ x5_1) = true := decide_eq_true c4
      replace H := Option.bind_eq_some_iff.mp H
      obtain ⟨⟨t1, t2⟩, A80, H⟩ := H
      have A8 := Aside0.mk A80
      clear A80
      have H' := Aside0.mk (show laws_markIntSS.l0 k1 (x0_1.set (x5_1 : Int).toNat t2) t1 (wrap64 (x5_1 + 1)) = some (r1, r2) from H)
      clear H
      obtain ⟨go5, co5, eo5, gb5, gl5, cl5, HG5⟩ := Kd.R_form (Kd.S_R HO_0.out) (by omega)
      subst eo5
      have HL5 := Aside0.mk (Kd.S_lend HO_0.out [] x5_1 c4 c3)
      clear gb5 gl5 HG5
      obtain ⟨oki, cz, hcl, hM, hcc, hoki, hH⟩ := HL5.out
      clear HL5
      obtain ⟨vz, rfl, hR⟩ := (show ∃ v, cz = [v] ∧ ((Kd.int .i64)).R 3 _ w0.heap.size oki v (rd_L4 x0_1 x5_1) from hM)
      have hx5_0 := hcc 0 vz rfl
      rw [show (x5_1 : Int).toNat * ((Kd.slice 3 (Kd.int .i64))).sz + 0 = (x5_1 : Int).toNat from Nat.mul_one _] at hx5_0
      obtain ⟨Ao7, co7, rfl⟩ := Kd.R_slice hR
      have HR7 := Aside0.mk hR
      have HH7 := Aside0.mk hH
      have HQ7 := Aside0.mk hoki
      have HC7 := Aside0.mk hcc
      have HM7 := Aside0.mk hM
      clear hcc hcl hM hoki hR hH
      have p5 := eq_true c4
      have q5 := eq_true c3
      clear c3 c4
      go_wp2_with (first | ((with_reducible refine gate_callee (f := 42) rfl ?_); refine goesL_ (some 17) rfl rfl Try.func42 (by kernel_rfl) rfl #[.slice Ao7 (rd_L4 x0_1 x5_1).length co7, .int .i64 x1_1] rfl (by (try simp only [List.map_toArray, List.map_cons, List.map_nil]); first | done | rfl) ?_; (with_reducible refine (laws_markIntS.calls k1 oki (.slice Ao7 (rd_L4 x0_1 x5_1).length co7) (rd_L4 x0_1 x5_1) x1_1 t1 t2 w0 _ ?side1 ?side2 A8.out).mono ?_); (case side1 => exact HB.out); (case side2 => exact HR7.out); rintro e w8 ⟨rfl, hy0, hb, hkp⟩; refine ⟨_, rfl, ?_⟩; have n0_ := Aside0.mk (Kd.H_back (Kd.H_kept HH7.out hkp (fun k_ hk_ hn_ hs_ => hn_ hs_)) (x' := t2) (okp := oki) ⟨_, rfl, Kd.R_reok rfl hy0 (fun k_ e_ => HR7.out.1 k_ e_)⟩ (fun _ hk_ => hk_)); have n1_ := Aside0.mk (Kept.then_ (S := P0_) HK.out hkp (fun k_ hs_ => .inl (HQ7.out k_ hs_).1)); have n2_ := Aside0.mk hb; clear HO_0 HB HK; have HO_0 := n0_; have HK := n1_; have HB := n2_; clear n0_ n1_ n2_ hb hkp hy0))
      go_roundg k1
      case measure => have := HK1.out; omega
      case rel => exact ⟨x0_1.set (x5_1 : Int).toNat t2, t1, wrap64 (x5_1 + 1), rfl, by first | rfl | (simp; done) | (simp [*]; done), H', ⟨by have := HK1.out; omega⟩, HO_0, HK, HB⟩
     ·rw [if_neg c4] at H
      exact absurd H (by simp)
    ·rw [if_neg c3] at H
     have c3b0 : decide (x5_1 < (x0_1.length : Int)) = false := decide_eq_false c3
     clear c3
     simp only [Option.some.injEq, Prod.mk.injEq] at H
     obtain ⟨rfl, rfl⟩ := H
     obtain ⟨Ao9, co9, eo9⟩ := Kd.R_slice (Kd.S_R HO_0.out)
     subst eo9
     go_wp2
     go_ret
     exact ⟨rfl, HO_0.out, HB.out, HK.out⟩
/-! ### laws_heldIntSS: function 58 -/
def laws_heldIntSS.l0 : Nat → List (List Int) → Int → Int → Option (Int)
  | 0, _, _, _ => none
  | k + 1, x0, x1, x5 => if x5 < (x0.length : Int) then (if 0 ≤ x5 then ((laws_heldIntS.f k (rd_L4 x0 x5) x1).bind fun t759 => (if t759 < 0 then (some (-1)) else (laws_heldIntSS.l0 k x0 t759 (wrap64 (x5 + 1))))) else (none)) else (some x1)
def laws_heldIntSS.f (k : Nat) (l0 : List (List Int)) (a1 : Int) : Option (Int) := laws_heldIntSS.l0 k l0 a1 0
theorem laws_heldIntSS.mono_l : ∀ k, (∀ y0 y1 y2, LeO (laws_heldIntSS.l0 k y0 y1 y2) (laws_heldIntSS.l0 (k + 1) y0 y1 y2))
  | 0 => fun _ _ _ r h => by simp [laws_heldIntSS.l0] at h
  | k + 1 => by
    have ih0 := laws_heldIntSS.mono_l k
    · intro y0 y1 y2
      unfold laws_heldIntSS.l0
      repeat' first
      | (with_reducible exact ih0 _ _ _)
      | (with_reducible exact laws_heldIntS.mono _ _ _)
      | (with_reducible exact LeO.refl _)
      | (with_reducible exact LeO.none _)
      | (with_reducible refine LeO.ite ?_ ?_)
      | (with_reducible refine LeO.bind ?_ (fun _ => ?_))
      | exact ih0 _ _ _
      | exact laws_heldIntS.mono _ _ _
      | exact LeO.none _
      | refine LeO.ite ?_ ?_
      | refine LeO.bind ?_ (fun _ => ?_)
theorem laws_heldIntSS.mono : ∀ a0 a1 k, LeO (laws_heldIntSS.f k a0 a1) (laws_heldIntSS.f (k + 1) a0 a1) := by
  intro a0 a1 k
  have ih0 := laws_heldIntSS.mono_l k
  unfold laws_heldIntSS.f
  repeat' first
      | (with_reducible exact ih0 _ _ _)
      | (with_reducible exact laws_heldIntS.mono _ _ _)
      | (with_reducible exact LeO.refl _)
      | (with_reducible exact LeO.none _)
      | (with_reducible refine LeO.ite ?_ ?_)
      | (with_reducible refine LeO.bind ?_ (fun _ => ?_))
      | exact ih0 _ _ _
      | exact laws_heldIntS.mono _ _ _
      | exact LeO.none _
      | refine LeO.ite ?_ ?_
      | refine LeO.bind ?_ (fun _ => ?_)
noncomputable def laws_heldIntSS.L0 (y0 : List (List Int)) (y1 : Int) (y2 : Int) : Option (Int) := lim fun k => laws_heldIntSS.l0 k y0 y1 y2
theorem laws_heldIntSS.L0_sup (y0 : List (List Int)) (y1 : Int) (y2 : Int) : Sup (fun k => laws_heldIntSS.l0 k y0 y1 y2) (laws_heldIntSS.L0 y0 y1 y2) := Sup.of_mono fun k => laws_heldIntSS.mono_l k y0 y1 y2
noncomputable def laws_heldIntSS.F (l0 : List (List Int)) (a1 : Int) : Option (Int) := lim fun k => laws_heldIntSS.f k l0 a1
theorem laws_heldIntSS.F_sup (l0 : List (List Int)) (a1 : Int) : Sup (fun k => laws_heldIntSS.f k l0 a1) (laws_heldIntSS.F l0 a1) := Sup.of_mono fun k => laws_heldIntSS.mono l0 a1 k
theorem laws_heldIntSS.L0_eq (x0 : List (List Int)) (x1 : Int) (x5 : Int) : laws_heldIntSS.L0 x0 x1 x5 = if x5 < (x0.length : Int) then (if 0 ≤ x5 then ((laws_heldIntS.F (rd_L4 x0 x5) x1).bind fun t759 => (if t759 < 0 then (some (-1)) else (laws_heldIntSS.L0 x0 t759 (wrap64 (x5 + 1))))) else (none)) else (some x1) := by
  refine Sup.unique (laws_heldIntSS.L0_sup x0 x1 x5) (Sup.shift (fun k => laws_heldIntSS.mono_l k x0 x1 x5) (Sup.congr (g' := fun k => if x5 < (x0.length : Int) then (if 0 ≤ x5 then ((laws_heldIntS.f k (rd_L4 x0 x5) x1).bind fun t759 => (if t759 < 0 then (some (-1)) else (laws_heldIntSS.l0 k x0 t759 (wrap64 (x5 + 1))))) else (none)) else (some x1)) (fun k => by first | rfl | simp only [laws_heldIntSS.l0]) ?_))
  repeat' first
    | (with_reducible exact laws_heldIntSS.L0_sup _ _ _)
    | (with_reducible exact laws_heldIntS.F_sup _ _)
    | (with_reducible refine Sup.ite ?_ ?_)
    | (with_reducible refine Sup.bind ?_ (fun _ => ?_))
    | (with_reducible exact Sup.const _)
    | exact laws_heldIntSS.L0_sup _ _ _
    | exact laws_heldIntS.F_sup _ _
    | exact Sup.const _
theorem laws_heldIntSS.F_eq (l0 : List (List Int)) (a1 : Int) : laws_heldIntSS.F l0 a1 = laws_heldIntSS.L0 l0 a1 0 := by
  refine Sup.unique (laws_heldIntSS.F_sup l0 a1) (Sup.congr (g' := fun k => laws_heldIntSS.l0 k l0 a1 0) (fun k => by first | rfl | simp only [laws_heldIntSS.f]) ?_)
  repeat' first
    | (with_reducible exact laws_heldIntSS.L0_sup _ _ _)
    | (with_reducible exact laws_heldIntS.F_sup _ _)
    | (with_reducible refine Sup.ite ?_ ?_)
    | (with_reducible refine Sup.bind ?_ (fun _ => ?_))
    | (with_reducible exact Sup.const _)
    | exact laws_heldIntSS.L0_sup _ _ _
    | exact laws_heldIntS.F_sup _ _
    | exact Sup.const _
set_option maxHeartbeats 8000000 in
set_option maxRecDepth 100000 in
theorem laws_heldIntSS.calls (k : Nat) (A0 : Option Addr) (c0 : Nat) (l0 : List (List Int)) (a1 : Int) (r : Int) (w : World) (hr0 : Kd.C (Kd.slice 3 (Kd.int .i64)) w A0 l0.length l0) (hc0 : l0.length ≤ c0) (h : laws_heldIntSS.f k l0 a1 = some r) :
    Calls Try.prog 58 #[.slice A0 l0.length c0, .int .i64 a1] w fun e w' => e = .returned (.int .i64 r) ∧ Drawn0 w w' := by
  have HR0 := Aside0.mk hr0
  have HC0 := Aside0.mk hc0
  clear hr0 hc0
  have H : (laws_heldIntSS.l0 k l0 a1 0) = some r := h
  clear h
  have H' := Aside0.mk H
  clear H
  go_enter Try.func58, Try.ntmps58
  go_wp2
  go_loopg [1, 5] k (fun kq v1 v5 w' => ∃ (x1_1 : Int) (x5_1 : Int), v1 = .int .i64 x1_1 ∧ v5 = .int .i64 x5_1 ∧ Aside0 (laws_heldIntSS.l0 kq l0 x1_1 x5_1 = some r) ∧ Aside0 (kq ≤ k) ∧ Drawn0 w w')
  case atStart => exact ⟨(a1), (0), (by first | rfl | (simp; done) | (simp [*]; done)), (by first | rfl | (simp; done) | (simp [*]; done)), H', ⟨Nat.le_refl _⟩, by repeat (first | exact Drawn0.refl _ | apply Drawn0.step)⟩
  case round =>
   clear H'
   try clear p2
   obtain ⟨x1_1, x5_1, rfl, rfl, HA, HK1, ⟨m1, rfl⟩⟩ := hrel
   cases gk with
   | zero => exact absurd HA.out (by simp [laws_heldIntSS.l0])
   | succ k1 =>
    have H := HA.out
    clear HA
    simp only [laws_heldIntSS.l0] at H
    by_cases c3 : x5_1 < (l0.length : Int)
    ·rw [if_pos c3] at H
     have c3b0 : decide (x5_1 < (l0.length : Int)) = true := decide_eq_true c3
     clear c3
     by_cases c4 : 0 ≤ x5_1
     ·rw [if_pos c4] at H
      have c4b0 : decide (0 ≤ x5_1) = true := decide_eq_true c4
      clear c4
      replace H := Option.bind_eq_some_iff.mp H
      obtain ⟨t759, A50, H⟩ := H
      replace H : (if t759 < 0 then (some (-1)) else (laws_heldIntSS.l0 k1 l0 t759 (wrap64 (x5_1 + 1)))) = some r := H
      have A5 := Aside0.mk A50
      clear A50
      by_cases c6 : t759 < 0
      ·rw [if_pos c6] at H
       have c6b0 : decide (t759 < 0) = true := decide_eq_true c6
       clear c6
       obtain rfl := Option.some.inj H
       have p758 : 0 ≤ (x5_1 : Int) := of_decide_eq_true (by first | (with_reducible assumption) | assumption)
       have q758 : x5_1 < (l0.length : Int) := of_decide_eq_true (by first | (with_reducible assumption) | assumption)
       obtain ⟨ad758, A758_0, c758_0, e758, hx758_0, hl758_0, hi758_0⟩ := at_L4 HR0.out x5_1 p758 q758
       cases e758
       have HR758_0 := Aside0.mk hi758_0
       have HC758_0 := Aside0.mk hl758_0
       clear hi758_0 hl758_0
       replace p758 := eq_true p758
       replace q758 := eq_true q758
       go_wp2_with (first | ((with_reducible refine gate_callee (f := 43) rfl ?_); refine goesL_ (some 17) rfl rfl Try.func43 (by kernel_rfl) rfl #[.slice A758_0 (rd_L4 l0 x5_1).length c758_0, .int .i64 x1_1] rfl (by (try simp only [List.map_toArray, List.map_cons, List.map_nil]); first | done | rfl | (simp only [List.length_drop, List.length_take]; rfl)) ?_; (with_reducible refine (laws_heldIntS.calls k1 _ _ (rd_L4 l0 x5_1) x1_1 t759 _ ?side1 ?side2 A5.out).mono ?_); (case side1 => repeat (first | exact HR758_0.out | (with_reducible refine Kd.C_alloc ?_ _) | (with_reducible refine Kd.C_drewN ?_ _) | (with_reducible refine Kd.C_drew ?_))); (case side2 => exact HC758_0.out); rintro e w' ⟨rfl, ⟨nd, rfl⟩⟩; refine ⟨_, rfl, ?_⟩))
       go_ret
       exact ⟨by first | rfl | (simp; done) | (simp [*]; done), by repeat (first | exact Drawn0.refl _ | apply Drawn0.step)⟩
      ·rw [if_neg c6] at H
       have c6b0 : decide (t759 < 0) = false := decide_eq_false c6
       clear c6
       have H' := Aside0.mk H
       clear H
       have p758 : 0 ≤ (x5_1 : Int) := of_decide_eq_true (by first | (with_reducible assumption) | assumption)
       have q758 : x5_1 < (l0.length : Int) := of_decide_eq_true (by first | (with_reducible assumption) | assumption)
       obtain ⟨ad758, A758_0, c758_0, e758, hx758_0, hl758_0, hi758_0⟩ := at_L4 HR0.out x5_1 p758 q758
       cases e758
       have HR758_0 := Aside0.mk hi758_0
       have HC758_0 := Aside0.mk hl758_0
       clear hi758_0 hl758_0
       replace p758 := eq_true p758
       replace q758 := eq_true q758
       go_wp2_with (first | ((with_reducible refine gate_callee (f := 43) rfl ?_); refine goesL_ (some 17) rfl rfl Try.func43 (by kernel_rfl) rfl #[.slice A758_0 (rd_L4 l0 x5_1).length c758_0, .int .i64 x1_1] rfl (by (try simp only [List.map_toArray, List.map_cons, List.map_nil]); first | done | rfl | (simp only [List.length_drop, List.length_take]; rfl)) ?_; (with_reducible refine (laws_heldIntS.calls k1 _ _ (rd_L4 l0 x5_1) x1_1 t759 _ ?side1 ?side2 A5.out).mono ?_); (case side1 => repeat (first | exact HR758_0.out | (with_reducible refine Kd.C_alloc ?_ _) | (with_reducible refine Kd.C_drewN ?_ _) | (with_reducible refine Kd.C_drew ?_))); (case side2 => exact HC758_0.out); rintro e w' ⟨rfl, ⟨nd, rfl⟩⟩; refine ⟨_, rfl, ?_⟩))
       go_roundg k1
       case measure => have := HK1.out; omega
       case rel => exact ⟨(t759), (wrap64 (x5_1 + 1)), (by first | rfl | (simp; done) | (simp [*]; done)), (by first | rfl | (simp; done) | (simp [*]; done)), H', ⟨by have := HK1.out; omega⟩, by repeat (first | exact Drawn0.refl _ | apply Drawn0.step)⟩
     ·rw [if_neg c4] at H
      exact absurd H (by simp)
    ·rw [if_neg c3] at H
     have c3b0 : decide (x5_1 < (l0.length : Int)) = false := decide_eq_false c3
     clear c3
     obtain rfl := Option.some.inj H
     go_wp2
     go_ret
     exact ⟨by first | rfl | (simp; done) | (simp [*]; done), by repeat (first | exact Drawn0.refl _ | apply Drawn0.step)⟩
/-! ### laws_FnExactBucketsOf: function 11 -/
def laws_FnExactBucketsOf.f (k : Nat) (a0 : Int) (l1 : List ByteArray) (a2 : Int) : Option (Bool) := (laws_szStringS.f k l1 1048576).bind fun t760 => (if t760 < 0 then (some true) else ((laws_toStringS.f k l1).bind fun t761 => ((spec_BucketsOf.f k a0 t761 a2).bind fun bt764 => ((laws_toStringS.f k l1).bind fun t768 => ((impl_BucketsOf.f k a0 t768 a2).bind fun bt771 => ((laws_eqIntSS.f k bt771.1 bt764.1).bind fun t775 => (if t775 = true then (if (bt771.2 != bt764.2) = true then (none) else ((laws_toStringS.f k l1).bind fun t776 => ((laws_eqStringS.f k t768 t776).bind fun t779 => (if t779 = true then ((laws_markStringS.f k t768 1).bind fun bt780 => (if bt780.1 < 0 then (none) else ((laws_eqIntSS.f k bt771.1 bt764.1).bind fun t782 => (if t782 = true then ((laws_markIntSS.f k bt771.1 1).bind fun bt783 => ((laws_heldIntSS.f k bt783.2 1).bind fun t785 => (if t785 < 0 then (none) else (if t785 = bt783.1 then ((laws_toStringS.f k l1).bind fun t786 => ((impl_BucketsOf.f k a0 t786 a2).bind fun bt789 => ((laws_eqIntSS.f k bt789.1 bt764.1).bind fun t793 => (if t793 = true then (if (bt789.2 != bt764.2) = true then (none) else ((laws_heldIntSS.f k bt783.2 1).bind fun t794 => (if t794 < 0 then (none) else (if t794 = bt783.1 then (some true) else (none))))) else (none))))) else (none))))) else (none))))) else (none))))) else (none))))))))
theorem laws_FnExactBucketsOf.mono : ∀ a0 a1 a2 k, LeO (laws_FnExactBucketsOf.f k a0 a1 a2) (laws_FnExactBucketsOf.f (k + 1) a0 a1 a2) := by
  intro a0 a1 a2 k
  unfold laws_FnExactBucketsOf.f
  repeat' first
      | (with_reducible exact impl_BucketsOf.mono _ _ _ _)
      | (with_reducible exact laws_eqIntSS.mono _ _ _)
      | (with_reducible exact laws_eqStringS.mono _ _ _)
      | (with_reducible exact laws_heldIntSS.mono _ _ _)
      | (with_reducible exact laws_markIntSS.mono _ _ _)
      | (with_reducible exact laws_markStringS.mono _ _ _)
      | (with_reducible exact laws_szStringS.mono _ _ _)
      | (with_reducible exact laws_toStringS.mono _ _)
      | (with_reducible exact spec_BucketsOf.mono _ _ _ _)
      | (with_reducible exact LeO.refl _)
      | (with_reducible exact LeO.none _)
      | (with_reducible refine LeO.ite ?_ ?_)
      | (with_reducible refine LeO.bind ?_ (fun _ => ?_))
      | exact impl_BucketsOf.mono _ _ _ _
      | exact laws_eqIntSS.mono _ _ _
      | exact laws_eqStringS.mono _ _ _
      | exact laws_heldIntSS.mono _ _ _
      | exact laws_markIntSS.mono _ _ _
      | exact laws_markStringS.mono _ _ _
      | exact laws_szStringS.mono _ _ _
      | exact laws_toStringS.mono _ _
      | exact spec_BucketsOf.mono _ _ _ _
      | exact LeO.none _
      | refine LeO.ite ?_ ?_
      | refine LeO.bind ?_ (fun _ => ?_)
noncomputable def laws_FnExactBucketsOf.F (a0 : Int) (l1 : List ByteArray) (a2 : Int) : Option (Bool) := lim fun k => laws_FnExactBucketsOf.f k a0 l1 a2
theorem laws_FnExactBucketsOf.F_sup (a0 : Int) (l1 : List ByteArray) (a2 : Int) : Sup (fun k => laws_FnExactBucketsOf.f k a0 l1 a2) (laws_FnExactBucketsOf.F a0 l1 a2) := Sup.of_mono fun k => laws_FnExactBucketsOf.mono a0 l1 a2 k
theorem laws_FnExactBucketsOf.F_eq (a0 : Int) (l1 : List ByteArray) (a2 : Int) : laws_FnExactBucketsOf.F a0 l1 a2 = (laws_szStringS.F l1 1048576).bind fun t760 => (if t760 < 0 then (some true) else ((laws_toStringS.F l1).bind fun t761 => ((spec_BucketsOf.F a0 t761 a2).bind fun bt764 => ((laws_toStringS.F l1).bind fun t768 => ((impl_BucketsOf.F a0 t768 a2).bind fun bt771 => ((laws_eqIntSS.F bt771.1 bt764.1).bind fun t775 => (if t775 = true then (if (bt771.2 != bt764.2) = true then (none) else ((laws_toStringS.F l1).bind fun t776 => ((laws_eqStringS.F t768 t776).bind fun t779 => (if t779 = true then ((laws_markStringS.F t768 1).bind fun bt780 => (if bt780.1 < 0 then (none) else ((laws_eqIntSS.F bt771.1 bt764.1).bind fun t782 => (if t782 = true then ((laws_markIntSS.F bt771.1 1).bind fun bt783 => ((laws_heldIntSS.F bt783.2 1).bind fun t785 => (if t785 < 0 then (none) else (if t785 = bt783.1 then ((laws_toStringS.F l1).bind fun t786 => ((impl_BucketsOf.F a0 t786 a2).bind fun bt789 => ((laws_eqIntSS.F bt789.1 bt764.1).bind fun t793 => (if t793 = true then (if (bt789.2 != bt764.2) = true then (none) else ((laws_heldIntSS.F bt783.2 1).bind fun t794 => (if t794 < 0 then (none) else (if t794 = bt783.1 then (some true) else (none))))) else (none))))) else (none))))) else (none))))) else (none))))) else (none)))))))) := by
  refine Sup.unique (laws_FnExactBucketsOf.F_sup a0 l1 a2) (Sup.congr (g' := fun k => (laws_szStringS.f k l1 1048576).bind fun t760 => (if t760 < 0 then (some true) else ((laws_toStringS.f k l1).bind fun t761 => ((spec_BucketsOf.f k a0 t761 a2).bind fun bt764 => ((laws_toStringS.f k l1).bind fun t768 => ((impl_BucketsOf.f k a0 t768 a2).bind fun bt771 => ((laws_eqIntSS.f k bt771.1 bt764.1).bind fun t775 => (if t775 = true then (if (bt771.2 != bt764.2) = true then (none) else ((laws_toStringS.f k l1).bind fun t776 => ((laws_eqStringS.f k t768 t776).bind fun t779 => (if t779 = true then ((laws_markStringS.f k t768 1).bind fun bt780 => (if bt780.1 < 0 then (none) else ((laws_eqIntSS.f k bt771.1 bt764.1).bind fun t782 => (if t782 = true then ((laws_markIntSS.f k bt771.1 1).bind fun bt783 => ((laws_heldIntSS.f k bt783.2 1).bind fun t785 => (if t785 < 0 then (none) else (if t785 = bt783.1 then ((laws_toStringS.f k l1).bind fun t786 => ((impl_BucketsOf.f k a0 t786 a2).bind fun bt789 => ((laws_eqIntSS.f k bt789.1 bt764.1).bind fun t793 => (if t793 = true then (if (bt789.2 != bt764.2) = true then (none) else ((laws_heldIntSS.f k bt783.2 1).bind fun t794 => (if t794 < 0 then (none) else (if t794 = bt783.1 then (some true) else (none))))) else (none))))) else (none))))) else (none))))) else (none))))) else (none))))))))) (fun k => by first | rfl | simp only [laws_FnExactBucketsOf.f]) ?_)
  repeat' first
    | (with_reducible exact laws_szStringS.F_sup _ _)
    | (with_reducible exact laws_toStringS.F_sup _)
    | (with_reducible exact laws_eqStringS.F_sup _ _)
    | (with_reducible exact laws_markStringS.F_sup _ _)
    | (with_reducible exact spec_BucketsOf.F_sup _ _ _)
    | (with_reducible exact impl_BucketsOf.F_sup _ _ _)
    | (with_reducible exact laws_eqIntSS.F_sup _ _)
    | (with_reducible exact laws_markIntSS.F_sup _ _)
    | (with_reducible exact laws_heldIntSS.F_sup _ _)
    | (with_reducible refine Sup.ite ?_ ?_)
    | (with_reducible refine Sup.bind ?_ (fun _ => ?_))
    | (with_reducible exact Sup.const _)
    | exact laws_szStringS.F_sup _ _
    | exact laws_toStringS.F_sup _
    | exact laws_eqStringS.F_sup _ _
    | exact laws_markStringS.F_sup _ _
    | exact spec_BucketsOf.F_sup _ _ _
    | exact impl_BucketsOf.F_sup _ _ _
    | exact laws_eqIntSS.F_sup _ _
    | exact laws_markIntSS.F_sup _ _
    | exact laws_heldIntSS.F_sup _ _
    | exact Sup.const _
set_option maxHeartbeats 8000000 in
set_option maxRecDepth 100000 in
theorem laws_FnExactBucketsOf.calls (k : Nat) (a0 : Int) (A1 : Option Addr) (c1 : Nat) (l1 : List ByteArray) (a2 : Int) (r : Bool) (w : World) (hr1 : Kd.C Kd.string w A1 l1.length l1) (hc1 : l1.length ≤ c1) (h : laws_FnExactBucketsOf.f k a0 l1 a2 = some r) :
    Calls Try.prog 11 #[.int .i64 a0, .slice A1 l1.length c1, .int .i64 a2] w fun e w' => e = .returned (.bool r) ∧ Below w.heap.size w w' := by
  have HR1 := Aside0.mk hr1
  have HC1 := Aside0.mk hc1
  clear hr1 hc1
  have HB := Aside0.mk (Below.refl w.heap.size w)
  have H : ((laws_szStringS.f k l1 1048576).bind fun t760 => (if t760 < 0 then (some true) else ((laws_toStringS.f k l1).bind fun t761 => ((spec_BucketsOf.f k a0 t761 a2).bind fun bt764 => ((laws_toStringS.f k l1).bind fun t768 => ((impl_BucketsOf.f k a0 t768 a2).bind fun bt771 => ((laws_eqIntSS.f k bt771.1 bt764.1).bind fun t775 => (if t775 = true then (if (bt771.2 != bt764.2) = true then (none) else ((laws_toStringS.f k l1).bind fun t776 => ((laws_eqStringS.f k t768 t776).bind fun t779 => (if t779 = true then ((laws_markStringS.f k t768 1).bind fun bt780 => (if bt780.1 < 0 then (none) else ((laws_eqIntSS.f k bt771.1 bt764.1).bind fun t782 => (if t782 = true then ((laws_markIntSS.f k bt771.1 1).bind fun bt783 => ((laws_heldIntSS.f k bt783.2 1).bind fun t785 => (if t785 < 0 then (none) else (if t785 = bt783.1 then ((laws_toStringS.f k l1).bind fun t786 => ((impl_BucketsOf.f k a0 t786 a2).bind fun bt789 => ((laws_eqIntSS.f k bt789.1 bt764.1).bind fun t793 => (if t793 = true then (if (bt789.2 != bt764.2) = true then (none) else ((laws_heldIntSS.f k bt783.2 1).bind fun t794 => (if t794 < 0 then (none) else (if t794 = bt783.1 then (some true) else (none))))) else (none))))) else (none))))) else (none))))) else (none))))) else (none))))))))) = some r := h
  clear h
  replace H := Option.bind_eq_some_iff.mp H
  obtain ⟨t760, A40, H⟩ := H
  replace H : (if t760 < 0 then (some true) else ((laws_toStringS.f k l1).bind fun t761 => ((spec_BucketsOf.f k a0 t761 a2).bind fun bt764 => ((laws_toStringS.f k l1).bind fun t768 => ((impl_BucketsOf.f k a0 t768 a2).bind fun bt771 => ((laws_eqIntSS.f k bt771.1 bt764.1).bind fun t775 => (if t775 = true then (if (bt771.2 != bt764.2) = true then (none) else ((laws_toStringS.f k l1).bind fun t776 => ((laws_eqStringS.f k t768 t776).bind fun t779 => (if t779 = true then ((laws_markStringS.f k t768 1).bind fun bt780 => (if bt780.1 < 0 then (none) else ((laws_eqIntSS.f k bt771.1 bt764.1).bind fun t782 => (if t782 = true then ((laws_markIntSS.f k bt771.1 1).bind fun bt783 => ((laws_heldIntSS.f k bt783.2 1).bind fun t785 => (if t785 < 0 then (none) else (if t785 = bt783.1 then ((laws_toStringS.f k l1).bind fun t786 => ((impl_BucketsOf.f k a0 t786 a2).bind fun bt789 => ((laws_eqIntSS.f k bt789.1 bt764.1).bind fun t793 => (if t793 = true then (if (bt789.2 != bt764.2) = true then (none) else ((laws_heldIntSS.f k bt783.2 1).bind fun t794 => (if t794 < 0 then (none) else (if t794 = bt783.1 then (some true) else (none))))) else (none))))) else (none))))) else (none))))) else (none))))) else (none)))))))) = some r := H
  have A4 := Aside0.mk A40
  clear A40
  by_cases c5 : t760 < 0
  ·rw [if_pos c5] at H
   have c5b0 : decide (t760 < 0) = true := decide_eq_true c5
   clear c5
   obtain rfl := Option.some.inj H
   go_enter Try.func11, Try.ntmps11
   go_wp2_with (first | ((with_reducible refine gate_callee (f := 29) rfl ?_); refine goesL_ (some 20) rfl rfl Try.func29 (by kernel_rfl) rfl #[.slice A1 l1.length c1, .int .i64 1048576] rfl (by (try simp only [List.map_toArray, List.map_cons, List.map_nil]); first | done | rfl | (simp only [List.length_drop, List.length_take]; rfl)) ?_; (with_reducible refine (laws_szStringS.calls k _ _ l1 1048576 t760 _ ?side1 ?side2 A4.out).mono ?_); (case side1 => repeat (first | exact HR1.out | (with_reducible refine Kd.C_alloc ?_ _) | (with_reducible refine Kd.C_drewN ?_ _) | (with_reducible refine Kd.C_drew ?_))); (case side2 => exact HC1.out); rintro e w' ⟨rfl, ⟨nd, rfl⟩⟩; refine ⟨_, rfl, ?_⟩))
   go_ret
   exact ⟨by first | rfl | (simp [errW_none, errW_some] <;> rfl) | (simp [*, errW_none, errW_some] <;> rfl), by repeat (first | (with_reducible first | exact HB.out | apply below_alloc | apply pw_below_drewN | apply below_drew1) | exact HB.out)⟩
  ·rw [if_neg c5] at H
   have c5b0 : decide (t760 < 0) = false := decide_eq_false c5
   clear c5
   replace H := Option.bind_eq_some_iff.mp H
   obtain ⟨t761, A60, H⟩ := H
   replace H : ((spec_BucketsOf.f k a0 t761 a2).bind fun bt764 => ((laws_toStringS.f k l1).bind fun t768 => ((impl_BucketsOf.f k a0 t768 a2).bind fun bt771 => ((laws_eqIntSS.f k bt771.1 bt764.1).bind fun t775 => (if t775 = true then (if (bt771.2 != bt764.2) = true then (none) else ((laws_toStringS.f k l1).bind fun t776 => ((laws_eqStringS.f k t768 t776).bind fun t779 => (if t779 = true then ((laws_markStringS.f k t768 1).bind fun bt780 => (if bt780.1 < 0 then (none) else ((laws_eqIntSS.f k bt771.1 bt764.1).bind fun t782 => (if t782 = true then ((laws_markIntSS.f k bt771.1 1).bind fun bt783 => ((laws_heldIntSS.f k bt783.2 1).bind fun t785 => (if t785 < 0 then (none) else (if t785 = bt783.1 then ((laws_toStringS.f k l1).bind fun t786 => ((impl_BucketsOf.f k a0 t786 a2).bind fun bt789 => ((laws_eqIntSS.f k bt789.1 bt764.1).bind fun t793 => (if t793 = true then (if (bt789.2 != bt764.2) = true then (none) else ((laws_heldIntSS.f k bt783.2 1).bind fun t794 => (if t794 < 0 then (none) else (if t794 = bt783.1 then (some true) else (none))))) else (none))))) else (none))))) else (none))))) else (none))))) else (none)))))) = some r := H
   have A6 := Aside0.mk A60
   clear A60
   replace H := Option.bind_eq_some_iff.mp H
   obtain ⟨⟨t764, t765⟩, A70, H⟩ := H
   replace H : ((laws_toStringS.f k l1).bind fun t768 => ((impl_BucketsOf.f k a0 t768 a2).bind fun bt771 => ((laws_eqIntSS.f k bt771.1 t764).bind fun t775 => (if t775 = true then (if (bt771.2 != t765) = true then (none) else ((laws_toStringS.f k l1).bind fun t776 => ((laws_eqStringS.f k t768 t776).bind fun t779 => (if t779 = true then ((laws_markStringS.f k t768 1).bind fun bt780 => (if bt780.1 < 0 then (none) else ((laws_eqIntSS.f k bt771.1 t764).bind fun t782 => (if t782 = true then ((laws_markIntSS.f k bt771.1 1).bind fun bt783 => ((laws_heldIntSS.f k bt783.2 1).bind fun t785 => (if t785 < 0 then (none) else (if t785 = bt783.1 then ((laws_toStringS.f k l1).bind fun t786 => ((impl_BucketsOf.f k a0 t786 a2).bind fun bt789 => ((laws_eqIntSS.f k bt789.1 t764).bind fun t793 => (if t793 = true then (if (bt789.2 != t765) = true then (none) else ((laws_heldIntSS.f k bt783.2 1).bind fun t794 => (if t794 < 0 then (none) else (if t794 = bt783.1 then (some true) else (none))))) else (none))))) else (none))))) else (none))))) else (none))))) else (none))))) = some r := H
   have A7 := Aside0.mk A70
   clear A70
   replace H := Option.bind_eq_some_iff.mp H
   obtain ⟨t768, A80, H⟩ := H
   replace H : ((impl_BucketsOf.f k a0 t768 a2).bind fun bt771 => ((laws_eqIntSS.f k bt771.1 t764).bind fun t775 => (if t775 = true then (if (bt771.2 != t765) = true then (none) else ((laws_toStringS.f k l1).bind fun t776 => ((laws_eqStringS.f k t768 t776).bind fun t779 => (if t779 = true then ((laws_markStringS.f k t768 1).bind fun bt780 => (if bt780.1 < 0 then (none) else ((laws_eqIntSS.f k bt771.1 t764).bind fun t782 => (if t782 = true then ((laws_markIntSS.f k bt771.1 1).bind fun bt783 => ((laws_heldIntSS.f k bt783.2 1).bind fun t785 => (if t785 < 0 then (none) else (if t785 = bt783.1 then ((laws_toStringS.f k l1).bind fun t786 => ((impl_BucketsOf.f k a0 t786 a2).bind fun bt789 => ((laws_eqIntSS.f k bt789.1 t764).bind fun t793 => (if t793 = true then (if (bt789.2 != t765) = true then (none) else ((laws_heldIntSS.f k bt783.2 1).bind fun t794 => (if t794 < 0 then (none) else (if t794 = bt783.1 then (some true) else (none))))) else (none))))) else (none))))) else (none))))) else (none))))) else (none)))) = some r := H
   have A8 := Aside0.mk A80
   clear A80
   replace H := Option.bind_eq_some_iff.mp H
   obtain ⟨⟨t771, t772⟩, A90, H⟩ := H
   replace H : ((laws_eqIntSS.f k t771 t764).bind fun t775 => (if t775 = true then (if (t772 != t765) = true then (none) else ((laws_toStringS.f k l1).bind fun t776 => ((laws_eqStringS.f k t768 t776).bind fun t779 => (if t779 = true then ((laws_markStringS.f k t768 1).bind fun bt780 => (if bt780.1 < 0 then (none) else ((laws_eqIntSS.f k t771 t764).bind fun t782 => (if t782 = true then ((laws_markIntSS.f k t771 1).bind fun bt783 => ((laws_heldIntSS.f k bt783.2 1).bind fun t785 => (if t785 < 0 then (none) else (if t785 = bt783.1 then ((laws_toStringS.f k l1).bind fun t786 => ((impl_BucketsOf.f k a0 t786 a2).bind fun bt789 => ((laws_eqIntSS.f k bt789.1 t764).bind fun t793 => (if t793 = true then (if (bt789.2 != t765) = true then (none) else ((laws_heldIntSS.f k bt783.2 1).bind fun t794 => (if t794 < 0 then (none) else (if t794 = bt783.1 then (some true) else (none))))) else (none))))) else (none))))) else (none))))) else (none))))) else (none))) = some r := H
   have A9 := Aside0.mk A90
   clear A90
   replace H := Option.bind_eq_some_iff.mp H
   obtain ⟨t775, A100, H⟩ := H
   replace H : (if t775 = true then (if (t772 != t765) = true then (none) else ((laws_toStringS.f k l1).bind fun t776 => ((laws_eqStringS.f k t768 t776).bind fun t779 => (if t779 = true then ((laws_markStringS.f k t768 1).bind fun bt780 => (if bt780.1 < 0 then (none) else ((laws_eqIntSS.f k t771 t764).bind fun t782 => (if t782 = true then ((laws_markIntSS.f k t771 1).bind fun bt783 => ((laws_heldIntSS.f k bt783.2 1).bind fun t785 => (if t785 < 0 then (none) else (if t785 = bt783.1 then ((laws_toStringS.f k l1).bind fun t786 => ((impl_BucketsOf.f k a0 t786 a2).bind fun bt789 => ((laws_eqIntSS.f k bt789.1 t764).bind fun t793 => (if t793 = true then (if (bt789.2 != t765) = true then (none) else ((laws_heldIntSS.f k bt783.2 1).bind fun t794 => (if t794 < 0 then (none) else (if t794 = bt783.1 then (some true) else (none))))) else (none))))) else (none))))) else (none))))) else (none))))) else (none)) = some r := H
   have A10 := Aside0.mk A100
   clear A100
   by_cases c11 : t775 = true
   ·subst c11
    have H1 : (if (t772 != t765) = true then (none) else ((laws_toStringS.f k l1).bind fun t776 => ((laws_eqStringS.f k t768 t776).bind fun t779 => (if t779 = true then ((laws_markStringS.f k t768 1).bind fun bt780 => (if bt780.1 < 0 then (none) else ((laws_eqIntSS.f k t771 t764).bind fun t782 => (if t782 = true then ((laws_markIntSS.f k t771 1).bind fun bt783 => ((laws_heldIntSS.f k bt783.2 1).bind fun t785 => (if t785 < 0 then (none) else (if t785 = bt783.1 then ((laws_toStringS.f k l1).bind fun t786 => ((impl_BucketsOf.f k a0 t786 a2).bind fun bt789 => ((laws_eqIntSS.f k bt789.1 t764).bind fun t793 => (if t793 = true then (if (bt789.2 != t765) = true then (none) else ((laws_heldIntSS.f k bt783.2 1).bind fun t794 => (if t794 < 0 then (none) else (if t794 = bt783.1 then (some true) else (none))))) else (none))))) else (none))))) else (none))))) else (none))))) = some r := by rw [if_pos rfl] at H; exact H
    clear H
    have H := H1
    clear H1
    by_cases c12 : (t772 != t765) = true
    ·rw [if_pos c12] at H
     exact absurd H (by simp)
    ·rw [if_neg c12] at H
     have c12b0 : (t772 != t765) = false := by simpa using c12
     (try (have c12b1 : decide (t772 = t765) = true := by simpa using c12))
     (try (have c12b2 : (t772 == t765) = true := by simpa using c12))
     clear c12
     replace H := Option.bind_eq_some_iff.mp H
     obtain ⟨t776, A130, H⟩ := H
     replace H : ((laws_eqStringS.f k t768 t776).bind fun t779 => (if t779 = true then ((laws_markStringS.f k t768 1).bind fun bt780 => (if bt780.1 < 0 then (none) else ((laws_eqIntSS.f k t771 t764).bind fun t782 => (if t782 = true then ((laws_markIntSS.f k t771 1).bind fun bt783 => ((laws_heldIntSS.f k bt783.2 1).bind fun t785 => (if t785 < 0 then (none) else (if t785 = bt783.1 then ((laws_toStringS.f k l1).bind fun t786 => ((impl_BucketsOf.f k a0 t786 a2).bind fun bt789 => ((laws_eqIntSS.f k bt789.1 t764).bind fun t793 => (if t793 = true then (if (bt789.2 != t765) = true then (none) else ((laws_heldIntSS.f k bt783.2 1).bind fun t794 => (if t794 < 0 then (none) else (if t794 = bt783.1 then (some true) else (none))))) else (none))))) else (none))))) else (none))))) else (none))) = some r := H
     have A13 := Aside0.mk A130
     clear A130
     replace H := Option.bind_eq_some_iff.mp H
     obtain ⟨t779, A140, H⟩ := H
     replace H : (if t779 = true then ((laws_markStringS.f k t768 1).bind fun bt780 => (if bt780.1 < 0 then (none) else ((laws_eqIntSS.f k t771 t764).bind fun t782 => (if t782 = true then ((laws_markIntSS.f k t771 1).bind fun bt783 => ((laws_heldIntSS.f k bt783.2 1).bind fun t785 => (if t785 < 0 then (none) else (if t785 = bt783.1 then ((laws_toStringS.f k l1).bind fun t786 => ((impl_BucketsOf.f k a0 t786 a2).bind fun bt789 => ((laws_eqIntSS.f k bt789.1 t764).bind fun t793 => (if t793 = true then (if (bt789.2 != t765) = true then (none) else ((laws_heldIntSS.f k bt783.2 1).bind fun t794 => (if t794 < 0 then (none) else (if t794 = bt783.1 then (some true) else (none))))) else (none))))) else (none))))) else (none))))) else (none)) = some r := H
     have A14 := Aside0.mk A140
     clear A140
     by_cases c15 : t779 = true
     ·subst c15
      have H1 : ((laws_markStringS.f k t768 1).bind fun bt780 => (if bt780.1 < 0 then (none) else ((laws_eqIntSS.f k t771 t764).bind fun t782 => (if t782 = true then ((laws_markIntSS.f k t771 1).bind fun bt783 => ((laws_heldIntSS.f k bt783.2 1).bind fun t785 => (if t785 < 0 then (none) else (if t785 = bt783.1 then ((laws_toStringS.f k l1).bind fun t786 => ((impl_BucketsOf.f k a0 t786 a2).bind fun bt789 => ((laws_eqIntSS.f k bt789.1 t764).bind fun t793 => (if t793 = true then (if (bt789.2 != t765) = true then (none) else ((laws_heldIntSS.f k bt783.2 1).bind fun t794 => (if t794 < 0 then (none) else (if t794 = bt783.1 then (some true) else (none))))) else (none))))) else (none))))) else (none))))) = some r := by rw [if_pos rfl] at H; exact H
      clear H
      have H := H1
      clear H1
      replace H := Option.bind_eq_some_iff.mp H
      obtain ⟨⟨t780, t781⟩, A160, H⟩ := H
      replace H : (if t780 < 0 then (none) else ((laws_eqIntSS.f k t771 t764).bind fun t782 => (if t782 = true then ((laws_markIntSS.f k t771 1).bind fun bt783 => ((laws_heldIntSS.f k bt783.2 1).bind fun t785 => (if t785 < 0 then (none) else (if t785 = bt783.1 then ((laws_toStringS.f k l1).bind fun t786 => ((impl_BucketsOf.f k a0 t786 a2).bind fun bt789 => ((laws_eqIntSS.f k bt789.1 t764).bind fun t793 => (if t793 = true then (if (bt789.2 != t765) = true then (none) else ((laws_heldIntSS.f k bt783.2 1).bind fun t794 => (if t794 < 0 then (none) else (if t794 = bt783.1 then (some true) else (none))))) else (none))))) else (none))))) else (none)))) = some r := H
      have A16 := Aside0.mk A160
      clear A160
      by_cases c17 : t780 < 0
      ·rw [if_pos c17] at H
       exact absurd H (by simp)
      ·rw [if_neg c17] at H
       have c17b0 : decide (t780 < 0) = false := decide_eq_false c17
       clear c17
       replace H := Option.bind_eq_some_iff.mp H
       obtain ⟨t782, A180, H⟩ := H
       replace H : (if t782 = true then ((laws_markIntSS.f k t771 1).bind fun bt783 => ((laws_heldIntSS.f k bt783.2 1).bind fun t785 => (if t785 < 0 then (none) else (if t785 = bt783.1 then ((laws_toStringS.f k l1).bind fun t786 => ((impl_BucketsOf.f k a0 t786 a2).bind fun bt789 => ((laws_eqIntSS.f k bt789.1 t764).bind fun t793 => (if t793 = true then (if (bt789.2 != t765) = true then (none) else ((laws_heldIntSS.f k bt783.2 1).bind fun t794 => (if t794 < 0 then (none) else (if t794 = bt783.1 then (some true) else (none))))) else (none))))) else (none))))) else (none)) = some r := H
       have A18 := Aside0.mk A180
       clear A180
       by_cases c19 : t782 = true
       ·subst c19
        have H1 : ((laws_markIntSS.f k t771 1).bind fun bt783 => ((laws_heldIntSS.f k bt783.2 1).bind fun t785 => (if t785 < 0 then (none) else (if t785 = bt783.1 then ((laws_toStringS.f k l1).bind fun t786 => ((impl_BucketsOf.f k a0 t786 a2).bind fun bt789 => ((laws_eqIntSS.f k bt789.1 t764).bind fun t793 => (if t793 = true then (if (bt789.2 != t765) = true then (none) else ((laws_heldIntSS.f k bt783.2 1).bind fun t794 => (if t794 < 0 then (none) else (if t794 = bt783.1 then (some true) else (none))))) else (none))))) else (none))))) = some r := by rw [if_pos rfl] at H; exact H
        clear H
        have H := H1
        clear H1
        replace H := Option.bind_eq_some_iff.mp H
        obtain ⟨⟨t783, t784⟩, A200, H⟩ := H
        replace H : ((laws_heldIntSS.f k t784 1).bind fun t785 => (if t785 < 0 then (none) else (if t785 = t783 then ((laws_toStringS.f k l1).bind fun t786 => ((impl_BucketsOf.f k a0 t786 a2).bind fun bt789 => ((laws_eqIntSS.f k bt789.1 t764).bind fun t793 => (if t793 = true then (if (bt789.2 != t765) = true then (none) else ((laws_heldIntSS.f k t784 1).bind fun t794 => (if t794 < 0 then (none) else (if t794 = t783 then (some true) else (none))))) else (none))))) else (none)))) = some r := H
        have A20 := Aside0.mk A200
        clear A200
        replace H := Option.bind_eq_some_iff.mp H
        obtain ⟨t785, A210, H⟩ := H
        replace H : (if t785 < 0 then (none) else (if t785 = t783 then ((laws_toStringS.f k l1).bind fun t786 => ((impl_BucketsOf.f k a0 t786 a2).bind fun bt789 => ((laws_eqIntSS.f k bt789.1 t764).bind fun t793 => (if t793 = true then (if (bt789.2 != t765) = true then (none) else ((laws_heldIntSS.f k t784 1).bind fun t794 => (if t794 < 0 then (none) else (if t794 = t783 then (some true) else (none))))) else (none))))) else (none))) = some r := H
        have A21 := Aside0.mk A210
        clear A210
        by_cases c22 : t785 < 0
        ·rw [if_pos c22] at H
         exact absurd H (by simp)
        ·rw [if_neg c22] at H
         have c22b0 : decide (t785 < 0) = false := decide_eq_false c22
         clear c22
         by_cases c23 : t785 = t783
         ·rw [if_pos c23] at H
          have c23b0 : (t785 == t783) = true := beq_iff_eq.mpr c23
          have c23b1 : (t785 != t783) = false := bne_eq_false_iff_eq.mpr c23
          clear c23
          replace H := Option.bind_eq_some_iff.mp H
          obtain ⟨t786, A240, H⟩ := H
          replace H : ((impl_BucketsOf.f k a0 t786 a2).bind fun bt789 => ((laws_eqIntSS.f k bt789.1 t764).bind fun t793 => (if t793 = true then (if (bt789.2 != t765) = true then (none) else ((laws_heldIntSS.f k t784 1).bind fun t794 => (if t794 < 0 then (none) else (if t794 = t783 then (some true) else (none))))) else (none)))) = some r := H
          have A24 := Aside0.mk A240
          clear A240
          replace H := Option.bind_eq_some_iff.mp H
          obtain ⟨⟨t789, t790⟩, A250, H⟩ := H
          replace H : ((laws_eqIntSS.f k t789 t764).bind fun t793 => (if t793 = true then (if (t790 != t765) = true then (none) else ((laws_heldIntSS.f k t784 1).bind fun t794 => (if t794 < 0 then (none) else (if t794 = t783 then (some true) else (none))))) else (none))) = some r := H
          have A25 := Aside0.mk A250
          clear A250
          replace H := Option.bind_eq_some_iff.mp H
          obtain ⟨t793, A260, H⟩ := H
          replace H : (if t793 = true then (if (t790 != t765) = true then (none) else ((laws_heldIntSS.f k t784 1).bind fun t794 => (if t794 < 0 then (none) else (if t794 = t783 then (some true) else (none))))) else (none)) = some r := H
          have A26 := Aside0.mk A260
          clear A260
          by_cases c27 : t793 = true
          ·subst c27
           have H1 : (if (t790 != t765) = true then (none) else ((laws_heldIntSS.f k t784 1).bind fun t794 => (if t794 < 0 then (none) else (if t794 = t783 then (some true) else (none))))) = some r := by rw [if_pos rfl] at H; exact H
           clear H
           have H := H1
           clear H1
           by_cases c28 : (t790 != t765) = true
           ·rw [if_pos c28] at H
            exact absurd H (by simp)
           ·rw [if_neg c28] at H
            have c28b0 : (t790 != t765) = false := by simpa using c28
            (try (have c28b1 : decide (t790 = t765) = true := by simpa using c28))
            (try (have c28b2 : (t790 == t765) = true := by simpa using c28))
            clear c28
            replace H := Option.bind_eq_some_iff.mp H
            obtain ⟨t794, A290, H⟩ := H
            replace H : (if t794 < 0 then (none) else (if t794 = t783 then (some true) else (none))) = some r := H
            have A29 := Aside0.mk A290
            clear A290
            by_cases c30 : t794 < 0
            ·rw [if_pos c30] at H
             exact absurd H (by simp)
            ·rw [if_neg c30] at H
             have c30b0 : decide (t794 < 0) = false := decide_eq_false c30
             clear c30
             by_cases c31 : t794 = t783
             ·rw [if_pos c31] at H
              have c31b0 : (t794 == t783) = true := beq_iff_eq.mpr c31
              have c31b1 : (t794 != t783) = false := bne_eq_false_iff_eq.mpr c31
              clear c31
              obtain rfl := Option.some.inj H
              go_enter Try.func11, Try.ntmps11
              go_wp2_with (first | ((with_reducible refine gate_callee (f := 29) rfl ?_); refine goesL_ (some 20) rfl rfl Try.func29 (by kernel_rfl) rfl #[.slice A1 l1.length c1, .int .i64 1048576] rfl (by (try simp only [List.map_toArray, List.map_cons, List.map_nil]); first | done | rfl | (simp only [List.length_drop, List.length_take]; rfl)) ?_; (with_reducible refine (laws_szStringS.calls k _ _ l1 1048576 t760 _ ?side1 ?side2 A4.out).mono ?_); (case side1 => repeat (first | exact (Kd.C_below HR1.out (by repeat (first | (with_reducible first | exact HB.out | apply below_alloc | apply pw_below_drewN | apply below_drew1) | exact HB.out))) | (with_reducible refine Kd.C_alloc ?_ _) | (with_reducible refine Kd.C_drewN ?_ _) | (with_reducible refine Kd.C_drew ?_))); (case side2 => exact HC1.out); rintro e w32 ⟨rfl, hd⟩; refine ⟨_, rfl, ?_⟩; have hb := Drawn0.below hd; have n0_ := Aside0.mk (below_step HB.out hb); have n1_ := Aside0.mk (show w.heap.size ≤ w32.heap.size from hb.size); clear HB; have HB := n0_; have LEw32 := n1_; clear n0_ n1_; clear hb hd) | ((with_reducible refine gate_callee (f := 31) rfl ?_); refine goesL_ (some 26) rfl rfl Try.func31 (by kernel_rfl) rfl #[.slice A1 l1.length c1] rfl (by (try simp only [List.map_toArray, List.map_cons, List.map_nil]); first | done | rfl | (simp only [List.length_drop, List.length_take]; rfl)) ?_; (with_reducible refine (laws_toStringS.calls k _ _ l1 t761 _ ?side1 ?side2 A6.out).mono ?_); (case side1 => repeat (first | exact (Kd.C_below HR1.out (by repeat (first | (with_reducible first | exact HB.out | apply below_alloc | apply pw_below_drewN | apply below_drew1) | exact HB.out))) | (with_reducible refine Kd.C_alloc ?_ _) | (with_reducible refine Kd.C_drewN ?_ _) | (with_reducible refine Kd.C_drew ?_))); (case side2 => exact HC1.out); rintro e w33 ⟨v762, rfl, ho0, hb⟩; refine ⟨_, rfl, ?_⟩; have n0_ := Aside0.mk (show Kd.R Kd.string 9 w33 w.heap.size (fun k_ => w32.heap.size ≤ k_ ∧ k_ < w33.heap.size) v762 t761 from lw_R ho0 (below_size (by repeat (first | (with_reducible first | exact HB.out | apply below_alloc | apply pw_below_drewN | apply below_drew1) | exact HB.out)))); have n1_ := Aside0.mk (below_step (by repeat (first | (with_reducible first | exact HB.out | apply below_alloc | apply pw_below_drewN | apply below_drew1) | exact HB.out)) hb); have LEw33 := Aside0.mk (show w32.heap.size ≤ w33.heap.size from hb.size); clear HB; have HO763 := n0_; have HB := n1_; clear n0_ n1_; (try clear hb); (try clear ho0); obtain ⟨Aoo34, coo34, eoo34⟩ := Kd.R_slice HO763.out; subst eoo34) | ((with_reducible refine gate_callee (f := 54) rfl ?_); refine goesL_ (some 28) rfl rfl Try.func54 (by kernel_rfl) rfl #[.int .i64 a0, .slice Aoo34 t761.length coo34, .int .i64 a2] rfl (by (try simp only [List.map_toArray, List.map_cons, List.map_nil]); first | done | rfl | (simp only [List.length_drop, List.length_take]; rfl)) ?_; (with_reducible refine (spec_BucketsOf.calls k a0 _ _ t761 a2 t764 t765 _ ?side1 ?side2 A7.out).mono ?_); (case side1 => repeat (first | exact (Kd.R_reads' HO763.out).2.2 | (with_reducible refine Kd.C_alloc ?_ _) | (with_reducible refine Kd.C_drewN ?_ _) | (with_reducible refine Kd.C_drew ?_))); (case side2 => exact (Kd.R_reads' HO763.out).2.1); rintro e w35 ⟨v766, rfl, ho0, hb⟩; refine ⟨_, rfl, ?_⟩; have n0_ := Aside0.mk (show Kd.R Kd.string 9 w35 w.heap.size (fun k_ => w32.heap.size ≤ k_ ∧ k_ < w33.heap.size) (.slice Aoo34 t761.length coo34) t761 from Kd.R_below (by (with_reducible repeat (first | apply Kd.R_alloc | apply Kd.R_drewN | apply Kd.R_drew)); exact HO763.out) hb); have n1_ := Aside0.mk (show Kd.S (Kd.slice 3 (Kd.int .i64)) 22 w35 w.heap.size (fun k_ => w33.heap.size ≤ k_ ∧ k_ < w35.heap.size) v766 t764 from lw_S ho0 (below_size (by repeat (first | (with_reducible first | exact HB.out | apply below_alloc | apply pw_below_drewN | apply below_drew1) | exact HB.out)))); have n2_ := Aside0.mk (below_step (by repeat (first | (with_reducible first | exact HB.out | apply below_alloc | apply pw_below_drewN | apply below_drew1) | exact HB.out)) hb); have LEw35 := Aside0.mk (show w33.heap.size ≤ w35.heap.size from hb.size); clear HO763; clear HB; have HO763 := n0_; have HO767 := n1_; have HB := n2_; clear n0_ n1_ n2_; (try clear hb); (try clear ho0); obtain ⟨Aoo36, coo36, eoo36⟩ := Kd.R_slice (Kd.S_R HO767.out); subst eoo36) | ((with_reducible refine gate_callee (f := 31) rfl ?_); refine goesL_ (some 32) rfl rfl Try.func31 (by kernel_rfl) rfl #[.slice A1 l1.length c1] rfl (by (try simp only [List.map_toArray, List.map_cons, List.map_nil]); first | done | rfl | (simp only [List.length_drop, List.length_take]; rfl)) ?_; (with_reducible refine (laws_toStringS.calls k _ _ l1 t768 _ ?side1 ?side2 A8.out).mono ?_); (case side1 => repeat (first | exact (Kd.C_below HR1.out (by repeat (first | (with_reducible first | exact HB.out | apply below_alloc | apply pw_below_drewN | apply below_drew1) | exact HB.out))) | (with_reducible refine Kd.C_alloc ?_ _) | (with_reducible refine Kd.C_drewN ?_ _) | (with_reducible refine Kd.C_drew ?_))); (case side2 => exact HC1.out); rintro e w37 ⟨v769, rfl, ho0, hb⟩; refine ⟨_, rfl, ?_⟩; have n0_ := Aside0.mk (show Kd.R Kd.string 9 w37 w.heap.size (fun k_ => w32.heap.size ≤ k_ ∧ k_ < w33.heap.size) (.slice Aoo34 t761.length coo34) t761 from Kd.R_below (by (with_reducible repeat (first | apply Kd.R_alloc | apply Kd.R_drewN | apply Kd.R_drew)); exact HO763.out) hb); have n1_ := Aside0.mk (show Kd.S (Kd.slice 3 (Kd.int .i64)) 22 w37 w.heap.size (fun k_ => w33.heap.size ≤ k_ ∧ k_ < w35.heap.size) (.slice Aoo36 t764.length coo36) t764 from Kd.S_below (by (with_reducible repeat (first | apply Kd.S_alloc | apply Kd.S_drewN | apply Kd.S_drew)); exact HO767.out) hb); have n2_ := Aside0.mk (show Kd.R Kd.string 9 w37 w.heap.size (fun k_ => w35.heap.size ≤ k_ ∧ k_ < w37.heap.size) v769 t768 from lw_R ho0 (below_size (by repeat (first | (with_reducible first | exact HB.out | apply below_alloc | apply pw_below_drewN | apply below_drew1) | exact HB.out)))); have n3_ := Aside0.mk (below_step (by repeat (first | (with_reducible first | exact HB.out | apply below_alloc | apply pw_below_drewN | apply below_drew1) | exact HB.out)) hb); have LEw37 := Aside0.mk (show w35.heap.size ≤ w37.heap.size from hb.size); clear HO763; clear HO767; clear HB; have HO763 := n0_; have HO767 := n1_; have HO770 := n2_; have HB := n3_; clear n0_ n1_ n2_ n3_; (try clear hb); (try clear ho0); obtain ⟨Aoo38, coo38, eoo38⟩ := Kd.R_slice HO770.out; subst eoo38) | ((with_reducible refine gate_callee (f := 55) rfl ?_); refine goesL_ (some 37) rfl rfl Try.func55 (by kernel_rfl) rfl #[.int .i64 a0, .slice Aoo38 t768.length coo38, .int .i64 a2] rfl (by (try simp only [List.map_toArray, List.map_cons, List.map_nil]); first | done | rfl | (simp only [List.length_drop, List.length_take]; rfl)) ?_; (with_reducible refine (impl_BucketsOf.calls k a0 _ _ t768 a2 t771 t772 _ ?side1 ?side2 A9.out).mono ?_); (case side1 => repeat (first | exact (Kd.R_reads' HO770.out).2.2 | (with_reducible refine Kd.C_alloc ?_ _) | (with_reducible refine Kd.C_drewN ?_ _) | (with_reducible refine Kd.C_drew ?_))); (case side2 => exact (Kd.R_reads' HO770.out).2.1); rintro e w39 ⟨v773, rfl, ho0, hb⟩; refine ⟨_, rfl, ?_⟩; have n0_ := Aside0.mk (show Kd.R Kd.string 9 w39 w.heap.size (fun k_ => w32.heap.size ≤ k_ ∧ k_ < w33.heap.size) (.slice Aoo34 t761.length coo34) t761 from Kd.R_below (by (with_reducible repeat (first | apply Kd.R_alloc | apply Kd.R_drewN | apply Kd.R_drew)); exact HO763.out) hb); have n1_ := Aside0.mk (show Kd.S (Kd.slice 3 (Kd.int .i64)) 22 w39 w.heap.size (fun k_ => w33.heap.size ≤ k_ ∧ k_ < w35.heap.size) (.slice Aoo36 t764.length coo36) t764 from Kd.S_below (by (with_reducible repeat (first | apply Kd.S_alloc | apply Kd.S_drewN | apply Kd.S_drew)); exact HO767.out) hb); have n2_ := Aside0.mk (show Kd.R Kd.string 9 w39 w.heap.size (fun k_ => w35.heap.size ≤ k_ ∧ k_ < w37.heap.size) (.slice Aoo38 t768.length coo38) t768 from Kd.R_below (by (with_reducible repeat (first | apply Kd.R_alloc | apply Kd.R_drewN | apply Kd.R_drew)); exact HO770.out) hb); have n3_ := Aside0.mk (show Kd.S (Kd.slice 3 (Kd.int .i64)) 22 w39 w.heap.size (fun k_ => w37.heap.size ≤ k_ ∧ k_ < w39.heap.size) v773 t771 from lw_S ho0 (below_size (by repeat (first | (with_reducible first | exact HB.out | apply below_alloc | apply pw_below_drewN | apply below_drew1) | exact HB.out)))); have n4_ := Aside0.mk (below_step (by repeat (first | (with_reducible first | exact HB.out | apply below_alloc | apply pw_below_drewN | apply below_drew1) | exact HB.out)) hb); have LEw39 := Aside0.mk (show w37.heap.size ≤ w39.heap.size from hb.size); clear HO763; clear HO767; clear HO770; clear HB; have HO763 := n0_; have HO767 := n1_; have HO770 := n2_; have HO774 := n3_; have HB := n4_; clear n0_ n1_ n2_ n3_ n4_; (try clear hb); (try clear ho0); obtain ⟨Aoo40, coo40, eoo40⟩ := Kd.R_slice (Kd.S_R HO774.out); subst eoo40) | ((with_reducible refine gate_callee (f := 56) rfl ?_); refine goesL_ (some 42) rfl rfl Try.func56 (by kernel_rfl) rfl #[.slice Aoo40 t771.length coo40, .slice Aoo36 t764.length coo36] rfl (by (try simp only [List.map_toArray, List.map_cons, List.map_nil]); first | done | rfl | (simp only [List.length_drop, List.length_take]; rfl)) ?_; (with_reducible refine (laws_eqIntSS.calls k _ _ t771 _ _ t764 true _ ?side1 ?side2 ?side3 ?side4 A10.out).mono ?_); (case side1 => repeat (first | exact (Kd.R_reads' (Kd.S_R HO774.out)).2.2 | (with_reducible refine Kd.C_alloc ?_ _) | (with_reducible refine Kd.C_drewN ?_ _) | (with_reducible refine Kd.C_drew ?_))); (case side2 => exact (Kd.R_reads' (Kd.S_R HO774.out)).2.1); (case side3 => repeat (first | exact (Kd.R_reads' (Kd.S_R HO767.out)).2.2 | (with_reducible refine Kd.C_alloc ?_ _) | (with_reducible refine Kd.C_drewN ?_ _) | (with_reducible refine Kd.C_drew ?_))); (case side4 => exact (Kd.R_reads' (Kd.S_R HO767.out)).2.1); rintro e w41 ⟨rfl, hd⟩; refine ⟨_, rfl, ?_⟩; have hb := Drawn0.below hd; have n0_ := Aside0.mk (show Kd.R Kd.string 9 w41 w.heap.size (fun k_ => w32.heap.size ≤ k_ ∧ k_ < w33.heap.size) (.slice Aoo34 t761.length coo34) t761 from Kd.R_below HO763.out hb); have n1_ := Aside0.mk (show Kd.S (Kd.slice 3 (Kd.int .i64)) 22 w41 w.heap.size (fun k_ => w33.heap.size ≤ k_ ∧ k_ < w35.heap.size) (.slice Aoo36 t764.length coo36) t764 from Kd.S_below HO767.out hb); have n2_ := Aside0.mk (show Kd.R Kd.string 9 w41 w.heap.size (fun k_ => w35.heap.size ≤ k_ ∧ k_ < w37.heap.size) (.slice Aoo38 t768.length coo38) t768 from Kd.R_below HO770.out hb); have n3_ := Aside0.mk (show Kd.S (Kd.slice 3 (Kd.int .i64)) 22 w41 w.heap.size (fun k_ => w37.heap.size ≤ k_ ∧ k_ < w39.heap.size) (.slice Aoo40 t771.length coo40) t771 from Kd.S_below HO774.out hb); have n4_ := Aside0.mk (below_step HB.out hb); have n5_ := Aside0.mk (show w39.heap.size ≤ w41.heap.size from hb.size); clear HO763; clear HO767; clear HO770; clear HO774; clear HB; have HO763 := n0_; have HO767 := n1_; have HO770 := n2_; have HO774 := n3_; have HB := n4_; have LEw41 := n5_; clear n0_ n1_ n2_ n3_ n4_ n5_; clear hb hd) | ((with_reducible refine gate_callee (f := 31) rfl ?_); refine goesL_ (some 51) rfl rfl Try.func31 (by kernel_rfl) rfl #[.slice A1 l1.length c1] rfl (by (try simp only [List.map_toArray, List.map_cons, List.map_nil]); first | done | rfl | (simp only [List.length_drop, List.length_take]; rfl)) ?_; (with_reducible refine (laws_toStringS.calls k _ _ l1 t776 _ ?side1 ?side2 A13.out).mono ?_); (case side1 => repeat (first | exact (Kd.C_below HR1.out (by repeat (first | (with_reducible first | exact HB.out | apply below_alloc | apply pw_below_drewN | apply below_drew1) | exact HB.out))) | (with_reducible refine Kd.C_alloc ?_ _) | (with_reducible refine Kd.C_drewN ?_ _) | (with_reducible refine Kd.C_drew ?_))); (case side2 => exact HC1.out); rintro e w42 ⟨v777, rfl, ho0, hb⟩; refine ⟨_, rfl, ?_⟩; have n0_ := Aside0.mk (show Kd.R Kd.string 9 w42 w.heap.size (fun k_ => w32.heap.size ≤ k_ ∧ k_ < w33.heap.size) (.slice Aoo34 t761.length coo34) t761 from Kd.R_below (by (with_reducible repeat (first | apply Kd.R_alloc | apply Kd.R_drewN | apply Kd.R_drew)); exact HO763.out) hb); have n1_ := Aside0.mk (show Kd.S (Kd.slice 3 (Kd.int .i64)) 22 w42 w.heap.size (fun k_ => w33.heap.size ≤ k_ ∧ k_ < w35.heap.size) (.slice Aoo36 t764.length coo36) t764 from Kd.S_below (by (with_reducible repeat (first | apply Kd.S_alloc | apply Kd.S_drewN | apply Kd.S_drew)); exact HO767.out) hb); have n2_ := Aside0.mk (show Kd.R Kd.string 9 w42 w.heap.size (fun k_ => w35.heap.size ≤ k_ ∧ k_ < w37.heap.size) (.slice Aoo38 t768.length coo38) t768 from Kd.R_below (by (with_reducible repeat (first | apply Kd.R_alloc | apply Kd.R_drewN | apply Kd.R_drew)); exact HO770.out) hb); have n3_ := Aside0.mk (show Kd.S (Kd.slice 3 (Kd.int .i64)) 22 w42 w.heap.size (fun k_ => w37.heap.size ≤ k_ ∧ k_ < w39.heap.size) (.slice Aoo40 t771.length coo40) t771 from Kd.S_below (by (with_reducible repeat (first | apply Kd.S_alloc | apply Kd.S_drewN | apply Kd.S_drew)); exact HO774.out) hb); have n4_ := Aside0.mk (show Kd.R Kd.string 9 w42 w.heap.size (fun k_ => w41.heap.size ≤ k_ ∧ k_ < w42.heap.size) v777 t776 from lw_R ho0 (below_size (by repeat (first | (with_reducible first | exact HB.out | apply below_alloc | apply pw_below_drewN | apply below_drew1) | exact HB.out)))); have n5_ := Aside0.mk (below_step (by repeat (first | (with_reducible first | exact HB.out | apply below_alloc | apply pw_below_drewN | apply below_drew1) | exact HB.out)) hb); have LEw42 := Aside0.mk (show w41.heap.size ≤ w42.heap.size from hb.size); clear HO763; clear HO767; clear HO770; clear HO774; clear HB; have HO763 := n0_; have HO767 := n1_; have HO770 := n2_; have HO774 := n3_; have HO778 := n4_; have HB := n5_; clear n0_ n1_ n2_ n3_ n4_ n5_; (try clear hb); (try clear ho0); obtain ⟨Aoo43, coo43, eoo43⟩ := Kd.R_slice HO778.out; subst eoo43) | ((with_reducible refine gate_callee (f := 33) rfl ?_); refine goesL_ (some 52) rfl rfl Try.func33 (by kernel_rfl) rfl #[.slice Aoo38 t768.length coo38, .slice Aoo43 t776.length coo43] rfl (by (try simp only [List.map_toArray, List.map_cons, List.map_nil]); first | done | rfl | (simp only [List.length_drop, List.length_take]; rfl)) ?_; (with_reducible refine (laws_eqStringS.calls k _ _ t768 _ _ t776 true _ ?side1 ?side2 ?side3 ?side4 A14.out).mono ?_); (case side1 => repeat (first | exact (Kd.R_reads' HO770.out).2.2 | (with_reducible refine Kd.C_alloc ?_ _) | (with_reducible refine Kd.C_drewN ?_ _) | (with_reducible refine Kd.C_drew ?_))); (case side2 => exact (Kd.R_reads' HO770.out).2.1); (case side3 => repeat (first | exact (Kd.R_reads' HO778.out).2.2 | (with_reducible refine Kd.C_alloc ?_ _) | (with_reducible refine Kd.C_drewN ?_ _) | (with_reducible refine Kd.C_drew ?_))); (case side4 => exact (Kd.R_reads' HO778.out).2.1); rintro e w44 ⟨rfl, hd⟩; refine ⟨_, rfl, ?_⟩; have hb := Drawn0.below hd; have n0_ := Aside0.mk (show Kd.R Kd.string 9 w44 w.heap.size (fun k_ => w32.heap.size ≤ k_ ∧ k_ < w33.heap.size) (.slice Aoo34 t761.length coo34) t761 from Kd.R_below HO763.out hb); have n1_ := Aside0.mk (show Kd.S (Kd.slice 3 (Kd.int .i64)) 22 w44 w.heap.size (fun k_ => w33.heap.size ≤ k_ ∧ k_ < w35.heap.size) (.slice Aoo36 t764.length coo36) t764 from Kd.S_below HO767.out hb); have n2_ := Aside0.mk (show Kd.R Kd.string 9 w44 w.heap.size (fun k_ => w35.heap.size ≤ k_ ∧ k_ < w37.heap.size) (.slice Aoo38 t768.length coo38) t768 from Kd.R_below HO770.out hb); have n3_ := Aside0.mk (show Kd.S (Kd.slice 3 (Kd.int .i64)) 22 w44 w.heap.size (fun k_ => w37.heap.size ≤ k_ ∧ k_ < w39.heap.size) (.slice Aoo40 t771.length coo40) t771 from Kd.S_below HO774.out hb); have n4_ := Aside0.mk (show Kd.R Kd.string 9 w44 w.heap.size (fun k_ => w41.heap.size ≤ k_ ∧ k_ < w42.heap.size) (.slice Aoo43 t776.length coo43) t776 from Kd.R_below HO778.out hb); have n5_ := Aside0.mk (below_step HB.out hb); have n6_ := Aside0.mk (show w42.heap.size ≤ w44.heap.size from hb.size); clear HO763; clear HO767; clear HO770; clear HO774; clear HO778; clear HB; have HO763 := n0_; have HO767 := n1_; have HO770 := n2_; have HO774 := n3_; have HO778 := n4_; have HB := n5_; have LEw44 := n6_; clear n0_ n1_ n2_ n3_ n4_ n5_ n6_; clear hb hd) | ((with_reducible refine gate_callee (f := 41) rfl ?_); refine goesL_ (some 56) rfl rfl Try.func41 (by kernel_rfl) rfl #[.slice Aoo38 t768.length coo38, .int .i64 1] rfl (by (try simp only [List.map_toArray, List.map_cons, List.map_nil]); first | done | rfl | (simp only [List.length_drop, List.length_take]; rfl)) ?_; (with_reducible refine (laws_markStringS.calls k (fun k_ => w35.heap.size ≤ k_ ∧ k_ < w37.heap.size) (.slice Aoo38 t768.length coo38) t768 1 t780 t781 w _ ?side1 ?side2 A16.out).mono ?_); (case side1 => repeat (first | (with_reducible first | exact HB.out | apply below_alloc | apply pw_below_drewN | apply below_drew1) | exact HB.out)); (case side2 => (with_reducible repeat (first | apply Kd.R_alloc | apply Kd.R_drewN | apply Kd.R_drew)); exact HO770.out); rintro e w45 ⟨rfl, hy0, hb, hkp⟩; refine ⟨_, rfl, ?_⟩; have n0_ := Aside0.mk (show Kd.R Kd.string 9 w45 w.heap.size (fun k_ => w32.heap.size ≤ k_ ∧ k_ < w33.heap.size) (.slice Aoo34 t761.length coo34) t761 from lw_keptR (by (with_reducible repeat (first | apply Kd.R_alloc | apply Kd.R_drewN | apply Kd.R_drew)); exact HO763.out) hkp (by have hLEw32_ := LEw32.out; have hLEw33_ := LEw33.out; have hLEw35_ := LEw35.out; have hLEw37_ := LEw37.out; have hLEw39_ := LEw39.out; have hLEw41_ := LEw41.out; have hLEw42_ := LEw42.out; have hLEw44_ := LEw44.out; omega)); have n1_ := Aside0.mk (show Kd.S (Kd.slice 3 (Kd.int .i64)) 22 w45 w.heap.size (fun k_ => w33.heap.size ≤ k_ ∧ k_ < w35.heap.size) (.slice Aoo36 t764.length coo36) t764 from lw_keptS (by (with_reducible repeat (first | apply Kd.S_alloc | apply Kd.S_drewN | apply Kd.S_drew)); exact HO767.out) hkp (by have hLEw32_ := LEw32.out; have hLEw33_ := LEw33.out; have hLEw35_ := LEw35.out; have hLEw37_ := LEw37.out; have hLEw39_ := LEw39.out; have hLEw41_ := LEw41.out; have hLEw42_ := LEw42.out; have hLEw44_ := LEw44.out; omega)); have n2_ := Aside0.mk (show Kd.R Kd.string 9 w45 w.heap.size (fun k_ => w35.heap.size ≤ k_ ∧ k_ < w37.heap.size) (.slice Aoo38 t768.length coo38) t781 from lw_mark rfl (by (with_reducible repeat (first | apply Kd.R_alloc | apply Kd.R_drewN | apply Kd.R_drew)); exact HO770.out) hy0); have n3_ := Aside0.mk (show Kd.S (Kd.slice 3 (Kd.int .i64)) 22 w45 w.heap.size (fun k_ => w37.heap.size ≤ k_ ∧ k_ < w39.heap.size) (.slice Aoo40 t771.length coo40) t771 from lw_keptS (by (with_reducible repeat (first | apply Kd.S_alloc | apply Kd.S_drewN | apply Kd.S_drew)); exact HO774.out) hkp (by have hLEw32_ := LEw32.out; have hLEw33_ := LEw33.out; have hLEw35_ := LEw35.out; have hLEw37_ := LEw37.out; have hLEw39_ := LEw39.out; have hLEw41_ := LEw41.out; have hLEw42_ := LEw42.out; have hLEw44_ := LEw44.out; omega)); have n4_ := Aside0.mk (show Kd.R Kd.string 9 w45 w.heap.size (fun k_ => w41.heap.size ≤ k_ ∧ k_ < w42.heap.size) (.slice Aoo43 t776.length coo43) t776 from lw_keptR (by (with_reducible repeat (first | apply Kd.R_alloc | apply Kd.R_drewN | apply Kd.R_drew)); exact HO778.out) hkp (by have hLEw32_ := LEw32.out; have hLEw33_ := LEw33.out; have hLEw35_ := LEw35.out; have hLEw37_ := LEw37.out; have hLEw39_ := LEw39.out; have hLEw41_ := LEw41.out; have hLEw42_ := LEw42.out; have hLEw44_ := LEw44.out; omega)); have n5_ := Aside0.mk (hb); have LEw45 := Aside0.mk (show w44.heap.size ≤ w45.heap.size from hkp.1); clear HO763; clear HO767; clear HO770; clear HO774; clear HO778; clear HB; have HO763 := n0_; have HO767 := n1_; have HO770 := n2_; have HO774 := n3_; have HO778 := n4_; have HB := n5_; clear n0_ n1_ n2_ n3_ n4_ n5_; (try clear hb); (try clear hkp); (try clear hkq); (try clear hy0)) | (go_at_call 56; refine calls_of_args (args' := #[.slice Aoo40 t771.length coo40, .slice Aoo36 t764.length coo36]) (by first | rfl) ?_; (with_reducible refine (laws_eqIntSS.calls k _ _ t771 _ _ t764 true _ ?side1 ?side2 ?side3 ?side4 A18.out).mono ?_); (case side1 => repeat (first | exact (Kd.R_reads' (Kd.S_R HO774.out)).2.2 | (with_reducible refine Kd.C_alloc ?_ _) | (with_reducible refine Kd.C_drewN ?_ _) | (with_reducible refine Kd.C_drew ?_))); (case side2 => exact (Kd.R_reads' (Kd.S_R HO774.out)).2.1); (case side3 => repeat (first | exact (Kd.R_reads' (Kd.S_R HO767.out)).2.2 | (with_reducible refine Kd.C_alloc ?_ _) | (with_reducible refine Kd.C_drewN ?_ _) | (with_reducible refine Kd.C_drew ?_))); (case side4 => exact (Kd.R_reads' (Kd.S_R HO767.out)).2.1); rintro e w46 ⟨rfl, hd⟩; have hb := Drawn0.below hd; have n0_ := Aside0.mk (show Kd.R Kd.string 9 w46 w.heap.size (fun k_ => w32.heap.size ≤ k_ ∧ k_ < w33.heap.size) (.slice Aoo34 t761.length coo34) t761 from Kd.R_below HO763.out hb); have n1_ := Aside0.mk (show Kd.S (Kd.slice 3 (Kd.int .i64)) 22 w46 w.heap.size (fun k_ => w33.heap.size ≤ k_ ∧ k_ < w35.heap.size) (.slice Aoo36 t764.length coo36) t764 from Kd.S_below HO767.out hb); have n2_ := Aside0.mk (show Kd.R Kd.string 9 w46 w.heap.size (fun k_ => w35.heap.size ≤ k_ ∧ k_ < w37.heap.size) (.slice Aoo38 t768.length coo38) t781 from Kd.R_below HO770.out hb); have n3_ := Aside0.mk (show Kd.S (Kd.slice 3 (Kd.int .i64)) 22 w46 w.heap.size (fun k_ => w37.heap.size ≤ k_ ∧ k_ < w39.heap.size) (.slice Aoo40 t771.length coo40) t771 from Kd.S_below HO774.out hb); have n4_ := Aside0.mk (show Kd.R Kd.string 9 w46 w.heap.size (fun k_ => w41.heap.size ≤ k_ ∧ k_ < w42.heap.size) (.slice Aoo43 t776.length coo43) t776 from Kd.R_below HO778.out hb); have n5_ := Aside0.mk (below_step HB.out hb); have n6_ := Aside0.mk (show w45.heap.size ≤ w46.heap.size from hb.size); clear HO763; clear HO767; clear HO770; clear HO774; clear HO778; clear HB; have HO763 := n0_; have HO767 := n1_; have HO770 := n2_; have HO774 := n3_; have HO778 := n4_; have HB := n5_; have LEw46 := n6_; clear n0_ n1_ n2_ n3_ n4_ n5_ n6_; clear hb hd) | ((with_reducible refine gate_callee (f := 57) rfl ?_); refine goesL_ (some 72) rfl rfl Try.func57 (by kernel_rfl) rfl #[.slice Aoo40 t771.length coo40, .int .i64 1] rfl (by (try simp only [List.map_toArray, List.map_cons, List.map_nil]); first | done | rfl | (simp only [List.length_drop, List.length_take]; rfl)) ?_; (with_reducible refine (laws_markIntSS.calls k (fun k_ => w37.heap.size ≤ k_ ∧ k_ < w39.heap.size) (.slice Aoo40 t771.length coo40) t771 1 t783 t784 w _ ?side1 ?side2 A20.out).mono ?_); (case side1 => repeat (first | (with_reducible first | exact HB.out | apply below_alloc | apply pw_below_drewN | apply below_drew1) | exact HB.out)); (case side2 => (with_reducible repeat (first | apply Kd.S_alloc | apply Kd.S_drewN | apply Kd.S_drew)); exact HO774.out); rintro e w47 ⟨rfl, hy0, hb, hkp⟩; refine ⟨_, rfl, ?_⟩; have n0_ := Aside0.mk (show Kd.R Kd.string 9 w47 w.heap.size (fun k_ => w32.heap.size ≤ k_ ∧ k_ < w33.heap.size) (.slice Aoo34 t761.length coo34) t761 from lw_keptR (by (with_reducible repeat (first | apply Kd.R_alloc | apply Kd.R_drewN | apply Kd.R_drew)); exact HO763.out) hkp (by have hLEw32_ := LEw32.out; have hLEw33_ := LEw33.out; have hLEw35_ := LEw35.out; have hLEw37_ := LEw37.out; have hLEw39_ := LEw39.out; have hLEw41_ := LEw41.out; have hLEw42_ := LEw42.out; have hLEw44_ := LEw44.out; have hLEw45_ := LEw45.out; have hLEw46_ := LEw46.out; omega)); have n1_ := Aside0.mk (show Kd.S (Kd.slice 3 (Kd.int .i64)) 22 w47 w.heap.size (fun k_ => w33.heap.size ≤ k_ ∧ k_ < w35.heap.size) (.slice Aoo36 t764.length coo36) t764 from lw_keptS (by (with_reducible repeat (first | apply Kd.S_alloc | apply Kd.S_drewN | apply Kd.S_drew)); exact HO767.out) hkp (by have hLEw32_ := LEw32.out; have hLEw33_ := LEw33.out; have hLEw35_ := LEw35.out; have hLEw37_ := LEw37.out; have hLEw39_ := LEw39.out; have hLEw41_ := LEw41.out; have hLEw42_ := LEw42.out; have hLEw44_ := LEw44.out; have hLEw45_ := LEw45.out; have hLEw46_ := LEw46.out; omega)); have n2_ := Aside0.mk (show Kd.R Kd.string 9 w47 w.heap.size (fun k_ => w35.heap.size ≤ k_ ∧ k_ < w37.heap.size) (.slice Aoo38 t768.length coo38) t781 from lw_keptR (by (with_reducible repeat (first | apply Kd.R_alloc | apply Kd.R_drewN | apply Kd.R_drew)); exact HO770.out) hkp (by have hLEw32_ := LEw32.out; have hLEw33_ := LEw33.out; have hLEw35_ := LEw35.out; have hLEw37_ := LEw37.out; have hLEw39_ := LEw39.out; have hLEw41_ := LEw41.out; have hLEw42_ := LEw42.out; have hLEw44_ := LEw44.out; have hLEw45_ := LEw45.out; have hLEw46_ := LEw46.out; omega)); have n3_ := Aside0.mk (show Kd.S (Kd.slice 3 (Kd.int .i64)) 22 w47 w.heap.size (fun k_ => w37.heap.size ≤ k_ ∧ k_ < w39.heap.size) (.slice Aoo40 t771.length coo40) t784 from hy0); have n4_ := Aside0.mk (show Kd.R Kd.string 9 w47 w.heap.size (fun k_ => w41.heap.size ≤ k_ ∧ k_ < w42.heap.size) (.slice Aoo43 t776.length coo43) t776 from lw_keptR (by (with_reducible repeat (first | apply Kd.R_alloc | apply Kd.R_drewN | apply Kd.R_drew)); exact HO778.out) hkp (by have hLEw32_ := LEw32.out; have hLEw33_ := LEw33.out; have hLEw35_ := LEw35.out; have hLEw37_ := LEw37.out; have hLEw39_ := LEw39.out; have hLEw41_ := LEw41.out; have hLEw42_ := LEw42.out; have hLEw44_ := LEw44.out; have hLEw45_ := LEw45.out; have hLEw46_ := LEw46.out; omega)); have n5_ := Aside0.mk (hb); have LEw47 := Aside0.mk (show w46.heap.size ≤ w47.heap.size from hkp.1); clear HO763; clear HO767; clear HO770; clear HO774; clear HO778; clear HB; have HO763 := n0_; have HO767 := n1_; have HO770 := n2_; have HO774 := n3_; have HO778 := n4_; have HB := n5_; clear n0_ n1_ n2_ n3_ n4_ n5_; (try clear hb); (try clear hkp); (try clear hkq); (try clear hy0)) | ((with_reducible refine gate_callee (f := 58) rfl ?_); refine goesL_ (some 75) rfl rfl Try.func58 (by kernel_rfl) rfl #[.slice Aoo40 t784.length coo40, .int .i64 1] rfl (by (try simp only [List.map_toArray, List.map_cons, List.map_nil]); first | done | (rw [show t784.length = t771.length from (Kd.R_reads' (Kd.S_R HO774.out)).1.symm] <;> rfl) | rfl | (simp only [List.length_drop, List.length_take]; rfl)) ?_; (with_reducible refine (laws_heldIntSS.calls k _ _ t784 1 t785 _ ?side1 ?side2 A21.out).mono ?_); (case side1 => repeat (first | exact (Kd.R_reads' (Kd.S_R HO774.out)).2.2 | (with_reducible refine Kd.C_alloc ?_ _) | (with_reducible refine Kd.C_drewN ?_ _) | (with_reducible refine Kd.C_drew ?_))); (case side2 => rw [show t784.length = t771.length from (Kd.R_reads' (Kd.S_R HO774.out)).1.symm]; exact (Kd.R_reads' (Kd.S_R HO774.out)).2.1); rintro e w48 ⟨rfl, hd⟩; refine ⟨_, rfl, ?_⟩; have hb := Drawn0.below hd; have n0_ := Aside0.mk (show Kd.R Kd.string 9 w48 w.heap.size (fun k_ => w32.heap.size ≤ k_ ∧ k_ < w33.heap.size) (.slice Aoo34 t761.length coo34) t761 from Kd.R_below HO763.out hb); have n1_ := Aside0.mk (show Kd.S (Kd.slice 3 (Kd.int .i64)) 22 w48 w.heap.size (fun k_ => w33.heap.size ≤ k_ ∧ k_ < w35.heap.size) (.slice Aoo36 t764.length coo36) t764 from Kd.S_below HO767.out hb); have n2_ := Aside0.mk (show Kd.R Kd.string 9 w48 w.heap.size (fun k_ => w35.heap.size ≤ k_ ∧ k_ < w37.heap.size) (.slice Aoo38 t768.length coo38) t781 from Kd.R_below HO770.out hb); have n3_ := Aside0.mk (show Kd.S (Kd.slice 3 (Kd.int .i64)) 22 w48 w.heap.size (fun k_ => w37.heap.size ≤ k_ ∧ k_ < w39.heap.size) (.slice Aoo40 t771.length coo40) t784 from Kd.S_below HO774.out hb); have n4_ := Aside0.mk (show Kd.R Kd.string 9 w48 w.heap.size (fun k_ => w41.heap.size ≤ k_ ∧ k_ < w42.heap.size) (.slice Aoo43 t776.length coo43) t776 from Kd.R_below HO778.out hb); have n5_ := Aside0.mk (below_step HB.out hb); have n6_ := Aside0.mk (show w47.heap.size ≤ w48.heap.size from hb.size); clear HO763; clear HO767; clear HO770; clear HO774; clear HO778; clear HB; have HO763 := n0_; have HO767 := n1_; have HO770 := n2_; have HO774 := n3_; have HO778 := n4_; have HB := n5_; have LEw48 := n6_; clear n0_ n1_ n2_ n3_ n4_ n5_ n6_; clear hb hd) | ((with_reducible refine gate_callee (f := 31) rfl ?_); refine goesL_ (some 84) rfl rfl Try.func31 (by kernel_rfl) rfl #[.slice A1 l1.length c1] rfl (by (try simp only [List.map_toArray, List.map_cons, List.map_nil]); first | done | rfl | (simp only [List.length_drop, List.length_take]; rfl)) ?_; (with_reducible refine (laws_toStringS.calls k _ _ l1 t786 _ ?side1 ?side2 A24.out).mono ?_); (case side1 => repeat (first | exact (Kd.C_below HR1.out (by repeat (first | (with_reducible first | exact HB.out | apply below_alloc | apply pw_below_drewN | apply below_drew1) | exact HB.out))) | (with_reducible refine Kd.C_alloc ?_ _) | (with_reducible refine Kd.C_drewN ?_ _) | (with_reducible refine Kd.C_drew ?_))); (case side2 => exact HC1.out); rintro e w49 ⟨v787, rfl, ho0, hb⟩; refine ⟨_, rfl, ?_⟩; have n0_ := Aside0.mk (show Kd.R Kd.string 9 w49 w.heap.size (fun k_ => w32.heap.size ≤ k_ ∧ k_ < w33.heap.size) (.slice Aoo34 t761.length coo34) t761 from Kd.R_below (by (with_reducible repeat (first | apply Kd.R_alloc | apply Kd.R_drewN | apply Kd.R_drew)); exact HO763.out) hb); have n1_ := Aside0.mk (show Kd.S (Kd.slice 3 (Kd.int .i64)) 22 w49 w.heap.size (fun k_ => w33.heap.size ≤ k_ ∧ k_ < w35.heap.size) (.slice Aoo36 t764.length coo36) t764 from Kd.S_below (by (with_reducible repeat (first | apply Kd.S_alloc | apply Kd.S_drewN | apply Kd.S_drew)); exact HO767.out) hb); have n2_ := Aside0.mk (show Kd.R Kd.string 9 w49 w.heap.size (fun k_ => w35.heap.size ≤ k_ ∧ k_ < w37.heap.size) (.slice Aoo38 t768.length coo38) t781 from Kd.R_below (by (with_reducible repeat (first | apply Kd.R_alloc | apply Kd.R_drewN | apply Kd.R_drew)); exact HO770.out) hb); have n3_ := Aside0.mk (show Kd.S (Kd.slice 3 (Kd.int .i64)) 22 w49 w.heap.size (fun k_ => w37.heap.size ≤ k_ ∧ k_ < w39.heap.size) (.slice Aoo40 t771.length coo40) t784 from Kd.S_below (by (with_reducible repeat (first | apply Kd.S_alloc | apply Kd.S_drewN | apply Kd.S_drew)); exact HO774.out) hb); have n4_ := Aside0.mk (show Kd.R Kd.string 9 w49 w.heap.size (fun k_ => w41.heap.size ≤ k_ ∧ k_ < w42.heap.size) (.slice Aoo43 t776.length coo43) t776 from Kd.R_below (by (with_reducible repeat (first | apply Kd.R_alloc | apply Kd.R_drewN | apply Kd.R_drew)); exact HO778.out) hb); have n5_ := Aside0.mk (show Kd.R Kd.string 9 w49 w.heap.size (fun k_ => w48.heap.size ≤ k_ ∧ k_ < w49.heap.size) v787 t786 from lw_R ho0 (below_size (by repeat (first | (with_reducible first | exact HB.out | apply below_alloc | apply pw_below_drewN | apply below_drew1) | exact HB.out)))); have n6_ := Aside0.mk (below_step (by repeat (first | (with_reducible first | exact HB.out | apply below_alloc | apply pw_below_drewN | apply below_drew1) | exact HB.out)) hb); have LEw49 := Aside0.mk (show w48.heap.size ≤ w49.heap.size from hb.size); clear HO763; clear HO767; clear HO770; clear HO774; clear HO778; clear HB; have HO763 := n0_; have HO767 := n1_; have HO770 := n2_; have HO774 := n3_; have HO778 := n4_; have HO788 := n5_; have HB := n6_; clear n0_ n1_ n2_ n3_ n4_ n5_ n6_; (try clear hb); (try clear ho0); obtain ⟨Aoo50, coo50, eoo50⟩ := Kd.R_slice HO788.out; subst eoo50) | ((with_reducible refine gate_callee (f := 55) rfl ?_); refine goesL_ (some 86) rfl rfl Try.func55 (by kernel_rfl) rfl #[.int .i64 a0, .slice Aoo50 t786.length coo50, .int .i64 a2] rfl (by (try simp only [List.map_toArray, List.map_cons, List.map_nil]); first | done | rfl | (simp only [List.length_drop, List.length_take]; rfl)) ?_; (with_reducible refine (impl_BucketsOf.calls k a0 _ _ t786 a2 t789 t790 _ ?side1 ?side2 A25.out).mono ?_); (case side1 => repeat (first | exact (Kd.R_reads' HO788.out).2.2 | (with_reducible refine Kd.C_alloc ?_ _) | (with_reducible refine Kd.C_drewN ?_ _) | (with_reducible refine Kd.C_drew ?_))); (case side2 => exact (Kd.R_reads' HO788.out).2.1); rintro e w51 ⟨v791, rfl, ho0, hb⟩; refine ⟨_, rfl, ?_⟩; have n0_ := Aside0.mk (show Kd.R Kd.string 9 w51 w.heap.size (fun k_ => w32.heap.size ≤ k_ ∧ k_ < w33.heap.size) (.slice Aoo34 t761.length coo34) t761 from Kd.R_below (by (with_reducible repeat (first | apply Kd.R_alloc | apply Kd.R_drewN | apply Kd.R_drew)); exact HO763.out) hb); have n1_ := Aside0.mk (show Kd.S (Kd.slice 3 (Kd.int .i64)) 22 w51 w.heap.size (fun k_ => w33.heap.size ≤ k_ ∧ k_ < w35.heap.size) (.slice Aoo36 t764.length coo36) t764 from Kd.S_below (by (with_reducible repeat (first | apply Kd.S_alloc | apply Kd.S_drewN | apply Kd.S_drew)); exact HO767.out) hb); have n2_ := Aside0.mk (show Kd.R Kd.string 9 w51 w.heap.size (fun k_ => w35.heap.size ≤ k_ ∧ k_ < w37.heap.size) (.slice Aoo38 t768.length coo38) t781 from Kd.R_below (by (with_reducible repeat (first | apply Kd.R_alloc | apply Kd.R_drewN | apply Kd.R_drew)); exact HO770.out) hb); have n3_ := Aside0.mk (show Kd.S (Kd.slice 3 (Kd.int .i64)) 22 w51 w.heap.size (fun k_ => w37.heap.size ≤ k_ ∧ k_ < w39.heap.size) (.slice Aoo40 t771.length coo40) t784 from Kd.S_below (by (with_reducible repeat (first | apply Kd.S_alloc | apply Kd.S_drewN | apply Kd.S_drew)); exact HO774.out) hb); have n4_ := Aside0.mk (show Kd.R Kd.string 9 w51 w.heap.size (fun k_ => w41.heap.size ≤ k_ ∧ k_ < w42.heap.size) (.slice Aoo43 t776.length coo43) t776 from Kd.R_below (by (with_reducible repeat (first | apply Kd.R_alloc | apply Kd.R_drewN | apply Kd.R_drew)); exact HO778.out) hb); have n5_ := Aside0.mk (show Kd.R Kd.string 9 w51 w.heap.size (fun k_ => w48.heap.size ≤ k_ ∧ k_ < w49.heap.size) (.slice Aoo50 t786.length coo50) t786 from Kd.R_below (by (with_reducible repeat (first | apply Kd.R_alloc | apply Kd.R_drewN | apply Kd.R_drew)); exact HO788.out) hb); have n6_ := Aside0.mk (show Kd.S (Kd.slice 3 (Kd.int .i64)) 22 w51 w.heap.size (fun k_ => w49.heap.size ≤ k_ ∧ k_ < w51.heap.size) v791 t789 from lw_S ho0 (below_size (by repeat (first | (with_reducible first | exact HB.out | apply below_alloc | apply pw_below_drewN | apply below_drew1) | exact HB.out)))); have n7_ := Aside0.mk (below_step (by repeat (first | (with_reducible first | exact HB.out | apply below_alloc | apply pw_below_drewN | apply below_drew1) | exact HB.out)) hb); have LEw51 := Aside0.mk (show w49.heap.size ≤ w51.heap.size from hb.size); clear HO763; clear HO767; clear HO770; clear HO774; clear HO778; clear HO788; clear HB; have HO763 := n0_; have HO767 := n1_; have HO770 := n2_; have HO774 := n3_; have HO778 := n4_; have HO788 := n5_; have HO792 := n6_; have HB := n7_; clear n0_ n1_ n2_ n3_ n4_ n5_ n6_ n7_; (try clear hb); (try clear ho0); obtain ⟨Aoo52, coo52, eoo52⟩ := Kd.R_slice (Kd.S_R HO792.out); subst eoo52) | ((with_reducible refine gate_callee (f := 56) rfl ?_); refine goesL_ (some 91) rfl rfl Try.func56 (by kernel_rfl) rfl #[.slice Aoo52 t789.length coo52, .slice Aoo36 t764.length coo36] rfl (by (try simp only [List.map_toArray, List.map_cons, List.map_nil]); first | done | rfl | (simp only [List.length_drop, List.length_take]; rfl)) ?_; (with_reducible refine (laws_eqIntSS.calls k _ _ t789 _ _ t764 true _ ?side1 ?side2 ?side3 ?side4 A26.out).mono ?_); (case side1 => repeat (first | exact (Kd.R_reads' (Kd.S_R HO792.out)).2.2 | (with_reducible refine Kd.C_alloc ?_ _) | (with_reducible refine Kd.C_drewN ?_ _) | (with_reducible refine Kd.C_drew ?_))); (case side2 => exact (Kd.R_reads' (Kd.S_R HO792.out)).2.1); (case side3 => repeat (first | exact (Kd.R_reads' (Kd.S_R HO767.out)).2.2 | (with_reducible refine Kd.C_alloc ?_ _) | (with_reducible refine Kd.C_drewN ?_ _) | (with_reducible refine Kd.C_drew ?_))); (case side4 => exact (Kd.R_reads' (Kd.S_R HO767.out)).2.1); rintro e w53 ⟨rfl, hd⟩; refine ⟨_, rfl, ?_⟩; have hb := Drawn0.below hd; have n0_ := Aside0.mk (show Kd.R Kd.string 9 w53 w.heap.size (fun k_ => w32.heap.size ≤ k_ ∧ k_ < w33.heap.size) (.slice Aoo34 t761.length coo34) t761 from Kd.R_below HO763.out hb); have n1_ := Aside0.mk (show Kd.S (Kd.slice 3 (Kd.int .i64)) 22 w53 w.heap.size (fun k_ => w33.heap.size ≤ k_ ∧ k_ < w35.heap.size) (.slice Aoo36 t764.length coo36) t764 from Kd.S_below HO767.out hb); have n2_ := Aside0.mk (show Kd.R Kd.string 9 w53 w.heap.size (fun k_ => w35.heap.size ≤ k_ ∧ k_ < w37.heap.size) (.slice Aoo38 t768.length coo38) t781 from Kd.R_below HO770.out hb); have n3_ := Aside0.mk (show Kd.S (Kd.slice 3 (Kd.int .i64)) 22 w53 w.heap.size (fun k_ => w37.heap.size ≤ k_ ∧ k_ < w39.heap.size) (.slice Aoo40 t771.length coo40) t784 from Kd.S_below HO774.out hb); have n4_ := Aside0.mk (show Kd.R Kd.string 9 w53 w.heap.size (fun k_ => w41.heap.size ≤ k_ ∧ k_ < w42.heap.size) (.slice Aoo43 t776.length coo43) t776 from Kd.R_below HO778.out hb); have n5_ := Aside0.mk (show Kd.R Kd.string 9 w53 w.heap.size (fun k_ => w48.heap.size ≤ k_ ∧ k_ < w49.heap.size) (.slice Aoo50 t786.length coo50) t786 from Kd.R_below HO788.out hb); have n6_ := Aside0.mk (show Kd.S (Kd.slice 3 (Kd.int .i64)) 22 w53 w.heap.size (fun k_ => w49.heap.size ≤ k_ ∧ k_ < w51.heap.size) (.slice Aoo52 t789.length coo52) t789 from Kd.S_below HO792.out hb); have n7_ := Aside0.mk (below_step HB.out hb); have n8_ := Aside0.mk (show w51.heap.size ≤ w53.heap.size from hb.size); clear HO763; clear HO767; clear HO770; clear HO774; clear HO778; clear HO788; clear HO792; clear HB; have HO763 := n0_; have HO767 := n1_; have HO770 := n2_; have HO774 := n3_; have HO778 := n4_; have HO788 := n5_; have HO792 := n6_; have HB := n7_; have LEw53 := n8_; clear n0_ n1_ n2_ n3_ n4_ n5_ n6_ n7_ n8_; clear hb hd) | ((with_reducible refine gate_callee (f := 58) rfl ?_); refine goesL_ (some 100) rfl rfl Try.func58 (by kernel_rfl) rfl #[.slice Aoo40 t784.length coo40, .int .i64 1] rfl (by (try simp only [List.map_toArray, List.map_cons, List.map_nil]); first | done | (rw [show t784.length = t771.length from (Kd.R_reads' (Kd.S_R HO774.out)).1.symm] <;> rfl) | rfl | (simp only [List.length_drop, List.length_take]; rfl)) ?_; (with_reducible refine (laws_heldIntSS.calls k _ _ t784 1 t794 _ ?side1 ?side2 A29.out).mono ?_); (case side1 => repeat (first | exact (Kd.R_reads' (Kd.S_R HO774.out)).2.2 | (with_reducible refine Kd.C_alloc ?_ _) | (with_reducible refine Kd.C_drewN ?_ _) | (with_reducible refine Kd.C_drew ?_))); (case side2 => rw [show t784.length = t771.length from (Kd.R_reads' (Kd.S_R HO774.out)).1.symm]; exact (Kd.R_reads' (Kd.S_R HO774.out)).2.1); rintro e w54 ⟨rfl, hd⟩; refine ⟨_, rfl, ?_⟩; have hb := Drawn0.below hd; have n0_ := Aside0.mk (show Kd.R Kd.string 9 w54 w.heap.size (fun k_ => w32.heap.size ≤ k_ ∧ k_ < w33.heap.size) (.slice Aoo34 t761.length coo34) t761 from Kd.R_below HO763.out hb); have n1_ := Aside0.mk (show Kd.S (Kd.slice 3 (Kd.int .i64)) 22 w54 w.heap.size (fun k_ => w33.heap.size ≤ k_ ∧ k_ < w35.heap.size) (.slice Aoo36 t764.length coo36) t764 from Kd.S_below HO767.out hb); have n2_ := Aside0.mk (show Kd.R Kd.string 9 w54 w.heap.size (fun k_ => w35.heap.size ≤ k_ ∧ k_ < w37.heap.size) (.slice Aoo38 t768.length coo38) t781 from Kd.R_below HO770.out hb); have n3_ := Aside0.mk (show Kd.S (Kd.slice 3 (Kd.int .i64)) 22 w54 w.heap.size (fun k_ => w37.heap.size ≤ k_ ∧ k_ < w39.heap.size) (.slice Aoo40 t771.length coo40) t784 from Kd.S_below HO774.out hb); have n4_ := Aside0.mk (show Kd.R Kd.string 9 w54 w.heap.size (fun k_ => w41.heap.size ≤ k_ ∧ k_ < w42.heap.size) (.slice Aoo43 t776.length coo43) t776 from Kd.R_below HO778.out hb); have n5_ := Aside0.mk (show Kd.R Kd.string 9 w54 w.heap.size (fun k_ => w48.heap.size ≤ k_ ∧ k_ < w49.heap.size) (.slice Aoo50 t786.length coo50) t786 from Kd.R_below HO788.out hb); have n6_ := Aside0.mk (show Kd.S (Kd.slice 3 (Kd.int .i64)) 22 w54 w.heap.size (fun k_ => w49.heap.size ≤ k_ ∧ k_ < w51.heap.size) (.slice Aoo52 t789.length coo52) t789 from Kd.S_below HO792.out hb); have n7_ := Aside0.mk (below_step HB.out hb); have n8_ := Aside0.mk (show w53.heap.size ≤ w54.heap.size from hb.size); clear HO763; clear HO767; clear HO770; clear HO774; clear HO778; clear HO788; clear HO792; clear HB; have HO763 := n0_; have HO767 := n1_; have HO770 := n2_; have HO774 := n3_; have HO778 := n4_; have HO788 := n5_; have HO792 := n6_; have HB := n7_; have LEw54 := n8_; clear n0_ n1_ n2_ n3_ n4_ n5_ n6_ n7_ n8_; clear hb hd))
              go_ret
              exact ⟨by first | rfl | (simp [errW_none, errW_some] <;> rfl) | (simp [*, errW_none, errW_some] <;> rfl), by repeat (first | (with_reducible first | exact HB.out | apply below_alloc | apply pw_below_drewN | apply below_drew1) | exact HB.out)⟩
             ·rw [if_neg c31] at H
              exact absurd H (by simp)
          ·replace c27 := Bool.eq_false_iff.mpr c27
           subst c27
           have H1 : (none) = some r := by rw [if_neg (show ¬ (false = true) by decide)] at H; exact H
           clear H
           have H := H1
           clear H1
           exact absurd H (by simp)
         ·rw [if_neg c23] at H
          exact absurd H (by simp)
       ·replace c19 := Bool.eq_false_iff.mpr c19
        subst c19
        have H1 : (none) = some r := by rw [if_neg (show ¬ (false = true) by decide)] at H; exact H
        clear H
        have H := H1
        clear H1
        exact absurd H (by simp)
     ·replace c15 := Bool.eq_false_iff.mpr c15
      subst c15
      have H1 : (none) = some r := by rw [if_neg (show ¬ (false = true) by decide)] at H; exact H
      clear H
      have H := H1
      clear H1
      exact absurd H (by simp)
   ·replace c11 := Bool.eq_false_iff.mpr c11
    subst c11
    have H1 : (none) = some r := by rw [if_neg (show ¬ (false = true) by decide)] at H; exact H
    clear H
    have H := H1
    clear H1
    exact absurd H (by simp)

/-- What is to be shown of laws_FnExactBucketsOf: plain. -/
def laws_FnExactBucketsOf.Pure : Prop := ∀ (a0 : Int) (l1 : List ByteArray) (a2 : Int), (wfI .i64) a0 → (wfL wfS) l1 → (wfI .i64) a2 → ∃ k, laws_FnExactBucketsOf.f k a0 l1 a2 = some true
theorem laws_FnExactBucketsOf.walk (P : laws_FnExactBucketsOf.Pure) (a0 : Int) (A1 : Option Addr) (c1 : Nat) (l1 : List ByteArray) (a2 : Int) (w : World) (hr1 : Kd.C Kd.string w A1 l1.length l1) (hc1 : l1.length ≤ c1) (hw0 : (wfI .i64) a0) (hw1 : (wfL wfS) l1) (hw2 : (wfI .i64) a2) :
    Calls Try.prog 11 #[.int .i64 a0, .slice A1 l1.length c1, .int .i64 a2] w fun e w' => e = .returned (.bool true) ∧ Below w.heap.size w w' := by
  obtain ⟨k, h⟩ := P a0 l1 a2 hw0 hw1 hw2
  refine (laws_FnExactBucketsOf.calls k a0 A1 c1 l1 a2 true w hr1 hc1 h).mono ?_
  rintro e w' ⟨rfl, hd⟩
  exact ⟨rfl, hd⟩
end Go.Proofs.Ytioncjcmfbndmaa.X
