/- Written by a program of this session: what functions of the given program compute, and that their calls do so. -/
import Derived.Test.YtlcedciocmjggaaXx0
import Derived.Test.YtlcedciocmjggaaXg3c00a
import Derived.Test.YtlcedciocmjggaaXg3e00a
import Derived.Test.YtlcedciocmjggaaXg3e05a
namespace Go.Proofs.Ytlcedciocmjggaa.X
open Go.RowKit Go.Proofs.YtlcedciocmjggaaW.PrintWords Go.Proofs.YtlcedciocmjggaaW.PrintLast Go.Proofs.YtlcedciocmjggaaW.PrintMore
attribute [local go_sem] max2_int min2_int max_two min_two max_three min_three max_four min_four   -- for this text's walks alone
set_option linter.unusedVariables false
set_option linter.unusedSimpArgs false
/-! ### impl_Hyper_peel: function 105 -/
def impl_Hyper_peel.l0 : Nat → List (S88) → List Bool → Int → List (List Int) → Option ((List (S88)) × List Int)
  | 0, _, _, _, _ => none
  | k + 1, x4, x5, x1000, x1001 => (impl_Hyper_singles.f k x1000 x1001 x5).bind fun t895 => (if (t895.length : Int) = 0 then ((impl_left.f k x5).bind fun t898 => (some (x4, t898))) else (if 0 < (t895.length : Int) then ((impl_Hyper_edgeAt.f k x1000 x1001 x5 (rd t895 0)).bind fun t902 => (if 0 ≤ t902 then (if t902 < (x5.length : Int) then (if x4.length < 8796093022208 then (impl_Hyper_peel.l0 k (x4 ++ [(⟨t902, rd t895 0⟩ : S88)]) (x5.set (t902 : Int).toNat true) x1000 x1001) else (none)) else (none)) else (none))) else (none)))
def impl_Hyper_peel.f (k : Nat) (a0_0 : Int) (l0_1 : List (List Int)) : Option ((List (S88)) × List Int) := (impl_Hyper_none.f a0_0 l0_1).bind fun t892 => (impl_Hyper_peel.l0 k (([] : List (S88))) t892 a0_0 l0_1)
theorem impl_Hyper_peel.mono_l : ∀ k, (∀ y0 y1 y2 y3, LeO (impl_Hyper_peel.l0 k y0 y1 y2 y3) (impl_Hyper_peel.l0 (k + 1) y0 y1 y2 y3))
  | 0 => fun _ _ _ _ r h => by simp [impl_Hyper_peel.l0] at h
  | k + 1 => by
    have ih0 := impl_Hyper_peel.mono_l k
    · intro y0 y1 y2 y3
      unfold impl_Hyper_peel.l0
      repeat' first
      | (with_reducible exact ih0 _ _ _ _)
      | (with_reducible exact impl_Hyper_edgeAt.mono _ _ _ _ _)
      | (with_reducible exact impl_Hyper_singles.mono _ _ _ _)
      | (with_reducible exact impl_left.mono _ _)
      | (with_reducible exact LeO.refl _)
      | (with_reducible exact LeO.none _)
      | (with_reducible refine LeO.ite ?_ ?_)
      | (with_reducible refine LeO.bind ?_ (fun _ => ?_))
      | exact ih0 _ _ _ _
      | exact impl_Hyper_edgeAt.mono _ _ _ _ _
      | exact impl_Hyper_singles.mono _ _ _ _
      | exact impl_left.mono _ _
      | exact LeO.none _
      | refine LeO.ite ?_ ?_
      | refine LeO.bind ?_ (fun _ => ?_)
theorem impl_Hyper_peel.mono : ∀ a0 a1 k, LeO (impl_Hyper_peel.f k a0 a1) (impl_Hyper_peel.f (k + 1) a0 a1) := by
  intro a0 a1 k
  have ih0 := impl_Hyper_peel.mono_l k
  unfold impl_Hyper_peel.f
  repeat' first
      | (with_reducible exact ih0 _ _ _ _)
      | (with_reducible exact impl_Hyper_edgeAt.mono _ _ _ _ _)
      | (with_reducible exact impl_Hyper_singles.mono _ _ _ _)
      | (with_reducible exact impl_left.mono _ _)
      | (with_reducible exact LeO.refl _)
      | (with_reducible exact LeO.none _)
      | (with_reducible refine LeO.ite ?_ ?_)
      | (with_reducible refine LeO.bind ?_ (fun _ => ?_))
      | exact ih0 _ _ _ _
      | exact impl_Hyper_edgeAt.mono _ _ _ _ _
      | exact impl_Hyper_singles.mono _ _ _ _
      | exact impl_left.mono _ _
      | exact LeO.none _
      | refine LeO.ite ?_ ?_
      | refine LeO.bind ?_ (fun _ => ?_)
noncomputable def impl_Hyper_peel.L0 (y0 : List (S88)) (y1 : List Bool) (y2 : Int) (y3 : List (List Int)) : Option ((List (S88)) × List Int) := lim fun k => impl_Hyper_peel.l0 k y0 y1 y2 y3
theorem impl_Hyper_peel.L0_sup (y0 : List (S88)) (y1 : List Bool) (y2 : Int) (y3 : List (List Int)) : Sup (fun k => impl_Hyper_peel.l0 k y0 y1 y2 y3) (impl_Hyper_peel.L0 y0 y1 y2 y3) := Sup.of_mono fun k => impl_Hyper_peel.mono_l k y0 y1 y2 y3
noncomputable def impl_Hyper_peel.F (a0_0 : Int) (l0_1 : List (List Int)) : Option ((List (S88)) × List Int) := lim fun k => impl_Hyper_peel.f k a0_0 l0_1
theorem impl_Hyper_peel.F_sup (a0_0 : Int) (l0_1 : List (List Int)) : Sup (fun k => impl_Hyper_peel.f k a0_0 l0_1) (impl_Hyper_peel.F a0_0 l0_1) := Sup.of_mono fun k => impl_Hyper_peel.mono a0_0 l0_1 k
theorem impl_Hyper_peel.L0_eq (x4 : List (S88)) (x5 : List Bool) (x1000 : Int) (x1001 : List (List Int)) : impl_Hyper_peel.L0 x4 x5 x1000 x1001 = (impl_Hyper_singles.F x1000 x1001 x5).bind fun t895 => (if (t895.length : Int) = 0 then ((impl_left.F x5).bind fun t898 => (some (x4, t898))) else (if 0 < (t895.length : Int) then ((impl_Hyper_edgeAt.F x1000 x1001 x5 (rd t895 0)).bind fun t902 => (if 0 ≤ t902 then (if t902 < (x5.length : Int) then (if x4.length < 8796093022208 then (impl_Hyper_peel.L0 (x4 ++ [(⟨t902, rd t895 0⟩ : S88)]) (x5.set (t902 : Int).toNat true) x1000 x1001) else (none)) else (none)) else (none))) else (none))) := by
  refine Sup.unique (impl_Hyper_peel.L0_sup x4 x5 x1000 x1001) (Sup.shift (fun k => impl_Hyper_peel.mono_l k x4 x5 x1000 x1001) (Sup.congr (g' := fun k => (impl_Hyper_singles.f k x1000 x1001 x5).bind fun t895 => (if (t895.length : Int) = 0 then ((impl_left.f k x5).bind fun t898 => (some (x4, t898))) else (if 0 < (t895.length : Int) then ((impl_Hyper_edgeAt.f k x1000 x1001 x5 (rd t895 0)).bind fun t902 => (if 0 ≤ t902 then (if t902 < (x5.length : Int) then (if x4.length < 8796093022208 then (impl_Hyper_peel.l0 k (x4 ++ [(⟨t902, rd t895 0⟩ : S88)]) (x5.set (t902 : Int).toNat true) x1000 x1001) else (none)) else (none)) else (none))) else (none)))) (fun k => by first | rfl | simp only [impl_Hyper_peel.l0]) ?_))
  repeat' first
    | (with_reducible exact impl_Hyper_peel.L0_sup _ _ _ _)
    | (with_reducible exact impl_left.F_sup _)
    | (with_reducible exact impl_Hyper_singles.F_sup _ _ _)
    | (with_reducible exact impl_Hyper_edgeAt.F_sup _ _ _ _)
    | (with_reducible refine Sup.ite ?_ ?_)
    | (with_reducible refine Sup.bind ?_ (fun _ => ?_))
    | (with_reducible exact Sup.const _)
    | exact impl_Hyper_peel.L0_sup _ _ _ _
    | exact impl_left.F_sup _
    | exact impl_Hyper_singles.F_sup _ _ _
    | exact impl_Hyper_edgeAt.F_sup _ _ _ _
    | exact Sup.const _
theorem impl_Hyper_peel.F_eq (a0_0 : Int) (l0_1 : List (List Int)) : impl_Hyper_peel.F a0_0 l0_1 = (impl_Hyper_none.f a0_0 l0_1).bind fun t892 => (impl_Hyper_peel.L0 (([] : List (S88))) t892 a0_0 l0_1) := by
  refine Sup.unique (impl_Hyper_peel.F_sup a0_0 l0_1) (Sup.congr (g' := fun k => (impl_Hyper_none.f a0_0 l0_1).bind fun t892 => (impl_Hyper_peel.l0 k (([] : List (S88))) t892 a0_0 l0_1)) (fun k => by first | rfl | simp only [impl_Hyper_peel.f]) ?_)
  repeat' first
    | (with_reducible exact impl_Hyper_peel.L0_sup _ _ _ _)
    | (with_reducible exact impl_left.F_sup _)
    | (with_reducible exact impl_Hyper_singles.F_sup _ _ _)
    | (with_reducible exact impl_Hyper_edgeAt.F_sup _ _ _ _)
    | (with_reducible refine Sup.ite ?_ ?_)
    | (with_reducible refine Sup.bind ?_ (fun _ => ?_))
    | (with_reducible exact Sup.const _)
    | exact impl_Hyper_peel.L0_sup _ _ _ _
    | exact impl_left.F_sup _
    | exact impl_Hyper_singles.F_sup _ _ _
    | exact impl_Hyper_edgeAt.F_sup _ _ _ _
    | exact Sup.const _
set_option maxHeartbeats 8000000 in
set_option maxRecDepth 100000 in
theorem impl_Hyper_peel.calls (k : Nat) (gb0_ : Nat) (a0_0 : Int) (A0_1 : Option Addr) (c0_1 : Nat) (l0_1 : List (List Int)) (r1 : List (S88)) (r2 : List Int) (w : World) (hr0_1 : Kd.C (Kd.slice 3 (Kd.int .i64)) w A0_1 l0_1.length l0_1) (hc0_1 : l0_1.length ≤ c0_1) (hb0_ : w.heap[gb0_]? = some (.cells #[.int .i64 a0_0, .slice A0_1 l0_1.length c0_1] 29 (0, 0))) (h : impl_Hyper_peel.f k a0_0 l0_1 = some (r1, r2)) :
    Calls Try.prog 105 #[.pointer (some ⟨gb0_, 0, none⟩)] w fun e w' => ∃ v0_ v1_ : Value, e = .returned (.tuple #[v0_, v1_]) ∧ Kd.R k88 88 w' w.heap.size (fun _ => True) v0_ r1 ∧ Kd.R (Kd.int .i64) 3 w' w.heap.size (fun _ => True) v1_ r2 ∧ Below w.heap.size w w' := by
  have hu88 := Try.underlying88
  have HR0_1 := Aside0.mk hr0_1
  have HC0_1 := Aside0.mk hc0_1
  clear hr0_1 hc0_1
  have BK0 := Aside0.mk hb0_
  clear hb0_
  have HB := Aside0.mk (Below.refl w.heap.size w)
  have H : ((impl_Hyper_none.f a0_0 l0_1).bind fun t892 => (impl_Hyper_peel.l0 k (([] : List (S88))) t892 a0_0 l0_1)) = some (r1, r2) := h
  clear h
  obtain ⟨y889, hy889⟩ : ∃ y_ : List (S88), y_ = (([] : List (S88))) := ⟨_, rfl⟩
  replace H : ((impl_Hyper_none.f a0_0 l0_1).bind fun t892 => (impl_Hyper_peel.l0 k y889 t892 a0_0 l0_1)) = some (r1, r2) := by first | (rw [hy889]; with_reducible exact H) | (have H2_ := (Option.bind_some _ _).symm.trans H; rw [hy889]; with_reducible exact H2_) | (have H2_ := (Option.bind_some _ _).symm.trans H; with_reducible exact H2_) | with_reducible exact H | (rw [hy889]; exact H) | exact H
  have Ny889 := Aside0.mk hy889
  clear hy889
  replace H := Option.bind_eq_some_iff.mp H
  obtain ⟨t892, A20, H⟩ := H
  replace H : (impl_Hyper_peel.l0 k y889 t892 a0_0 l0_1) = some (r1, r2) := H
  have A2 := Aside0.mk A20
  clear A20
  have H' := Aside0.mk H
  clear H
  go_enter Try.func105, Try.ntmps105
  go_wp2_with (first | ((with_reducible refine gate_dst (N := 8) rfl ?_); refine Kd.R_lit k88 _ 88 ?hg (N := 8) ?hd (xs := ([] : List (S88))) (inner := []) (ok := fun _ => True) (okp := fun _ => True) ?hr ?hp (fun _ hk => hk) trivial (Below.refl _ _) (Nat.le_refl _) (by simp) ?_; (case hd => rfl); (case hg => rfl); (case hr => first | (go_simp; done) | (go_simp; rfl)); (case hp => exact (Reps.none _ _)); intro v890 w3 ho4 hb hg_ hnew_; clear hg_ hnew_; (first | rw [← Ny889.out] at ho4 | (simp only [Int.reduceToNat] at ho4; rw [← Ny889.out] at ho4)); have n0_ := Aside0.mk (Kd.R_lower ho4 (below_size (by repeat (first | (with_reducible first | exact HB.out | apply below_alloc | apply pw_below_drewN | apply below_drew1 | refine below_set ?_ GE0.out) | exact HB.out)))); have n1_ := Aside0.mk (blk_below (g := gb0_) (o := .cells #[.int .i64 a0_0, .slice A0_1 l0_1.length c0_1] 29 (0, 0)) (by (with_reducible repeat (first | refine blk_drewN ?_ _ | refine blk_drew ?_ | refine blk_alloc ?_ _)); exact BK0.out) hb); have n2_ := Aside0.mk (below_step (by repeat (first | (with_reducible first | exact HB.out | apply below_alloc | apply pw_below_drewN | apply below_drew1 | refine below_set ?_ GE0.out) | exact HB.out)) hb); clear BK0; clear HB; have HO891 := n0_; have BK0 := n1_; have HB := n2_; clear n0_ n1_ n2_; clear hb ho4) | ((with_reducible refine gate_callee (f := 73) rfl ?_); refine goesL_ (some 10) rfl rfl Try.func73 (by kernel_rfl) rfl #[.pointer (some ⟨gb0_, 0, none⟩)] rfl (by (try simp only [List.map_toArray, List.map_cons, List.map_nil]); first | done | rfl | (simp only [List.length_drop, List.length_take]; rfl)) ?_; (with_reducible refine (impl_Hyper_none.calls gb0_ a0_0 A0_1 c0_1 l0_1 t892 _ ?side1 ?side2 ?side3 A2.out).mono ?_); (case side1 => repeat (first | exact (Kd.C_below HR0_1.out HB.out) | (with_reducible refine Kd.C_alloc ?_ _) | (with_reducible refine Kd.C_drewN ?_ _) | (with_reducible refine Kd.C_drew ?_))); (case side2 => exact HC0_1.out); (case side3 => exact (by (with_reducible repeat (first | refine blk_drewN ?_ _ | refine blk_drew ?_ | refine blk_alloc ?_ _)); exact BK0.out)); rintro e w5 ⟨v893, rfl, ho0, hb⟩; refine ⟨_, rfl, ?_⟩; have n0_ := Aside0.mk (Kd.R_below (by (with_reducible repeat (first | apply Kd.R_alloc | apply Kd.R_drewN | apply Kd.R_drew)); exact HO891.out) hb); have n1_ := Aside0.mk (Kd.R_lower ho0 (below_size (by repeat (first | (with_reducible first | exact HB.out | apply below_alloc | apply pw_below_drewN | apply below_drew1 | refine below_set ?_ GE0.out) | exact HB.out)))); have n2_ := Aside0.mk (blk_below (g := gb0_) (o := .cells #[.int .i64 a0_0, .slice A0_1 l0_1.length c0_1] 29 (0, 0)) (by (with_reducible repeat (first | refine blk_drewN ?_ _ | refine blk_drew ?_ | refine blk_alloc ?_ _)); exact BK0.out) hb); have n3_ := Aside0.mk (below_step (by repeat (first | (with_reducible first | exact HB.out | apply below_alloc | apply pw_below_drewN | apply below_drew1 | refine below_set ?_ GE0.out) | exact HB.out)) hb); clear HO891; clear BK0; clear HB; have HO891 := n0_; have HO894 := n1_; have BK0 := n2_; have HB := n3_; clear n0_ n1_ n2_ n3_; (try clear hb); (try clear hb2); (try clear hk); (try clear hi); (try clear ho0)))
  go_loopg [4] k (fun kq v4 w' => ∃ (x4_1 : List (S88)) (x5_1 : List Bool), Aside0 (impl_Hyper_peel.l0 kq x4_1 x5_1 a0_0 l0_1 = some (r1, r2)) ∧ Aside0 (kq ≤ k) ∧ Aside0 (Kd.R k88 88 w' w.heap.size (fun _ => True) v4 x4_1) ∧ Aside0 (Kd.R Kd.bool 4 w' w.heap.size (fun _ => True) v893 x5_1) ∧ Aside0 (w'.heap[gb0_]? = some (.cells #[.int .i64 a0_0, (.slice A0_1 l0_1.length c0_1)] 29 (0, 0))) ∧ Aside0 (Below w.heap.size w w'))
  case atStart => exact ⟨(y889), (t892), H', ⟨Nat.le_refl _⟩, ⟨by (with_reducible repeat (first | apply Kd.R_alloc | apply Kd.R_drewN | apply Kd.R_drew)); exact HO891.out⟩, ⟨by (with_reducible repeat (first | apply Kd.R_alloc | apply Kd.R_drewN | apply Kd.R_drew)); exact HO894.out⟩, ⟨by (with_reducible repeat (first | refine blk_drewN ?_ _ | refine blk_drew ?_ | refine blk_alloc ?_ _)); exact BK0.out⟩, ⟨by repeat (first | (with_reducible first | exact HB.out | apply below_alloc | apply pw_below_drewN | apply below_drew1 | refine below_set ?_ GE0.out) | exact HB.out)⟩⟩
  case round =>
   clear H'
   try clear c1
   try clear p2
   obtain ⟨x4_1, x5_1, HA, HK1, HO_4, HO_5, BK0, HB⟩ := hrel
   cases gk with
   | zero => exact absurd HA.out (by simp [impl_Hyper_peel.l0])
   | succ k1 =>
    have H := HA.out
    clear HA
    simp only [impl_Hyper_peel.l0] at H
    replace H := Option.bind_eq_some_iff.mp H
    obtain ⟨t895, A60, H⟩ := H
    replace H : (if (t895.length : Int) = 0 then ((impl_left.f k1 x5_1).bind fun t898 => (some (x4_1, t898))) else (if 0 < (t895.length : Int) then ((impl_Hyper_edgeAt.f k1 a0_0 l0_1 x5_1 (rd t895 0)).bind fun t902 => (if 0 ≤ t902 then (if t902 < (x5_1.length : Int) then (if x4_1.length < 8796093022208 then (impl_Hyper_peel.l0 k1 (x4_1 ++ [(⟨t902, rd t895 0⟩ : S88)]) (x5_1.set (t902 : Int).toNat true) a0_0 l0_1) else (none)) else (none)) else (none))) else (none))) = some (r1, r2) := H
    have A6 := Aside0.mk A60
    clear A60
    by_cases c7 : (t895.length : Int) = 0
    ·rw [if_pos c7] at H
     have c7b0 : ((t895.length : Int) == 0) = true := beq_iff_eq.mpr c7
     have c7b1 : ((t895.length : Int) != 0) = false := bne_eq_false_iff_eq.mpr c7
     clear c7
     replace H := Option.bind_eq_some_iff.mp H
     obtain ⟨t898, A80, H⟩ := H
     replace H : (some (x4_1, t898)) = some (r1, r2) := H
     have A8 := Aside0.mk A80
     clear A80
     simp only [Option.some.injEq, Prod.mk.injEq] at H
     obtain ⟨rfl, rfl⟩ := H
     obtain ⟨Ao9, co9, eo9⟩ := Kd.R_slice HO_5.out
     subst eo9
     go_wp2_with (first | ((with_reducible refine gate_callee (f := 111) rfl ?_); refine goesL_ (some 13) rfl rfl Try.func111 (by kernel_rfl) rfl #[.pointer (some ⟨gb0_, 0, none⟩), .slice Ao9 x5_1.length co9] rfl (by (try simp only [List.map_toArray, List.map_cons, List.map_nil]); first | done | rfl | (simp only [List.length_drop, List.length_take]; rfl)) ?_; (with_reducible refine (impl_Hyper_singles.calls k1 gb0_ a0_0 A0_1 c0_1 l0_1 _ _ x5_1 t895 _ ?side1 ?side2 ?side3 ?side4 ?side5 A6.out).mono ?_); (case side1 => repeat (first | exact (Kd.C_below HR0_1.out HB.out) | (with_reducible refine Kd.C_alloc ?_ _) | (with_reducible refine Kd.C_drewN ?_ _) | (with_reducible refine Kd.C_drew ?_))); (case side2 => exact HC0_1.out); (case side3 => repeat (first | exact (Kd.R_reads' HO_5.out).2.2 | (with_reducible refine Kd.C_alloc ?_ _) | (with_reducible refine Kd.C_drewN ?_ _) | (with_reducible refine Kd.C_drew ?_))); (case side4 => exact (Kd.R_reads' HO_5.out).2.1); (case side5 => exact (by (with_reducible repeat (first | refine blk_drewN ?_ _ | refine blk_drew ?_ | refine blk_alloc ?_ _)); exact BK0.out)); rintro e w10 ⟨v896, rfl, ho0, hb⟩; refine ⟨_, rfl, ?_⟩; have n0_ := Aside0.mk (Kd.R_below (by (with_reducible repeat (first | apply Kd.R_alloc | apply Kd.R_drewN | apply Kd.R_drew)); exact HO_4.out) hb); have n1_ := Aside0.mk (Kd.R_below (by (with_reducible repeat (first | apply Kd.R_alloc | apply Kd.R_drewN | apply Kd.R_drew)); exact HO_5.out) hb); have n2_ := Aside0.mk (Kd.R_lower ho0 (below_size (by repeat (first | (with_reducible first | exact HB.out | apply below_alloc | apply pw_below_drewN | apply below_drew1 | refine below_set ?_ GE0.out) | exact HB.out)))); have n3_ := Aside0.mk (blk_below (g := gb0_) (o := .cells #[.int .i64 a0_0, .slice A0_1 l0_1.length c0_1] 29 (0, 0)) (by (with_reducible repeat (first | refine blk_drewN ?_ _ | refine blk_drew ?_ | refine blk_alloc ?_ _)); exact BK0.out) hb); have n4_ := Aside0.mk (below_step (by repeat (first | (with_reducible first | exact HB.out | apply below_alloc | apply pw_below_drewN | apply below_drew1 | refine below_set ?_ GE0.out) | exact HB.out)) hb); clear HO_4; clear HO_5; clear BK0; clear HB; have HO_4 := n0_; have HO_5 := n1_; have HO897 := n2_; have BK0 := n3_; have HB := n4_; clear n0_ n1_ n2_ n3_ n4_; (try clear hb); (try clear hb2); (try clear hk); (try clear hi); (try clear ho0); obtain ⟨Ao11, co11, eo11⟩ := Kd.R_slice HO897.out; subst eo11) | ((with_reducible refine gate_callee (f := 102) rfl ?_); refine goesL_ (some 19) rfl rfl Try.func102 (by kernel_rfl) rfl #[.slice Ao9 x5_1.length co9] rfl (by (try simp only [List.map_toArray, List.map_cons, List.map_nil]); first | done | rfl | (simp only [List.length_drop, List.length_take]; rfl)) ?_; (with_reducible refine (impl_left.calls k1 _ _ x5_1 t898 _ ?side1 ?side2 A8.out).mono ?_); (case side1 => repeat (first | exact (Kd.R_reads' HO_5.out).2.2 | (with_reducible refine Kd.C_alloc ?_ _) | (with_reducible refine Kd.C_drewN ?_ _) | (with_reducible refine Kd.C_drew ?_))); (case side2 => exact (Kd.R_reads' HO_5.out).2.1); rintro e w12 ⟨v899, rfl, ho0, hb⟩; refine ⟨_, rfl, ?_⟩; have n0_ := Aside0.mk (Kd.R_below (by (with_reducible repeat (first | apply Kd.R_alloc | apply Kd.R_drewN | apply Kd.R_drew)); exact HO_4.out) hb); have n1_ := Aside0.mk (Kd.R_below (by (with_reducible repeat (first | apply Kd.R_alloc | apply Kd.R_drewN | apply Kd.R_drew)); exact HO_5.out) hb); have n2_ := Aside0.mk (Kd.R_elder' (by (with_reducible repeat (first | apply Kd.R_alloc | apply Kd.R_drewN | apply Kd.R_drew)); exact HO897.out) (Kd.R_base ho0) hb); have n3_ := Aside0.mk (Kd.R_lower (Kd.R_new' ho0 (Kd.R_lt (by (with_reducible repeat (first | apply Kd.R_alloc | apply Kd.R_drewN | apply Kd.R_drew)); exact HO897.out))) (below_size (by repeat (first | (with_reducible first | exact HB.out | apply below_alloc | apply pw_below_drewN | apply below_drew1 | refine below_set ?_ GE0.out) | exact HB.out)))); have n4_ := Aside0.mk (blk_below (g := gb0_) (o := .cells #[.int .i64 a0_0, .slice A0_1 l0_1.length c0_1] 29 (0, 0)) (by (with_reducible repeat (first | refine blk_drewN ?_ _ | refine blk_drew ?_ | refine blk_alloc ?_ _)); exact BK0.out) hb); have n5_ := Aside0.mk (below_step (by repeat (first | (with_reducible first | exact HB.out | apply below_alloc | apply pw_below_drewN | apply below_drew1 | refine below_set ?_ GE0.out) | exact HB.out)) hb); clear HO_4; clear HO_5; clear HO897; clear BK0; clear HB; have HO_4 := n0_; have HO_5 := n1_; have HO897 := n2_; have HO900 := n3_; have BK0 := n4_; have HB := n5_; clear n0_ n1_ n2_ n3_ n4_ n5_; (try clear hb); (try clear hb2); (try clear hk); (try clear hi); (try clear ho0)))
     go_ret2
     exact ⟨_, _, by first | rfl | (simp [errW_none, errW_some] <;> rfl) | (simp [*, errW_none, errW_some] <;> rfl), by (with_reducible repeat (first | apply Kd.R_alloc | apply Kd.R_drewN | apply Kd.R_drew)); exact HO_4.out, by (with_reducible repeat (first | apply Kd.R_alloc | apply Kd.R_drewN | apply Kd.R_drew)); exact Kd.R_mono HO900.out (fun _ hk => trivial), by repeat (first | (with_reducible first | exact HB.out | apply below_alloc | apply pw_below_drewN | apply below_drew1 | refine below_set ?_ GE0.out) | exact HB.out)⟩
    ·rw [if_neg c7] at H
     have c7b0 : ((t895.length : Int) == 0) = false := beq_eq_false_iff_ne.mpr c7
     have c7b1 : ((t895.length : Int) != 0) = true := bne_iff_ne.mpr c7
     have c7b2 : ¬ (t895 = []) := fun h_ => c7 (by rw [h_]; rfl)
     by_cases c13 : 0 < (t895.length : Int)
     ·rw [if_pos c13] at H
      have c13b0 : decide (0 < (t895.length : Int)) = true := decide_eq_true c13
      have c13b1 : decide (0 < t895.length) = true := decide_eq_true (by omega)
      clear c13
      replace H := Option.bind_eq_some_iff.mp H
      obtain ⟨t902, A140, H⟩ := H
      replace H : (if 0 ≤ t902 then (if t902 < (x5_1.length : Int) then (if x4_1.length < 8796093022208 then (impl_Hyper_peel.l0 k1 (x4_1 ++ [(⟨t902, rd t895 0⟩ : S88)]) (x5_1.set (t902 : Int).toNat true) a0_0 l0_1) else (none)) else (none)) else (none)) = some (r1, r2) := H
      have A14 := Aside0.mk A140
      clear A140
      by_cases c15 : 0 ≤ t902
      ·rw [if_pos c15] at H
       have c15b0 : decide (0 ≤ t902) = true := decide_eq_true c15
       clear c15
       by_cases c16 : t902 < (x5_1.length : Int)
       ·rw [if_pos c16] at H
        have c16b0 : decide (t902 < (x5_1.length : Int)) = true := decide_eq_true c16
        clear c16
        obtain ⟨y903, hy903⟩ : ∃ y_ : List Bool, y_ = (x5_1.set (t902 : Int).toNat true) := ⟨_, rfl⟩
        replace H : (if x4_1.length < 8796093022208 then (impl_Hyper_peel.l0 k1 (x4_1 ++ [(⟨t902, rd t895 0⟩ : S88)]) y903 a0_0 l0_1) else (none)) = some (r1, r2) := by first | (rw [hy903]; with_reducible exact H) | (have H2_ := (Option.bind_some _ _).symm.trans H; rw [hy903]; with_reducible exact H2_) | (have H2_ := (Option.bind_some _ _).symm.trans H; with_reducible exact H2_) | with_reducible exact H | (rw [hy903]; exact H) | exact H
        have Ny903 := Aside0.mk hy903
        clear hy903
        by_cases c18 : x4_1.length < 8796093022208
        ·rw [if_pos c18] at H
         have LMc18 := Aside0.mk c18
         clear c18
         obtain ⟨y905, hy905⟩ : ∃ y_ : List (S88), y_ = (x4_1 ++ [(⟨t902, rd t895 0⟩ : S88)]) := ⟨_, rfl⟩
         replace H : (impl_Hyper_peel.l0 k1 y905 y903 a0_0 l0_1) = some (r1, r2) := by first | (rw [hy905]; with_reducible exact H) | (have H2_ := (Option.bind_some _ _).symm.trans H; rw [hy905]; with_reducible exact H2_) | (have H2_ := (Option.bind_some _ _).symm.trans H; with_reducible exact H2_) | with_reducible exact H | (rw [hy905]; exact H) | exact H
         have Ny905 := Aside0.mk hy905
         clear hy905
         have H' := Aside0.mk H
         clear H
         obtain ⟨Ao19, co19, eo19⟩ := Kd.R_slice HO_5.out
         subst eo19
         go_wp2_with (first | ((with_reducible refine gate_callee (f := 111) rfl ?_); refine goesL_ (some 13) rfl rfl Try.func111 (by kernel_rfl) rfl #[.pointer (some ⟨gb0_, 0, none⟩), .slice Ao19 x5_1.length co19] rfl (by (try simp only [List.map_toArray, List.map_cons, List.map_nil]); first | done | rfl | (simp only [List.length_drop, List.length_take]; rfl)) ?_; (with_reducible refine (impl_Hyper_singles.calls k1 gb0_ a0_0 A0_1 c0_1 l0_1 _ _ x5_1 t895 _ ?side1 ?side2 ?side3 ?side4 ?side5 A6.out).mono ?_); (case side1 => repeat (first | exact (Kd.C_below HR0_1.out HB.out) | (with_reducible refine Kd.C_alloc ?_ _) | (with_reducible refine Kd.C_drewN ?_ _) | (with_reducible refine Kd.C_drew ?_))); (case side2 => exact HC0_1.out); (case side3 => repeat (first | exact (Kd.R_reads' HO_5.out).2.2 | (with_reducible refine Kd.C_alloc ?_ _) | (with_reducible refine Kd.C_drewN ?_ _) | (with_reducible refine Kd.C_drew ?_))); (case side4 => exact (Kd.R_reads' HO_5.out).2.1); (case side5 => exact (by (with_reducible repeat (first | refine blk_drewN ?_ _ | refine blk_drew ?_ | refine blk_alloc ?_ _)); exact BK0.out)); rintro e w20 ⟨v896, rfl, ho0, hb⟩; refine ⟨_, rfl, ?_⟩; have n0_ := Aside0.mk (Kd.R_below (by (with_reducible repeat (first | apply Kd.R_alloc | apply Kd.R_drewN | apply Kd.R_drew)); exact HO_4.out) hb); have n1_ := Aside0.mk (Kd.R_below (by (with_reducible repeat (first | apply Kd.R_alloc | apply Kd.R_drewN | apply Kd.R_drew)); exact HO_5.out) hb); have n2_ := Aside0.mk (Kd.R_lower ho0 (below_size (by repeat (first | (with_reducible first | exact HB.out | apply below_alloc | apply pw_below_drewN | apply below_drew1 | refine below_set ?_ GE0.out) | exact HB.out)))); have n3_ := Aside0.mk (blk_below (g := gb0_) (o := .cells #[.int .i64 a0_0, .slice A0_1 l0_1.length c0_1] 29 (0, 0)) (by (with_reducible repeat (first | refine blk_drewN ?_ _ | refine blk_drew ?_ | refine blk_alloc ?_ _)); exact BK0.out) hb); have n4_ := Aside0.mk (below_step (by repeat (first | (with_reducible first | exact HB.out | apply below_alloc | apply pw_below_drewN | apply below_drew1 | refine below_set ?_ GE0.out) | exact HB.out)) hb); clear HO_4; clear HO_5; clear BK0; clear HB; have HO_4 := n0_; have HO_5 := n1_; have HO897 := n2_; have BK0 := n3_; have HB := n4_; clear n0_ n1_ n2_ n3_ n4_; (try clear hb); (try clear hb2); (try clear hk); (try clear hi); (try clear ho0); obtain ⟨Ao21, co21, eo21⟩ := Kd.R_slice HO897.out; subst eo21; have p901 : 0 ≤ (0 : Int) := (by omega); have q901 : 0 < (t895.length : Int) := of_decide_eq_true (by first | (with_reducible assumption) | assumption); obtain ⟨ad901, e901, hx901_0⟩ := Kd.at_int (Kd.R_reads' HO897.out).2.2 0 p901 q901; cases e901; have qi901 : (0 < t895.length) = True := eq_true (by omega); (try rw [show ((0 : Int)).toNat = 0 from rfl] at hx901_0); (try rw [Addr.add_zero'] at hx901_0); replace p901 := eq_true p901; replace q901 := eq_true q901) | ((with_reducible refine gate_callee (f := 112) rfl ?_); refine goesL_ (some 25) rfl rfl Try.func112 (by kernel_rfl) rfl #[.pointer (some ⟨gb0_, 0, none⟩), .slice Ao19 x5_1.length co19, .int .i64 (rd t895 0)] rfl (by (try simp only [List.map_toArray, List.map_cons, List.map_nil]); first | done | rfl | (simp only [List.length_drop, List.length_take]; rfl)) ?_; (with_reducible refine (impl_Hyper_edgeAt.calls k1 gb0_ a0_0 A0_1 c0_1 l0_1 _ _ x5_1 (rd t895 0) t902 _ ?side1 ?side2 ?side3 ?side4 ?side5 A14.out).mono ?_); (case side1 => repeat (first | exact (Kd.C_below HR0_1.out HB.out) | (with_reducible refine Kd.C_alloc ?_ _) | (with_reducible refine Kd.C_drewN ?_ _) | (with_reducible refine Kd.C_drew ?_))); (case side2 => exact HC0_1.out); (case side3 => repeat (first | exact (Kd.R_reads' HO_5.out).2.2 | (with_reducible refine Kd.C_alloc ?_ _) | (with_reducible refine Kd.C_drewN ?_ _) | (with_reducible refine Kd.C_drew ?_))); (case side4 => exact (Kd.R_reads' HO_5.out).2.1); (case side5 => exact (by (with_reducible repeat (first | refine blk_drewN ?_ _ | refine blk_drew ?_ | refine blk_alloc ?_ _)); exact BK0.out)); rintro e w' ⟨rfl, ⟨nd, rfl⟩⟩; refine ⟨_, rfl, ?_⟩; (try (rw [drewN_self w20]; generalize hq_ : World.drewN w20 _ = w20; have n0_ : Aside0 (Kd.R (Kd.int .i64) 3 w20 w.heap.size (fun k_ => True) (.slice (some ad901) t895.length co21) t895) := ⟨by rw [← hq_]; exact (by (with_reducible repeat (first | apply Kd.R_alloc | apply Kd.R_drewN | apply Kd.R_drew)); exact HO897.out)⟩; have n1_ : Aside0 (Kd.R k88 88 w20 w.heap.size (fun k_ => True) u4 x4_1) := ⟨by rw [← hq_]; exact (by (with_reducible repeat (first | apply Kd.R_alloc | apply Kd.R_drewN | apply Kd.R_drew)); exact HO_4.out)⟩; have n2_ : Aside0 (Kd.R Kd.bool 4 w20 w.heap.size (fun k_ => True) (.slice Ao19 x5_1.length co19) x5_1) := ⟨by rw [← hq_]; exact (by (with_reducible repeat (first | apply Kd.R_alloc | apply Kd.R_drewN | apply Kd.R_drew)); exact HO_5.out)⟩; have n3_ : Aside0 (w20.heap[gb0_]? = some (.cells #[.int .i64 a0_0, .slice A0_1 l0_1.length c0_1] 29 (0, 0))) := ⟨by rw [← hq_]; exact (by (with_reducible repeat (first | refine blk_drewN ?_ _ | refine blk_drew ?_ | refine blk_alloc ?_ _)); exact BK0.out)⟩; have n4_ : Aside0 (Below w.heap.size w w20) := ⟨by rw [← hq_]; exact (by repeat (first | (with_reducible first | exact HB.out | apply below_alloc | apply pw_below_drewN | apply below_drew1 | refine below_set ?_ GE0.out) | exact HB.out))⟩; clear HO897 HO_4 HO_5 BK0 HB hq_; have HO897 := n0_; have HO_4 := n1_; have HO_5 := n2_; have BK0 := n3_; have HB := n4_; clear n0_ n1_ n2_ n3_ n4_)); have p17 : 0 ≤ (t902 : Int) := of_decide_eq_true (by first | (with_reducible assumption) | assumption); have q17 : (t902 : Int) < ((x5_1.length : Int) : Int) := of_decide_eq_true (by first | (with_reducible assumption) | assumption); obtain ⟨go17, co17, eo17, gb17, gl17, cl17, HG17⟩ := Kd.R_form HO_5.out (by omega); (first | cases eo17 | (injection eo17 with ea_ en_ ec_; (first | subst ea_ | (injection ea_ with ea_; subst ea_)); subst ec_; clear en_)); have GB17 := Aside0.mk gb17; have GG17 := Aside0.mk HG17; clear gb17 gl17 HG17; obtain ⟨hx17_0, hf17_0⟩ := Kd.R_celln false HO_5.out (t902 : Int) p17 q17; replace p17 := eq_true p17; replace q17 := eq_true q17; obtain ⟨hy22_, hz22_⟩ := Kd.R_celln false HO_5.out (t902 : Int) (of_decide_eq_true (by first | (with_reducible assumption) | assumption)) (of_decide_eq_true (by first | (with_reducible assumption) | assumption)); have HP22 := Kd.R_putg HO_5.out (t902 : Int) true) | ((with_reducible refine gate_store (t := 4) (p := 28) rfl ?_); refine store_event (t := 4) (p := 28) (v := ?vo_w23) (w1 := (w20.setCell ⟨go17, (t902 : Int).toNat, none⟩ (.bool true))) ?hg ?ho ?hn ?hr ?_; (case ho => rfl); (case hg => rfl); (case hn => rfl); (case hr => first | (go_simp; done) | (go_simp; rfl)); intro w23 hw; have hg : w20.grownBy w23 (some go17) := (by rw [hw]; exact HP22.2); have hp_ : Kd.R Kd.bool 4 w23 w.heap.size (fun _ => True) (.slice (some ⟨go17, 0, none⟩) x5_1.length co19) y903 := (by rw [hw, Ny903.out]; exact HP22.1); clear HP22; have n0_ := Aside0.mk (Kd.R_over' (v := (.slice (some ⟨go17, 0, none⟩) x5_1.length co19)) (by (with_reducible repeat (first | apply Kd.R_alloc | apply Kd.R_drewN | apply Kd.R_drew)); exact HO_4.out) (Kd.R_typed HO_5.out) (by decide) hg); have n1_ := Aside0.mk (hp_); have n2_ := Aside0.mk (blk_grown (g := gb0_) (o := .cells #[.int .i64 a0_0, .slice A0_1 l0_1.length c0_1] 29 (0, 0)) (by (with_reducible repeat (first | refine blk_drewN ?_ _ | refine blk_drew ?_ | refine blk_alloc ?_ _)); exact BK0.out) hg (Kd.R_ne HO_5.out BK0.out (by decide))); have n3_ := Aside0.mk (Kd.R_over' (v := (.slice (some ⟨go17, 0, none⟩) x5_1.length co19)) (by (with_reducible repeat (first | apply Kd.R_alloc | apply Kd.R_drewN | apply Kd.R_drew)); exact HO897.out) (Kd.R_typed HO_5.out) (by decide) hg); have n4_ := Aside0.mk ((by rw [hw]; exact below_set (HB.out) GB17.out : Below w.heap.size w w23)); clear HO_4; clear HO_5; clear BK0; clear HO897; clear HB; have HO_4 := n0_; have HO_5 := n1_; have BK0 := n2_; have HO897 := n3_; have HB := n4_; clear n0_ n1_ n2_ n3_ n4_; clear hg hw hp_; have p904 : 0 ≤ (0 : Int) := (by omega); have q904 : 0 < (t895.length : Int) := of_decide_eq_true (by first | (with_reducible assumption) | assumption); obtain ⟨ad904, e904, hx904_0⟩ := Kd.at_int (Kd.R_reads' HO897.out).2.2 0 p904 q904; obtain rfl : ad901 = ad904 := (by injection e904); have qi904 : (0 < t895.length) = True := eq_true (by omega); (try rw [show ((0 : Int)).toNat = 0 from rfl] at hx904_0); (try rw [Addr.add_zero'] at hx904_0); replace p904 := eq_true p904; replace q904 := eq_true q904) | ((with_reducible refine gate_builtin (b := .append) (xs := #[.tmp 29, .tmp 35]) rfl ?_); at_builtin; refine Kd.R_append k88 (w0 := w) w.heap.size rfl (.tmp 29) (.tmp 35) 58 88 (.agg #[(.int .i64 0), (.int .i64 0)]) 16 rfl Try.underlying58 info88 rfl (by decide) (by omega) u4 x4_1 (⟨t902, rd t895 0⟩ : S88) [.int .i64 t902, .int .i64 (rd t895 0)] (fun _ => True) (fun _ => False) rfl rfl ?aP (fun _ hk => hk.elim) ?aF ?aO ?aB ?aS ?aL ?_; (case aP => exact k88_mkM _ _ _ (⟨t902, rd t895 0⟩ : S88)); (case aB => exact (by repeat (first | (with_reducible first | exact HB.out | apply below_alloc | apply pw_below_drewN | apply below_drew1 | refine below_set ?_ GE0.out) | exact HB.out))); (case aF => exact (fun _ _ => trivial)); (case aO => exact (by (with_reducible repeat (first | apply Kd.R_alloc | apply Kd.R_drewN | apply Kd.R_drew)); exact HO_4.out)); (case aS => exact (below_size (by repeat (first | (with_reducible first | exact HB.out | apply below_alloc | apply pw_below_drewN | apply below_drew1 | refine below_set ?_ GE0.out) | exact HB.out)))); (case aL => have := LMc18.out; omega); intro v906 w24 ho hb hg hat; rw [← Ny905.out] at ho; have n0_ := Aside0.mk (Kd.R_over' (by (with_reducible repeat (first | apply Kd.R_alloc | apply Kd.R_drewN | apply Kd.R_drew)); exact HO_5.out) (Kd.R_typed (by (with_reducible repeat (first | apply Kd.R_alloc | apply Kd.R_drewN | apply Kd.R_drew)); exact HO_4.out)) (by decide) hg); have n1_ := Aside0.mk (blk_grown (g := gb0_) (o := .cells #[.int .i64 a0_0, .slice A0_1 l0_1.length c0_1] 29 (0, 0)) (by (with_reducible repeat (first | refine blk_drewN ?_ _ | refine blk_drew ?_ | refine blk_alloc ?_ _)); exact BK0.out) hg (Kd.R_ne HO_4.out BK0.out (by decide))); have n2_ := Aside0.mk (Kd.R_over' (by (with_reducible repeat (first | apply Kd.R_alloc | apply Kd.R_drewN | apply Kd.R_drew)); exact HO897.out) (Kd.R_typed (by (with_reducible repeat (first | apply Kd.R_alloc | apply Kd.R_drewN | apply Kd.R_drew)); exact HO_4.out)) (by decide) hg); have n3_ := Aside0.mk (hb); have n4_ := Aside0.mk (ho); clear HO_5; clear BK0; clear HO897; clear HB; clear HO_4; have HO_5 := n0_; have BK0 := n1_; have HO897 := n2_; have HB := n3_; have HO907 := n4_; clear n0_ n1_ n2_ n3_ n4_; clear ho hb hg hat))
         go_roundg k1
         case measure => have := HK1.out; omega
         case rel => exact ⟨(y905), (y903), H', ⟨by have := HK1.out; omega⟩, ⟨by (with_reducible repeat (first | apply Kd.R_alloc | apply Kd.R_drewN | apply Kd.R_drew)); exact HO907.out⟩, ⟨by (with_reducible repeat (first | apply Kd.R_alloc | apply Kd.R_drewN | apply Kd.R_drew)); exact HO_5.out⟩, ⟨by (with_reducible repeat (first | refine blk_drewN ?_ _ | refine blk_drew ?_ | refine blk_alloc ?_ _)); exact BK0.out⟩, ⟨by repeat (first | (with_reducible first | exact HB.out | apply below_alloc | apply pw_below_drewN | apply below_drew1 | refine below_set ?_ GE0.out) | exact HB.out)⟩⟩
        ·rw [if_neg c18] at H
         exact absurd H (by simp)
       ·rw [if_neg c16] at H
        exact absurd H (by simp)
      ·rw [if_neg c15] at H
       exact absurd H (by simp)
     ·rw [if_neg c13] at H
      exact absurd H (by simp)
end Go.Proofs.Ytlcedciocmjggaa.X
