/- Written by a program of this session: what functions of the given program compute, and that their calls do so. -/
import Derived.Test.YtioncjcmfbndmaaXx0
import Derived.Test.YtioncjcmfbndmaaXg2b9a
import Derived.Test.YtioncjcmfbndmaaXg88a
import Derived.Test.YtioncjcmfbndmaaXgc8a
import Derived.Test.YtioncjcmfbndmaaXgcaa
namespace Go.Proofs.Ytioncjcmfbndmaa.X
open Go.RowKit Go.Proofs.YtioncjcmfbndmaaW.PrintWords Go.Proofs.YtioncjcmfbndmaaW.PrintLast Go.Proofs.YtioncjcmfbndmaaW.PrintMore
attribute [local go_sem] max2_int min2_int max_two min_two max_three min_three max_four min_four   -- for this text's walks alone
set_option linter.unusedVariables false
set_option linter.unusedSimpArgs false
/-! ### spec_pfRank: function 107 -/
def spec_pfRank.l0 : Nat → Int → List Int → Int → Int → Option (Int)
  | 0, _, _, _, _ => none
  | k + 1, x5, x11, x12, x13 => if x13 < x12 then (if 0 ≤ x13 then (if x13 < (x11.length : Int) then (if (rd x11 x13) = 3 then (spec_pfRank.l0 k x5 x11 x12 (wrap64 (x13 + 1))) else (spec_pfRank.l0 k (wrap64 (x5 + 1)) x11 x12 (wrap64 (x13 + 1)))) else (none)) else (none)) else (some x5)
def spec_pfRank.f (k : Nat) (a0_0 : Int) (a0_1 : Int) (l0_2 : List Int) (a1 : Int) : Option (Int) := if 0 ≤ a1 then (if a1 ≤ (l0_2.length : Int) then (spec_pfRank.l0 k 0 (l0_2.take (a1 : Int).toNat) ((l0_2.take (a1 : Int).toNat).length : Int) 0) else (none)) else (none)
theorem spec_pfRank.mono_l : ∀ k, (∀ y0 y1 y2 y3, LeO (spec_pfRank.l0 k y0 y1 y2 y3) (spec_pfRank.l0 (k + 1) y0 y1 y2 y3))
  | 0 => fun _ _ _ _ r h => by simp [spec_pfRank.l0] at h
  | k + 1 => by
    have ih0 := spec_pfRank.mono_l k
    · intro y0 y1 y2 y3
      unfold spec_pfRank.l0
      repeat' first
      | (with_reducible exact ih0 _ _ _ _)
      | (with_reducible exact LeO.refl _)
      | (with_reducible exact LeO.none _)
      | (with_reducible refine LeO.ite ?_ ?_)
      | (with_reducible refine LeO.bind ?_ (fun _ => ?_))
      | exact ih0 _ _ _ _
      | exact LeO.none _
      | refine LeO.ite ?_ ?_
      | refine LeO.bind ?_ (fun _ => ?_)
theorem spec_pfRank.mono : ∀ a0 a1 a2 a3 k, LeO (spec_pfRank.f k a0 a1 a2 a3) (spec_pfRank.f (k + 1) a0 a1 a2 a3) := by
  intro a0 a1 a2 a3 k
  have ih0 := spec_pfRank.mono_l k
  unfold spec_pfRank.f
  repeat' first
      | (with_reducible exact ih0 _ _ _ _)
      | (with_reducible exact LeO.refl _)
      | (with_reducible exact LeO.none _)
      | (with_reducible refine LeO.ite ?_ ?_)
      | (with_reducible refine LeO.bind ?_ (fun _ => ?_))
      | exact ih0 _ _ _ _
      | exact LeO.none _
      | refine LeO.ite ?_ ?_
      | refine LeO.bind ?_ (fun _ => ?_)
noncomputable def spec_pfRank.L0 (y0 : Int) (y1 : List Int) (y2 : Int) (y3 : Int) : Option (Int) := lim fun k => spec_pfRank.l0 k y0 y1 y2 y3
theorem spec_pfRank.L0_sup (y0 : Int) (y1 : List Int) (y2 : Int) (y3 : Int) : Sup (fun k => spec_pfRank.l0 k y0 y1 y2 y3) (spec_pfRank.L0 y0 y1 y2 y3) := Sup.of_mono fun k => spec_pfRank.mono_l k y0 y1 y2 y3
noncomputable def spec_pfRank.F (a0_0 : Int) (a0_1 : Int) (l0_2 : List Int) (a1 : Int) : Option (Int) := lim fun k => spec_pfRank.f k a0_0 a0_1 l0_2 a1
theorem spec_pfRank.F_sup (a0_0 : Int) (a0_1 : Int) (l0_2 : List Int) (a1 : Int) : Sup (fun k => spec_pfRank.f k a0_0 a0_1 l0_2 a1) (spec_pfRank.F a0_0 a0_1 l0_2 a1) := Sup.of_mono fun k => spec_pfRank.mono a0_0 a0_1 l0_2 a1 k
theorem spec_pfRank.L0_eq (x5 : Int) (x11 : List Int) (x12 : Int) (x13 : Int) : spec_pfRank.L0 x5 x11 x12 x13 = if x13 < x12 then (if 0 ≤ x13 then (if x13 < (x11.length : Int) then (if (rd x11 x13) = 3 then (spec_pfRank.L0 x5 x11 x12 (wrap64 (x13 + 1))) else (spec_pfRank.L0 (wrap64 (x5 + 1)) x11 x12 (wrap64 (x13 + 1)))) else (none)) else (none)) else (some x5) := by
  refine Sup.unique (spec_pfRank.L0_sup x5 x11 x12 x13) (Sup.shift (fun k => spec_pfRank.mono_l k x5 x11 x12 x13) (Sup.congr (g' := fun k => if x13 < x12 then (if 0 ≤ x13 then (if x13 < (x11.length : Int) then (if (rd x11 x13) = 3 then (spec_pfRank.l0 k x5 x11 x12 (wrap64 (x13 + 1))) else (spec_pfRank.l0 k (wrap64 (x5 + 1)) x11 x12 (wrap64 (x13 + 1)))) else (none)) else (none)) else (some x5)) (fun k => by first | rfl | simp only [spec_pfRank.l0]) ?_))
  repeat' first
    | (with_reducible exact spec_pfRank.L0_sup _ _ _ _)
    | (with_reducible refine Sup.ite ?_ ?_)
    | (with_reducible refine Sup.bind ?_ (fun _ => ?_))
    | (with_reducible exact Sup.const _)
    | exact spec_pfRank.L0_sup _ _ _ _
    | exact Sup.const _
theorem spec_pfRank.F_eq (a0_0 : Int) (a0_1 : Int) (l0_2 : List Int) (a1 : Int) : spec_pfRank.F a0_0 a0_1 l0_2 a1 = if 0 ≤ a1 then (if a1 ≤ (l0_2.length : Int) then (spec_pfRank.L0 0 (l0_2.take (a1 : Int).toNat) ((l0_2.take (a1 : Int).toNat).length : Int) 0) else (none)) else (none) := by
  refine Sup.unique (spec_pfRank.F_sup a0_0 a0_1 l0_2 a1) (Sup.congr (g' := fun k => if 0 ≤ a1 then (if a1 ≤ (l0_2.length : Int) then (spec_pfRank.l0 k 0 (l0_2.take (a1 : Int).toNat) ((l0_2.take (a1 : Int).toNat).length : Int) 0) else (none)) else (none)) (fun k => by first | rfl | simp only [spec_pfRank.f]) ?_)
  repeat' first
    | (with_reducible exact spec_pfRank.L0_sup _ _ _ _)
    | (with_reducible refine Sup.ite ?_ ?_)
    | (with_reducible refine Sup.bind ?_ (fun _ => ?_))
    | (with_reducible exact Sup.const _)
    | exact spec_pfRank.L0_sup _ _ _ _
    | exact Sup.const _
set_option maxHeartbeats 8000000 in
set_option maxRecDepth 100000 in
theorem spec_pfRank.calls (k : Nat) (a0_0 : Int) (a0_1 : Int) (A0_2 : Option Addr) (c0_2 : Nat) (l0_2 : List Int) (a1 : Int) (r : Int) (w : World) (hr0_2 : Kd.C (Kd.int .i64) w A0_2 l0_2.length l0_2) (hc0_2 : l0_2.length ≤ c0_2) (h : spec_pfRank.f k a0_0 a0_1 l0_2 a1 = some r) :
    Calls Try.prog 107 #[.agg #[.int .i64 a0_0, .int .i64 a0_1, .slice A0_2 l0_2.length c0_2], .int .i64 a1] w fun e w' => e = .returned (.int .i64 r) ∧ Below w.heap.size w w' := by
  have hu36 := Try.underlying36
  have HR0_2 := Aside0.mk hr0_2
  have HC0_2 := Aside0.mk hc0_2
  clear hr0_2 hc0_2
  have HB := Aside0.mk (Below.refl w.heap.size w)
  have H : (if 0 ≤ a1 then (if a1 ≤ (l0_2.length : Int) then (spec_pfRank.l0 k 0 (l0_2.take (a1 : Int).toNat) ((l0_2.take (a1 : Int).toNat).length : Int) 0) else (none)) else (none)) = some r := h
  clear h
  by_cases c3 : 0 ≤ a1
  ·rw [if_pos c3] at H
   have c3b0 := eq_true c3
   have c3b1 : decide (0 ≤ a1) = true := decide_eq_true c3
   clear c3
   by_cases c4 : a1 ≤ (l0_2.length : Int)
   ·rw [if_pos c4] at H
    have c4b0 := eq_true c4
    have c4b1 : decide (a1 ≤ (l0_2.length : Int)) = true := decide_eq_true c4
    clear c4
    have H' := Aside0.mk H
    clear H
    go_enter Try.func107, Try.ntmps107
    go_wp2_with (first | ((with_reducible refine gate_dst (N := 2) rfl ?_); refine box_event ?hg (N := 2) ?hd (cs := #[.int .i64 a0_0, .int .i64 a0_1, .slice A0_2 l0_2.length c0_2]) (t := 36) ?hr ?_; (case hd => rfl); (case hg => rfl); (case hr => first | (go_simp; done) | (go_simp; rfl)); intro gb671 hg w5 hbox hb; have n0_ := Aside0.mk (below_step (by repeat (first | (with_reducible first | exact HB.out | apply below_alloc | apply pw_below_drewN | apply below_drew1) | exact HB.out)) hb); have n1_ := Aside0.mk (hbox); have n2_ := Aside0.mk ((by rw [hg]; exact (below_size (by repeat (first | (with_reducible first | exact HB.out | apply below_alloc | apply pw_below_drewN | apply below_drew1) | exact HB.out))) : w.heap.size ≤ gb671)); have n3_ := Aside0.mk ((by rw [hg]; exact (below_size (by repeat (first | (with_reducible first | exact HB.out | apply below_alloc | apply pw_below_drewN | apply below_drew1) | exact HB.out))) : w.heap.size ≤ gb671)); clear HB; have HB := n0_; have BK671 := n1_; have GW671 := n2_; have GE671 := n3_; clear n0_ n1_ n2_ n3_; clear hb hbox hg; have hcz6_0 : w5.cell? ⟨gb671, 0, none⟩ = some (.int .i64 a0_0) := (blk_cell BK671.out 0).trans rfl; have hcz6_1 : w5.cell? ⟨gb671, 1, none⟩ = some (.int .i64 a0_1) := (blk_cell BK671.out 1).trans rfl; have hcz6_2 : w5.cell? ⟨gb671, 2, none⟩ = some (.slice A0_2 l0_2.length c0_2) := (blk_cell BK671.out 2).trans rfl; have hfz6_0 := blk_frozen BK671.out 0; have hfz6_1 := blk_frozen BK671.out 1; have hfz6_2 := blk_frozen BK671.out 2; obtain ⟨i07, hi07, _, hsz7, _⟩ := info_parts info3; obtain ⟨hcut7, hA7, hC7⟩ := print_take_of (P := Try.prog) (Value.int .i64) 0 22 3 .i64 Try.underlying22 hi07 hsz7 A0_2 c0_2 l0_2 a1 (of_decide_eq_true (by first | (with_reducible assumption) | assumption)) (of_decide_eq_true (by first | (with_reducible assumption) | assumption)) HC0_2.out; have HR672 := Aside0.mk (Kd.C_of_reads (h1 := fun _ => rfl) (hA7 _ (Kd.reads_of_C HR0_2.out))); have HC672 := Aside0.mk hC7; clear hA7 hC7 hi07 hsz7; have HL7 := Aside0.mk (show (((l0_2.take (a1 : Int).toNat).length : Int) = max (a1 : Int) 0) from (by have h0_ : 0 ≤ (a1 : Int) := of_decide_eq_true (by first | (with_reducible assumption) | assumption); have h_ : (a1 : Int) ≤ (l0_2.length : Int) := of_decide_eq_true (by first | (with_reducible assumption) | assumption); rw [List.length_take]; omega))))
    go_loopg [5, 13] k (fun kq v5 v13 w' => ∃ (x5_1 : Int) (x13_1 : Int), v5 = .int .i64 x5_1 ∧ v13 = .int .i64 x13_1 ∧ Aside0 (spec_pfRank.l0 kq x5_1 (l0_2.take (a1 : Int).toNat) ((l0_2.take (a1 : Int).toNat).length : Int) x13_1 = some r) ∧ Aside0 (kq ≤ k) ∧ Aside0 (w'.heap[gb671]? = some (.cells #[.int .i64 a0_0, .int .i64 a0_1, (.slice A0_2 l0_2.length c0_2)] 36 (0, 0))) ∧ Aside0 (Below w.heap.size w w'))
    case atStart => exact ⟨(0), (0), (by first | rfl | (simp; done) | (simp [*]; done)), (by first | rfl | (simp; done) | (simp [*]; done)), H', ⟨Nat.le_refl _⟩, ⟨by (with_reducible repeat (first | refine blk_drewN ?_ _ | refine blk_drew ?_ | refine blk_alloc ?_ _)); exact BK671.out⟩, ⟨by repeat (first | (with_reducible first | exact HB.out | apply below_alloc | apply pw_below_drewN | apply below_drew1 | refine below_set ?_ GE671.out) | exact HB.out)⟩⟩
    case round =>
     clear H'
     try clear c1
     try clear p2
     try clear c3
     try clear c3b0
     try clear c3b1
     try clear c4
     try clear c4b0
     try clear c4b1
     try clear hcz6_0
     try clear hcz6_1
     try clear hcz6_2
     try clear hfz6_0
     try clear hfz6_1
     try clear hfz6_2
     obtain ⟨x5_1, x13_1, rfl, rfl, HA, HK1, BK671, HB⟩ := hrel
     cases gk with
     | zero => exact absurd HA.out (by simp [spec_pfRank.l0])
     | succ k1 =>
      have H := HA.out
      clear HA
      simp only [spec_pfRank.l0] at H
      by_cases c8 : x13_1 < ((l0_2.take (a1 : Int).toNat).length : Int)
      ·rw [if_pos c8] at H
       have c8b0 : decide (x13_1 < ((l0_2.take (a1 : Int).toNat).length : Int)) = true := decide_eq_true c8
       (try (have c8b1 : decide (x13_1 < max a1 0) = true := decide_eq_true (by have h_ := HL7.out; omega)))
       clear c8
       by_cases c9 : 0 ≤ x13_1
       ·rw [if_pos c9] at H
        have c9b0 : decide (0 ≤ x13_1) = true := decide_eq_true c9
        clear c9
        by_cases c10 : x13_1 < ((l0_2.take (a1 : Int).toNat).length : Int)
        ·rw [if_pos c10] at H
         have c10b0 : decide (x13_1 < ((l0_2.take (a1 : Int).toNat).length : Int)) = true := decide_eq_true c10
         (try (have c10b1 : decide (x13_1 < max a1 0) = true := decide_eq_true (by have h_ := HL7.out; omega)))
         clear c10
         by_cases c11 : (rd (l0_2.take (a1 : Int).toNat) x13_1) = 3
         ·rw [if_pos c11] at H
          have c11b0 : ((rd (l0_2.take (a1 : Int).toNat) x13_1) == 3) = true := beq_iff_eq.mpr c11
          have c11b1 : ((rd (l0_2.take (a1 : Int).toNat) x13_1) != 3) = false := bne_eq_false_iff_eq.mpr c11
          clear c11
          have H' := Aside0.mk H
          clear H
          have p673 : 0 ≤ (x13_1 : Int) := of_decide_eq_true (by first | (with_reducible assumption) | assumption)
          have q673 : x13_1 < ((l0_2.take (a1 : Int).toNat).length : Int) := of_decide_eq_true (by first | (with_reducible assumption) | assumption)
          obtain ⟨ad673, e673, hx673_0⟩ := Kd.at_int HR672.out x13_1 p673 q673
          cases e673
          replace hx673_0 := (HB.out.cell (World.block_lt_of_cell? w _ hx673_0)).trans hx673_0
          (try (have qi673 : (x13_1 < max a1 0) = True := eq_true (by have h_ := HL7.out; have h2_ := q673; omega)))
          replace p673 := eq_true p673
          replace q673 := eq_true q673
          go_wp2
          go_roundg k1
          case measure => have := HK1.out; omega
          case rel => exact ⟨(x5_1), (wrap64 (x13_1 + 1)), (by first | rfl | (simp; done) | (simp [*]; done)), (by first | rfl | (simp; done) | (simp [*]; done)), H', ⟨by have := HK1.out; omega⟩, ⟨by (with_reducible repeat (first | refine blk_drewN ?_ _ | refine blk_drew ?_ | refine blk_alloc ?_ _)); exact BK671.out⟩, ⟨by repeat (first | (with_reducible first | exact HB.out | apply below_alloc | apply pw_below_drewN | apply below_drew1 | refine below_set ?_ GE671.out) | exact HB.out)⟩⟩
         ·rw [if_neg c11] at H
          have c11b0 : ((rd (l0_2.take (a1 : Int).toNat) x13_1) == 3) = false := beq_eq_false_iff_ne.mpr c11
          have c11b1 : ((rd (l0_2.take (a1 : Int).toNat) x13_1) != 3) = true := bne_iff_ne.mpr c11
          have H' := Aside0.mk H
          clear H
          have p673 : 0 ≤ (x13_1 : Int) := of_decide_eq_true (by first | (with_reducible assumption) | assumption)
          have q673 : x13_1 < ((l0_2.take (a1 : Int).toNat).length : Int) := of_decide_eq_true (by first | (with_reducible assumption) | assumption)
          obtain ⟨ad673, e673, hx673_0⟩ := Kd.at_int HR672.out x13_1 p673 q673
          cases e673
          replace hx673_0 := (HB.out.cell (World.block_lt_of_cell? w _ hx673_0)).trans hx673_0
          (try (have qi673 : (x13_1 < max a1 0) = True := eq_true (by have h_ := HL7.out; have h2_ := q673; omega)))
          replace p673 := eq_true p673
          replace q673 := eq_true q673
          go_wp2
          go_roundg k1
          case measure => have := HK1.out; omega
          case rel => exact ⟨(wrap64 (x5_1 + 1)), (wrap64 (x13_1 + 1)), (by first | rfl | (simp; done) | (simp [*]; done)), (by first | rfl | (simp; done) | (simp [*]; done)), H', ⟨by have := HK1.out; omega⟩, ⟨by (with_reducible repeat (first | refine blk_drewN ?_ _ | refine blk_drew ?_ | refine blk_alloc ?_ _)); exact BK671.out⟩, ⟨by repeat (first | (with_reducible first | exact HB.out | apply below_alloc | apply pw_below_drewN | apply below_drew1 | refine below_set ?_ GE671.out) | exact HB.out)⟩⟩
        ·rw [if_neg c10] at H
         exact absurd H (by simp)
       ·rw [if_neg c9] at H
        exact absurd H (by simp)
      ·rw [if_neg c8] at H
       have c8b0 : decide (x13_1 < ((l0_2.take (a1 : Int).toNat).length : Int)) = false := decide_eq_false c8
       (try (have c8b1 : decide (x13_1 < max a1 0) = false := decide_eq_false (by have h_ := HL7.out; omega)))
       clear c8
       obtain rfl := Option.some.inj H
       go_wp2
       go_ret
       exact ⟨by first | rfl | (simp [errW_none, errW_some] <;> rfl) | (simp [*, errW_none, errW_some] <;> rfl), by repeat (first | (with_reducible first | exact HB.out | apply below_alloc | apply pw_below_drewN | apply below_drew1 | refine below_set ?_ GE671.out) | exact HB.out)⟩
   ·rw [if_neg c4] at H
    exact absurd H (by simp)
  ·rw [if_neg c3] at H
   exact absurd H (by simp)
/-! ### spec_PeeledIndex: function 52 -/
def spec_PeeledIndex.j0 : Nat → ByteArray → Bool → Int → Int → List Int → Option (Int × Bool)
  | 0, _, _, _, _, _ => none
  | k + 1, x1, x23, x675000, x675001, x675002 => if x23 = true then (some (0, false)) else ((spec_pfPlace.f k x675000 x675001 x675002 x1).bind fun t679 => ((spec_pfRank.f k x675000 x675001 x675002 t679).bind fun t680 => (some (t680, true))))
def spec_PeeledIndex.f (k : Nat) (a0_0 : Int) (a0_1 : Int) (l0_2 : List Int) (a1 : ByteArray) : Option (Int × Bool) := (spec_pfPeeled.f k a0_0 a0_1 l0_2).bind fun t675 => (if t675 = true then ((spec_IsKey.f k a1).bind fun t676 => (if t676 = true then ((spec_pfPlace.f k a0_0 a0_1 l0_2 a1).bind fun t677 => (if 0 ≤ t677 then (if t677 < (l0_2.length : Int) then (spec_PeeledIndex.j0 k a1 ((rd l0_2 t677) == 3) a0_0 a0_1 l0_2) else (none)) else (none))) else (spec_PeeledIndex.j0 k a1 true a0_0 a0_1 l0_2))) else (spec_PeeledIndex.j0 k a1 true a0_0 a0_1 l0_2))
theorem spec_PeeledIndex.mono_l : ∀ k, (∀ y0 y1 y2 y3 y4, LeO (spec_PeeledIndex.j0 k y0 y1 y2 y3 y4) (spec_PeeledIndex.j0 (k + 1) y0 y1 y2 y3 y4))
  | 0 => fun _ _ _ _ _ r h => by simp [spec_PeeledIndex.j0] at h
  | k + 1 => by
    have ih0 := spec_PeeledIndex.mono_l k
    · intro y0 y1 y2 y3 y4
      unfold spec_PeeledIndex.j0
      repeat' first
      | (with_reducible exact ih0 _ _ _ _ _)
      | (with_reducible exact spec_IsKey.mono _ _)
      | (with_reducible exact spec_pfPeeled.mono _ _ _ _)
      | (with_reducible exact spec_pfPlace.mono _ _ _ _ _)
      | (with_reducible exact spec_pfRank.mono _ _ _ _ _)
      | (with_reducible exact LeO.refl _)
      | (with_reducible exact LeO.none _)
      | (with_reducible refine LeO.ite ?_ ?_)
      | (with_reducible refine LeO.bind ?_ (fun _ => ?_))
      | exact ih0 _ _ _ _ _
      | exact spec_IsKey.mono _ _
      | exact spec_pfPeeled.mono _ _ _ _
      | exact spec_pfPlace.mono _ _ _ _ _
      | exact spec_pfRank.mono _ _ _ _ _
      | exact LeO.none _
      | refine LeO.ite ?_ ?_
      | refine LeO.bind ?_ (fun _ => ?_)
theorem spec_PeeledIndex.mono : ∀ a0 a1 a2 a3 k, LeO (spec_PeeledIndex.f k a0 a1 a2 a3) (spec_PeeledIndex.f (k + 1) a0 a1 a2 a3) := by
  intro a0 a1 a2 a3 k
  have ih0 := spec_PeeledIndex.mono_l k
  unfold spec_PeeledIndex.f
  repeat' first
      | (with_reducible exact ih0 _ _ _ _ _)
      | (with_reducible exact spec_IsKey.mono _ _)
      | (with_reducible exact spec_pfPeeled.mono _ _ _ _)
      | (with_reducible exact spec_pfPlace.mono _ _ _ _ _)
      | (with_reducible exact spec_pfRank.mono _ _ _ _ _)
      | (with_reducible exact LeO.refl _)
      | (with_reducible exact LeO.none _)
      | (with_reducible refine LeO.ite ?_ ?_)
      | (with_reducible refine LeO.bind ?_ (fun _ => ?_))
      | exact ih0 _ _ _ _ _
      | exact spec_IsKey.mono _ _
      | exact spec_pfPeeled.mono _ _ _ _
      | exact spec_pfPlace.mono _ _ _ _ _
      | exact spec_pfRank.mono _ _ _ _ _
      | exact LeO.none _
      | refine LeO.ite ?_ ?_
      | refine LeO.bind ?_ (fun _ => ?_)
noncomputable def spec_PeeledIndex.J0 (y0 : ByteArray) (y1 : Bool) (y2 : Int) (y3 : Int) (y4 : List Int) : Option (Int × Bool) := lim fun k => spec_PeeledIndex.j0 k y0 y1 y2 y3 y4
theorem spec_PeeledIndex.J0_sup (y0 : ByteArray) (y1 : Bool) (y2 : Int) (y3 : Int) (y4 : List Int) : Sup (fun k => spec_PeeledIndex.j0 k y0 y1 y2 y3 y4) (spec_PeeledIndex.J0 y0 y1 y2 y3 y4) := Sup.of_mono fun k => spec_PeeledIndex.mono_l k y0 y1 y2 y3 y4
noncomputable def spec_PeeledIndex.F (a0_0 : Int) (a0_1 : Int) (l0_2 : List Int) (a1 : ByteArray) : Option (Int × Bool) := lim fun k => spec_PeeledIndex.f k a0_0 a0_1 l0_2 a1
theorem spec_PeeledIndex.F_sup (a0_0 : Int) (a0_1 : Int) (l0_2 : List Int) (a1 : ByteArray) : Sup (fun k => spec_PeeledIndex.f k a0_0 a0_1 l0_2 a1) (spec_PeeledIndex.F a0_0 a0_1 l0_2 a1) := Sup.of_mono fun k => spec_PeeledIndex.mono a0_0 a0_1 l0_2 a1 k
theorem spec_PeeledIndex.J0_eq (x1 : ByteArray) (x23 : Bool) (x675000 : Int) (x675001 : Int) (x675002 : List Int) : spec_PeeledIndex.J0 x1 x23 x675000 x675001 x675002 = if x23 = true then (some (0, false)) else ((spec_pfPlace.F x675000 x675001 x675002 x1).bind fun t679 => ((spec_pfRank.F x675000 x675001 x675002 t679).bind fun t680 => (some (t680, true)))) := by
  refine Sup.unique (spec_PeeledIndex.J0_sup x1 x23 x675000 x675001 x675002) (Sup.shift (fun k => spec_PeeledIndex.mono_l k x1 x23 x675000 x675001 x675002) (Sup.congr (g' := fun k => if x23 = true then (some (0, false)) else ((spec_pfPlace.f k x675000 x675001 x675002 x1).bind fun t679 => ((spec_pfRank.f k x675000 x675001 x675002 t679).bind fun t680 => (some (t680, true))))) (fun k => by first | rfl | simp only [spec_PeeledIndex.j0]) ?_))
  repeat' first
    | (with_reducible exact spec_PeeledIndex.J0_sup _ _ _ _ _)
    | (with_reducible exact spec_IsKey.F_sup _)
    | (with_reducible exact spec_pfPeeled.F_sup _ _ _)
    | (with_reducible exact spec_pfPlace.F_sup _ _ _ _)
    | (with_reducible exact spec_pfRank.F_sup _ _ _ _)
    | (with_reducible refine Sup.ite ?_ ?_)
    | (with_reducible refine Sup.bind ?_ (fun _ => ?_))
    | (with_reducible exact Sup.const _)
    | exact spec_PeeledIndex.J0_sup _ _ _ _ _
    | exact spec_IsKey.F_sup _
    | exact spec_pfPeeled.F_sup _ _ _
    | exact spec_pfPlace.F_sup _ _ _ _
    | exact spec_pfRank.F_sup _ _ _ _
    | exact Sup.const _
theorem spec_PeeledIndex.F_eq (a0_0 : Int) (a0_1 : Int) (l0_2 : List Int) (a1 : ByteArray) : spec_PeeledIndex.F a0_0 a0_1 l0_2 a1 = (spec_pfPeeled.F a0_0 a0_1 l0_2).bind fun t675 => (if t675 = true then ((spec_IsKey.F a1).bind fun t676 => (if t676 = true then ((spec_pfPlace.F a0_0 a0_1 l0_2 a1).bind fun t677 => (if 0 ≤ t677 then (if t677 < (l0_2.length : Int) then (spec_PeeledIndex.J0 a1 ((rd l0_2 t677) == 3) a0_0 a0_1 l0_2) else (none)) else (none))) else (spec_PeeledIndex.J0 a1 true a0_0 a0_1 l0_2))) else (spec_PeeledIndex.J0 a1 true a0_0 a0_1 l0_2)) := by
  refine Sup.unique (spec_PeeledIndex.F_sup a0_0 a0_1 l0_2 a1) (Sup.congr (g' := fun k => (spec_pfPeeled.f k a0_0 a0_1 l0_2).bind fun t675 => (if t675 = true then ((spec_IsKey.f k a1).bind fun t676 => (if t676 = true then ((spec_pfPlace.f k a0_0 a0_1 l0_2 a1).bind fun t677 => (if 0 ≤ t677 then (if t677 < (l0_2.length : Int) then (spec_PeeledIndex.j0 k a1 ((rd l0_2 t677) == 3) a0_0 a0_1 l0_2) else (none)) else (none))) else (spec_PeeledIndex.j0 k a1 true a0_0 a0_1 l0_2))) else (spec_PeeledIndex.j0 k a1 true a0_0 a0_1 l0_2))) (fun k => by first | rfl | simp only [spec_PeeledIndex.f]) ?_)
  repeat' first
    | (with_reducible exact spec_PeeledIndex.J0_sup _ _ _ _ _)
    | (with_reducible exact spec_IsKey.F_sup _)
    | (with_reducible exact spec_pfPeeled.F_sup _ _ _)
    | (with_reducible exact spec_pfPlace.F_sup _ _ _ _)
    | (with_reducible exact spec_pfRank.F_sup _ _ _ _)
    | (with_reducible refine Sup.ite ?_ ?_)
    | (with_reducible refine Sup.bind ?_ (fun _ => ?_))
    | (with_reducible exact Sup.const _)
    | exact spec_PeeledIndex.J0_sup _ _ _ _ _
    | exact spec_IsKey.F_sup _
    | exact spec_pfPeeled.F_sup _ _ _
    | exact spec_pfPlace.F_sup _ _ _ _
    | exact spec_pfRank.F_sup _ _ _ _
    | exact Sup.const _
def spec_PeeledIndex.T1 : Bool × List (List Nat × List Nat) := (true, [([], []), ([0], [0]), ([1], [1]), ([2, 1], [2]), ([3], [3]), ([4, 3, 3], [3, 4]), ([5, 3], [3, 5]), ([3, 6], [3, 6]), ([7, 5], [7]), ([8], [8]), ([9, 8], [8, 9]), ([8], [8]), ([8], [8]), ([11, 12, 8, 8], [8, 11, 12]), ([10, 13, 8], [8, 10, 13]), ([14, 8], [8, 14]), ([15, 8], [8, 15]), ([8, 16], [8, 16])])
def spec_PeeledIndex.B1 : List Nat := [0, 1, 3, 7, 15, 31, 63, 127, 255, 511, 1023, 511, 511, 6655, 16383, 32767, 65535, 131071]
theorem spec_PeeledIndex.tab1 : rtab .any (opsOf Try.f52 1) = spec_PeeledIndex.T1 := by kernel_rfl
theorem spec_PeeledIndex.bits1 : waitsOk spec_PeeledIndex.T1.2 spec_PeeledIndex.B1 = true := by kernel_rfl
set_option maxHeartbeats 8000000 in
set_option maxRecDepth 100000 in
theorem spec_PeeledIndex.calls (k : Nat) (a0_0 : Int) (a0_1 : Int) (A0_2 : Option Addr) (c0_2 : Nat) (l0_2 : List Int) (a1 : ByteArray) (r1 : Int) (r2 : Bool) (w : World) (hr0_2 : Kd.C (Kd.int .i64) w A0_2 l0_2.length l0_2) (hc0_2 : l0_2.length ≤ c0_2) (h : spec_PeeledIndex.f k a0_0 a0_1 l0_2 a1 = some (r1, r2)) :
    Calls Try.prog 52 #[.agg #[.int .i64 a0_0, .int .i64 a0_1, .slice A0_2 l0_2.length c0_2], .string a1] w fun e w' => e = .returned (.tuple #[.int .i64 r1, .bool r2]) ∧ Below w.heap.size w w' := by
  have hu36 := Try.underlying36
  have HR0_2 := Aside0.mk hr0_2
  have HC0_2 := Aside0.mk hc0_2
  clear hr0_2 hc0_2
  have HB := Aside0.mk (Below.refl w.heap.size w)
  have H : ((spec_pfPeeled.f k a0_0 a0_1 l0_2).bind fun t675 => (if t675 = true then ((spec_IsKey.f k a1).bind fun t676 => (if t676 = true then ((spec_pfPlace.f k a0_0 a0_1 l0_2 a1).bind fun t677 => (if 0 ≤ t677 then (if t677 < (l0_2.length : Int) then (spec_PeeledIndex.j0 k a1 ((rd l0_2 t677) == 3) a0_0 a0_1 l0_2) else (none)) else (none))) else (spec_PeeledIndex.j0 k a1 true a0_0 a0_1 l0_2))) else (spec_PeeledIndex.j0 k a1 true a0_0 a0_1 l0_2))) = some (r1, r2) := h
  clear h
  have HC3 := Aside0.mk H
  clear H
  go_enter Try.func52, Try.ntmps52
  go_upto_region 1 with (first | ((with_reducible refine gate_dst (N := 2) rfl ?_); refine box_event ?hg (N := 2) ?hd (cs := #[.int .i64 a0_0, .int .i64 a0_1, .slice A0_2 l0_2.length c0_2]) (t := 36) ?hr ?_; (case hd => rfl); (case hg => rfl); (case hr => first | (go_simp; done) | (go_simp; rfl)); intro gb674 hg w4 hbox hb; have n0_ := Aside0.mk (below_step (by repeat (first | (with_reducible first | exact HB.out | apply below_alloc | apply pw_below_drewN | apply below_drew1) | exact HB.out)) hb); have n1_ := Aside0.mk (hbox); have n2_ := Aside0.mk ((by rw [hg]; exact (below_size (by repeat (first | (with_reducible first | exact HB.out | apply below_alloc | apply pw_below_drewN | apply below_drew1) | exact HB.out))) : w.heap.size ≤ gb674)); have n3_ := Aside0.mk ((by rw [hg]; exact (below_size (by repeat (first | (with_reducible first | exact HB.out | apply below_alloc | apply pw_below_drewN | apply below_drew1) | exact HB.out))) : w.heap.size ≤ gb674)); clear HB; have HB := n0_; have BK674 := n1_; have GW674 := n2_; have GE674 := n3_; clear n0_ n1_ n2_ n3_; clear hb hbox hg))
  (try simp only [Act.put, List.setIfInBounds_toArray, List.set_cons_zero, List.set_cons_succ])
  go_cut [23] (fun v23 wc => ∃ (kq : Nat) (x23_2 : Bool), v23 = .bool x23_2 ∧ Aside0 (spec_PeeledIndex.j0 kq a1 x23_2 a0_0 a0_1 l0_2 = some (r1, r2)) ∧ Aside0 (kq ≤ k) ∧ Aside0 (wc.heap[gb674]? = some (.cells #[.int .i64 a0_0, .int .i64 a0_1, (.slice A0_2 l0_2.length c0_2)] 36 (0, 0))) ∧ Aside0 (Below w.heap.size w wc))
  case first =>
   have H := HC3.out
   clear HC3
   replace H := Option.bind_eq_some_iff.mp H
   obtain ⟨t675, A50, H⟩ := H
   replace H : (if t675 = true then ((spec_IsKey.f k a1).bind fun t676 => (if t676 = true then ((spec_pfPlace.f k a0_0 a0_1 l0_2 a1).bind fun t677 => (if 0 ≤ t677 then (if t677 < (l0_2.length : Int) then (spec_PeeledIndex.j0 k a1 ((rd l0_2 t677) == 3) a0_0 a0_1 l0_2) else (none)) else (none))) else (spec_PeeledIndex.j0 k a1 true a0_0 a0_1 l0_2))) else (spec_PeeledIndex.j0 k a1 true a0_0 a0_1 l0_2)) = some (r1, r2) := H
   have A5 := Aside0.mk A50
   clear A50
   by_cases c6 : t675 = true
   ·subst c6
    have H1 : ((spec_IsKey.f k a1).bind fun t676 => (if t676 = true then ((spec_pfPlace.f k a0_0 a0_1 l0_2 a1).bind fun t677 => (if 0 ≤ t677 then (if t677 < (l0_2.length : Int) then (spec_PeeledIndex.j0 k a1 ((rd l0_2 t677) == 3) a0_0 a0_1 l0_2) else (none)) else (none))) else (spec_PeeledIndex.j0 k a1 true a0_0 a0_1 l0_2))) = some (r1, r2) := by rw [if_pos rfl] at H; exact H
    clear H
    have H := H1
    clear H1
    replace H := Option.bind_eq_some_iff.mp H
    obtain ⟨t676, A70, H⟩ := H
    replace H : (if t676 = true then ((spec_pfPlace.f k a0_0 a0_1 l0_2 a1).bind fun t677 => (if 0 ≤ t677 then (if t677 < (l0_2.length : Int) then (spec_PeeledIndex.j0 k a1 ((rd l0_2 t677) == 3) a0_0 a0_1 l0_2) else (none)) else (none))) else (spec_PeeledIndex.j0 k a1 true a0_0 a0_1 l0_2)) = some (r1, r2) := H
    have A7 := Aside0.mk A70
    clear A70
    by_cases c8 : t676 = true
    ·subst c8
     have H1 : ((spec_pfPlace.f k a0_0 a0_1 l0_2 a1).bind fun t677 => (if 0 ≤ t677 then (if t677 < (l0_2.length : Int) then (spec_PeeledIndex.j0 k a1 ((rd l0_2 t677) == 3) a0_0 a0_1 l0_2) else (none)) else (none))) = some (r1, r2) := by rw [if_pos rfl] at H; exact H
     clear H
     have H := H1
     clear H1
     replace H := Option.bind_eq_some_iff.mp H
     obtain ⟨t677, A90, H⟩ := H
     replace H : (if 0 ≤ t677 then (if t677 < (l0_2.length : Int) then (spec_PeeledIndex.j0 k a1 ((rd l0_2 t677) == 3) a0_0 a0_1 l0_2) else (none)) else (none)) = some (r1, r2) := H
     have A9 := Aside0.mk A90
     clear A90
     by_cases c10 : 0 ≤ t677
     ·rw [if_pos c10] at H
      have c10b0 : decide (0 ≤ t677) = true := decide_eq_true c10
      clear c10
      (first | rw [c10b0] | (simp only [i64_w, i32_w]; rw [c10b0]) | skip)
      by_cases c11 : t677 < (l0_2.length : Int)
      ·rw [if_pos c11] at H
       have c11b0 : decide (t677 < (l0_2.length : Int)) = true := decide_eq_true c11
       clear c11
       have H' := Aside0.mk H
       clear H
       try go_wp2
       have n0_ := Aside0.mk (blk_drew BK674.out)
       have n1_ := Aside0.mk (below_drew1 HB.out)
       clear BK674
       clear HB
       have BK674 := n0_
       have HB := n1_
       clear n0_ n1_
       have p678 : 0 ≤ (t677 : Int) := of_decide_eq_true (by first | (with_reducible assumption) | assumption)
       have q678 : t677 < (l0_2.length : Int) := of_decide_eq_true (by first | (with_reducible assumption) | assumption)
       obtain ⟨ad678, e678, hx678_0⟩ := Kd.at_int HR0_2.out t677 p678 q678
       have hw678_0 := hx678_0
       cases e678
       replace hx678_0 := (HB.out.cell (World.block_lt_of_cell? w _ hx678_0)).trans hx678_0
       replace p678 := eq_true p678
       replace q678 := eq_true q678
       refine start_ (n := 18) (S := fun w' => w'.cell? ⟨gb674, 0, none⟩ = some (.int .i64 a0_0) ∧ w'.cell? ⟨gb674, 1, none⟩ = some (.int .i64 a0_1) ∧ w'.cell? ⟨gb674, 2, none⟩ = some (.slice (some ad678) l0_2.length c0_2) ∧ w'.cell? (ad678.add (t677).toNat) = some (.int .i64 (rd l0_2 t677))) (ds := []) #[false, false, false, false, false, false, false, false, false, false, false, false, false, false, false, false, false, false] (by kernel_rfl) rfl rfl ⟨(blk_cell BK674.out 0).trans rfl, (blk_cell BK674.out 1).trans rfl, (blk_cell BK674.out 2).trans rfl, ((HB.out.cell (World.block_lt_of_cell? w _ hw678_0)).trans hw678_0)⟩ (fun hHeld => ?_); refine with_tabW spec_PeeledIndex.tab1 spec_PeeledIndex.bits1 (fun HT_ HW_ => ?_)
       generalize w4.drew = w12 at BK674 HB hx678_0 hHeld ⊢
       refine take_ (i := 0) (N := some 6) (v := ?_) (a' := ?_) #[true, false, false, false, false, false, false, false, false, false, false, false, false, false, false, false, false, false] rfl rfl (take_ofW HT_.out HW_.out (by kernel_rfl)) (fun _ _ _ h => h) (Or.inl ⟨by rfl, ?_⟩) hHeld ?_ ?_
       rotate_left
       ·rintro w' ⟨s0, s1, s2, s3⟩
        go_simp
        with_reducible rfl
       rotate_left
       ·simp only [Act.put, List.setIfInBounds_toArray, List.set_cons_zero, List.set_cons_succ, i64_w]
        rfl
       refine one_ (i := 1) (N := some 7) #[true, true, false, false, false, false, false, false, false, false, false, false, false, false, false, false, false, false] rfl rfl (one_of HT_.out (by kernel_rfl)) (by decide) (fun K hK => ?_)
       refine goes_ Try.func92 (by kernel_rfl) rfl #[.agg #[.int .i64 a0_0, .int .i64 a0_1, .slice (some ad678) l0_2.length c0_2]] (by rfl) rfl rfl (by (try simp only [List.map_toArray, List.map_cons, List.map_nil]); first | done | rfl | (simp only [List.length_drop, List.length_take]; rfl)) ?_
       with_reducible refine (spec_pfPeeled.calls k a0_0 a0_1 _ _ l0_2 true _ ?side1 ?side2 A5.out).mono ?_
       (case side1 => repeat (first | exact (Kd.C_below HR0_2.out HB.out) | (with_reducible refine Kd.C_alloc ?_ _) | (with_reducible refine Kd.C_drewN ?_ _) | (with_reducible refine Kd.C_drew ?_)))
       (case side2 => exact HC0_2.out)
       rintro e w13 ⟨rfl, hb⟩
       refine ⟨_, rfl, ?_⟩
       have n0_ := Aside0.mk (blk_below (g := gb674) (o := .cells #[.int .i64 a0_0, .int .i64 a0_1, .slice (some ad678) l0_2.length c0_2] 36 (0, 0)) (by (with_reducible repeat (first | refine blk_drewN ?_ _ | refine blk_drew ?_ | refine blk_alloc ?_ _)); exact BK674.out) hb)
       have n1_ := Aside0.mk (below_step (by repeat (first | (with_reducible first | exact HB.out | apply below_alloc | apply pw_below_drewN | apply below_drew1 | refine below_set ?_ GE674.out) | exact HB.out)) hb)
       clear BK674
       clear HB
       have BK674 := n0_
       have HB := n1_
       clear n0_ n1_
       (try clear hb)
       (try clear hb2)
       (try clear hk)
       (try clear hi)
       refine hK.out _ _ ⟨(blk_cell BK674.out 0).trans rfl, (blk_cell BK674.out 1).trans rfl, (blk_cell BK674.out 2).trans rfl, ((HB.out.cell (World.block_lt_of_cell? w _ hw678_0)).trans hw678_0)⟩ (fun hHeld => ?_)
       clear hK K
       refine norm_ (a' := ?_) ?_ ?_
       rotate_left
       ·show Act.put _ (some 7) _ = _
        simp only [Act.put, List.setIfInBounds_toArray, List.set_cons_zero, List.set_cons_succ, i64_w]
        rfl
       refine pure_ (i := 2) (N := some 8) (v := ?_) (a' := ?_) #[true, true, true, false, false, false, false, false, false, false, false, false, false, false, false, false, false, false] rfl rfl (any_of HT_.out (by kernel_rfl)) (fun _ _ _ h => h) (Or.inl ⟨by rfl, ?_⟩) ?_ ?_
       rotate_left
       ·intro w'
        go_simp
        with_reducible rfl
       rotate_left
       ·simp only [Act.put, List.setIfInBounds_toArray, List.set_cons_zero, List.set_cons_succ, i64_w]
        rfl
       refine pure_ (i := 3) (N := some 9) (v := ?_) (a' := ?_) #[true, true, true, true, false, false, false, false, false, false, false, false, false, false, false, false, false, false] rfl rfl (any_of HT_.out (by kernel_rfl)) (fun _ _ _ h => h) (Or.inl ⟨by rfl, ?_⟩) ?_ ?_
       rotate_left
       ·intro w'
        go_simp
        with_reducible rfl
       rotate_left
       ·simp only [Act.put, List.setIfInBounds_toArray, List.set_cons_zero, List.set_cons_succ, i64_w]
        rfl
       refine pure_ (i := 4) (N := some 10) (v := ?_) (a' := ?_) #[true, true, true, true, true, false, false, false, false, false, false, false, false, false, false, false, false, false] rfl rfl (any_of HT_.out (by kernel_rfl)) (fun _ _ _ h => h) (Or.inl ⟨by rfl, ?_⟩) ?_ ?_
       rotate_left
       ·intro w'
        go_simp
        with_reducible rfl
       rotate_left
       ·simp only [Act.put, List.setIfInBounds_toArray, List.set_cons_zero, List.set_cons_succ, i64_w]
        rfl
       refine one_ (i := 5) (N := some 11) #[true, true, true, true, true, true, false, false, false, false, false, false, false, false, false, false, false, false] rfl rfl (one_of HT_.out (by kernel_rfl)) (by decide) (fun K hK => ?_)
       refine goes_ Try.func70 (by kernel_rfl) rfl #[.string a1] (by rfl) rfl rfl (by (try simp only [List.map_toArray, List.map_cons, List.map_nil]); first | done | rfl | (simp only [List.length_drop, List.length_take]; rfl)) ?_
       with_reducible refine (spec_IsKey.calls k a1 true _ A7.out).mono ?_
       rintro e w' ⟨rfl, ⟨nd, rfl⟩⟩
       refine ⟨_, rfl, ?_⟩
       refine hK.out _ _ ⟨(blk_cell BK674.out 0).trans rfl, (blk_cell BK674.out 1).trans rfl, (blk_cell BK674.out 2).trans rfl, ((HB.out.cell (World.block_lt_of_cell? w _ hw678_0)).trans hw678_0)⟩ (fun hHeld => ?_)
       clear hK K
       refine norm_ (a' := ?_) ?_ ?_
       rotate_left
       ·show Act.put _ (some 11) _ = _
        simp only [Act.put, List.setIfInBounds_toArray, List.set_cons_zero, List.set_cons_succ, i64_w]
        rfl
       refine pure_ (i := 6) (N := some 12) (v := ?_) (a' := ?_) #[true, true, true, true, true, true, true, false, false, false, false, false, false, false, false, false, false, false] rfl rfl (any_of HT_.out (by kernel_rfl)) (fun _ _ _ h => h) (Or.inl ⟨by rfl, ?_⟩) ?_ ?_
       rotate_left
       ·intro w'
        go_simp
        with_reducible rfl
       rotate_left
       ·simp only [Act.put, List.setIfInBounds_toArray, List.set_cons_zero, List.set_cons_succ, i64_w]
        rfl
       refine pure_ (i := 7) (N := some 13) (v := ?_) (a' := ?_) #[true, true, true, true, true, true, true, true, false, false, false, false, false, false, false, false, false, false] rfl rfl (any_of HT_.out (by kernel_rfl)) (fun _ _ _ h => h) (Or.inl ⟨by rfl, ?_⟩) ?_ ?_
       rotate_left
       ·intro w'
        go_simp
        with_reducible rfl
       rotate_left
       ·simp only [Act.put, List.setIfInBounds_toArray, List.set_cons_zero, List.set_cons_succ, i64_w]
        rfl
       refine pure_ (i := 8) (N := some 14) (v := ?_) (a' := ?_) #[true, true, true, true, true, true, true, true, true, false, false, false, false, false, false, false, false, false] rfl rfl (any_of HT_.out (by kernel_rfl)) (fun _ _ _ h => h) (Or.inl ⟨by rfl, ?_⟩) ?_ ?_
       rotate_left
       ·intro w'
        go_simp
        with_reducible rfl
       rotate_left
       ·simp only [Act.put, List.setIfInBounds_toArray, List.set_cons_zero, List.set_cons_succ, i64_w]
        rfl
       refine pure_ (i := 9) (N := some 15) (v := ?_) (a' := ?_) #[true, true, true, true, true, true, true, true, true, true, false, false, false, false, false, false, false, false] rfl rfl (any_of HT_.out (by kernel_rfl)) (fun _ _ _ h => h) (Or.inl ⟨by rfl, ?_⟩) ?_ ?_
       rotate_left
       ·intro w'
        go_simp
        with_reducible rfl
       rotate_left
       ·simp only [Act.put, List.setIfInBounds_toArray, List.set_cons_zero, List.set_cons_succ, i64_w]
        rfl
       refine pure_ (i := 12) (N := some 18) (v := ?_) (a' := ?_) #[true, true, true, true, true, true, true, true, true, true, false, false, true, false, false, false, false, false] rfl rfl (any_of HT_.out (by kernel_rfl)) (fun _ _ _ h => h) (Or.inl ⟨by rfl, ?_⟩) ?_ ?_
       rotate_left
       ·intro w'
        go_simp
        with_reducible rfl
       rotate_left
       ·simp only [Act.put, List.setIfInBounds_toArray, List.set_cons_zero, List.set_cons_succ, i64_w]
        rfl
       refine take_ (i := 10) (N := some 16) (v := ?_) (a' := ?_) #[true, true, true, true, true, true, true, true, true, true, true, false, true, false, false, false, false, false] rfl rfl (take_ofW HT_.out HW_.out (by kernel_rfl)) (fun _ _ _ h => h) (Or.inl ⟨by rfl, ?_⟩) hHeld ?_ ?_
       rotate_left
       ·rintro w' ⟨s0, s1, s2, s3⟩
        go_simp
        with_reducible rfl
       rotate_left
       ·simp only [Act.put, List.setIfInBounds_toArray, List.set_cons_zero, List.set_cons_succ, i64_w]
        rfl
       refine take_ (i := 11) (N := some 17) (v := ?_) (a' := ?_) #[true, true, true, true, true, true, true, true, true, true, true, true, true, false, false, false, false, false] rfl rfl (take_ofW HT_.out HW_.out (by kernel_rfl)) (fun _ _ _ h => h) (Or.inl ⟨by rfl, ?_⟩) hHeld ?_ ?_
       rotate_left
       ·rintro w' ⟨s0, s1, s2, s3⟩
        go_simp
        with_reducible rfl
       rotate_left
       ·simp only [Act.put, List.setIfInBounds_toArray, List.set_cons_zero, List.set_cons_succ, i64_w]
        rfl
       refine one_ (i := 13) (N := some 19) #[true, true, true, true, true, true, true, true, true, true, true, true, true, true, false, false, false, false] rfl rfl (one_of HT_.out (by kernel_rfl)) (by decide) (fun K hK => ?_)
       refine goes_ Try.func93 (by kernel_rfl) rfl #[.agg #[.int .i64 a0_0, .int .i64 a0_1, .slice (some ad678) l0_2.length c0_2], .string a1] (by rfl) rfl rfl (by (try simp only [List.map_toArray, List.map_cons, List.map_nil]); first | done | rfl | (simp only [List.length_drop, List.length_take]; rfl)) ?_
       with_reducible refine (spec_pfPlace.calls k a0_0 a0_1 _ _ l0_2 a1 t677 _ ?side1 ?side2 A9.out).mono ?_
       (case side1 => repeat (first | exact (Kd.C_below HR0_2.out (by repeat (first | (with_reducible first | exact HB.out | apply below_alloc | apply pw_below_drewN | apply below_drew1 | refine below_set ?_ GE674.out) | exact HB.out))) | (with_reducible refine Kd.C_alloc ?_ _) | (with_reducible refine Kd.C_drewN ?_ _) | (with_reducible refine Kd.C_drew ?_)))
       (case side2 => exact HC0_2.out)
       rintro e w14 ⟨rfl, hb⟩
       refine ⟨_, rfl, ?_⟩
       have n0_ := Aside0.mk (blk_below (g := gb674) (o := .cells #[.int .i64 a0_0, .int .i64 a0_1, .slice (some ad678) l0_2.length c0_2] 36 (0, 0)) (by (with_reducible repeat (first | refine blk_drewN ?_ _ | refine blk_drew ?_ | refine blk_alloc ?_ _)); exact BK674.out) hb)
       have n1_ := Aside0.mk (below_step (by repeat (first | (with_reducible first | exact HB.out | apply below_alloc | apply pw_below_drewN | apply below_drew1 | refine below_set ?_ GE674.out) | exact HB.out)) hb)
       clear BK674
       clear HB
       have BK674 := n0_
       have HB := n1_
       clear n0_ n1_
       (try clear hb)
       (try clear hb2)
       (try clear hk)
       (try clear hi)
       refine hK.out _ _ ⟨(blk_cell BK674.out 0).trans rfl, (blk_cell BK674.out 1).trans rfl, (blk_cell BK674.out 2).trans rfl, ((HB.out.cell (World.block_lt_of_cell? w _ hw678_0)).trans hw678_0)⟩ (fun hHeld => ?_)
       clear hK K
       refine norm_ (a' := ?_) ?_ ?_
       rotate_left
       ·show Act.put _ (some 19) _ = _
        simp only [Act.put, List.setIfInBounds_toArray, List.set_cons_zero, List.set_cons_succ, i64_w]
        rfl
       refine pure_ (i := 14) (N := some 20) (v := ?_) (a' := ?_) #[true, true, true, true, true, true, true, true, true, true, true, true, true, true, true, false, false, false] rfl rfl (any_of HT_.out (by kernel_rfl)) (fun _ _ _ h => h) (Or.inl ⟨by rfl, ?_⟩) ?_ ?_
       rotate_left
       ·intro w'
        go_simp
        with_reducible rfl
       rotate_left
       ·simp only [Act.put, List.setIfInBounds_toArray, List.set_cons_zero, List.set_cons_succ, i64_w]
        rfl
       refine take_ (i := 15) (N := some 21) (v := ?_) (a' := ?_) #[true, true, true, true, true, true, true, true, true, true, true, true, true, true, true, true, false, false] rfl rfl (take_ofW HT_.out HW_.out (by kernel_rfl)) (fun _ _ _ h => h) (Or.inl ⟨by rfl, ?_⟩) hHeld ?_ ?_
       rotate_left
       ·rintro w' ⟨s0, s1, s2, s3⟩
        go_simp
        with_reducible rfl
       rotate_left
       ·simp only [Act.put, List.setIfInBounds_toArray, List.set_cons_zero, List.set_cons_succ, i64_w]
        rfl
       refine pure_ (i := 16) (N := some 22) (v := ?_) (a' := ?_) #[true, true, true, true, true, true, true, true, true, true, true, true, true, true, true, true, true, false] rfl rfl (any_of HT_.out (by kernel_rfl)) (fun _ _ _ h => h) (Or.inl ⟨by rfl, ?_⟩) ?_ ?_
       rotate_left
       ·intro w'
        go_simp
        with_reducible rfl
       rotate_left
       ·simp only [Act.put, List.setIfInBounds_toArray, List.set_cons_zero, List.set_cons_succ, i64_w]
        rfl
       refine pure_ (i := 17) (N := some 23) (v := ?_) (a' := ?_) #[true, true, true, true, true, true, true, true, true, true, true, true, true, true, true, true, true, true] rfl rfl (any_of HT_.out (by kernel_rfl)) (fun _ _ _ h => h) (Or.inl ⟨by rfl, ?_⟩) ?_ ?_
       rotate_left
       ·intro w'
        go_simp
        with_reducible rfl
       rotate_left
       ·simp only [Act.put, List.setIfInBounds_toArray, List.set_cons_zero, List.set_cons_succ, i64_w]
        rfl
       refine done_ (done_of HT_.out (by kernel_rfl)) ?_
       try go_wp2
       go_meet
       case rel => exact ⟨_, (((rd l0_2 t677) == 3)), (by first | rfl | (simp; done) | (simp [*]; done)), H', ⟨by first | omega | exact Nat.le_refl _⟩, ⟨by (with_reducible repeat (first | refine blk_drewN ?_ _ | refine blk_drew ?_ | refine blk_alloc ?_ _)); exact BK674.out⟩, ⟨by repeat (first | (with_reducible first | exact HB.out | apply below_alloc | apply pw_below_drewN | apply below_drew1 | refine below_set ?_ GE674.out) | exact HB.out)⟩⟩
      ·rw [if_neg c11] at H
       exact absurd H (by simp)
     ·rw [if_neg c10] at H
      exact absurd H (by simp)
    ·replace c8 := Bool.eq_false_iff.mpr c8
     subst c8
     have H1 : (spec_PeeledIndex.j0 k a1 true a0_0 a0_1 l0_2) = some (r1, r2) := by rw [if_neg (show ¬ (false = true) by decide)] at H; exact H
     clear H
     have H := H1
     clear H1
     have H' := Aside0.mk H
     clear H
     try go_wp2
     have n0_ := Aside0.mk (blk_drew BK674.out)
     have n1_ := Aside0.mk (below_drew1 HB.out)
     clear BK674
     clear HB
     have BK674 := n0_
     have HB := n1_
     clear n0_ n1_
     refine start_ (n := 18) (S := fun w' => w'.cell? ⟨gb674, 0, none⟩ = some (.int .i64 a0_0) ∧ w'.cell? ⟨gb674, 1, none⟩ = some (.int .i64 a0_1) ∧ w'.cell? ⟨gb674, 2, none⟩ = some (.slice A0_2 l0_2.length c0_2)) (ds := []) #[false, false, false, false, false, false, false, false, false, false, false, false, false, false, false, false, false, false] (by kernel_rfl) rfl rfl ⟨(blk_cell BK674.out 0).trans rfl, (blk_cell BK674.out 1).trans rfl, (blk_cell BK674.out 2).trans rfl⟩ (fun hHeld => ?_); refine with_tabW spec_PeeledIndex.tab1 spec_PeeledIndex.bits1 (fun HT_ HW_ => ?_)
     generalize w4.drew = w15 at BK674 HB hHeld ⊢
     refine take_ (i := 0) (N := some 6) (v := ?_) (a' := ?_) #[true, false, false, false, false, false, false, false, false, false, false, false, false, false, false, false, false, false] rfl rfl (take_ofW HT_.out HW_.out (by kernel_rfl)) (fun _ _ _ h => h) (Or.inl ⟨by rfl, ?_⟩) hHeld ?_ ?_
     rotate_left
     ·rintro w' ⟨s0, s1, s2⟩
      go_simp
      with_reducible rfl
     rotate_left
     ·simp only [Act.put, List.setIfInBounds_toArray, List.set_cons_zero, List.set_cons_succ, i64_w]
      rfl
     refine one_ (i := 1) (N := some 7) #[true, true, false, false, false, false, false, false, false, false, false, false, false, false, false, false, false, false] rfl rfl (one_of HT_.out (by kernel_rfl)) (by decide) (fun K hK => ?_)
     refine goes_ Try.func92 (by kernel_rfl) rfl #[.agg #[.int .i64 a0_0, .int .i64 a0_1, .slice A0_2 l0_2.length c0_2]] (by rfl) rfl rfl (by (try simp only [List.map_toArray, List.map_cons, List.map_nil]); first | done | rfl | (simp only [List.length_drop, List.length_take]; rfl)) ?_
     with_reducible refine (spec_pfPeeled.calls k a0_0 a0_1 _ _ l0_2 true _ ?side1 ?side2 A5.out).mono ?_
     (case side1 => repeat (first | exact (Kd.C_below HR0_2.out HB.out) | (with_reducible refine Kd.C_alloc ?_ _) | (with_reducible refine Kd.C_drewN ?_ _) | (with_reducible refine Kd.C_drew ?_)))
     (case side2 => exact HC0_2.out)
     rintro e w16 ⟨rfl, hb⟩
     refine ⟨_, rfl, ?_⟩
     have n0_ := Aside0.mk (blk_below (g := gb674) (o := .cells #[.int .i64 a0_0, .int .i64 a0_1, .slice A0_2 l0_2.length c0_2] 36 (0, 0)) (by (with_reducible repeat (first | refine blk_drewN ?_ _ | refine blk_drew ?_ | refine blk_alloc ?_ _)); exact BK674.out) hb)
     have n1_ := Aside0.mk (below_step (by repeat (first | (with_reducible first | exact HB.out | apply below_alloc | apply pw_below_drewN | apply below_drew1 | refine below_set ?_ GE674.out) | exact HB.out)) hb)
     clear BK674
     clear HB
     have BK674 := n0_
     have HB := n1_
     clear n0_ n1_
     (try clear hb)
     (try clear hb2)
     (try clear hk)
     (try clear hi)
     refine hK.out _ _ ⟨(blk_cell BK674.out 0).trans rfl, (blk_cell BK674.out 1).trans rfl, (blk_cell BK674.out 2).trans rfl⟩ (fun hHeld => ?_)
     clear hK K
     refine norm_ (a' := ?_) ?_ ?_
     rotate_left
     ·show Act.put _ (some 7) _ = _
      simp only [Act.put, List.setIfInBounds_toArray, List.set_cons_zero, List.set_cons_succ, i64_w]
      rfl
     refine pure_ (i := 2) (N := some 8) (v := ?_) (a' := ?_) #[true, true, true, false, false, false, false, false, false, false, false, false, false, false, false, false, false, false] rfl rfl (any_of HT_.out (by kernel_rfl)) (fun _ _ _ h => h) (Or.inl ⟨by rfl, ?_⟩) ?_ ?_
     rotate_left
     ·intro w'
      go_simp
      with_reducible rfl
     rotate_left
     ·simp only [Act.put, List.setIfInBounds_toArray, List.set_cons_zero, List.set_cons_succ, i64_w]
      rfl
     refine pure_ (i := 3) (N := some 9) (v := ?_) (a' := ?_) #[true, true, true, true, false, false, false, false, false, false, false, false, false, false, false, false, false, false] rfl rfl (any_of HT_.out (by kernel_rfl)) (fun _ _ _ h => h) (Or.inl ⟨by rfl, ?_⟩) ?_ ?_
     rotate_left
     ·intro w'
      go_simp
      with_reducible rfl
     rotate_left
     ·simp only [Act.put, List.setIfInBounds_toArray, List.set_cons_zero, List.set_cons_succ, i64_w]
      rfl
     refine pure_ (i := 4) (N := some 10) (v := ?_) (a' := ?_) #[true, true, true, true, true, false, false, false, false, false, false, false, false, false, false, false, false, false] rfl rfl (any_of HT_.out (by kernel_rfl)) (fun _ _ _ h => h) (Or.inl ⟨by rfl, ?_⟩) ?_ ?_
     rotate_left
     ·intro w'
      go_simp
      with_reducible rfl
     rotate_left
     ·simp only [Act.put, List.setIfInBounds_toArray, List.set_cons_zero, List.set_cons_succ, i64_w]
      rfl
     refine one_ (i := 5) (N := some 11) #[true, true, true, true, true, true, false, false, false, false, false, false, false, false, false, false, false, false] rfl rfl (one_of HT_.out (by kernel_rfl)) (by decide) (fun K hK => ?_)
     refine goes_ Try.func70 (by kernel_rfl) rfl #[.string a1] (by rfl) rfl rfl (by (try simp only [List.map_toArray, List.map_cons, List.map_nil]); first | done | rfl | (simp only [List.length_drop, List.length_take]; rfl)) ?_
     with_reducible refine (spec_IsKey.calls k a1 false _ A7.out).mono ?_
     rintro e w' ⟨rfl, ⟨nd, rfl⟩⟩
     refine ⟨_, rfl, ?_⟩
     refine hK.out _ _ ⟨(blk_cell BK674.out 0).trans rfl, (blk_cell BK674.out 1).trans rfl, (blk_cell BK674.out 2).trans rfl⟩ (fun hHeld => ?_)
     clear hK K
     refine norm_ (a' := ?_) ?_ ?_
     rotate_left
     ·show Act.put _ (some 11) _ = _
      simp only [Act.put, List.setIfInBounds_toArray, List.set_cons_zero, List.set_cons_succ, i64_w]
      rfl
     refine pure_ (i := 6) (N := some 12) (v := ?_) (a' := ?_) #[true, true, true, true, true, true, true, false, false, false, false, false, false, false, false, false, false, false] rfl rfl (any_of HT_.out (by kernel_rfl)) (fun _ _ _ h => h) (Or.inl ⟨by rfl, ?_⟩) ?_ ?_
     rotate_left
     ·intro w'
      go_simp
      with_reducible rfl
     rotate_left
     ·simp only [Act.put, List.setIfInBounds_toArray, List.set_cons_zero, List.set_cons_succ, i64_w]
      rfl
     refine pure_ (i := 7) (N := some 13) (v := ?_) (a' := ?_) #[true, true, true, true, true, true, true, true, false, false, false, false, false, false, false, false, false, false] rfl rfl (any_of HT_.out (by kernel_rfl)) (fun _ _ _ h => h) (Or.inl ⟨by rfl, ?_⟩) ?_ ?_
     rotate_left
     ·intro w'
      go_simp
      with_reducible rfl
     rotate_left
     ·simp only [Act.put, List.setIfInBounds_toArray, List.set_cons_zero, List.set_cons_succ, i64_w]
      rfl
     refine pure_ (i := 8) (N := some 14) (v := ?_) (a' := ?_) #[true, true, true, true, true, true, true, true, true, false, false, false, false, false, false, false, false, false] rfl rfl (any_of HT_.out (by kernel_rfl)) (fun _ _ _ h => h) (Or.inl ⟨by rfl, ?_⟩) ?_ ?_
     rotate_left
     ·intro w'
      go_simp
      with_reducible rfl
     rotate_left
     ·simp only [Act.put, List.setIfInBounds_toArray, List.set_cons_zero, List.set_cons_succ, i64_w]
      rfl
     refine pure_ (i := 9) (N := some 15) (v := undef) (a' := ?_) #[true, true, true, true, true, true, true, true, true, true, false, false, false, false, false, false, false, false] rfl rfl (any_of HT_.out (by kernel_rfl)) (fun _ _ _ h => h) (Or.inr ⟨by rfl, rfl⟩) ?_ ?_
     rotate_left
     ·simp only [Act.put, List.setIfInBounds_toArray, List.set_cons_zero, List.set_cons_succ, i64_w]
      rfl
     refine pure_ (i := 10) (N := some 16) (v := undef) (a' := ?_) #[true, true, true, true, true, true, true, true, true, true, true, false, false, false, false, false, false, false] rfl rfl (any_of HT_.out (by kernel_rfl)) (fun _ _ _ h => h) (Or.inr ⟨by rfl, rfl⟩) ?_ ?_
     rotate_left
     ·simp only [Act.put, List.setIfInBounds_toArray, List.set_cons_zero, List.set_cons_succ, i64_w]
      rfl
     refine pure_ (i := 11) (N := some 17) (v := undef) (a' := ?_) #[true, true, true, true, true, true, true, true, true, true, true, true, false, false, false, false, false, false] rfl rfl (any_of HT_.out (by kernel_rfl)) (fun _ _ _ h => h) (Or.inr ⟨by rfl, rfl⟩) ?_ ?_
     rotate_left
     ·simp only [Act.put, List.setIfInBounds_toArray, List.set_cons_zero, List.set_cons_succ, i64_w]
      rfl
     refine pure_ (i := 12) (N := some 18) (v := undef) (a' := ?_) #[true, true, true, true, true, true, true, true, true, true, true, true, true, false, false, false, false, false] rfl rfl (any_of HT_.out (by kernel_rfl)) (fun _ _ _ h => h) (Or.inr ⟨by rfl, rfl⟩) ?_ ?_
     rotate_left
     ·simp only [Act.put, List.setIfInBounds_toArray, List.set_cons_zero, List.set_cons_succ, i64_w]
      rfl
     refine pure_ (i := 13) (N := some 19) (v := undef) (a' := ?_) #[true, true, true, true, true, true, true, true, true, true, true, true, true, true, false, false, false, false] rfl rfl (any_of HT_.out (by kernel_rfl)) (fun _ _ _ h => h) (Or.inr ⟨by rfl, rfl⟩) ?_ ?_
     rotate_left
     ·simp only [Act.put, List.setIfInBounds_toArray, List.set_cons_zero, List.set_cons_succ, i64_w]
      rfl
     refine pure_ (i := 14) (N := some 20) (v := undef) (a' := ?_) #[true, true, true, true, true, true, true, true, true, true, true, true, true, true, true, false, false, false] rfl rfl (any_of HT_.out (by kernel_rfl)) (fun _ _ _ h => h) (Or.inr ⟨by rfl, rfl⟩) ?_ ?_
     rotate_left
     ·simp only [Act.put, List.setIfInBounds_toArray, List.set_cons_zero, List.set_cons_succ, i64_w]
      rfl
     refine pure_ (i := 15) (N := some 21) (v := undef) (a' := ?_) #[true, true, true, true, true, true, true, true, true, true, true, true, true, true, true, true, false, false] rfl rfl (any_of HT_.out (by kernel_rfl)) (fun _ _ _ h => h) (Or.inr ⟨by rfl, rfl⟩) ?_ ?_
     rotate_left
     ·simp only [Act.put, List.setIfInBounds_toArray, List.set_cons_zero, List.set_cons_succ, i64_w]
      rfl
     refine pure_ (i := 16) (N := some 22) (v := undef) (a' := ?_) #[true, true, true, true, true, true, true, true, true, true, true, true, true, true, true, true, true, false] rfl rfl (any_of HT_.out (by kernel_rfl)) (fun _ _ _ h => h) (Or.inr ⟨by rfl, rfl⟩) ?_ ?_
     rotate_left
     ·simp only [Act.put, List.setIfInBounds_toArray, List.set_cons_zero, List.set_cons_succ, i64_w]
      rfl
     refine pure_ (i := 17) (N := some 23) (v := ?_) (a' := ?_) #[true, true, true, true, true, true, true, true, true, true, true, true, true, true, true, true, true, true] rfl rfl (any_of HT_.out (by kernel_rfl)) (fun _ _ _ h => h) (Or.inl ⟨by rfl, ?_⟩) ?_ ?_
     rotate_left
     ·intro w'
      go_simp
      with_reducible rfl
     rotate_left
     ·simp only [Act.put, List.setIfInBounds_toArray, List.set_cons_zero, List.set_cons_succ, i64_w]
      rfl
     refine done_ (done_of HT_.out (by kernel_rfl)) ?_
     try go_wp2
     go_meet
     case rel => exact ⟨_, (true), (by first | rfl | (simp; done) | (simp [*]; done)), H', ⟨by first | omega | exact Nat.le_refl _⟩, ⟨by (with_reducible repeat (first | refine blk_drewN ?_ _ | refine blk_drew ?_ | refine blk_alloc ?_ _)); exact BK674.out⟩, ⟨by repeat (first | (with_reducible first | exact HB.out | apply below_alloc | apply pw_below_drewN | apply below_drew1 | refine below_set ?_ GE674.out) | exact HB.out)⟩⟩
   ·replace c6 := Bool.eq_false_iff.mpr c6
    subst c6
    have H1 : (spec_PeeledIndex.j0 k a1 true a0_0 a0_1 l0_2) = some (r1, r2) := by rw [if_neg (show ¬ (false = true) by decide)] at H; exact H
    clear H
    have H := H1
    clear H1
    have H' := Aside0.mk H
    clear H
    try go_wp2
    have n0_ := Aside0.mk (blk_drew BK674.out)
    have n1_ := Aside0.mk (below_drew1 HB.out)
    clear BK674
    clear HB
    have BK674 := n0_
    have HB := n1_
    clear n0_ n1_
    refine start_ (n := 18) (S := fun w' => w'.cell? ⟨gb674, 0, none⟩ = some (.int .i64 a0_0) ∧ w'.cell? ⟨gb674, 1, none⟩ = some (.int .i64 a0_1) ∧ w'.cell? ⟨gb674, 2, none⟩ = some (.slice A0_2 l0_2.length c0_2)) (ds := []) #[false, false, false, false, false, false, false, false, false, false, false, false, false, false, false, false, false, false] (by kernel_rfl) rfl rfl ⟨(blk_cell BK674.out 0).trans rfl, (blk_cell BK674.out 1).trans rfl, (blk_cell BK674.out 2).trans rfl⟩ (fun hHeld => ?_); refine with_tabW spec_PeeledIndex.tab1 spec_PeeledIndex.bits1 (fun HT_ HW_ => ?_)
    generalize w4.drew = w17 at BK674 HB hHeld ⊢
    refine take_ (i := 0) (N := some 6) (v := ?_) (a' := ?_) #[true, false, false, false, false, false, false, false, false, false, false, false, false, false, false, false, false, false] rfl rfl (take_ofW HT_.out HW_.out (by kernel_rfl)) (fun _ _ _ h => h) (Or.inl ⟨by rfl, ?_⟩) hHeld ?_ ?_
    rotate_left
    ·rintro w' ⟨s0, s1, s2⟩
     go_simp
     with_reducible rfl
    rotate_left
    ·simp only [Act.put, List.setIfInBounds_toArray, List.set_cons_zero, List.set_cons_succ, i64_w]
     rfl
    refine one_ (i := 1) (N := some 7) #[true, true, false, false, false, false, false, false, false, false, false, false, false, false, false, false, false, false] rfl rfl (one_of HT_.out (by kernel_rfl)) (by decide) (fun K hK => ?_)
    refine goes_ Try.func92 (by kernel_rfl) rfl #[.agg #[.int .i64 a0_0, .int .i64 a0_1, .slice A0_2 l0_2.length c0_2]] (by rfl) rfl rfl (by (try simp only [List.map_toArray, List.map_cons, List.map_nil]); first | done | rfl | (simp only [List.length_drop, List.length_take]; rfl)) ?_
    with_reducible refine (spec_pfPeeled.calls k a0_0 a0_1 _ _ l0_2 false _ ?side1 ?side2 A5.out).mono ?_
    (case side1 => repeat (first | exact (Kd.C_below HR0_2.out HB.out) | (with_reducible refine Kd.C_alloc ?_ _) | (with_reducible refine Kd.C_drewN ?_ _) | (with_reducible refine Kd.C_drew ?_)))
    (case side2 => exact HC0_2.out)
    rintro e w18 ⟨rfl, hb⟩
    refine ⟨_, rfl, ?_⟩
    have n0_ := Aside0.mk (blk_below (g := gb674) (o := .cells #[.int .i64 a0_0, .int .i64 a0_1, .slice A0_2 l0_2.length c0_2] 36 (0, 0)) (by (with_reducible repeat (first | refine blk_drewN ?_ _ | refine blk_drew ?_ | refine blk_alloc ?_ _)); exact BK674.out) hb)
    have n1_ := Aside0.mk (below_step (by repeat (first | (with_reducible first | exact HB.out | apply below_alloc | apply pw_below_drewN | apply below_drew1 | refine below_set ?_ GE674.out) | exact HB.out)) hb)
    clear BK674
    clear HB
    have BK674 := n0_
    have HB := n1_
    clear n0_ n1_
    (try clear hb)
    (try clear hb2)
    (try clear hk)
    (try clear hi)
    refine hK.out _ _ ⟨(blk_cell BK674.out 0).trans rfl, (blk_cell BK674.out 1).trans rfl, (blk_cell BK674.out 2).trans rfl⟩ (fun hHeld => ?_)
    clear hK K
    refine norm_ (a' := ?_) ?_ ?_
    rotate_left
    ·show Act.put _ (some 7) _ = _
     simp only [Act.put, List.setIfInBounds_toArray, List.set_cons_zero, List.set_cons_succ, i64_w]
     rfl
    refine pure_ (i := 2) (N := some 8) (v := ?_) (a' := ?_) #[true, true, true, false, false, false, false, false, false, false, false, false, false, false, false, false, false, false] rfl rfl (any_of HT_.out (by kernel_rfl)) (fun _ _ _ h => h) (Or.inl ⟨by rfl, ?_⟩) ?_ ?_
    rotate_left
    ·intro w'
     go_simp
     with_reducible rfl
    rotate_left
    ·simp only [Act.put, List.setIfInBounds_toArray, List.set_cons_zero, List.set_cons_succ, i64_w]
     rfl
    refine pure_ (i := 3) (N := some 9) (v := ?_) (a' := ?_) #[true, true, true, true, false, false, false, false, false, false, false, false, false, false, false, false, false, false] rfl rfl (any_of HT_.out (by kernel_rfl)) (fun _ _ _ h => h) (Or.inl ⟨by rfl, ?_⟩) ?_ ?_
    rotate_left
    ·intro w'
     go_simp
     with_reducible rfl
    rotate_left
    ·simp only [Act.put, List.setIfInBounds_toArray, List.set_cons_zero, List.set_cons_succ, i64_w]
     rfl
    refine pure_ (i := 4) (N := some 10) (v := undef) (a' := ?_) #[true, true, true, true, true, false, false, false, false, false, false, false, false, false, false, false, false, false] rfl rfl (any_of HT_.out (by kernel_rfl)) (fun _ _ _ h => h) (Or.inr ⟨by rfl, rfl⟩) ?_ ?_
    rotate_left
    ·simp only [Act.put, List.setIfInBounds_toArray, List.set_cons_zero, List.set_cons_succ, i64_w]
     rfl
    refine pure_ (i := 5) (N := some 11) (v := undef) (a' := ?_) #[true, true, true, true, true, true, false, false, false, false, false, false, false, false, false, false, false, false] rfl rfl (any_of HT_.out (by kernel_rfl)) (fun _ _ _ h => h) (Or.inr ⟨by rfl, rfl⟩) ?_ ?_
    rotate_left
    ·simp only [Act.put, List.setIfInBounds_toArray, List.set_cons_zero, List.set_cons_succ, i64_w]
     rfl
    refine pure_ (i := 6) (N := some 12) (v := undef) (a' := ?_) #[true, true, true, true, true, true, true, false, false, false, false, false, false, false, false, false, false, false] rfl rfl (any_of HT_.out (by kernel_rfl)) (fun _ _ _ h => h) (Or.inr ⟨by rfl, rfl⟩) ?_ ?_
    rotate_left
    ·simp only [Act.put, List.setIfInBounds_toArray, List.set_cons_zero, List.set_cons_succ, i64_w]
     rfl
    refine pure_ (i := 7) (N := some 13) (v := ?_) (a' := ?_) #[true, true, true, true, true, true, true, true, false, false, false, false, false, false, false, false, false, false] rfl rfl (any_of HT_.out (by kernel_rfl)) (fun _ _ _ h => h) (Or.inl ⟨by rfl, ?_⟩) ?_ ?_
    rotate_left
    ·intro w'
     go_simp
     with_reducible rfl
    rotate_left
    ·simp only [Act.put, List.setIfInBounds_toArray, List.set_cons_zero, List.set_cons_succ, i64_w]
     rfl
    refine pure_ (i := 8) (N := some 14) (v := ?_) (a' := ?_) #[true, true, true, true, true, true, true, true, true, false, false, false, false, false, false, false, false, false] rfl rfl (any_of HT_.out (by kernel_rfl)) (fun _ _ _ h => h) (Or.inl ⟨by rfl, ?_⟩) ?_ ?_
    rotate_left
    ·intro w'
     go_simp
     with_reducible rfl
    rotate_left
    ·simp only [Act.put, List.setIfInBounds_toArray, List.set_cons_zero, List.set_cons_succ, i64_w]
     rfl
    refine pure_ (i := 9) (N := some 15) (v := undef) (a' := ?_) #[true, true, true, true, true, true, true, true, true, true, false, false, false, false, false, false, false, false] rfl rfl (any_of HT_.out (by kernel_rfl)) (fun _ _ _ h => h) (Or.inr ⟨by rfl, rfl⟩) ?_ ?_
    rotate_left
    ·simp only [Act.put, List.setIfInBounds_toArray, List.set_cons_zero, List.set_cons_succ, i64_w]
     rfl
    refine pure_ (i := 10) (N := some 16) (v := undef) (a' := ?_) #[true, true, true, true, true, true, true, true, true, true, true, false, false, false, false, false, false, false] rfl rfl (any_of HT_.out (by kernel_rfl)) (fun _ _ _ h => h) (Or.inr ⟨by rfl, rfl⟩) ?_ ?_
    rotate_left
    ·simp only [Act.put, List.setIfInBounds_toArray, List.set_cons_zero, List.set_cons_succ, i64_w]
     rfl
    refine pure_ (i := 11) (N := some 17) (v := undef) (a' := ?_) #[true, true, true, true, true, true, true, true, true, true, true, true, false, false, false, false, false, false] rfl rfl (any_of HT_.out (by kernel_rfl)) (fun _ _ _ h => h) (Or.inr ⟨by rfl, rfl⟩) ?_ ?_
    rotate_left
    ·simp only [Act.put, List.setIfInBounds_toArray, List.set_cons_zero, List.set_cons_succ, i64_w]
     rfl
    refine pure_ (i := 12) (N := some 18) (v := undef) (a' := ?_) #[true, true, true, true, true, true, true, true, true, true, true, true, true, false, false, false, false, false] rfl rfl (any_of HT_.out (by kernel_rfl)) (fun _ _ _ h => h) (Or.inr ⟨by rfl, rfl⟩) ?_ ?_
    rotate_left
    ·simp only [Act.put, List.setIfInBounds_toArray, List.set_cons_zero, List.set_cons_succ, i64_w]
     rfl
    refine pure_ (i := 13) (N := some 19) (v := undef) (a' := ?_) #[true, true, true, true, true, true, true, true, true, true, true, true, true, true, false, false, false, false] rfl rfl (any_of HT_.out (by kernel_rfl)) (fun _ _ _ h => h) (Or.inr ⟨by rfl, rfl⟩) ?_ ?_
    rotate_left
    ·simp only [Act.put, List.setIfInBounds_toArray, List.set_cons_zero, List.set_cons_succ, i64_w]
     rfl
    refine pure_ (i := 14) (N := some 20) (v := undef) (a' := ?_) #[true, true, true, true, true, true, true, true, true, true, true, true, true, true, true, false, false, false] rfl rfl (any_of HT_.out (by kernel_rfl)) (fun _ _ _ h => h) (Or.inr ⟨by rfl, rfl⟩) ?_ ?_
    rotate_left
    ·simp only [Act.put, List.setIfInBounds_toArray, List.set_cons_zero, List.set_cons_succ, i64_w]
     rfl
    refine pure_ (i := 15) (N := some 21) (v := undef) (a' := ?_) #[true, true, true, true, true, true, true, true, true, true, true, true, true, true, true, true, false, false] rfl rfl (any_of HT_.out (by kernel_rfl)) (fun _ _ _ h => h) (Or.inr ⟨by rfl, rfl⟩) ?_ ?_
    rotate_left
    ·simp only [Act.put, List.setIfInBounds_toArray, List.set_cons_zero, List.set_cons_succ, i64_w]
     rfl
    refine pure_ (i := 16) (N := some 22) (v := undef) (a' := ?_) #[true, true, true, true, true, true, true, true, true, true, true, true, true, true, true, true, true, false] rfl rfl (any_of HT_.out (by kernel_rfl)) (fun _ _ _ h => h) (Or.inr ⟨by rfl, rfl⟩) ?_ ?_
    rotate_left
    ·simp only [Act.put, List.setIfInBounds_toArray, List.set_cons_zero, List.set_cons_succ, i64_w]
     rfl
    refine pure_ (i := 17) (N := some 23) (v := ?_) (a' := ?_) #[true, true, true, true, true, true, true, true, true, true, true, true, true, true, true, true, true, true] rfl rfl (any_of HT_.out (by kernel_rfl)) (fun _ _ _ h => h) (Or.inl ⟨by rfl, ?_⟩) ?_ ?_
    rotate_left
    ·intro w'
     go_simp
     with_reducible rfl
    rotate_left
    ·simp only [Act.put, List.setIfInBounds_toArray, List.set_cons_zero, List.set_cons_succ, i64_w]
     rfl
    refine done_ (done_of HT_.out (by kernel_rfl)) ?_
    try go_wp2
    go_meet
    case rel => exact ⟨_, (true), (by first | rfl | (simp; done) | (simp [*]; done)), H', ⟨by first | omega | exact Nat.le_refl _⟩, ⟨by (with_reducible repeat (first | refine blk_drewN ?_ _ | refine blk_drew ?_ | refine blk_alloc ?_ _)); exact BK674.out⟩, ⟨by repeat (first | (with_reducible first | exact HB.out | apply below_alloc | apply pw_below_drewN | apply below_drew1 | refine below_set ?_ GE674.out) | exact HB.out)⟩⟩
  case rest =>
   clear HC3
   try clear c1
   try clear p2
   try clear c5
   try clear c6
   try clear p6
   try clear q6
   try clear hx6
   try clear c7
   try clear c8
   try clear c9
   try clear c10
   try clear c10b0
   try clear c11
   try clear c11b0
   try clear hx678_0
   try clear p678
   try clear q678
   obtain ⟨kq, x23_2, rfl, HA, HJ2, BK674, HB⟩ := hcut
   cases kq with
   | zero => exact absurd HA.out (by simp [spec_PeeledIndex.j0])
   | succ kj2 =>
    have H := HA.out
    clear HA
    simp only [spec_PeeledIndex.j0] at H
    by_cases c19 : x23_2 = true
    ·subst c19
     have H1 : (some (0, false)) = some (r1, r2) := by rw [if_pos rfl] at H; exact H
     clear H
     have H := H1
     clear H1
     simp only [Option.some.injEq, Prod.mk.injEq] at H
     obtain ⟨rfl, rfl⟩ := H
     go_wp2
     go_ret2
     exact ⟨by first | rfl | (simp [errW_none, errW_some] <;> rfl) | (simp [*, errW_none, errW_some] <;> rfl), by repeat (first | (with_reducible first | exact HB.out | apply below_alloc | apply pw_below_drewN | apply below_drew1 | refine below_set ?_ GE674.out) | exact HB.out)⟩
    ·replace c19 := Bool.eq_false_iff.mpr c19
     subst c19
     have H1 : ((spec_pfPlace.f kj2 a0_0 a0_1 l0_2 a1).bind fun t679 => ((spec_pfRank.f kj2 a0_0 a0_1 l0_2 t679).bind fun t680 => (some (t680, true)))) = some (r1, r2) := by rw [if_neg (show ¬ (false = true) by decide)] at H; exact H
     clear H
     have H := H1
     clear H1
     replace H := Option.bind_eq_some_iff.mp H
     obtain ⟨t679, A200, H⟩ := H
     replace H : ((spec_pfRank.f kj2 a0_0 a0_1 l0_2 t679).bind fun t680 => (some (t680, true))) = some (r1, r2) := H
     have A20 := Aside0.mk A200
     clear A200
     replace H := Option.bind_eq_some_iff.mp H
     obtain ⟨t680, A210, H⟩ := H
     replace H : (some (t680, true)) = some (r1, r2) := H
     have A21 := Aside0.mk A210
     clear A210
     simp only [Option.some.injEq, Prod.mk.injEq] at H
     obtain ⟨rfl, rfl⟩ := H
     try go_wp2
     have n0_ := Aside0.mk (blk_drew BK674.out)
     have n1_ := Aside0.mk (below_drew1 HB.out)
     clear BK674
     clear HB
     have BK674 := n0_
     have HB := n1_
     clear n0_ n1_
     refine start_ (n := 7) (S := fun w' => w'.cell? ⟨gb674, 0, none⟩ = some (.int .i64 a0_0) ∧ w'.cell? ⟨gb674, 1, none⟩ = some (.int .i64 a0_1) ∧ w'.cell? ⟨gb674, 2, none⟩ = some (.slice A0_2 l0_2.length c0_2)) (ds := []) #[false, false, false, false, false, false, false] (by kernel_rfl) rfl rfl ⟨(blk_cell BK674.out 0).trans rfl, (blk_cell BK674.out 1).trans rfl, (blk_cell BK674.out 2).trans rfl⟩ (fun hHeld => ?_)
     generalize wc.drew = w22 at BK674 HB hHeld ⊢
     refine pure_ (i := 2) (N := some 26) (v := ?_) (a' := ?_) #[false, false, true, false, false, false, false] rfl rfl (by kernel_rfl) (fun _ _ _ h => h) (Or.inl ⟨by rfl, ?_⟩) ?_ ?_
     rotate_left
     ·intro w'
      go_simp
      with_reducible rfl
     rotate_left
     ·simp only [Act.put, List.setIfInBounds_toArray, List.set_cons_zero, List.set_cons_succ, i64_w]
      rfl
     refine take_ (i := 0) (N := some 24) (v := ?_) (a' := ?_) #[true, false, true, false, false, false, false] rfl rfl (by kernel_rfl) (fun _ _ _ h => h) (Or.inl ⟨by rfl, ?_⟩) hHeld ?_ ?_
     rotate_left
     ·rintro w' ⟨s0, s1, s2⟩
      go_simp
      with_reducible rfl
     rotate_left
     ·simp only [Act.put, List.setIfInBounds_toArray, List.set_cons_zero, List.set_cons_succ, i64_w]
      rfl
     refine take_ (i := 1) (N := some 25) (v := ?_) (a' := ?_) #[true, true, true, false, false, false, false] rfl rfl (by kernel_rfl) (fun _ _ _ h => h) (Or.inl ⟨by rfl, ?_⟩) hHeld ?_ ?_
     rotate_left
     ·rintro w' ⟨s0, s1, s2⟩
      go_simp
      with_reducible rfl
     rotate_left
     ·simp only [Act.put, List.setIfInBounds_toArray, List.set_cons_zero, List.set_cons_succ, i64_w]
      rfl
     refine one_ (i := 3) (N := some 27) #[true, true, true, true, false, false, false] rfl rfl (by kernel_rfl) (by decide) (fun K hK => ?_)
     refine goes_ Try.func93 (by kernel_rfl) rfl #[.agg #[.int .i64 a0_0, .int .i64 a0_1, .slice A0_2 l0_2.length c0_2], .string a1] (by rfl) rfl rfl (by (try simp only [List.map_toArray, List.map_cons, List.map_nil]); first | done | rfl | (simp only [List.length_drop, List.length_take]; rfl)) ?_
     with_reducible refine (spec_pfPlace.calls kj2 a0_0 a0_1 _ _ l0_2 a1 t679 _ ?side1 ?side2 A20.out).mono ?_
     (case side1 => repeat (first | exact (Kd.C_below HR0_2.out HB.out) | (with_reducible refine Kd.C_alloc ?_ _) | (with_reducible refine Kd.C_drewN ?_ _) | (with_reducible refine Kd.C_drew ?_)))
     (case side2 => exact HC0_2.out)
     rintro e w23 ⟨rfl, hb⟩
     refine ⟨_, rfl, ?_⟩
     have n0_ := Aside0.mk (blk_below (g := gb674) (o := .cells #[.int .i64 a0_0, .int .i64 a0_1, .slice A0_2 l0_2.length c0_2] 36 (0, 0)) (by (with_reducible repeat (first | refine blk_drewN ?_ _ | refine blk_drew ?_ | refine blk_alloc ?_ _)); exact BK674.out) hb)
     have n1_ := Aside0.mk (below_step (by repeat (first | (with_reducible first | exact HB.out | apply below_alloc | apply pw_below_drewN | apply below_drew1 | refine below_set ?_ GE674.out) | exact HB.out)) hb)
     clear BK674
     clear HB
     have BK674 := n0_
     have HB := n1_
     clear n0_ n1_
     (try clear hb)
     (try clear hb2)
     (try clear hk)
     (try clear hi)
     refine hK.out _ _ ⟨(blk_cell BK674.out 0).trans rfl, (blk_cell BK674.out 1).trans rfl, (blk_cell BK674.out 2).trans rfl⟩ (fun hHeld => ?_)
     clear hK K
     refine norm_ (a' := ?_) ?_ ?_
     rotate_left
     ·show Act.put _ (some 27) _ = _
      simp only [Act.put, List.setIfInBounds_toArray, List.set_cons_zero, List.set_cons_succ, i64_w]
      rfl
     refine one_ (i := 4) (N := some 28) #[true, true, true, true, true, false, false] rfl rfl (by kernel_rfl) (by decide) (fun K hK => ?_)
     refine goes_ Try.func107 (by kernel_rfl) rfl #[.agg #[.int .i64 a0_0, .int .i64 a0_1, .slice A0_2 l0_2.length c0_2], .int .i64 t679] (by rfl) rfl rfl (by (try simp only [List.map_toArray, List.map_cons, List.map_nil]); first | done | rfl | (simp only [List.length_drop, List.length_take]; rfl)) ?_
     with_reducible refine (spec_pfRank.calls kj2 a0_0 a0_1 _ _ l0_2 t679 t680 _ ?side1 ?side2 A21.out).mono ?_
     (case side1 => repeat (first | exact (Kd.C_below HR0_2.out HB.out) | (with_reducible refine Kd.C_alloc ?_ _) | (with_reducible refine Kd.C_drewN ?_ _) | (with_reducible refine Kd.C_drew ?_)))
     (case side2 => exact HC0_2.out)
     rintro e w24 ⟨rfl, hb⟩
     refine ⟨_, rfl, ?_⟩
     have n0_ := Aside0.mk (blk_below (g := gb674) (o := .cells #[.int .i64 a0_0, .int .i64 a0_1, .slice A0_2 l0_2.length c0_2] 36 (0, 0)) (by (with_reducible repeat (first | refine blk_drewN ?_ _ | refine blk_drew ?_ | refine blk_alloc ?_ _)); exact BK674.out) hb)
     have n1_ := Aside0.mk (below_step (by repeat (first | (with_reducible first | exact HB.out | apply below_alloc | apply pw_below_drewN | apply below_drew1 | refine below_set ?_ GE674.out) | exact HB.out)) hb)
     clear BK674
     clear HB
     have BK674 := n0_
     have HB := n1_
     clear n0_ n1_
     (try clear hb)
     (try clear hb2)
     (try clear hk)
     (try clear hi)
     refine hK.out _ _ ⟨(blk_cell BK674.out 0).trans rfl, (blk_cell BK674.out 1).trans rfl, (blk_cell BK674.out 2).trans rfl⟩ (fun hHeld => ?_)
     clear hK K
     refine norm_ (a' := ?_) ?_ ?_
     rotate_left
     ·show Act.put _ (some 28) _ = _
      simp only [Act.put, List.setIfInBounds_toArray, List.set_cons_zero, List.set_cons_succ, i64_w]
      rfl
     refine pure_ (i := 5) (N := some 4) (v := ?_) (a' := ?_) #[true, true, true, true, true, true, false] rfl rfl (by kernel_rfl) (fun _ _ _ h => h) (Or.inl ⟨by rfl, ?_⟩) ?_ ?_
     rotate_left
     ·intro w'
      go_simp
      with_reducible rfl
     rotate_left
     ·simp only [Act.put, List.setIfInBounds_toArray, List.set_cons_zero, List.set_cons_succ, i64_w]
      rfl
     refine pure_ (i := 6) (N := some 5) (v := ?_) (a' := ?_) #[true, true, true, true, true, true, true] rfl rfl (by kernel_rfl) (fun _ _ _ h => h) (Or.inl ⟨by rfl, ?_⟩) ?_ ?_
     rotate_left
     ·intro w'
      go_simp
      with_reducible rfl
     rotate_left
     ·simp only [Act.put, List.setIfInBounds_toArray, List.set_cons_zero, List.set_cons_succ, i64_w]
      rfl
     refine done_ (by kernel_rfl) ?_
     try go_wp2
     go_ret2
     exact ⟨by first | rfl | (simp [errW_none, errW_some] <;> rfl) | (simp [*, errW_none, errW_some] <;> rfl), by repeat (first | (with_reducible first | exact HB.out | apply below_alloc | apply pw_below_drewN | apply below_drew1 | refine below_set ?_ GE674.out) | exact HB.out)⟩
/-! ### impl_Peeled_used: function 137 -/
def impl_Peeled_used.l0 : Nat → Int → List Int → Int → Int → Option (Int)
  | 0, _, _, _, _ => none
  | k + 1, x5, x13, x14, x15 => if x15 < x14 then (if 0 ≤ x15 then (if x15 < (x13.length : Int) then (if (rd x13 x15) = 3 then (impl_Peeled_used.l0 k x5 x13 x14 (wrap64 (x15 + 1))) else (impl_Peeled_used.l0 k (wrap64 (x5 + 1)) x13 x14 (wrap64 (x15 + 1)))) else (none)) else (none)) else (some x5)
def impl_Peeled_used.f (k : Nat) (a0_0 : Int) (a0_1 : Int) (l0_2 : List Int) (a1 : Int) : Option (Int) := if 0 ≤ a1 then (if a1 ≤ (l0_2.length : Int) then (impl_Peeled_used.l0 k 0 (l0_2.take (a1 : Int).toNat) ((l0_2.take (a1 : Int).toNat).length : Int) 0) else (none)) else (none)
theorem impl_Peeled_used.mono_l : ∀ k, (∀ y0 y1 y2 y3, LeO (impl_Peeled_used.l0 k y0 y1 y2 y3) (impl_Peeled_used.l0 (k + 1) y0 y1 y2 y3))
  | 0 => fun _ _ _ _ r h => by simp [impl_Peeled_used.l0] at h
  | k + 1 => by
    have ih0 := impl_Peeled_used.mono_l k
    · intro y0 y1 y2 y3
      unfold impl_Peeled_used.l0
      repeat' first
      | (with_reducible exact ih0 _ _ _ _)
      | (with_reducible exact LeO.refl _)
      | (with_reducible exact LeO.none _)
      | (with_reducible refine LeO.ite ?_ ?_)
      | (with_reducible refine LeO.bind ?_ (fun _ => ?_))
      | exact ih0 _ _ _ _
      | exact LeO.none _
      | refine LeO.ite ?_ ?_
      | refine LeO.bind ?_ (fun _ => ?_)
theorem impl_Peeled_used.mono : ∀ a0 a1 a2 a3 k, LeO (impl_Peeled_used.f k a0 a1 a2 a3) (impl_Peeled_used.f (k + 1) a0 a1 a2 a3) := by
  intro a0 a1 a2 a3 k
  have ih0 := impl_Peeled_used.mono_l k
  unfold impl_Peeled_used.f
  repeat' first
      | (with_reducible exact ih0 _ _ _ _)
      | (with_reducible exact LeO.refl _)
      | (with_reducible exact LeO.none _)
      | (with_reducible refine LeO.ite ?_ ?_)
      | (with_reducible refine LeO.bind ?_ (fun _ => ?_))
      | exact ih0 _ _ _ _
      | exact LeO.none _
      | refine LeO.ite ?_ ?_
      | refine LeO.bind ?_ (fun _ => ?_)
noncomputable def impl_Peeled_used.L0 (y0 : Int) (y1 : List Int) (y2 : Int) (y3 : Int) : Option (Int) := lim fun k => impl_Peeled_used.l0 k y0 y1 y2 y3
theorem impl_Peeled_used.L0_sup (y0 : Int) (y1 : List Int) (y2 : Int) (y3 : Int) : Sup (fun k => impl_Peeled_used.l0 k y0 y1 y2 y3) (impl_Peeled_used.L0 y0 y1 y2 y3) := Sup.of_mono fun k => impl_Peeled_used.mono_l k y0 y1 y2 y3
noncomputable def impl_Peeled_used.F (a0_0 : Int) (a0_1 : Int) (l0_2 : List Int) (a1 : Int) : Option (Int) := lim fun k => impl_Peeled_used.f k a0_0 a0_1 l0_2 a1
theorem impl_Peeled_used.F_sup (a0_0 : Int) (a0_1 : Int) (l0_2 : List Int) (a1 : Int) : Sup (fun k => impl_Peeled_used.f k a0_0 a0_1 l0_2 a1) (impl_Peeled_used.F a0_0 a0_1 l0_2 a1) := Sup.of_mono fun k => impl_Peeled_used.mono a0_0 a0_1 l0_2 a1 k
theorem impl_Peeled_used.L0_eq (x5 : Int) (x13 : List Int) (x14 : Int) (x15 : Int) : impl_Peeled_used.L0 x5 x13 x14 x15 = if x15 < x14 then (if 0 ≤ x15 then (if x15 < (x13.length : Int) then (if (rd x13 x15) = 3 then (impl_Peeled_used.L0 x5 x13 x14 (wrap64 (x15 + 1))) else (impl_Peeled_used.L0 (wrap64 (x5 + 1)) x13 x14 (wrap64 (x15 + 1)))) else (none)) else (none)) else (some x5) := by
  refine Sup.unique (impl_Peeled_used.L0_sup x5 x13 x14 x15) (Sup.shift (fun k => impl_Peeled_used.mono_l k x5 x13 x14 x15) (Sup.congr (g' := fun k => if x15 < x14 then (if 0 ≤ x15 then (if x15 < (x13.length : Int) then (if (rd x13 x15) = 3 then (impl_Peeled_used.l0 k x5 x13 x14 (wrap64 (x15 + 1))) else (impl_Peeled_used.l0 k (wrap64 (x5 + 1)) x13 x14 (wrap64 (x15 + 1)))) else (none)) else (none)) else (some x5)) (fun k => by first | rfl | simp only [impl_Peeled_used.l0]) ?_))
  repeat' first
    | (with_reducible exact impl_Peeled_used.L0_sup _ _ _ _)
    | (with_reducible refine Sup.ite ?_ ?_)
    | (with_reducible refine Sup.bind ?_ (fun _ => ?_))
    | (with_reducible exact Sup.const _)
    | exact impl_Peeled_used.L0_sup _ _ _ _
    | exact Sup.const _
theorem impl_Peeled_used.F_eq (a0_0 : Int) (a0_1 : Int) (l0_2 : List Int) (a1 : Int) : impl_Peeled_used.F a0_0 a0_1 l0_2 a1 = if 0 ≤ a1 then (if a1 ≤ (l0_2.length : Int) then (impl_Peeled_used.L0 0 (l0_2.take (a1 : Int).toNat) ((l0_2.take (a1 : Int).toNat).length : Int) 0) else (none)) else (none) := by
  refine Sup.unique (impl_Peeled_used.F_sup a0_0 a0_1 l0_2 a1) (Sup.congr (g' := fun k => if 0 ≤ a1 then (if a1 ≤ (l0_2.length : Int) then (impl_Peeled_used.l0 k 0 (l0_2.take (a1 : Int).toNat) ((l0_2.take (a1 : Int).toNat).length : Int) 0) else (none)) else (none)) (fun k => by first | rfl | simp only [impl_Peeled_used.f]) ?_)
  repeat' first
    | (with_reducible exact impl_Peeled_used.L0_sup _ _ _ _)
    | (with_reducible refine Sup.ite ?_ ?_)
    | (with_reducible refine Sup.bind ?_ (fun _ => ?_))
    | (with_reducible exact Sup.const _)
    | exact impl_Peeled_used.L0_sup _ _ _ _
    | exact Sup.const _
set_option maxHeartbeats 8000000 in
set_option maxRecDepth 100000 in
theorem impl_Peeled_used.calls (k : Nat) (gb0_ : Nat) (a0_0 : Int) (a0_1 : Int) (A0_2 : Option Addr) (c0_2 : Nat) (l0_2 : List Int) (a1 : Int) (r : Int) (w : World) (hr0_2 : Kd.C (Kd.int .i64) w A0_2 l0_2.length l0_2) (hc0_2 : l0_2.length ≤ c0_2) (hb0_ : w.heap[gb0_]? = some (.cells #[.int .i64 a0_0, .int .i64 a0_1, .slice A0_2 l0_2.length c0_2] 36 (0, 0))) (h : impl_Peeled_used.f k a0_0 a0_1 l0_2 a1 = some r) :
    Calls Try.prog 137 #[.pointer (some ⟨gb0_, 0, none⟩), .int .i64 a1] w fun e w' => e = .returned (.int .i64 r) ∧ Drawn0 w w' := by
  have HR0_2 := Aside0.mk hr0_2
  have HC0_2 := Aside0.mk hc0_2
  clear hr0_2 hc0_2
  have BK0 := Aside0.mk hb0_
  clear hb0_
  have H : (if 0 ≤ a1 then (if a1 ≤ (l0_2.length : Int) then (impl_Peeled_used.l0 k 0 (l0_2.take (a1 : Int).toNat) ((l0_2.take (a1 : Int).toNat).length : Int) 0) else (none)) else (none)) = some r := h
  clear h
  by_cases c3 : 0 ≤ a1
  ·rw [if_pos c3] at H
   have c3b0 := eq_true c3
   have c3b1 : decide (0 ≤ a1) = true := decide_eq_true c3
   clear c3
   by_cases c4 : a1 ≤ (l0_2.length : Int)
   ·rw [if_pos c4] at H
    have c4b0 := eq_true c4
    have c4b1 : decide (a1 ≤ (l0_2.length : Int)) = true := decide_eq_true c4
    clear c4
    have H' := Aside0.mk H
    clear H
    have hcz5_0 : w.cell? ⟨gb0_, 0, none⟩ = some (.int .i64 a0_0) := (blk_cell BK0.out 0).trans rfl
    have hcz5_1 : w.cell? ⟨gb0_, 1, none⟩ = some (.int .i64 a0_1) := (blk_cell BK0.out 1).trans rfl
    have hcz5_2 : w.cell? ⟨gb0_, 2, none⟩ = some (.slice A0_2 l0_2.length c0_2) := (blk_cell BK0.out 2).trans rfl
    have hfz5_0 := blk_frozen BK0.out 0
    have hfz5_1 := blk_frozen BK0.out 1
    have hfz5_2 := blk_frozen BK0.out 2
    obtain ⟨i06, hi06, _, hsz6, _⟩ := info_parts info3
    obtain ⟨hcut6, hA6, hC6⟩ := print_take_of (P := Try.prog) (Value.int .i64) 0 22 3 .i64 Try.underlying22 hi06 hsz6 A0_2 c0_2 l0_2 a1 (of_decide_eq_true (by first | (with_reducible assumption) | assumption)) (of_decide_eq_true (by first | (with_reducible assumption) | assumption)) HC0_2.out
    have HR681 := Aside0.mk (Kd.C_of_reads (h1 := fun _ => rfl) (hA6 _ (Kd.reads_of_C HR0_2.out)))
    have HC681 := Aside0.mk hC6
    clear hA6 hC6 hi06 hsz6
    have HL6 := Aside0.mk (show (((l0_2.take (a1 : Int).toNat).length : Int) = max (a1 : Int) 0) from (by have h0_ : 0 ≤ (a1 : Int) := of_decide_eq_true (by first | (with_reducible assumption) | assumption); have h_ : (a1 : Int) ≤ (l0_2.length : Int) := of_decide_eq_true (by first | (with_reducible assumption) | assumption); rw [List.length_take]; omega))
    go_enter Try.func137, Try.ntmps137
    go_wp2
    go_loopg [5, 15] k (fun kq v5 v15 w' => ∃ (x5_1 : Int) (x15_1 : Int), v5 = .int .i64 x5_1 ∧ v15 = .int .i64 x15_1 ∧ Aside0 (impl_Peeled_used.l0 kq x5_1 (l0_2.take (a1 : Int).toNat) ((l0_2.take (a1 : Int).toNat).length : Int) x15_1 = some r) ∧ Aside0 (kq ≤ k) ∧ Drawn0 w w')
    case atStart => exact ⟨(0), (0), (by first | rfl | (simp; done) | (simp [*]; done)), (by first | rfl | (simp; done) | (simp [*]; done)), H', ⟨Nat.le_refl _⟩, by repeat (first | exact Drawn0.refl _ | apply Drawn0.step)⟩
    case round =>
     clear H'
     try clear c1
     try clear p2
     try clear c3
     try clear c3b0
     try clear c3b1
     try clear c4
     try clear c4b0
     try clear c4b1
     try clear hcz5_0
     try clear hcz5_1
     try clear hcz5_2
     try clear hfz5_0
     try clear hfz5_1
     try clear hfz5_2
     obtain ⟨x5_1, x15_1, rfl, rfl, HA, HK1, ⟨m1, rfl⟩⟩ := hrel
     cases gk with
     | zero => exact absurd HA.out (by simp [impl_Peeled_used.l0])
     | succ k1 =>
      have H := HA.out
      clear HA
      simp only [impl_Peeled_used.l0] at H
      by_cases c7 : x15_1 < ((l0_2.take (a1 : Int).toNat).length : Int)
      ·rw [if_pos c7] at H
       have c7b0 : decide (x15_1 < ((l0_2.take (a1 : Int).toNat).length : Int)) = true := decide_eq_true c7
       (try (have c7b1 : decide (x15_1 < max a1 0) = true := decide_eq_true (by have h_ := HL6.out; omega)))
       clear c7
       by_cases c8 : 0 ≤ x15_1
       ·rw [if_pos c8] at H
        have c8b0 : decide (0 ≤ x15_1) = true := decide_eq_true c8
        clear c8
        by_cases c9 : x15_1 < ((l0_2.take (a1 : Int).toNat).length : Int)
        ·rw [if_pos c9] at H
         have c9b0 : decide (x15_1 < ((l0_2.take (a1 : Int).toNat).length : Int)) = true := decide_eq_true c9
         (try (have c9b1 : decide (x15_1 < max a1 0) = true := decide_eq_true (by have h_ := HL6.out; omega)))
         clear c9
         by_cases c10 : (rd (l0_2.take (a1 : Int).toNat) x15_1) = 3
         ·rw [if_pos c10] at H
          have c10b0 : ((rd (l0_2.take (a1 : Int).toNat) x15_1) == 3) = true := beq_iff_eq.mpr c10
          have c10b1 : ((rd (l0_2.take (a1 : Int).toNat) x15_1) != 3) = false := bne_eq_false_iff_eq.mpr c10
          clear c10
          have H' := Aside0.mk H
          clear H
          have p682 : 0 ≤ (x15_1 : Int) := of_decide_eq_true (by first | (with_reducible assumption) | assumption)
          have q682 : x15_1 < ((l0_2.take (a1 : Int).toNat).length : Int) := of_decide_eq_true (by first | (with_reducible assumption) | assumption)
          obtain ⟨ad682, e682, hx682_0⟩ := Kd.at_int HR681.out x15_1 p682 q682
          cases e682
          (try (have qi682 : (x15_1 < max a1 0) = True := eq_true (by have h_ := HL6.out; have h2_ := q682; omega)))
          replace p682 := eq_true p682
          replace q682 := eq_true q682
          go_wp2
          go_roundg k1
          case measure => have := HK1.out; omega
          case rel => exact ⟨(x5_1), (wrap64 (x15_1 + 1)), (by first | rfl | (simp; done) | (simp [*]; done)), (by first | rfl | (simp; done) | (simp [*]; done)), H', ⟨by have := HK1.out; omega⟩, by repeat (first | exact Drawn0.refl _ | apply Drawn0.step)⟩
         ·rw [if_neg c10] at H
          have c10b0 : ((rd (l0_2.take (a1 : Int).toNat) x15_1) == 3) = false := beq_eq_false_iff_ne.mpr c10
          have c10b1 : ((rd (l0_2.take (a1 : Int).toNat) x15_1) != 3) = true := bne_iff_ne.mpr c10
          have H' := Aside0.mk H
          clear H
          have p682 : 0 ≤ (x15_1 : Int) := of_decide_eq_true (by first | (with_reducible assumption) | assumption)
          have q682 : x15_1 < ((l0_2.take (a1 : Int).toNat).length : Int) := of_decide_eq_true (by first | (with_reducible assumption) | assumption)
          obtain ⟨ad682, e682, hx682_0⟩ := Kd.at_int HR681.out x15_1 p682 q682
          cases e682
          (try (have qi682 : (x15_1 < max a1 0) = True := eq_true (by have h_ := HL6.out; have h2_ := q682; omega)))
          replace p682 := eq_true p682
          replace q682 := eq_true q682
          go_wp2
          go_roundg k1
          case measure => have := HK1.out; omega
          case rel => exact ⟨(wrap64 (x5_1 + 1)), (wrap64 (x15_1 + 1)), (by first | rfl | (simp; done) | (simp [*]; done)), (by first | rfl | (simp; done) | (simp [*]; done)), H', ⟨by have := HK1.out; omega⟩, by repeat (first | exact Drawn0.refl _ | apply Drawn0.step)⟩
        ·rw [if_neg c9] at H
         exact absurd H (by simp)
       ·rw [if_neg c8] at H
        exact absurd H (by simp)
      ·rw [if_neg c7] at H
       have c7b0 : decide (x15_1 < ((l0_2.take (a1 : Int).toNat).length : Int)) = false := decide_eq_false c7
       (try (have c7b1 : decide (x15_1 < max a1 0) = false := decide_eq_false (by have h_ := HL6.out; omega)))
       clear c7
       obtain rfl := Option.some.inj H
       go_wp2
       go_ret
       exact ⟨by first | rfl | (simp; done) | (simp [*]; done), by repeat (first | exact Drawn0.refl _ | apply Drawn0.step)⟩
   ·rw [if_neg c4] at H
    exact absurd H (by simp)
  ·rw [if_neg c3] at H
   exact absurd H (by simp)
/-! ### impl_Peeled_index: function 108 -/
def impl_Peeled_index.f (k : Nat) (a0_0 : Int) (a0_1 : Int) (l0_2 : List Int) (a1 : ByteArray) : Option (Int × Bool) := (impl_Peeled_place.f k a0_0 a0_1 l0_2 a1).bind fun t683 => (if 0 ≤ t683 then (if t683 < (l0_2.length : Int) then (if (rd l0_2 t683) = 3 then (some (0, false)) else ((impl_Peeled_used.f k a0_0 a0_1 l0_2 t683).bind fun t685 => (some (t685, true)))) else (none)) else (none))
theorem impl_Peeled_index.mono : ∀ a0 a1 a2 a3 k, LeO (impl_Peeled_index.f k a0 a1 a2 a3) (impl_Peeled_index.f (k + 1) a0 a1 a2 a3) := by
  intro a0 a1 a2 a3 k
  unfold impl_Peeled_index.f
  repeat' first
      | (with_reducible exact impl_Peeled_place.mono _ _ _ _ _)
      | (with_reducible exact impl_Peeled_used.mono _ _ _ _ _)
      | (with_reducible exact LeO.refl _)
      | (with_reducible exact LeO.none _)
      | (with_reducible refine LeO.ite ?_ ?_)
      | (with_reducible refine LeO.bind ?_ (fun _ => ?_))
      | exact impl_Peeled_place.mono _ _ _ _ _
      | exact impl_Peeled_used.mono _ _ _ _ _
      | exact LeO.none _
      | refine LeO.ite ?_ ?_
      | refine LeO.bind ?_ (fun _ => ?_)
noncomputable def impl_Peeled_index.F (a0_0 : Int) (a0_1 : Int) (l0_2 : List Int) (a1 : ByteArray) : Option (Int × Bool) := lim fun k => impl_Peeled_index.f k a0_0 a0_1 l0_2 a1
theorem impl_Peeled_index.F_sup (a0_0 : Int) (a0_1 : Int) (l0_2 : List Int) (a1 : ByteArray) : Sup (fun k => impl_Peeled_index.f k a0_0 a0_1 l0_2 a1) (impl_Peeled_index.F a0_0 a0_1 l0_2 a1) := Sup.of_mono fun k => impl_Peeled_index.mono a0_0 a0_1 l0_2 a1 k
theorem impl_Peeled_index.F_eq (a0_0 : Int) (a0_1 : Int) (l0_2 : List Int) (a1 : ByteArray) : impl_Peeled_index.F a0_0 a0_1 l0_2 a1 = (impl_Peeled_place.F a0_0 a0_1 l0_2 a1).bind fun t683 => (if 0 ≤ t683 then (if t683 < (l0_2.length : Int) then (if (rd l0_2 t683) = 3 then (some (0, false)) else ((impl_Peeled_used.F a0_0 a0_1 l0_2 t683).bind fun t685 => (some (t685, true)))) else (none)) else (none)) := by
  refine Sup.unique (impl_Peeled_index.F_sup a0_0 a0_1 l0_2 a1) (Sup.congr (g' := fun k => (impl_Peeled_place.f k a0_0 a0_1 l0_2 a1).bind fun t683 => (if 0 ≤ t683 then (if t683 < (l0_2.length : Int) then (if (rd l0_2 t683) = 3 then (some (0, false)) else ((impl_Peeled_used.f k a0_0 a0_1 l0_2 t683).bind fun t685 => (some (t685, true)))) else (none)) else (none))) (fun k => by first | rfl | simp only [impl_Peeled_index.f]) ?_)
  repeat' first
    | (with_reducible exact impl_Peeled_place.F_sup _ _ _ _)
    | (with_reducible exact impl_Peeled_used.F_sup _ _ _ _)
    | (with_reducible refine Sup.ite ?_ ?_)
    | (with_reducible refine Sup.bind ?_ (fun _ => ?_))
    | (with_reducible exact Sup.const _)
    | exact impl_Peeled_place.F_sup _ _ _ _
    | exact impl_Peeled_used.F_sup _ _ _ _
    | exact Sup.const _
set_option maxHeartbeats 8000000 in
set_option maxRecDepth 100000 in
theorem impl_Peeled_index.calls (k : Nat) (gb0_ : Nat) (a0_0 : Int) (a0_1 : Int) (A0_2 : Option Addr) (c0_2 : Nat) (l0_2 : List Int) (a1 : ByteArray) (r1 : Int) (r2 : Bool) (w : World) (hr0_2 : Kd.C (Kd.int .i64) w A0_2 l0_2.length l0_2) (hc0_2 : l0_2.length ≤ c0_2) (hb0_ : w.heap[gb0_]? = some (.cells #[.int .i64 a0_0, .int .i64 a0_1, .slice A0_2 l0_2.length c0_2] 36 (0, 0))) (h : impl_Peeled_index.f k a0_0 a0_1 l0_2 a1 = some (r1, r2)) :
    Calls Try.prog 108 #[.pointer (some ⟨gb0_, 0, none⟩), .string a1] w fun e w' => e = .returned (.tuple #[.int .i64 r1, .bool r2]) ∧ Below w.heap.size w w' := by
  have HR0_2 := Aside0.mk hr0_2
  have HC0_2 := Aside0.mk hc0_2
  clear hr0_2 hc0_2
  have BK0 := Aside0.mk hb0_
  clear hb0_
  have HB := Aside0.mk (Below.refl w.heap.size w)
  have H : ((impl_Peeled_place.f k a0_0 a0_1 l0_2 a1).bind fun t683 => (if 0 ≤ t683 then (if t683 < (l0_2.length : Int) then (if (rd l0_2 t683) = 3 then (some (0, false)) else ((impl_Peeled_used.f k a0_0 a0_1 l0_2 t683).bind fun t685 => (some (t685, true)))) else (none)) else (none))) = some (r1, r2) := h
  clear h
  replace H := Option.bind_eq_some_iff.mp H
  obtain ⟨t683, A30, H⟩ := H
  replace H : (if 0 ≤ t683 then (if t683 < (l0_2.length : Int) then (if (rd l0_2 t683) = 3 then (some (0, false)) else ((impl_Peeled_used.f k a0_0 a0_1 l0_2 t683).bind fun t685 => (some (t685, true)))) else (none)) else (none)) = some (r1, r2) := H
  have A3 := Aside0.mk A30
  clear A30
  by_cases c4 : 0 ≤ t683
  ·rw [if_pos c4] at H
   have c4b0 : decide (0 ≤ t683) = true := decide_eq_true c4
   clear c4
   by_cases c5 : t683 < (l0_2.length : Int)
   ·rw [if_pos c5] at H
    have c5b0 : decide (t683 < (l0_2.length : Int)) = true := decide_eq_true c5
    clear c5
    by_cases c6 : (rd l0_2 t683) = 3
    ·rw [if_pos c6] at H
     have c6b0 : ((rd l0_2 t683) == 3) = true := beq_iff_eq.mpr c6
     have c6b1 : ((rd l0_2 t683) != 3) = false := bne_eq_false_iff_eq.mpr c6
     clear c6
     simp only [Option.some.injEq, Prod.mk.injEq] at H
     obtain ⟨rfl, rfl⟩ := H
     go_enter Try.func108, Try.ntmps108
     go_wp2_with (first | ((with_reducible refine gate_callee (f := 95) rfl ?_); refine goesL_ (some 9) rfl rfl Try.func95 (by kernel_rfl) rfl #[.pointer (some ⟨gb0_, 0, none⟩), .string a1] rfl (by (try simp only [List.map_toArray, List.map_cons, List.map_nil]); first | done | rfl | (simp only [List.length_drop, List.length_take]; rfl)) ?_; (with_reducible refine (impl_Peeled_place.calls k gb0_ a0_0 a0_1 A0_2 c0_2 l0_2 a1 t683 _ ?side1 ?side2 ?side3 A3.out).mono ?_); (case side1 => repeat (first | exact HR0_2.out | (with_reducible refine Kd.C_alloc ?_ _) | (with_reducible refine Kd.C_drewN ?_ _) | (with_reducible refine Kd.C_drew ?_))); (case side2 => exact HC0_2.out); (case side3 => exact (by (with_reducible repeat (first | refine blk_drewN ?_ _ | refine blk_drew ?_ | refine blk_alloc ?_ _)); exact BK0.out)); rintro e w7 ⟨rfl, hb⟩; refine ⟨_, rfl, ?_⟩; have n0_ := Aside0.mk (blk_below (g := gb0_) (o := .cells #[.int .i64 a0_0, .int .i64 a0_1, .slice A0_2 l0_2.length c0_2] 36 (0, 0)) (by (with_reducible repeat (first | refine blk_drewN ?_ _ | refine blk_drew ?_ | refine blk_alloc ?_ _)); exact BK0.out) hb); have n1_ := Aside0.mk (below_step (by repeat (first | (with_reducible first | exact HB.out | apply below_alloc | apply pw_below_drewN | apply below_drew1 | refine below_set ?_ GE0.out) | exact HB.out)) hb); clear BK0; clear HB; have BK0 := n0_; have HB := n1_; clear n0_ n1_; (try clear hb); (try clear hb2); (try clear hk); (try clear hi); have hcz8_0 : w7.cell? ⟨gb0_, 0, none⟩ = some (.int .i64 a0_0) := (blk_cell BK0.out 0).trans rfl; have hcz8_1 : w7.cell? ⟨gb0_, 1, none⟩ = some (.int .i64 a0_1) := (blk_cell BK0.out 1).trans rfl; have hcz8_2 : w7.cell? ⟨gb0_, 2, none⟩ = some (.slice A0_2 l0_2.length c0_2) := (blk_cell BK0.out 2).trans rfl; have hfz8_0 := blk_frozen BK0.out 0; have hfz8_1 := blk_frozen BK0.out 1; have hfz8_2 := blk_frozen BK0.out 2; have p684 : 0 ≤ (t683 : Int) := of_decide_eq_true (by first | (with_reducible assumption) | assumption); have q684 : t683 < (l0_2.length : Int) := of_decide_eq_true (by first | (with_reducible assumption) | assumption); obtain ⟨ad684, e684, hx684_0⟩ := Kd.at_int HR0_2.out t683 p684 q684; cases e684; replace hx684_0 := (HB.out.cell (World.block_lt_of_cell? w _ hx684_0)).trans hx684_0; replace p684 := eq_true p684; replace q684 := eq_true q684))
     go_ret2
     exact ⟨by first | rfl | (simp [errW_none, errW_some] <;> rfl) | (simp [*, errW_none, errW_some] <;> rfl), by repeat (first | (with_reducible first | exact HB.out | apply below_alloc | apply pw_below_drewN | apply below_drew1 | refine below_set ?_ GE0.out) | exact HB.out)⟩
    ·rw [if_neg c6] at H
     have c6b0 : ((rd l0_2 t683) == 3) = false := beq_eq_false_iff_ne.mpr c6
     have c6b1 : ((rd l0_2 t683) != 3) = true := bne_iff_ne.mpr c6
     replace H := Option.bind_eq_some_iff.mp H
     obtain ⟨t685, A90, H⟩ := H
     replace H : (some (t685, true)) = some (r1, r2) := H
     have A9 := Aside0.mk A90
     clear A90
     simp only [Option.some.injEq, Prod.mk.injEq] at H
     obtain ⟨rfl, rfl⟩ := H
     go_enter Try.func108, Try.ntmps108
     go_wp2_with (first | ((with_reducible refine gate_callee (f := 95) rfl ?_); refine goesL_ (some 9) rfl rfl Try.func95 (by kernel_rfl) rfl #[.pointer (some ⟨gb0_, 0, none⟩), .string a1] rfl (by (try simp only [List.map_toArray, List.map_cons, List.map_nil]); first | done | rfl | (simp only [List.length_drop, List.length_take]; rfl)) ?_; (with_reducible refine (impl_Peeled_place.calls k gb0_ a0_0 a0_1 A0_2 c0_2 l0_2 a1 t683 _ ?side1 ?side2 ?side3 A3.out).mono ?_); (case side1 => repeat (first | exact HR0_2.out | (with_reducible refine Kd.C_alloc ?_ _) | (with_reducible refine Kd.C_drewN ?_ _) | (with_reducible refine Kd.C_drew ?_))); (case side2 => exact HC0_2.out); (case side3 => exact (by (with_reducible repeat (first | refine blk_drewN ?_ _ | refine blk_drew ?_ | refine blk_alloc ?_ _)); exact BK0.out)); rintro e w10 ⟨rfl, hb⟩; refine ⟨_, rfl, ?_⟩; have n0_ := Aside0.mk (blk_below (g := gb0_) (o := .cells #[.int .i64 a0_0, .int .i64 a0_1, .slice A0_2 l0_2.length c0_2] 36 (0, 0)) (by (with_reducible repeat (first | refine blk_drewN ?_ _ | refine blk_drew ?_ | refine blk_alloc ?_ _)); exact BK0.out) hb); have n1_ := Aside0.mk (below_step (by repeat (first | (with_reducible first | exact HB.out | apply below_alloc | apply pw_below_drewN | apply below_drew1 | refine below_set ?_ GE0.out) | exact HB.out)) hb); clear BK0; clear HB; have BK0 := n0_; have HB := n1_; clear n0_ n1_; (try clear hb); (try clear hb2); (try clear hk); (try clear hi); have hcz11_0 : w10.cell? ⟨gb0_, 0, none⟩ = some (.int .i64 a0_0) := (blk_cell BK0.out 0).trans rfl; have hcz11_1 : w10.cell? ⟨gb0_, 1, none⟩ = some (.int .i64 a0_1) := (blk_cell BK0.out 1).trans rfl; have hcz11_2 : w10.cell? ⟨gb0_, 2, none⟩ = some (.slice A0_2 l0_2.length c0_2) := (blk_cell BK0.out 2).trans rfl; have hfz11_0 := blk_frozen BK0.out 0; have hfz11_1 := blk_frozen BK0.out 1; have hfz11_2 := blk_frozen BK0.out 2; have p684 : 0 ≤ (t683 : Int) := of_decide_eq_true (by first | (with_reducible assumption) | assumption); have q684 : t683 < (l0_2.length : Int) := of_decide_eq_true (by first | (with_reducible assumption) | assumption); obtain ⟨ad684, e684, hx684_0⟩ := Kd.at_int HR0_2.out t683 p684 q684; cases e684; replace hx684_0 := (HB.out.cell (World.block_lt_of_cell? w _ hx684_0)).trans hx684_0; replace p684 := eq_true p684; replace q684 := eq_true q684) | ((with_reducible refine gate_callee (f := 137) rfl ?_); refine goesL_ (some 20) rfl rfl Try.func137 (by kernel_rfl) rfl #[.pointer (some ⟨gb0_, 0, none⟩), .int .i64 t683] rfl (by (try simp only [List.map_toArray, List.map_cons, List.map_nil]); first | done | rfl | (simp only [List.length_drop, List.length_take]; rfl)) ?_; (with_reducible refine (impl_Peeled_used.calls k gb0_ a0_0 a0_1 (some ad684) c0_2 l0_2 t683 t685 _ ?side1 ?side2 ?side3 A9.out).mono ?_); (case side1 => repeat (first | exact (Kd.C_below HR0_2.out HB.out) | (with_reducible refine Kd.C_alloc ?_ _) | (with_reducible refine Kd.C_drewN ?_ _) | (with_reducible refine Kd.C_drew ?_))); (case side2 => exact HC0_2.out); (case side3 => exact (by (with_reducible repeat (first | refine blk_drewN ?_ _ | refine blk_drew ?_ | refine blk_alloc ?_ _)); exact BK0.out)); rintro e w' ⟨rfl, ⟨nd, rfl⟩⟩; refine ⟨_, rfl, ?_⟩))
     go_ret2
     exact ⟨by first | rfl | (simp [errW_none, errW_some] <;> rfl) | (simp [*, errW_none, errW_some] <;> rfl), by repeat (first | (with_reducible first | exact HB.out | apply below_alloc | apply pw_below_drewN | apply below_drew1 | refine below_set ?_ GE0.out) | exact HB.out)⟩
   ·rw [if_neg c5] at H
    exact absurd H (by simp)
  ·rw [if_neg c4] at H
   exact absurd H (by simp)
/-! ### impl_PeeledIndex: function 53 -/
def impl_PeeledIndex.f (k : Nat) (a0_0 : Int) (a0_1 : Int) (l0_2 : List Int) (a1 : ByteArray) : Option (Int × Bool) := (impl_IsPeeled.f k a0_0 a0_1 l0_2).bind fun t687 => (if t687 = true then ((impl_IsKey.f k a1).bind fun t688 => (if t688 = true then ((impl_Peeled_index.f k a0_0 a0_1 l0_2 a1).bind fun bt689 => (some (bt689.1, bt689.2))) else (some (0, false)))) else (some (0, false)))
theorem impl_PeeledIndex.mono : ∀ a0 a1 a2 a3 k, LeO (impl_PeeledIndex.f k a0 a1 a2 a3) (impl_PeeledIndex.f (k + 1) a0 a1 a2 a3) := by
  intro a0 a1 a2 a3 k
  unfold impl_PeeledIndex.f
  repeat' first
      | (with_reducible exact impl_IsKey.mono _ _)
      | (with_reducible exact impl_IsPeeled.mono _ _ _ _)
      | (with_reducible exact impl_Peeled_index.mono _ _ _ _ _)
      | (with_reducible exact LeO.refl _)
      | (with_reducible exact LeO.none _)
      | (with_reducible refine LeO.ite ?_ ?_)
      | (with_reducible refine LeO.bind ?_ (fun _ => ?_))
      | exact impl_IsKey.mono _ _
      | exact impl_IsPeeled.mono _ _ _ _
      | exact impl_Peeled_index.mono _ _ _ _ _
      | exact LeO.none _
      | refine LeO.ite ?_ ?_
      | refine LeO.bind ?_ (fun _ => ?_)
noncomputable def impl_PeeledIndex.F (a0_0 : Int) (a0_1 : Int) (l0_2 : List Int) (a1 : ByteArray) : Option (Int × Bool) := lim fun k => impl_PeeledIndex.f k a0_0 a0_1 l0_2 a1
theorem impl_PeeledIndex.F_sup (a0_0 : Int) (a0_1 : Int) (l0_2 : List Int) (a1 : ByteArray) : Sup (fun k => impl_PeeledIndex.f k a0_0 a0_1 l0_2 a1) (impl_PeeledIndex.F a0_0 a0_1 l0_2 a1) := Sup.of_mono fun k => impl_PeeledIndex.mono a0_0 a0_1 l0_2 a1 k
theorem impl_PeeledIndex.F_eq (a0_0 : Int) (a0_1 : Int) (l0_2 : List Int) (a1 : ByteArray) : impl_PeeledIndex.F a0_0 a0_1 l0_2 a1 = (impl_IsPeeled.F a0_0 a0_1 l0_2).bind fun t687 => (if t687 = true then ((impl_IsKey.F a1).bind fun t688 => (if t688 = true then ((impl_Peeled_index.F a0_0 a0_1 l0_2 a1).bind fun bt689 => (some (bt689.1, bt689.2))) else (some (0, false)))) else (some (0, false))) := by
  refine Sup.unique (impl_PeeledIndex.F_sup a0_0 a0_1 l0_2 a1) (Sup.congr (g' := fun k => (impl_IsPeeled.f k a0_0 a0_1 l0_2).bind fun t687 => (if t687 = true then ((impl_IsKey.f k a1).bind fun t688 => (if t688 = true then ((impl_Peeled_index.f k a0_0 a0_1 l0_2 a1).bind fun bt689 => (some (bt689.1, bt689.2))) else (some (0, false)))) else (some (0, false)))) (fun k => by first | rfl | simp only [impl_PeeledIndex.f]) ?_)
  repeat' first
    | (with_reducible exact impl_IsKey.F_sup _)
    | (with_reducible exact impl_IsPeeled.F_sup _ _ _)
    | (with_reducible exact impl_Peeled_index.F_sup _ _ _ _)
    | (with_reducible refine Sup.ite ?_ ?_)
    | (with_reducible refine Sup.bind ?_ (fun _ => ?_))
    | (with_reducible exact Sup.const _)
    | exact impl_IsKey.F_sup _
    | exact impl_IsPeeled.F_sup _ _ _
    | exact impl_Peeled_index.F_sup _ _ _ _
    | exact Sup.const _
set_option maxHeartbeats 8000000 in
set_option maxRecDepth 100000 in
theorem impl_PeeledIndex.calls (k : Nat) (a0_0 : Int) (a0_1 : Int) (A0_2 : Option Addr) (c0_2 : Nat) (l0_2 : List Int) (a1 : ByteArray) (r1 : Int) (r2 : Bool) (w : World) (hr0_2 : Kd.C (Kd.int .i64) w A0_2 l0_2.length l0_2) (hc0_2 : l0_2.length ≤ c0_2) (h : impl_PeeledIndex.f k a0_0 a0_1 l0_2 a1 = some (r1, r2)) :
    Calls Try.prog 53 #[.agg #[.int .i64 a0_0, .int .i64 a0_1, .slice A0_2 l0_2.length c0_2], .string a1] w fun e w' => e = .returned (.tuple #[.int .i64 r1, .bool r2]) ∧ Below w.heap.size w w' := by
  have hu36 := Try.underlying36
  have HR0_2 := Aside0.mk hr0_2
  have HC0_2 := Aside0.mk hc0_2
  clear hr0_2 hc0_2
  have HB := Aside0.mk (Below.refl w.heap.size w)
  have H : ((impl_IsPeeled.f k a0_0 a0_1 l0_2).bind fun t687 => (if t687 = true then ((impl_IsKey.f k a1).bind fun t688 => (if t688 = true then ((impl_Peeled_index.f k a0_0 a0_1 l0_2 a1).bind fun bt689 => (some (bt689.1, bt689.2))) else (some (0, false)))) else (some (0, false)))) = some (r1, r2) := h
  clear h
  replace H := Option.bind_eq_some_iff.mp H
  obtain ⟨t687, A30, H⟩ := H
  replace H : (if t687 = true then ((impl_IsKey.f k a1).bind fun t688 => (if t688 = true then ((impl_Peeled_index.f k a0_0 a0_1 l0_2 a1).bind fun bt689 => (some (bt689.1, bt689.2))) else (some (0, false)))) else (some (0, false))) = some (r1, r2) := H
  have A3 := Aside0.mk A30
  clear A30
  by_cases c4 : t687 = true
  ·subst c4
   have H1 : ((impl_IsKey.f k a1).bind fun t688 => (if t688 = true then ((impl_Peeled_index.f k a0_0 a0_1 l0_2 a1).bind fun bt689 => (some (bt689.1, bt689.2))) else (some (0, false)))) = some (r1, r2) := by rw [if_pos rfl] at H; exact H
   clear H
   have H := H1
   clear H1
   replace H := Option.bind_eq_some_iff.mp H
   obtain ⟨t688, A50, H⟩ := H
   replace H : (if t688 = true then ((impl_Peeled_index.f k a0_0 a0_1 l0_2 a1).bind fun bt689 => (some (bt689.1, bt689.2))) else (some (0, false))) = some (r1, r2) := H
   have A5 := Aside0.mk A50
   clear A50
   by_cases c6 : t688 = true
   ·subst c6
    have H1 : ((impl_Peeled_index.f k a0_0 a0_1 l0_2 a1).bind fun bt689 => (some (bt689.1, bt689.2))) = some (r1, r2) := by rw [if_pos rfl] at H; exact H
    clear H
    have H := H1
    clear H1
    replace H := Option.bind_eq_some_iff.mp H
    obtain ⟨⟨t689, t690⟩, A70, H⟩ := H
    replace H : (some (t689, t690)) = some (r1, r2) := H
    have A7 := Aside0.mk A70
    clear A70
    simp only [Option.some.injEq, Prod.mk.injEq] at H
    obtain ⟨rfl, rfl⟩ := H
    go_enter Try.func53, Try.ntmps53
    go_wp2_with (first | ((with_reducible refine gate_dst (N := 2) rfl ?_); refine box_event ?hg (N := 2) ?hd (cs := #[.int .i64 a0_0, .int .i64 a0_1, .slice A0_2 l0_2.length c0_2]) (t := 36) ?hr ?_; (case hd => rfl); (case hg => rfl); (case hr => first | (go_simp; done) | (go_simp; rfl)); intro gb686 hg w8 hbox hb; have n0_ := Aside0.mk (below_step (by repeat (first | (with_reducible first | exact HB.out | apply below_alloc | apply pw_below_drewN | apply below_drew1) | exact HB.out)) hb); have n1_ := Aside0.mk (hbox); have n2_ := Aside0.mk ((by rw [hg]; exact (below_size (by repeat (first | (with_reducible first | exact HB.out | apply below_alloc | apply pw_below_drewN | apply below_drew1) | exact HB.out))) : w.heap.size ≤ gb686)); have n3_ := Aside0.mk ((by rw [hg]; exact (below_size (by repeat (first | (with_reducible first | exact HB.out | apply below_alloc | apply pw_below_drewN | apply below_drew1) | exact HB.out))) : w.heap.size ≤ gb686)); clear HB; have HB := n0_; have BK686 := n1_; have GW686 := n2_; have GE686 := n3_; clear n0_ n1_ n2_ n3_; clear hb hbox hg; have hcz9_0 : w8.cell? ⟨gb686, 0, none⟩ = some (.int .i64 a0_0) := (blk_cell BK686.out 0).trans rfl; have hcz9_1 : w8.cell? ⟨gb686, 1, none⟩ = some (.int .i64 a0_1) := (blk_cell BK686.out 1).trans rfl; have hcz9_2 : w8.cell? ⟨gb686, 2, none⟩ = some (.slice A0_2 l0_2.length c0_2) := (blk_cell BK686.out 2).trans rfl; have hfz9_0 := blk_frozen BK686.out 0; have hfz9_1 := blk_frozen BK686.out 1; have hfz9_2 := blk_frozen BK686.out 2) | ((with_reducible refine gate_callee (f := 94) rfl ?_); refine goesL_ (some 7) rfl rfl Try.func94 (by kernel_rfl) rfl #[.agg #[.int .i64 a0_0, .int .i64 a0_1, .slice A0_2 l0_2.length c0_2]] rfl (by (try simp only [List.map_toArray, List.map_cons, List.map_nil]); first | done | rfl | (simp only [List.length_drop, List.length_take]; rfl)) ?_; (with_reducible refine (impl_IsPeeled.calls k a0_0 a0_1 _ _ l0_2 true _ ?side1 ?side2 A3.out).mono ?_); (case side1 => repeat (first | exact (Kd.C_below HR0_2.out HB.out) | (with_reducible refine Kd.C_alloc ?_ _) | (with_reducible refine Kd.C_drewN ?_ _) | (with_reducible refine Kd.C_drew ?_))); (case side2 => exact HC0_2.out); rintro e w10 ⟨rfl, hb⟩; refine ⟨_, rfl, ?_⟩; have n0_ := Aside0.mk (blk_below (g := gb686) (o := .cells #[.int .i64 a0_0, .int .i64 a0_1, .slice A0_2 l0_2.length c0_2] 36 (0, 0)) (by (with_reducible repeat (first | refine blk_drewN ?_ _ | refine blk_drew ?_ | refine blk_alloc ?_ _)); exact BK686.out) hb); have n1_ := Aside0.mk (below_step (by repeat (first | (with_reducible first | exact HB.out | apply below_alloc | apply pw_below_drewN | apply below_drew1 | refine below_set ?_ GE686.out) | exact HB.out)) hb); clear BK686; clear HB; have BK686 := n0_; have HB := n1_; clear n0_ n1_; (try clear hb); (try clear hb2); (try clear hk); (try clear hi)) | (go_at_call 74; (with_reducible refine (impl_IsKey.calls k a1 true _ A5.out).mono ?_); rintro e w' ⟨rfl, ⟨nd, rfl⟩⟩) | ((with_reducible refine gate_callee (f := 108) rfl ?_); refine goesL_ (some 15) rfl rfl Try.func108 (by kernel_rfl) rfl #[.pointer (some ⟨gb686, 0, none⟩), .string a1] rfl (by (try simp only [List.map_toArray, List.map_cons, List.map_nil]); first | done | rfl | (simp only [List.length_drop, List.length_take]; rfl)) ?_; (with_reducible refine (impl_Peeled_index.calls k gb686 a0_0 a0_1 A0_2 c0_2 l0_2 a1 t689 t690 _ ?side1 ?side2 ?side3 A7.out).mono ?_); (case side1 => repeat (first | exact (Kd.C_below HR0_2.out (by repeat (first | (with_reducible first | exact HB.out | apply below_alloc | apply pw_below_drewN | apply below_drew1 | refine below_set ?_ GE686.out) | exact HB.out))) | (with_reducible refine Kd.C_alloc ?_ _) | (with_reducible refine Kd.C_drewN ?_ _) | (with_reducible refine Kd.C_drew ?_))); (case side2 => exact HC0_2.out); (case side3 => exact (by (with_reducible repeat (first | refine blk_drewN ?_ _ | refine blk_drew ?_ | refine blk_alloc ?_ _)); exact BK686.out)); rintro e w11 ⟨rfl, hb⟩; refine ⟨_, rfl, ?_⟩; have n0_ := Aside0.mk (blk_below (g := gb686) (o := .cells #[.int .i64 a0_0, .int .i64 a0_1, .slice A0_2 l0_2.length c0_2] 36 (0, 0)) (by (with_reducible repeat (first | refine blk_drewN ?_ _ | refine blk_drew ?_ | refine blk_alloc ?_ _)); exact BK686.out) hb); have n1_ := Aside0.mk (below_step (by repeat (first | (with_reducible first | exact HB.out | apply below_alloc | apply pw_below_drewN | apply below_drew1 | refine below_set ?_ GE686.out) | exact HB.out)) hb); clear BK686; clear HB; have BK686 := n0_; have HB := n1_; clear n0_ n1_; (try clear hb); (try clear hb2); (try clear hk); (try clear hi)))
    go_ret2
    exact ⟨by first | rfl | (simp [errW_none, errW_some] <;> rfl) | (simp [*, errW_none, errW_some] <;> rfl), by repeat (first | (with_reducible first | exact HB.out | apply below_alloc | apply pw_below_drewN | apply below_drew1 | refine below_set ?_ GE686.out) | exact HB.out)⟩
   ·replace c6 := Bool.eq_false_iff.mpr c6
    subst c6
    have H1 : (some (0, false)) = some (r1, r2) := by rw [if_neg (show ¬ (false = true) by decide)] at H; exact H
    clear H
    have H := H1
    clear H1
    simp only [Option.some.injEq, Prod.mk.injEq] at H
    obtain ⟨rfl, rfl⟩ := H
    go_enter Try.func53, Try.ntmps53
    go_wp2_with (first | ((with_reducible refine gate_dst (N := 2) rfl ?_); refine box_event ?hg (N := 2) ?hd (cs := #[.int .i64 a0_0, .int .i64 a0_1, .slice A0_2 l0_2.length c0_2]) (t := 36) ?hr ?_; (case hd => rfl); (case hg => rfl); (case hr => first | (go_simp; done) | (go_simp; rfl)); intro gb686 hg w12 hbox hb; have n0_ := Aside0.mk (below_step (by repeat (first | (with_reducible first | exact HB.out | apply below_alloc | apply pw_below_drewN | apply below_drew1) | exact HB.out)) hb); have n1_ := Aside0.mk (hbox); have n2_ := Aside0.mk ((by rw [hg]; exact (below_size (by repeat (first | (with_reducible first | exact HB.out | apply below_alloc | apply pw_below_drewN | apply below_drew1) | exact HB.out))) : w.heap.size ≤ gb686)); have n3_ := Aside0.mk ((by rw [hg]; exact (below_size (by repeat (first | (with_reducible first | exact HB.out | apply below_alloc | apply pw_below_drewN | apply below_drew1) | exact HB.out))) : w.heap.size ≤ gb686)); clear HB; have HB := n0_; have BK686 := n1_; have GW686 := n2_; have GE686 := n3_; clear n0_ n1_ n2_ n3_; clear hb hbox hg; have hcz13_0 : w12.cell? ⟨gb686, 0, none⟩ = some (.int .i64 a0_0) := (blk_cell BK686.out 0).trans rfl; have hcz13_1 : w12.cell? ⟨gb686, 1, none⟩ = some (.int .i64 a0_1) := (blk_cell BK686.out 1).trans rfl; have hcz13_2 : w12.cell? ⟨gb686, 2, none⟩ = some (.slice A0_2 l0_2.length c0_2) := (blk_cell BK686.out 2).trans rfl; have hfz13_0 := blk_frozen BK686.out 0; have hfz13_1 := blk_frozen BK686.out 1; have hfz13_2 := blk_frozen BK686.out 2) | ((with_reducible refine gate_callee (f := 94) rfl ?_); refine goesL_ (some 7) rfl rfl Try.func94 (by kernel_rfl) rfl #[.agg #[.int .i64 a0_0, .int .i64 a0_1, .slice A0_2 l0_2.length c0_2]] rfl (by (try simp only [List.map_toArray, List.map_cons, List.map_nil]); first | done | rfl | (simp only [List.length_drop, List.length_take]; rfl)) ?_; (with_reducible refine (impl_IsPeeled.calls k a0_0 a0_1 _ _ l0_2 true _ ?side1 ?side2 A3.out).mono ?_); (case side1 => repeat (first | exact (Kd.C_below HR0_2.out HB.out) | (with_reducible refine Kd.C_alloc ?_ _) | (with_reducible refine Kd.C_drewN ?_ _) | (with_reducible refine Kd.C_drew ?_))); (case side2 => exact HC0_2.out); rintro e w14 ⟨rfl, hb⟩; refine ⟨_, rfl, ?_⟩; have n0_ := Aside0.mk (blk_below (g := gb686) (o := .cells #[.int .i64 a0_0, .int .i64 a0_1, .slice A0_2 l0_2.length c0_2] 36 (0, 0)) (by (with_reducible repeat (first | refine blk_drewN ?_ _ | refine blk_drew ?_ | refine blk_alloc ?_ _)); exact BK686.out) hb); have n1_ := Aside0.mk (below_step (by repeat (first | (with_reducible first | exact HB.out | apply below_alloc | apply pw_below_drewN | apply below_drew1 | refine below_set ?_ GE686.out) | exact HB.out)) hb); clear BK686; clear HB; have BK686 := n0_; have HB := n1_; clear n0_ n1_; (try clear hb); (try clear hb2); (try clear hk); (try clear hi)) | (go_at_call 74; (with_reducible refine (impl_IsKey.calls k a1 false _ A5.out).mono ?_); rintro e w' ⟨rfl, ⟨nd, rfl⟩⟩))
    go_ret2
    exact ⟨by first | rfl | (simp [errW_none, errW_some] <;> rfl) | (simp [*, errW_none, errW_some] <;> rfl), by repeat (first | (with_reducible first | exact HB.out | apply below_alloc | apply pw_below_drewN | apply below_drew1 | refine below_set ?_ GE686.out) | exact HB.out)⟩
  ·replace c4 := Bool.eq_false_iff.mpr c4
   subst c4
   have H1 : (some (0, false)) = some (r1, r2) := by rw [if_neg (show ¬ (false = true) by decide)] at H; exact H
   clear H
   have H := H1
   clear H1
   simp only [Option.some.injEq, Prod.mk.injEq] at H
   obtain ⟨rfl, rfl⟩ := H
   go_enter Try.func53, Try.ntmps53
   go_wp2_with (first | ((with_reducible refine gate_dst (N := 2) rfl ?_); refine box_event ?hg (N := 2) ?hd (cs := #[.int .i64 a0_0, .int .i64 a0_1, .slice A0_2 l0_2.length c0_2]) (t := 36) ?hr ?_; (case hd => rfl); (case hg => rfl); (case hr => first | (go_simp; done) | (go_simp; rfl)); intro gb686 hg w15 hbox hb; have n0_ := Aside0.mk (below_step (by repeat (first | (with_reducible first | exact HB.out | apply below_alloc | apply pw_below_drewN | apply below_drew1) | exact HB.out)) hb); have n1_ := Aside0.mk (hbox); have n2_ := Aside0.mk ((by rw [hg]; exact (below_size (by repeat (first | (with_reducible first | exact HB.out | apply below_alloc | apply pw_below_drewN | apply below_drew1) | exact HB.out))) : w.heap.size ≤ gb686)); have n3_ := Aside0.mk ((by rw [hg]; exact (below_size (by repeat (first | (with_reducible first | exact HB.out | apply below_alloc | apply pw_below_drewN | apply below_drew1) | exact HB.out))) : w.heap.size ≤ gb686)); clear HB; have HB := n0_; have BK686 := n1_; have GW686 := n2_; have GE686 := n3_; clear n0_ n1_ n2_ n3_; clear hb hbox hg; have hcz16_0 : w15.cell? ⟨gb686, 0, none⟩ = some (.int .i64 a0_0) := (blk_cell BK686.out 0).trans rfl; have hcz16_1 : w15.cell? ⟨gb686, 1, none⟩ = some (.int .i64 a0_1) := (blk_cell BK686.out 1).trans rfl; have hcz16_2 : w15.cell? ⟨gb686, 2, none⟩ = some (.slice A0_2 l0_2.length c0_2) := (blk_cell BK686.out 2).trans rfl; have hfz16_0 := blk_frozen BK686.out 0; have hfz16_1 := blk_frozen BK686.out 1; have hfz16_2 := blk_frozen BK686.out 2) | ((with_reducible refine gate_callee (f := 94) rfl ?_); refine goesL_ (some 7) rfl rfl Try.func94 (by kernel_rfl) rfl #[.agg #[.int .i64 a0_0, .int .i64 a0_1, .slice A0_2 l0_2.length c0_2]] rfl (by (try simp only [List.map_toArray, List.map_cons, List.map_nil]); first | done | rfl | (simp only [List.length_drop, List.length_take]; rfl)) ?_; (with_reducible refine (impl_IsPeeled.calls k a0_0 a0_1 _ _ l0_2 false _ ?side1 ?side2 A3.out).mono ?_); (case side1 => repeat (first | exact (Kd.C_below HR0_2.out HB.out) | (with_reducible refine Kd.C_alloc ?_ _) | (with_reducible refine Kd.C_drewN ?_ _) | (with_reducible refine Kd.C_drew ?_))); (case side2 => exact HC0_2.out); rintro e w17 ⟨rfl, hb⟩; refine ⟨_, rfl, ?_⟩; have n0_ := Aside0.mk (blk_below (g := gb686) (o := .cells #[.int .i64 a0_0, .int .i64 a0_1, .slice A0_2 l0_2.length c0_2] 36 (0, 0)) (by (with_reducible repeat (first | refine blk_drewN ?_ _ | refine blk_drew ?_ | refine blk_alloc ?_ _)); exact BK686.out) hb); have n1_ := Aside0.mk (below_step (by repeat (first | (with_reducible first | exact HB.out | apply below_alloc | apply pw_below_drewN | apply below_drew1 | refine below_set ?_ GE686.out) | exact HB.out)) hb); clear BK686; clear HB; have BK686 := n0_; have HB := n1_; clear n0_ n1_; (try clear hb); (try clear hb2); (try clear hk); (try clear hi)))
   go_ret2
   exact ⟨by first | rfl | (simp [errW_none, errW_some] <;> rfl) | (simp [*, errW_none, errW_some] <;> rfl), by repeat (first | (with_reducible first | exact HB.out | apply below_alloc | apply pw_below_drewN | apply below_drew1 | refine below_set ?_ GE686.out) | exact HB.out)⟩
/-! ### laws_FnExactPeeledIndex: function 10 -/
def laws_FnExactPeeledIndex.f (k : Nat) (a0_0 : Int) (a0_1 : Int) (l0_2 : List Int) (a1 : ByteArray) : Option (Bool) := if (a1.size : Int) > 1048576 then (some true) else ((laws_szPeeled.f a0_0 a0_1 l0_2 1048576).bind fun t692 => (if t692 < 0 then (some true) else ((laws_toPeeled.f k a0_0 a0_1 l0_2).bind fun bt693 => ((spec_PeeledIndex.f k bt693.1 bt693.2.1 bt693.2.2 a1).bind fun bt698 => ((laws_toPeeled.f k a0_0 a0_1 l0_2).bind fun bt700 => ((impl_PeeledIndex.f k bt700.1 bt700.2.1 bt700.2.2 a1).bind fun bt706 => (if bt706.1 = bt698.1 then (if (bt706.2 != bt698.2) = true then (none) else ((laws_toPeeled.f k a0_0 a0_1 l0_2).bind fun bt708 => ((laws_eqPeeled.f k bt700.1 bt700.2.1 bt700.2.2 bt708.1 bt708.2.1 bt708.2.2).bind fun t713 => (if t713 = true then (some true) else (none))))) else (none))))))))
theorem laws_FnExactPeeledIndex.mono : ∀ a0 a1 a2 a3 k, LeO (laws_FnExactPeeledIndex.f k a0 a1 a2 a3) (laws_FnExactPeeledIndex.f (k + 1) a0 a1 a2 a3) := by
  intro a0 a1 a2 a3 k
  unfold laws_FnExactPeeledIndex.f
  repeat' first
      | (with_reducible exact impl_PeeledIndex.mono _ _ _ _ _)
      | (with_reducible exact laws_eqPeeled.mono _ _ _ _ _ _ _)
      | (with_reducible exact laws_toPeeled.mono _ _ _ _)
      | (with_reducible exact spec_PeeledIndex.mono _ _ _ _ _)
      | (with_reducible exact LeO.refl _)
      | (with_reducible exact LeO.none _)
      | (with_reducible refine LeO.ite ?_ ?_)
      | (with_reducible refine LeO.bind ?_ (fun _ => ?_))
      | exact impl_PeeledIndex.mono _ _ _ _ _
      | exact laws_eqPeeled.mono _ _ _ _ _ _ _
      | exact laws_toPeeled.mono _ _ _ _
      | exact spec_PeeledIndex.mono _ _ _ _ _
      | exact LeO.none _
      | refine LeO.ite ?_ ?_
      | refine LeO.bind ?_ (fun _ => ?_)
noncomputable def laws_FnExactPeeledIndex.F (a0_0 : Int) (a0_1 : Int) (l0_2 : List Int) (a1 : ByteArray) : Option (Bool) := lim fun k => laws_FnExactPeeledIndex.f k a0_0 a0_1 l0_2 a1
theorem laws_FnExactPeeledIndex.F_sup (a0_0 : Int) (a0_1 : Int) (l0_2 : List Int) (a1 : ByteArray) : Sup (fun k => laws_FnExactPeeledIndex.f k a0_0 a0_1 l0_2 a1) (laws_FnExactPeeledIndex.F a0_0 a0_1 l0_2 a1) := Sup.of_mono fun k => laws_FnExactPeeledIndex.mono a0_0 a0_1 l0_2 a1 k
theorem laws_FnExactPeeledIndex.F_eq (a0_0 : Int) (a0_1 : Int) (l0_2 : List Int) (a1 : ByteArray) : laws_FnExactPeeledIndex.F a0_0 a0_1 l0_2 a1 = if (a1.size : Int) > 1048576 then (some true) else ((laws_szPeeled.f a0_0 a0_1 l0_2 1048576).bind fun t692 => (if t692 < 0 then (some true) else ((laws_toPeeled.F a0_0 a0_1 l0_2).bind fun bt693 => ((spec_PeeledIndex.F bt693.1 bt693.2.1 bt693.2.2 a1).bind fun bt698 => ((laws_toPeeled.F a0_0 a0_1 l0_2).bind fun bt700 => ((impl_PeeledIndex.F bt700.1 bt700.2.1 bt700.2.2 a1).bind fun bt706 => (if bt706.1 = bt698.1 then (if (bt706.2 != bt698.2) = true then (none) else ((laws_toPeeled.F a0_0 a0_1 l0_2).bind fun bt708 => ((laws_eqPeeled.F bt700.1 bt700.2.1 bt700.2.2 bt708.1 bt708.2.1 bt708.2.2).bind fun t713 => (if t713 = true then (some true) else (none))))) else (none)))))))) := by
  refine Sup.unique (laws_FnExactPeeledIndex.F_sup a0_0 a0_1 l0_2 a1) (Sup.congr (g' := fun k => if (a1.size : Int) > 1048576 then (some true) else ((laws_szPeeled.f a0_0 a0_1 l0_2 1048576).bind fun t692 => (if t692 < 0 then (some true) else ((laws_toPeeled.f k a0_0 a0_1 l0_2).bind fun bt693 => ((spec_PeeledIndex.f k bt693.1 bt693.2.1 bt693.2.2 a1).bind fun bt698 => ((laws_toPeeled.f k a0_0 a0_1 l0_2).bind fun bt700 => ((impl_PeeledIndex.f k bt700.1 bt700.2.1 bt700.2.2 a1).bind fun bt706 => (if bt706.1 = bt698.1 then (if (bt706.2 != bt698.2) = true then (none) else ((laws_toPeeled.f k a0_0 a0_1 l0_2).bind fun bt708 => ((laws_eqPeeled.f k bt700.1 bt700.2.1 bt700.2.2 bt708.1 bt708.2.1 bt708.2.2).bind fun t713 => (if t713 = true then (some true) else (none))))) else (none))))))))) (fun k => by first | rfl | simp only [laws_FnExactPeeledIndex.f]) ?_)
  repeat' first
    | (with_reducible exact laws_eqPeeled.F_sup _ _ _ _ _ _)
    | (with_reducible exact laws_toPeeled.F_sup _ _ _)
    | (with_reducible exact spec_PeeledIndex.F_sup _ _ _ _)
    | (with_reducible exact impl_PeeledIndex.F_sup _ _ _ _)
    | (with_reducible refine Sup.ite ?_ ?_)
    | (with_reducible refine Sup.bind ?_ (fun _ => ?_))
    | (with_reducible exact Sup.const _)
    | exact laws_eqPeeled.F_sup _ _ _ _ _ _
    | exact laws_toPeeled.F_sup _ _ _
    | exact spec_PeeledIndex.F_sup _ _ _ _
    | exact impl_PeeledIndex.F_sup _ _ _ _
    | exact Sup.const _
set_option maxHeartbeats 8000000 in
set_option maxRecDepth 100000 in
theorem laws_FnExactPeeledIndex.calls (k : Nat) (a0_0 : Int) (a0_1 : Int) (A0_2 : Option Addr) (c0_2 : Nat) (l0_2 : List Int) (a1 : ByteArray) (r : Bool) (w : World) (hr0_2 : Kd.C (Kd.int .i64) w A0_2 l0_2.length l0_2) (hc0_2 : l0_2.length ≤ c0_2) (h : laws_FnExactPeeledIndex.f k a0_0 a0_1 l0_2 a1 = some r) :
    Calls Try.prog 10 #[.agg #[.int .i64 a0_0, .int .i64 a0_1, .slice A0_2 l0_2.length c0_2], .string a1] w fun e w' => e = .returned (.bool r) ∧ Below w.heap.size w w' := by
  have hu52 := Try.underlying52
  have hu36 := Try.underlying36
  have HR0_2 := Aside0.mk hr0_2
  have HC0_2 := Aside0.mk hc0_2
  clear hr0_2 hc0_2
  have HB := Aside0.mk (Below.refl w.heap.size w)
  have H : (if (a1.size : Int) > 1048576 then (some true) else ((laws_szPeeled.f a0_0 a0_1 l0_2 1048576).bind fun t692 => (if t692 < 0 then (some true) else ((laws_toPeeled.f k a0_0 a0_1 l0_2).bind fun bt693 => ((spec_PeeledIndex.f k bt693.1 bt693.2.1 bt693.2.2 a1).bind fun bt698 => ((laws_toPeeled.f k a0_0 a0_1 l0_2).bind fun bt700 => ((impl_PeeledIndex.f k bt700.1 bt700.2.1 bt700.2.2 a1).bind fun bt706 => (if bt706.1 = bt698.1 then (if (bt706.2 != bt698.2) = true then (none) else ((laws_toPeeled.f k a0_0 a0_1 l0_2).bind fun bt708 => ((laws_eqPeeled.f k bt700.1 bt700.2.1 bt700.2.2 bt708.1 bt708.2.1 bt708.2.2).bind fun t713 => (if t713 = true then (some true) else (none))))) else (none))))))))) = some r := h
  clear h
  by_cases c3 : (a1.size : Int) > 1048576
  ·rw [if_pos c3] at H
   have c3b0 : decide (1048576 < (a1.size : Int)) = true := decide_eq_true c3
   have c3b1 : decide (1048576 < a1.size) = true := decide_eq_true (by omega)
   clear c3
   obtain rfl := Option.some.inj H
   go_enter Try.func10, Try.ntmps10
   go_wp2_with (first | ((with_reducible refine gate_dst (N := 2) rfl ?_); refine box_event ?hg (N := 2) ?hd (cs := #[.int .i64 a0_0, .int .i64 a0_1, .slice A0_2 l0_2.length c0_2]) (t := 52) ?hr ?_; (case hd => rfl); (case hg => rfl); (case hr => first | (go_simp; done) | (go_simp; rfl)); intro gb691 hg w4 hbox hb; have n0_ := Aside0.mk (below_step (by repeat (first | (with_reducible first | exact HB.out | apply below_alloc | apply pw_below_drewN | apply below_drew1) | exact HB.out)) hb); have n1_ := Aside0.mk (hbox); have n2_ := Aside0.mk ((by rw [hg]; exact (below_size (by repeat (first | (with_reducible first | exact HB.out | apply below_alloc | apply pw_below_drewN | apply below_drew1) | exact HB.out))) : w.heap.size ≤ gb691)); have n3_ := Aside0.mk ((by rw [hg]; exact (below_size (by repeat (first | (with_reducible first | exact HB.out | apply below_alloc | apply pw_below_drewN | apply below_drew1) | exact HB.out))) : w.heap.size ≤ gb691)); clear HB; have HB := n0_; have BK691 := n1_; have GW691 := n2_; have GE691 := n3_; clear n0_ n1_ n2_ n3_; clear hb hbox hg))
   go_ret
   exact ⟨by first | rfl | (simp [errW_none, errW_some] <;> rfl) | (simp [*, errW_none, errW_some] <;> rfl), by repeat (first | (with_reducible first | exact HB.out | apply below_alloc | apply pw_below_drewN | apply below_drew1 | refine below_set ?_ GE691.out) | exact HB.out)⟩
  ·rw [if_neg c3] at H
   have c3b0 : decide (1048576 < (a1.size : Int)) = false := decide_eq_false c3
   have c3b1 : decide (1048576 < a1.size) = false := decide_eq_false (by omega)
   clear c3
   replace H := Option.bind_eq_some_iff.mp H
   obtain ⟨t692, A50, H⟩ := H
   replace H : (if t692 < 0 then (some true) else ((laws_toPeeled.f k a0_0 a0_1 l0_2).bind fun bt693 => ((spec_PeeledIndex.f k bt693.1 bt693.2.1 bt693.2.2 a1).bind fun bt698 => ((laws_toPeeled.f k a0_0 a0_1 l0_2).bind fun bt700 => ((impl_PeeledIndex.f k bt700.1 bt700.2.1 bt700.2.2 a1).bind fun bt706 => (if bt706.1 = bt698.1 then (if (bt706.2 != bt698.2) = true then (none) else ((laws_toPeeled.f k a0_0 a0_1 l0_2).bind fun bt708 => ((laws_eqPeeled.f k bt700.1 bt700.2.1 bt700.2.2 bt708.1 bt708.2.1 bt708.2.2).bind fun t713 => (if t713 = true then (some true) else (none))))) else (none))))))) = some r := H
   have A5 := Aside0.mk A50
   clear A50
   by_cases c6 : t692 < 0
   ·rw [if_pos c6] at H
    have c6b0 : decide (t692 < 0) = true := decide_eq_true c6
    clear c6
    obtain rfl := Option.some.inj H
    go_enter Try.func10, Try.ntmps10
    go_wp2_with (first | ((with_reducible refine gate_dst (N := 2) rfl ?_); refine box_event ?hg (N := 2) ?hd (cs := #[.int .i64 a0_0, .int .i64 a0_1, .slice A0_2 l0_2.length c0_2]) (t := 52) ?hr ?_; (case hd => rfl); (case hg => rfl); (case hr => first | (go_simp; done) | (go_simp; rfl)); intro gb691 hg w7 hbox hb; have n0_ := Aside0.mk (below_step (by repeat (first | (with_reducible first | exact HB.out | apply below_alloc | apply pw_below_drewN | apply below_drew1) | exact HB.out)) hb); have n1_ := Aside0.mk (hbox); have n2_ := Aside0.mk ((by rw [hg]; exact (below_size (by repeat (first | (with_reducible first | exact HB.out | apply below_alloc | apply pw_below_drewN | apply below_drew1) | exact HB.out))) : w.heap.size ≤ gb691)); have n3_ := Aside0.mk ((by rw [hg]; exact (below_size (by repeat (first | (with_reducible first | exact HB.out | apply below_alloc | apply pw_below_drewN | apply below_drew1) | exact HB.out))) : w.heap.size ≤ gb691)); clear HB; have HB := n0_; have BK691 := n1_; have GW691 := n2_; have GE691 := n3_; clear n0_ n1_ n2_ n3_; clear hb hbox hg; have hcz8_0 : w7.cell? ⟨gb691, 0, none⟩ = some (.int .i64 a0_0) := (blk_cell BK691.out 0).trans rfl; have hcz8_1 : w7.cell? ⟨gb691, 1, none⟩ = some (.int .i64 a0_1) := (blk_cell BK691.out 1).trans rfl; have hcz8_2 : w7.cell? ⟨gb691, 2, none⟩ = some (.slice A0_2 l0_2.length c0_2) := (blk_cell BK691.out 2).trans rfl; have hfz8_0 := blk_frozen BK691.out 0; have hfz8_1 := blk_frozen BK691.out 1; have hfz8_2 := blk_frozen BK691.out 2) | ((with_reducible refine gate_callee (f := 34) rfl ?_); refine goesL_ (some 16) rfl rfl Try.func34 (by kernel_rfl) rfl #[.agg #[.int .i64 a0_0, .int .i64 a0_1, .slice A0_2 l0_2.length c0_2], .int .i64 1048576] rfl (by (try simp only [List.map_toArray, List.map_cons, List.map_nil]); first | done | rfl | (simp only [List.length_drop, List.length_take]; rfl)) ?_; (with_reducible refine (laws_szPeeled.calls a0_0 a0_1 _ _ l0_2 1048576 t692 _ ?side1 ?side2 A5.out).mono ?_); (case side1 => repeat (first | exact (Kd.C_below HR0_2.out HB.out) | (with_reducible refine Kd.C_alloc ?_ _) | (with_reducible refine Kd.C_drewN ?_ _) | (with_reducible refine Kd.C_drew ?_))); (case side2 => exact HC0_2.out); rintro e w9 ⟨rfl, hb⟩; refine ⟨_, rfl, ?_⟩; have n0_ := Aside0.mk (blk_below (g := gb691) (o := .cells #[.int .i64 a0_0, .int .i64 a0_1, .slice A0_2 l0_2.length c0_2] 52 (0, 0)) (by (with_reducible repeat (first | refine blk_drewN ?_ _ | refine blk_drew ?_ | refine blk_alloc ?_ _)); exact BK691.out) hb); have n1_ := Aside0.mk (below_step (by repeat (first | (with_reducible first | exact HB.out | apply below_alloc | apply pw_below_drewN | apply below_drew1 | refine below_set ?_ GE691.out) | exact HB.out)) hb); clear BK691; clear HB; have BK691 := n0_; have HB := n1_; clear n0_ n1_; (try clear hb); (try clear hb2); (try clear hk); (try clear hi)))
    go_ret
    exact ⟨by first | rfl | (simp [errW_none, errW_some] <;> rfl) | (simp [*, errW_none, errW_some] <;> rfl), by repeat (first | (with_reducible first | exact HB.out | apply below_alloc | apply pw_below_drewN | apply below_drew1 | refine below_set ?_ GE691.out) | exact HB.out)⟩
   ·rw [if_neg c6] at H
    have c6b0 : decide (t692 < 0) = false := decide_eq_false c6
    clear c6
    replace H := Option.bind_eq_some_iff.mp H
    obtain ⟨⟨t693, t694, t695⟩, A100, H⟩ := H
    replace H : ((spec_PeeledIndex.f k t693 t694 t695 a1).bind fun bt698 => ((laws_toPeeled.f k a0_0 a0_1 l0_2).bind fun bt700 => ((impl_PeeledIndex.f k bt700.1 bt700.2.1 bt700.2.2 a1).bind fun bt706 => (if bt706.1 = bt698.1 then (if (bt706.2 != bt698.2) = true then (none) else ((laws_toPeeled.f k a0_0 a0_1 l0_2).bind fun bt708 => ((laws_eqPeeled.f k bt700.1 bt700.2.1 bt700.2.2 bt708.1 bt708.2.1 bt708.2.2).bind fun t713 => (if t713 = true then (some true) else (none))))) else (none))))) = some r := H
    have A10 := Aside0.mk A100
    clear A100
    replace H := Option.bind_eq_some_iff.mp H
    obtain ⟨⟨t698, t699⟩, A110, H⟩ := H
    replace H : ((laws_toPeeled.f k a0_0 a0_1 l0_2).bind fun bt700 => ((impl_PeeledIndex.f k bt700.1 bt700.2.1 bt700.2.2 a1).bind fun bt706 => (if bt706.1 = t698 then (if (bt706.2 != t699) = true then (none) else ((laws_toPeeled.f k a0_0 a0_1 l0_2).bind fun bt708 => ((laws_eqPeeled.f k bt700.1 bt700.2.1 bt700.2.2 bt708.1 bt708.2.1 bt708.2.2).bind fun t713 => (if t713 = true then (some true) else (none))))) else (none)))) = some r := H
    have A11 := Aside0.mk A110
    clear A110
    replace H := Option.bind_eq_some_iff.mp H
    obtain ⟨⟨t700, t701, t702⟩, A120, H⟩ := H
    replace H : ((impl_PeeledIndex.f k t700 t701 t702 a1).bind fun bt706 => (if bt706.1 = t698 then (if (bt706.2 != t699) = true then (none) else ((laws_toPeeled.f k a0_0 a0_1 l0_2).bind fun bt708 => ((laws_eqPeeled.f k t700 t701 t702 bt708.1 bt708.2.1 bt708.2.2).bind fun t713 => (if t713 = true then (some true) else (none))))) else (none))) = some r := H
    have A12 := Aside0.mk A120
    clear A120
    replace H := Option.bind_eq_some_iff.mp H
    obtain ⟨⟨t706, t707⟩, A130, H⟩ := H
    replace H : (if t706 = t698 then (if (t707 != t699) = true then (none) else ((laws_toPeeled.f k a0_0 a0_1 l0_2).bind fun bt708 => ((laws_eqPeeled.f k t700 t701 t702 bt708.1 bt708.2.1 bt708.2.2).bind fun t713 => (if t713 = true then (some true) else (none))))) else (none)) = some r := H
    have A13 := Aside0.mk A130
    clear A130
    by_cases c14 : t706 = t698
    ·rw [if_pos c14] at H
     have c14b0 : (t706 == t698) = true := beq_iff_eq.mpr c14
     have c14b1 : (t706 != t698) = false := bne_eq_false_iff_eq.mpr c14
     clear c14
     by_cases c15 : (t707 != t699) = true
     ·rw [if_pos c15] at H
      exact absurd H (by simp)
     ·rw [if_neg c15] at H
      have c15b0 : (t707 != t699) = false := by simpa using c15
      (try (have c15b1 : decide (t707 = t699) = true := by simpa using c15))
      (try (have c15b2 : (t707 == t699) = true := by simpa using c15))
      clear c15
      replace H := Option.bind_eq_some_iff.mp H
      obtain ⟨⟨t708, t709, t710⟩, A160, H⟩ := H
      replace H : ((laws_eqPeeled.f k t700 t701 t702 t708 t709 t710).bind fun t713 => (if t713 = true then (some true) else (none))) = some r := H
      have A16 := Aside0.mk A160
      clear A160
      replace H := Option.bind_eq_some_iff.mp H
      obtain ⟨t713, A170, H⟩ := H
      replace H : (if t713 = true then (some true) else (none)) = some r := H
      have A17 := Aside0.mk A170
      clear A170
      by_cases c18 : t713 = true
      ·subst c18
       have H1 : (some true) = some r := by rw [if_pos rfl] at H; exact H
       clear H
       have H := H1
       clear H1
       obtain rfl := Option.some.inj H
       go_enter Try.func10, Try.ntmps10
       try go_wp2_with (first | ((with_reducible refine gate_dst (N := 2) rfl ?_); refine box_event ?hg (N := 2) ?hd (cs := #[.int .i64 a0_0, .int .i64 a0_1, .slice A0_2 l0_2.length c0_2]) (t := 52) ?hr ?_; (case hd => rfl); (case hg => rfl); (case hr => first | (go_simp; done) | (go_simp; rfl)); intro gb691 hg w19 hbox hb; have n0_ := Aside0.mk (below_step (by repeat (first | (with_reducible first | exact HB.out | apply below_alloc | apply pw_below_drewN | apply below_drew1) | exact HB.out)) hb); have n1_ := Aside0.mk (hbox); have n2_ := Aside0.mk ((by rw [hg]; exact (below_size (by repeat (first | (with_reducible first | exact HB.out | apply below_alloc | apply pw_below_drewN | apply below_drew1) | exact HB.out))) : w.heap.size ≤ gb691)); have n3_ := Aside0.mk ((by rw [hg]; exact (below_size (by repeat (first | (with_reducible first | exact HB.out | apply below_alloc | apply pw_below_drewN | apply below_drew1) | exact HB.out))) : w.heap.size ≤ gb691)); clear HB; have HB := n0_; have BK691 := n1_; have GW691 := n2_; have GE691 := n3_; clear n0_ n1_ n2_ n3_; clear hb hbox hg; have hcz20_0 : w19.cell? ⟨gb691, 0, none⟩ = some (.int .i64 a0_0) := (blk_cell BK691.out 0).trans rfl; have hcz20_1 : w19.cell? ⟨gb691, 1, none⟩ = some (.int .i64 a0_1) := (blk_cell BK691.out 1).trans rfl; have hcz20_2 : w19.cell? ⟨gb691, 2, none⟩ = some (.slice A0_2 l0_2.length c0_2) := (blk_cell BK691.out 2).trans rfl; have hfz20_0 := blk_frozen BK691.out 0; have hfz20_1 := blk_frozen BK691.out 1; have hfz20_2 := blk_frozen BK691.out 2) | ((with_reducible refine gate_callee (f := 34) rfl ?_); refine goesL_ (some 16) rfl rfl Try.func34 (by kernel_rfl) rfl #[.agg #[.int .i64 a0_0, .int .i64 a0_1, .slice A0_2 l0_2.length c0_2], .int .i64 1048576] rfl (by (try simp only [List.map_toArray, List.map_cons, List.map_nil]); first | done | rfl | (simp only [List.length_drop, List.length_take]; rfl)) ?_; (with_reducible refine (laws_szPeeled.calls a0_0 a0_1 _ _ l0_2 1048576 t692 _ ?side1 ?side2 A5.out).mono ?_); (case side1 => repeat (first | exact (Kd.C_below HR0_2.out HB.out) | (with_reducible refine Kd.C_alloc ?_ _) | (with_reducible refine Kd.C_drewN ?_ _) | (with_reducible refine Kd.C_drew ?_))); (case side2 => exact HC0_2.out); rintro e w21 ⟨rfl, hb⟩; refine ⟨_, rfl, ?_⟩; have n0_ := Aside0.mk (blk_below (g := gb691) (o := .cells #[.int .i64 a0_0, .int .i64 a0_1, .slice A0_2 l0_2.length c0_2] 52 (0, 0)) (by (with_reducible repeat (first | refine blk_drewN ?_ _ | refine blk_drew ?_ | refine blk_alloc ?_ _)); exact BK691.out) hb); have n1_ := Aside0.mk (below_step (by repeat (first | (with_reducible first | exact HB.out | apply below_alloc | apply pw_below_drewN | apply below_drew1 | refine below_set ?_ GE691.out) | exact HB.out)) hb); clear BK691; clear HB; have BK691 := n0_; have HB := n1_; clear n0_ n1_; (try clear hb); (try clear hb2); (try clear hk); (try clear hi); have hcz22_0 : w21.cell? ⟨gb691, 0, none⟩ = some (.int .i64 a0_0) := (blk_cell BK691.out 0).trans rfl; have hcz22_1 : w21.cell? ⟨gb691, 1, none⟩ = some (.int .i64 a0_1) := (blk_cell BK691.out 1).trans rfl; have hcz22_2 : w21.cell? ⟨gb691, 2, none⟩ = some (.slice A0_2 l0_2.length c0_2) := (blk_cell BK691.out 2).trans rfl; have hfz22_0 := blk_frozen BK691.out 0; have hfz22_1 := blk_frozen BK691.out 1; have hfz22_2 := blk_frozen BK691.out 2) | ((with_reducible refine gate_callee (f := 36) rfl ?_); refine goesL_ (some 21) rfl rfl Try.func36 (by kernel_rfl) rfl #[.agg #[.int .i64 a0_0, .int .i64 a0_1, .slice A0_2 l0_2.length c0_2]] rfl (by (try simp only [List.map_toArray, List.map_cons, List.map_nil]); first | done | rfl | (simp only [List.length_drop, List.length_take]; rfl)) ?_; (with_reducible refine (laws_toPeeled.calls k a0_0 a0_1 _ _ l0_2 t693 t694 t695 _ ?side1 ?side2 A10.out).mono ?_); (case side1 => repeat (first | exact (Kd.C_below HR0_2.out HB.out) | (with_reducible refine Kd.C_alloc ?_ _) | (with_reducible refine Kd.C_drewN ?_ _) | (with_reducible refine Kd.C_drew ?_))); (case side2 => exact HC0_2.out); rintro e w23 ⟨v696, rfl, ho0, hb⟩; refine ⟨_, rfl, ?_⟩; have n0_ := Aside0.mk (Kd.R_lower ho0 (below_size (by repeat (first | (with_reducible first | exact HB.out | apply below_alloc | apply pw_below_drewN | apply below_drew1 | refine below_set ?_ GE691.out) | exact HB.out)))); have n1_ := Aside0.mk (blk_below (g := gb691) (o := .cells #[.int .i64 a0_0, .int .i64 a0_1, .slice A0_2 l0_2.length c0_2] 52 (0, 0)) (by (with_reducible repeat (first | refine blk_drewN ?_ _ | refine blk_drew ?_ | refine blk_alloc ?_ _)); exact BK691.out) hb); have n2_ := Aside0.mk (below_step (by repeat (first | (with_reducible first | exact HB.out | apply below_alloc | apply pw_below_drewN | apply below_drew1 | refine below_set ?_ GE691.out) | exact HB.out)) hb); clear BK691; clear HB; have HO697 := n0_; have BK691 := n1_; have HB := n2_; clear n0_ n1_ n2_; (try clear hb); (try clear hb2); (try clear hk); (try clear hi); (try clear ho0); obtain ⟨Ao24, co24, eo24⟩ := Kd.R_slice HO697.out; subst eo24) | ((with_reducible refine gate_callee (f := 52) rfl ?_); refine goesL_ (some 23) rfl rfl Try.func52 (by kernel_rfl) rfl #[.agg #[.int .i64 t693, .int .i64 t694, .slice Ao24 t695.length co24], .string a1] rfl (by (try simp only [List.map_toArray, List.map_cons, List.map_nil]); first | done | rfl | (simp only [List.length_drop, List.length_take]; rfl)) ?_; (with_reducible refine (spec_PeeledIndex.calls k t693 t694 _ _ t695 a1 t698 t699 _ ?side1 ?side2 A11.out).mono ?_); (case side1 => repeat (first | exact (Kd.R_reads' HO697.out).2.2 | (with_reducible refine Kd.C_alloc ?_ _) | (with_reducible refine Kd.C_drewN ?_ _) | (with_reducible refine Kd.C_drew ?_))); (case side2 => exact (Kd.R_reads' HO697.out).2.1); rintro e w25 ⟨rfl, hb⟩; refine ⟨_, rfl, ?_⟩; have n0_ := Aside0.mk (Kd.R_below (by (with_reducible repeat (first | apply Kd.R_alloc | apply Kd.R_drewN | apply Kd.R_drew)); exact HO697.out) hb); have n1_ := Aside0.mk (blk_below (g := gb691) (o := .cells #[.int .i64 a0_0, .int .i64 a0_1, .slice A0_2 l0_2.length c0_2] 52 (0, 0)) (by (with_reducible repeat (first | refine blk_drewN ?_ _ | refine blk_drew ?_ | refine blk_alloc ?_ _)); exact BK691.out) hb); have n2_ := Aside0.mk (below_step (by repeat (first | (with_reducible first | exact HB.out | apply below_alloc | apply pw_below_drewN | apply below_drew1 | refine below_set ?_ GE691.out) | exact HB.out)) hb); clear HO697; clear BK691; clear HB; have HO697 := n0_; have BK691 := n1_; have HB := n2_; clear n0_ n1_ n2_; (try clear hb); (try clear hb2); (try clear hk); (try clear hi); have hcz26_0 : w25.cell? ⟨gb691, 0, none⟩ = some (.int .i64 a0_0) := (blk_cell BK691.out 0).trans rfl; have hcz26_1 : w25.cell? ⟨gb691, 1, none⟩ = some (.int .i64 a0_1) := (blk_cell BK691.out 1).trans rfl; have hcz26_2 : w25.cell? ⟨gb691, 2, none⟩ = some (.slice A0_2 l0_2.length c0_2) := (blk_cell BK691.out 2).trans rfl; have hfz26_0 := blk_frozen BK691.out 0; have hfz26_1 := blk_frozen BK691.out 1; have hfz26_2 := blk_frozen BK691.out 2) | ((with_reducible refine gate_callee (f := 36) rfl ?_); refine goesL_ (some 27) rfl rfl Try.func36 (by kernel_rfl) rfl #[.agg #[.int .i64 a0_0, .int .i64 a0_1, .slice A0_2 l0_2.length c0_2]] rfl (by (try simp only [List.map_toArray, List.map_cons, List.map_nil]); first | done | rfl | (simp only [List.length_drop, List.length_take]; rfl)) ?_; (with_reducible refine (laws_toPeeled.calls k a0_0 a0_1 _ _ l0_2 t700 t701 t702 _ ?side1 ?side2 A12.out).mono ?_); (case side1 => repeat (first | exact (Kd.C_below HR0_2.out HB.out) | (with_reducible refine Kd.C_alloc ?_ _) | (with_reducible refine Kd.C_drewN ?_ _) | (with_reducible refine Kd.C_drew ?_))); (case side2 => exact HC0_2.out); rintro e w27 ⟨v703, rfl, ho0, hb⟩; refine ⟨_, rfl, ?_⟩; have n0_ := Aside0.mk (Kd.R_elder' (by (with_reducible repeat (first | apply Kd.R_alloc | apply Kd.R_drewN | apply Kd.R_drew)); exact HO697.out) (Kd.R_base ho0) hb); have n1_ := Aside0.mk (Kd.R_lower (Kd.R_new' ho0 (Kd.R_lt (by (with_reducible repeat (first | apply Kd.R_alloc | apply Kd.R_drewN | apply Kd.R_drew)); exact HO697.out))) (below_size (by repeat (first | (with_reducible first | exact HB.out | apply below_alloc | apply pw_below_drewN | apply below_drew1 | refine below_set ?_ GE691.out) | exact HB.out)))); have n2_ := Aside0.mk (blk_below (g := gb691) (o := .cells #[.int .i64 a0_0, .int .i64 a0_1, .slice A0_2 l0_2.length c0_2] 52 (0, 0)) (by (with_reducible repeat (first | refine blk_drewN ?_ _ | refine blk_drew ?_ | refine blk_alloc ?_ _)); exact BK691.out) hb); have n3_ := Aside0.mk (below_step (by repeat (first | (with_reducible first | exact HB.out | apply below_alloc | apply pw_below_drewN | apply below_drew1 | refine below_set ?_ GE691.out) | exact HB.out)) hb); clear HO697; clear BK691; clear HB; have HO697 := n0_; have HO704 := n1_; have BK691 := n2_; have HB := n3_; clear n0_ n1_ n2_ n3_; (try clear hb); (try clear hb2); (try clear hk); (try clear hi); (try clear ho0)) | ((with_reducible refine gate_dst (N := 8) rfl ?_); refine box_event ?hg (N := 8) ?hd (cs := #[.int .i64 0, .int .i64 0, .slice none 0 0]) (t := 36) ?hr ?_; (case hd => rfl); (case hg => rfl); (case hr => first | (go_simp; done) | (go_simp; rfl)); intro gb705 hg w28 hbox hb; have n0_ := Aside0.mk (Kd.R_below (by (with_reducible repeat (first | apply Kd.R_alloc | apply Kd.R_drewN | apply Kd.R_drew)); exact HO697.out) hb); have n1_ := Aside0.mk (Kd.R_below (by (with_reducible repeat (first | apply Kd.R_alloc | apply Kd.R_drewN | apply Kd.R_drew)); exact HO704.out) hb); have n2_ := Aside0.mk (blk_below (g := gb691) (o := .cells #[.int .i64 a0_0, .int .i64 a0_1, .slice A0_2 l0_2.length c0_2] 52 (0, 0)) (by (with_reducible repeat (first | refine blk_drewN ?_ _ | refine blk_drew ?_ | refine blk_alloc ?_ _)); exact BK691.out) hb); have n3_ := Aside0.mk (below_step (by repeat (first | (with_reducible first | exact HB.out | apply below_alloc | apply pw_below_drewN | apply below_drew1 | refine below_set ?_ GE691.out) | exact HB.out)) hb); have n4_ := Aside0.mk (hbox); have n5_ := Aside0.mk ((by rw [hg]; exact (below_size (by repeat (first | (with_reducible first | exact HB.out | apply below_alloc | apply pw_below_drewN | apply below_drew1 | refine below_set ?_ GE691.out) | exact HB.out))) : w.heap.size ≤ gb705)); have n6_ := Aside0.mk ((by rw [hg]; exact (below_size (by repeat (first | (with_reducible first | exact HB.out | apply below_alloc | apply pw_below_drewN | apply below_drew1 | refine below_set ?_ GE691.out) | exact HB.out))) : w.heap.size ≤ gb705)); have n7_ := Aside0.mk ((by rw [hg]; exact Nat.ne_of_lt (blk_lt (g := gb691) (o := .cells #[.int .i64 a0_0, .int .i64 a0_1, .slice A0_2 l0_2.length c0_2] 52 (0, 0)) (by (with_reducible repeat (first | refine blk_drewN ?_ _ | refine blk_drew ?_ | refine blk_alloc ?_ _)); exact BK691.out)) : gb691 ≠ gb705)); have n8_ := Aside0.mk ((by rw [hg]; exact Nat.ne_of_gt (blk_lt (g := gb691) (o := .cells #[.int .i64 a0_0, .int .i64 a0_1, .slice A0_2 l0_2.length c0_2] 52 (0, 0)) (by (with_reducible repeat (first | refine blk_drewN ?_ _ | refine blk_drew ?_ | refine blk_alloc ?_ _)); exact BK691.out)) : gb705 ≠ gb691)); clear HO697; clear HO704; clear BK691; clear HB; have HO697 := n0_; have HO704 := n1_; have BK691 := n2_; have HB := n3_; have BK705 := n4_; have GW705 := n5_; have GE705 := n6_; have NB691_705 := n7_; have NB705_691 := n8_; clear n0_ n1_ n2_ n3_ n4_ n5_ n6_ n7_ n8_; clear hb hbox hg; have hnb29 := NB705_691.out; have hnc29 := NB691_705.out; have hcz30_0 : w28.cell? ⟨gb705, 0, none⟩ = some (.int .i64 0) := (blk_cell BK705.out 0).trans rfl; have hcz30_1 : w28.cell? ⟨gb705, 1, none⟩ = some (.int .i64 0) := (blk_cell BK705.out 1).trans rfl; have hcz30_2 : w28.cell? ⟨gb705, 2, none⟩ = some (.slice none 0 0) := (blk_cell BK705.out 2).trans rfl; have hfz30_0 := blk_frozen BK705.out 0; have hfz30_1 := blk_frozen BK705.out 1; have hfz30_2 := blk_frozen BK705.out 2; obtain ⟨Ao31, co31, eo31⟩ := Kd.R_slice HO704.out; subst eo31) | ((with_reducible refine gate_callee (f := 53) rfl ?_); refine goesL_ (some 31) rfl rfl Try.func53 (by kernel_rfl) rfl #[.agg #[.int .i64 t700, .int .i64 t701, .slice Ao31 t702.length co31], .string a1] rfl (by (try simp only [List.map_toArray, List.map_cons, List.map_nil]); first | done | rfl | (simp only [List.length_drop, List.length_take]; rfl)) ?_; (with_reducible refine (impl_PeeledIndex.calls k t700 t701 _ _ t702 a1 t706 t707 _ ?side1 ?side2 A13.out).mono ?_); (case side1 => refine (Kd.R_reads' (e := 3) (base := w.heap.size) (ok := fun k_ => (True ∧ some k_ ≠ (.slice Ao24 t695.length co24 : Value).ownBlock)) (n := t702.length) (c := co31) ?_).2.2; exact (by (with_reducible repeat (first | apply Kd.R_alloc | apply Kd.R_drewN | apply Kd.R_drew)); exact (Kd.R_mono (Kd.R_far (p := ⟨gb705, 2, none⟩) (Kd.R_far (p := ⟨gb705, 1, none⟩) (Kd.R_far (p := ⟨gb705, 0, none⟩) (Kd.R_types HO704.out BK705.out (by decide)) (fun _ hk => hk.2) (.int .i64 t700)) (fun _ hk => hk.2) (.int .i64 t701)) (fun _ hk => hk.2) (.slice Ao31 t702.length co31)) (fun _ h_ => h_.1)))); (case side2 => exact (Kd.R_reads' HO704.out).2.1); rintro e w32 ⟨rfl, hb⟩; refine ⟨_, rfl, ?_⟩; have n0_ := Aside0.mk (Kd.R_below (by (with_reducible repeat (first | apply Kd.R_alloc | apply Kd.R_drewN | apply Kd.R_drew)); exact (Kd.R_mono (Kd.R_far (p := ⟨gb705, 2, none⟩) (Kd.R_far (p := ⟨gb705, 1, none⟩) (Kd.R_far (p := ⟨gb705, 0, none⟩) (Kd.R_types HO697.out BK705.out (by decide)) (fun _ hk => hk.2) (.int .i64 t700)) (fun _ hk => hk.2) (.int .i64 t701)) (fun _ hk => hk.2) (.slice Ao31 t702.length co31)) (fun _ h_ => h_.1))) hb); have n1_ := Aside0.mk (Kd.R_below (by (with_reducible repeat (first | apply Kd.R_alloc | apply Kd.R_drewN | apply Kd.R_drew)); exact (Kd.R_mono (Kd.R_far (p := ⟨gb705, 2, none⟩) (Kd.R_far (p := ⟨gb705, 1, none⟩) (Kd.R_far (p := ⟨gb705, 0, none⟩) (Kd.R_types HO704.out BK705.out (by decide)) (fun _ hk => hk.2) (.int .i64 t700)) (fun _ hk => hk.2) (.int .i64 t701)) (fun _ hk => hk.2) (.slice Ao31 t702.length co31)) (fun _ h_ => h_.1))) hb); have n2_ := Aside0.mk (blk_below (g := gb691) (o := .cells #[.int .i64 a0_0, .int .i64 a0_1, .slice A0_2 l0_2.length c0_2] 52 (0, 0)) (by (with_reducible repeat (first | refine blk_drewN ?_ _ | refine blk_drew ?_ | refine blk_alloc ?_ _)); refine blk_far ?_ NB691_705.out _; (with_reducible repeat (first | refine blk_drewN ?_ _ | refine blk_drew ?_ | refine blk_alloc ?_ _)); refine blk_far ?_ NB691_705.out _; (with_reducible repeat (first | refine blk_drewN ?_ _ | refine blk_drew ?_ | refine blk_alloc ?_ _)); refine blk_far ?_ NB691_705.out _; (with_reducible repeat (first | refine blk_drewN ?_ _ | refine blk_drew ?_ | refine blk_alloc ?_ _)); exact BK691.out) hb); have n3_ := Aside0.mk (blk_below (g := gb705) (o := .cells #[.int .i64 t700, .int .i64 t701, .slice Ao31 t702.length co31] 36 (0, 0)) (by (with_reducible repeat (first | refine blk_drewN ?_ _ | refine blk_drew ?_ | refine blk_alloc ?_ _)); refine blk_put (cs := #[.int .i64 t700, .int .i64 t701, .slice none 0 0]) ?_ 2 _ rfl; (with_reducible repeat (first | refine blk_drewN ?_ _ | refine blk_drew ?_ | refine blk_alloc ?_ _)); refine blk_put (cs := #[.int .i64 t700, .int .i64 0, .slice none 0 0]) ?_ 1 _ rfl; (with_reducible repeat (first | refine blk_drewN ?_ _ | refine blk_drew ?_ | refine blk_alloc ?_ _)); refine blk_put (cs := #[.int .i64 0, .int .i64 0, .slice none 0 0]) ?_ 0 _ rfl; (with_reducible repeat (first | refine blk_drewN ?_ _ | refine blk_drew ?_ | refine blk_alloc ?_ _)); exact BK705.out) hb); have n4_ := Aside0.mk (below_step (by repeat (first | (with_reducible first | exact HB.out | apply below_alloc | apply pw_below_drewN | apply below_drew1 | refine below_set ?_ GE691.out | refine below_set ?_ GE705.out) | exact HB.out)) hb); clear HO697; clear HO704; clear BK691; clear BK705; clear HB; have HO697 := n0_; have HO704 := n1_; have BK691 := n2_; have BK705 := n3_; have HB := n4_; clear n0_ n1_ n2_ n3_ n4_; (try clear hb); (try clear hb2); (try clear hk); (try clear hi)))
       have n0_ := Aside0.mk (Kd.R_drew HO697.out)
       have n1_ := Aside0.mk (Kd.R_drew HO704.out)
       have n2_ := Aside0.mk (blk_drew BK691.out)
       have n3_ := Aside0.mk (blk_drew BK705.out)
       have n4_ := Aside0.mk (below_drew1 HB.out)
       clear HO697
       clear HO704
       clear BK691
       clear BK705
       clear HB
       have HO697 := n0_
       have HO704 := n1_
       have BK691 := n2_
       have BK705 := n3_
       have HB := n4_
       clear n0_ n1_ n2_ n3_ n4_
       refine start_ (n := 5) (S := fun w' => w'.cell? ⟨gb705, 0, none⟩ = some (.int .i64 t700) ∧ w'.cell? ⟨gb705, 1, none⟩ = some (.int .i64 t701) ∧ w'.cell? ⟨gb705, 2, none⟩ = some (.slice Ao31 t702.length co31) ∧ w'.cell? ⟨gb691, 0, none⟩ = some (.int .i64 a0_0) ∧ w'.cell? ⟨gb691, 1, none⟩ = some (.int .i64 a0_1) ∧ w'.cell? ⟨gb691, 2, none⟩ = some (.slice A0_2 l0_2.length c0_2)) (ds := []) #[false, false, false, false, false] (by kernel_rfl) rfl rfl ⟨(blk_cell BK705.out 0).trans rfl, (blk_cell BK705.out 1).trans rfl, (blk_cell BK705.out 2).trans rfl, (blk_cell BK691.out 0).trans rfl, (blk_cell BK691.out 1).trans rfl, (blk_cell BK691.out 2).trans rfl⟩ (fun hHeld => ?_)
       generalize w32.drew = w33 at HO697 HO704 BK691 BK705 HB hHeld ⊢
       refine take_ (i := 0) (N := some 42) (v := ?_) (a' := ?_) #[true, false, false, false, false] rfl rfl (by kernel_rfl) (fun _ _ _ h => h) (Or.inl ⟨by rfl, ?_⟩) hHeld ?_ ?_
       rotate_left
       ·rintro w' ⟨s0, s1, s2, s3, s4, s5⟩
        go_simp
        with_reducible rfl
       rotate_left
       ·simp only [Act.put, List.setIfInBounds_toArray, List.set_cons_zero, List.set_cons_succ, i64_w]
        rfl
       refine take_ (i := 1) (N := some 43) (v := ?_) (a' := ?_) #[true, true, false, false, false] rfl rfl (by kernel_rfl) (fun _ _ _ h => h) (Or.inl ⟨by rfl, ?_⟩) hHeld ?_ ?_
       rotate_left
       ·rintro w' ⟨s0, s1, s2, s3, s4, s5⟩
        go_simp
        with_reducible rfl
       rotate_left
       ·simp only [Act.put, List.setIfInBounds_toArray, List.set_cons_zero, List.set_cons_succ, i64_w]
        rfl
       refine one_ (i := 2) (N := some 44) #[true, true, true, false, false] rfl rfl (by kernel_rfl) (by decide) (fun K hK => ?_)
       refine goes_ Try.func36 (by kernel_rfl) rfl #[.agg #[.int .i64 a0_0, .int .i64 a0_1, .slice A0_2 l0_2.length c0_2]] (by rfl) rfl rfl (by (try simp only [List.map_toArray, List.map_cons, List.map_nil]); first | done | rfl | (simp only [List.length_drop, List.length_take]; rfl)) ?_
       with_reducible refine (laws_toPeeled.calls k a0_0 a0_1 _ _ l0_2 t708 t709 t710 _ ?side1 ?side2 A16.out).mono ?_
       (case side1 => repeat (first | exact (Kd.C_below HR0_2.out HB.out) | (with_reducible refine Kd.C_alloc ?_ _) | (with_reducible refine Kd.C_drewN ?_ _) | (with_reducible refine Kd.C_drew ?_)))
       (case side2 => exact HC0_2.out)
       rintro e w34 ⟨v711, rfl, ho0, hb⟩
       refine ⟨_, rfl, ?_⟩
       have n0_ := Aside0.mk (Kd.R_elder' (by (with_reducible repeat (first | apply Kd.R_alloc | apply Kd.R_drewN | apply Kd.R_drew)); exact HO697.out) (Kd.R_base ho0) hb)
       have n1_ := Aside0.mk (Kd.R_elder' (by (with_reducible repeat (first | apply Kd.R_alloc | apply Kd.R_drewN | apply Kd.R_drew)); exact HO704.out) (Kd.R_base ho0) hb)
       have n2_ := Aside0.mk (Kd.R_lower (Kd.R_new' (Kd.R_new' ho0 (Kd.R_lt (by (with_reducible repeat (first | apply Kd.R_alloc | apply Kd.R_drewN | apply Kd.R_drew)); exact HO697.out))) (Kd.R_lt (by (with_reducible repeat (first | apply Kd.R_alloc | apply Kd.R_drewN | apply Kd.R_drew)); exact HO704.out))) (below_size (by repeat (first | (with_reducible first | exact HB.out | apply below_alloc | apply pw_below_drewN | apply below_drew1 | refine below_set ?_ GE691.out | refine below_set ?_ GE705.out) | exact HB.out))))
       have n3_ := Aside0.mk (blk_below (g := gb691) (o := .cells #[.int .i64 a0_0, .int .i64 a0_1, .slice A0_2 l0_2.length c0_2] 52 (0, 0)) (by (with_reducible repeat (first | refine blk_drewN ?_ _ | refine blk_drew ?_ | refine blk_alloc ?_ _)); exact BK691.out) hb)
       have n4_ := Aside0.mk (blk_below (g := gb705) (o := .cells #[.int .i64 t700, .int .i64 t701, .slice Ao31 t702.length co31] 36 (0, 0)) (by (with_reducible repeat (first | refine blk_drewN ?_ _ | refine blk_drew ?_ | refine blk_alloc ?_ _)); exact BK705.out) hb)
       have n5_ := Aside0.mk (below_step (by repeat (first | (with_reducible first | exact HB.out | apply below_alloc | apply pw_below_drewN | apply below_drew1 | refine below_set ?_ GE691.out | refine below_set ?_ GE705.out) | exact HB.out)) hb)
       clear HO697
       clear HO704
       clear BK691
       clear BK705
       clear HB
       have HO697 := n0_
       have HO704 := n1_
       have HO712 := n2_
       have BK691 := n3_
       have BK705 := n4_
       have HB := n5_
       clear n0_ n1_ n2_ n3_ n4_ n5_
       (try clear hb)
       (try clear hb2)
       (try clear hk)
       (try clear hi)
       (try clear ho0)
       obtain ⟨Ao35, co35, eo35⟩ := Kd.R_slice HO712.out
       (first | subst eo35 | (injection eo35 with f1_ f2_ f3_; have f4_ := f1_.symm; have f5_ := f3_.symm; clear f1_ f2_ f3_; subst f4_; subst f5_))
       refine hK.out _ _ ⟨(blk_cell BK705.out 0).trans rfl, (blk_cell BK705.out 1).trans rfl, (blk_cell BK705.out 2).trans rfl, (blk_cell BK691.out 0).trans rfl, (blk_cell BK691.out 1).trans rfl, (blk_cell BK691.out 2).trans rfl⟩ (fun hHeld => ?_)
       clear hK K
       refine norm_ (a' := ?_) ?_ ?_
       rotate_left
       ·show Act.put _ (some 44) _ = _
        simp only [Act.put, List.setIfInBounds_toArray, List.set_cons_zero, List.set_cons_succ, i64_w]
        rfl
       refine one_ (i := 3) (N := some 45) #[true, true, true, true, false] rfl rfl (by kernel_rfl) (by decide) (fun K hK => ?_)
       refine goes_ Try.func24 (by kernel_rfl) rfl #[.agg #[.int .i64 t700, .int .i64 t701, .slice Ao31 t702.length co31], .agg #[.int .i64 t708, .int .i64 t709, .slice Ao35 t710.length co35]] (by rfl) rfl rfl (by (try simp only [List.map_toArray, List.map_cons, List.map_nil]); first | done | rfl | (simp only [List.length_drop, List.length_take]; rfl)) ?_
       with_reducible refine (laws_eqPeeled.calls k t700 t701 _ _ t702 t708 t709 _ _ t710 true _ ?side1 ?side2 ?side3 ?side4 A17.out).mono ?_
       (case side1 => repeat (first | exact (Kd.R_reads' HO704.out).2.2 | (with_reducible refine Kd.C_alloc ?_ _) | (with_reducible refine Kd.C_drewN ?_ _) | (with_reducible refine Kd.C_drew ?_)))
       (case side2 => exact (Kd.R_reads' HO704.out).2.1)
       (case side3 => repeat (first | exact (Kd.R_reads' HO712.out).2.2 | (with_reducible refine Kd.C_alloc ?_ _) | (with_reducible refine Kd.C_drewN ?_ _) | (with_reducible refine Kd.C_drew ?_)))
       (case side4 => exact (Kd.R_reads' HO712.out).2.1)
       rintro e w36 ⟨rfl, hb⟩
       refine ⟨_, rfl, ?_⟩
       have n0_ := Aside0.mk (Kd.R_below (by (with_reducible repeat (first | apply Kd.R_alloc | apply Kd.R_drewN | apply Kd.R_drew)); exact HO697.out) hb)
       have n1_ := Aside0.mk (Kd.R_below (by (with_reducible repeat (first | apply Kd.R_alloc | apply Kd.R_drewN | apply Kd.R_drew)); exact HO704.out) hb)
       have n2_ := Aside0.mk (Kd.R_below (by (with_reducible repeat (first | apply Kd.R_alloc | apply Kd.R_drewN | apply Kd.R_drew)); exact HO712.out) hb)
       have n3_ := Aside0.mk (blk_below (g := gb691) (o := .cells #[.int .i64 a0_0, .int .i64 a0_1, .slice A0_2 l0_2.length c0_2] 52 (0, 0)) (by (with_reducible repeat (first | refine blk_drewN ?_ _ | refine blk_drew ?_ | refine blk_alloc ?_ _)); exact BK691.out) hb)
       have n4_ := Aside0.mk (blk_below (g := gb705) (o := .cells #[.int .i64 t700, .int .i64 t701, .slice Ao31 t702.length co31] 36 (0, 0)) (by (with_reducible repeat (first | refine blk_drewN ?_ _ | refine blk_drew ?_ | refine blk_alloc ?_ _)); exact BK705.out) hb)
       have n5_ := Aside0.mk (below_step (by repeat (first | (with_reducible first | exact HB.out | apply below_alloc | apply pw_below_drewN | apply below_drew1 | refine below_set ?_ GE691.out | refine below_set ?_ GE705.out) | exact HB.out)) hb)
       clear HO697
       clear HO704
       clear HO712
       clear BK691
       clear BK705
       clear HB
       have HO697 := n0_
       have HO704 := n1_
       have HO712 := n2_
       have BK691 := n3_
       have BK705 := n4_
       have HB := n5_
       clear n0_ n1_ n2_ n3_ n4_ n5_
       (try clear hb)
       (try clear hb2)
       (try clear hk)
       (try clear hi)
       refine hK.out _ _ ⟨(blk_cell BK705.out 0).trans rfl, (blk_cell BK705.out 1).trans rfl, (blk_cell BK705.out 2).trans rfl, (blk_cell BK691.out 0).trans rfl, (blk_cell BK691.out 1).trans rfl, (blk_cell BK691.out 2).trans rfl⟩ (fun hHeld => ?_)
       clear hK K
       refine norm_ (a' := ?_) ?_ ?_
       rotate_left
       ·show Act.put _ (some 45) _ = _
        simp only [Act.put, List.setIfInBounds_toArray, List.set_cons_zero, List.set_cons_succ, i64_w]
        rfl
       refine pure_ (i := 4) (N := some 46) (v := ?_) (a' := ?_) #[true, true, true, true, true] rfl rfl (by kernel_rfl) (fun _ _ _ h => h) (Or.inl ⟨by rfl, ?_⟩) ?_ ?_
       rotate_left
       ·intro w'
        go_simp
        with_reducible rfl
       rotate_left
       ·simp only [Act.put, List.setIfInBounds_toArray, List.set_cons_zero, List.set_cons_succ, i64_w]
        rfl
       refine done_ (by kernel_rfl) ?_
       try go_wp2
       go_ret
       exact ⟨by first | rfl | (simp [errW_none, errW_some] <;> rfl) | (simp [*, errW_none, errW_some] <;> rfl), by repeat (first | (with_reducible first | exact HB.out | apply below_alloc | apply pw_below_drewN | apply below_drew1 | refine below_set ?_ GE691.out | refine below_set ?_ GE705.out) | exact HB.out)⟩
      ·replace c18 := Bool.eq_false_iff.mpr c18
       subst c18
       have H1 : (none) = some r := by rw [if_neg (show ¬ (false = true) by decide)] at H; exact H
       clear H
       have H := H1
       clear H1
       exact absurd H (by simp)
    ·rw [if_neg c14] at H
     exact absurd H (by simp)

/-- What is to be shown of laws_FnExactPeeledIndex: plain. -/
def laws_FnExactPeeledIndex.Pure : Prop := ∀ (a0_0 : Int) (a0_1 : Int) (l0_2 : List Int) (a1 : ByteArray), (wfI .i64) a0_0 → (wfI .i64) a0_1 → (wfL (wfI .i64)) l0_2 → wfS a1 → ∃ k, laws_FnExactPeeledIndex.f k a0_0 a0_1 l0_2 a1 = some true
theorem laws_FnExactPeeledIndex.walk (P : laws_FnExactPeeledIndex.Pure) (a0_0 : Int) (a0_1 : Int) (A0_2 : Option Addr) (c0_2 : Nat) (l0_2 : List Int) (a1 : ByteArray) (w : World) (hr0_2 : Kd.C (Kd.int .i64) w A0_2 l0_2.length l0_2) (hc0_2 : l0_2.length ≤ c0_2) (hw0_0 : (wfI .i64) a0_0) (hw0_1 : (wfI .i64) a0_1) (hw0_2 : (wfL (wfI .i64)) l0_2) (hw1 : wfS a1) :
    Calls Try.prog 10 #[.agg #[.int .i64 a0_0, .int .i64 a0_1, .slice A0_2 l0_2.length c0_2], .string a1] w fun e w' => e = .returned (.bool true) ∧ Below w.heap.size w w' := by
  obtain ⟨k, h⟩ := P a0_0 a0_1 l0_2 a1 hw0_0 hw0_1 hw0_2 hw1
  refine (laws_FnExactPeeledIndex.calls k a0_0 a0_1 A0_2 c0_2 l0_2 a1 true w hr0_2 hc0_2 h).mono ?_
  rintro e w' ⟨rfl, hd⟩
  exact ⟨rfl, hd⟩
end Go.Proofs.Ytioncjcmfbndmaa.X
