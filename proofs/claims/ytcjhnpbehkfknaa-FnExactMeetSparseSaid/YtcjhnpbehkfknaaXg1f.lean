/- Written by a program of this session: what functions of the given program compute, and that their calls do so. -/
import Derived.Test.YtcjhnpbehkfknaaXx0
import Derived.Test.YtcjhnpbehkfknaaXg1e
import Derived.Test.YtcjhnpbehkfknaaXs
namespace Go.Proofs.Ytcjhnpbehkfknaa.X
open Go.RowKit Go.Proofs.YtcjhnpbehkfknaaW.PrintWords Go.Proofs.YtcjhnpbehkfknaaW.PrintLast Go.Proofs.YtcjhnpbehkfknaaW.PrintMore
theorem cellsQ2_g1f {w : World} {g : Nat} {t : TypeId} {a0 a1 : Value} (k : w.heap[g]? = some (.cells #[a0, a1] t (0, 0))) : w.cell? ⟨g, 0, none⟩ = some a0 ∧ w.cell? ⟨g, 1, none⟩ = some a1 ∧ w.frozen? ⟨g, 0, none⟩ = false ∧ w.frozen? ⟨g, 1, none⟩ = false := ⟨(blk_cell k 0).trans rfl, (blk_cell k 1).trans rfl, blk_frozen k 0, blk_frozen k 1⟩
theorem cellsQ7_g1f {w : World} {g : Nat} {t : TypeId} {a0 a1 a2 a3 a4 a5 a6 : Value} (k : w.heap[g]? = some (.cells #[a0, a1, a2, a3, a4, a5, a6] t (0, 0))) : w.cell? ⟨g, 0, none⟩ = some a0 ∧ w.cell? ⟨g, 1, none⟩ = some a1 ∧ w.cell? ⟨g, 2, none⟩ = some a2 ∧ w.cell? ⟨g, 3, none⟩ = some a3 ∧ w.cell? ⟨g, 4, none⟩ = some a4 ∧ w.cell? ⟨g, 5, none⟩ = some a5 ∧ w.cell? ⟨g, 6, none⟩ = some a6 ∧ w.frozen? ⟨g, 0, none⟩ = false ∧ w.frozen? ⟨g, 1, none⟩ = false ∧ w.frozen? ⟨g, 2, none⟩ = false ∧ w.frozen? ⟨g, 3, none⟩ = false ∧ w.frozen? ⟨g, 4, none⟩ = false ∧ w.frozen? ⟨g, 5, none⟩ = false ∧ w.frozen? ⟨g, 6, none⟩ = false := ⟨(blk_cell k 0).trans rfl, (blk_cell k 1).trans rfl, (blk_cell k 2).trans rfl, (blk_cell k 3).trans rfl, (blk_cell k 4).trans rfl, (blk_cell k 5).trans rfl, (blk_cell k 6).trans rfl, blk_frozen k 0, blk_frozen k 1, blk_frozen k 2, blk_frozen k 3, blk_frozen k 4, blk_frozen k 5, blk_frozen k 6⟩
open Go.Proofs.YtcjhnpbehkfknaaW.PrintWords renaming below_size → Qz, below_step → Qp, blk_below → Qb
open Go.Proofs.YtcjhnpbehkfknaaW.PrintWords.Kd renaming R_drewN → Qrn, R_alloc → Qra, R_drew → Qrd, R_mono → Qrm
open Go.Proofs.YtcjhnpbehkfknaaW.PrintWords.Aside0 renaming mk → Qx
attribute [local go_sem] max2_int min2_int max_two min_two max_three min_three max_four min_four   -- for this text's walks alone
set_option linter.unusedVariables false
set_option linter.unusedSimpArgs false
/-! ### slices_Compact_int_int: function 24 -/
mutual
def slices_Compact_int_int.l0 : Nat → List Int → Int → Option (List Int)
  | 0, _, _ => none
  | k + 1, x0, x3 => if x3 < (x0.length : Int) then (if 0 ≤ x3 then (if 0 ≤ (wrap64 (x3 - 1)) then (if (wrap64 (x3 - 1)) < (x0.length : Int) then (if (rd x0 x3) = (rd x0 (wrap64 (x3 - 1))) then (if x3 ≤ (x0.length : Int) then (slices_Compact_int_int.l1 k x0 x3 (x0.drop (x3 : Int).toNat) 1) else (none)) else (slices_Compact_int_int.l0 k x0 (wrap64 (x3 + 1)))) else (none)) else (none)) else (none)) else (some x0)
def slices_Compact_int_int.l1 : Nat → List Int → Int → List Int → Int → Option (List Int)
  | 0, _, _, _, _ => none
  | k + 1, x0, x3, x4, x5 => if x5 < (x4.length : Int) then (if 0 ≤ x5 then (if 0 ≤ (wrap64 (x5 - 1)) then (if (wrap64 (x5 - 1)) < (x4.length : Int) then (if (rd x4 x5) = (rd x4 (wrap64 (x5 - 1))) then (slices_Compact_int_int.l1 k x0 x3 x4 (wrap64 (x5 + 1))) else (if 0 ≤ x3 then (if x3 < (x0.length : Int) then (slices_Compact_int_int.l1 k (x0.set (x3 : Int).toNat (rd x4 x5)) (wrap64 (x3 + 1)) x4 (wrap64 (x5 + 1))) else (none)) else (none))) else (none)) else (none)) else (none)) else (if 0 ≤ x3 then (if x3 ≤ (x0.length : Int) then (some ((zer (0 : Int) x0 (x3 : Int).toNat (x0.drop (x3 : Int).toNat).length).take (x3 : Int).toNat)) else (none)) else (none))
end
def slices_Compact_int_int.f (k : Nat) (l0 : List Int) : Option (List Int) := if (l0.length : Int) < 2 then (some l0) else (slices_Compact_int_int.l0 k l0 1)
theorem slices_Compact_int_int.mono_l : ∀ k, (∀ y0 y1, LeO (slices_Compact_int_int.l0 k y0 y1) (slices_Compact_int_int.l0 (k + 1) y0 y1)) ∧ (∀ y0 y1 y2 y3, LeO (slices_Compact_int_int.l1 k y0 y1 y2 y3) (slices_Compact_int_int.l1 (k + 1) y0 y1 y2 y3))
  | 0 => ⟨fun _ _ r h => by simp [slices_Compact_int_int.l0] at h, fun _ _ _ _ r h => by simp [slices_Compact_int_int.l1] at h⟩
  | k + 1 => by
    obtain ⟨ih0, ih1⟩ := slices_Compact_int_int.mono_l k
    refine ⟨?_, ?_⟩
    · intro y0 y1
      unfold slices_Compact_int_int.l0
      repeat' first
      | (with_reducible exact ih0 _ _)
      | (with_reducible exact ih1 _ _ _ _)
      | (with_reducible exact LeO.refl _)
      | (with_reducible exact LeO.none _)
      | (with_reducible refine LeO.ite ?_ ?_)
      | (with_reducible refine LeO.bind ?_ (fun _ => ?_))
      | exact ih0 _ _
      | exact ih1 _ _ _ _
      | exact LeO.none _
      | refine LeO.ite ?_ ?_
      | refine LeO.bind ?_ (fun _ => ?_)
    · intro y0 y1 y2 y3
      unfold slices_Compact_int_int.l1
      repeat' first
      | (with_reducible exact ih0 _ _)
      | (with_reducible exact ih1 _ _ _ _)
      | (with_reducible exact LeO.refl _)
      | (with_reducible exact LeO.none _)
      | (with_reducible refine LeO.ite ?_ ?_)
      | (with_reducible refine LeO.bind ?_ (fun _ => ?_))
      | exact ih0 _ _
      | exact ih1 _ _ _ _
      | exact LeO.none _
      | refine LeO.ite ?_ ?_
      | refine LeO.bind ?_ (fun _ => ?_)
theorem slices_Compact_int_int.mono : ∀ a0 k, LeO (slices_Compact_int_int.f k a0) (slices_Compact_int_int.f (k + 1) a0) := by
  intro a0 k
  obtain ⟨ih0, ih1⟩ := slices_Compact_int_int.mono_l k
  unfold slices_Compact_int_int.f
  repeat' first
      | (with_reducible exact ih0 _ _)
      | (with_reducible exact ih1 _ _ _ _)
      | (with_reducible exact LeO.refl _)
      | (with_reducible exact LeO.none _)
      | (with_reducible refine LeO.ite ?_ ?_)
      | (with_reducible refine LeO.bind ?_ (fun _ => ?_))
      | exact ih0 _ _
      | exact ih1 _ _ _ _
      | exact LeO.none _
      | refine LeO.ite ?_ ?_
      | refine LeO.bind ?_ (fun _ => ?_)
noncomputable def slices_Compact_int_int.L0 (y0 : List Int) (y1 : Int) : Option (List Int) := lim fun k => slices_Compact_int_int.l0 k y0 y1
theorem slices_Compact_int_int.L0_sup (y0 : List Int) (y1 : Int) : Sup (fun k => slices_Compact_int_int.l0 k y0 y1) (slices_Compact_int_int.L0 y0 y1) := Sup.of_mono fun k => (slices_Compact_int_int.mono_l k).1 y0 y1
noncomputable def slices_Compact_int_int.L1 (y0 : List Int) (y1 : Int) (y2 : List Int) (y3 : Int) : Option (List Int) := lim fun k => slices_Compact_int_int.l1 k y0 y1 y2 y3
theorem slices_Compact_int_int.L1_sup (y0 : List Int) (y1 : Int) (y2 : List Int) (y3 : Int) : Sup (fun k => slices_Compact_int_int.l1 k y0 y1 y2 y3) (slices_Compact_int_int.L1 y0 y1 y2 y3) := Sup.of_mono fun k => (slices_Compact_int_int.mono_l k).2 y0 y1 y2 y3
noncomputable def slices_Compact_int_int.F (l0 : List Int) : Option (List Int) := lim fun k => slices_Compact_int_int.f k l0
theorem slices_Compact_int_int.F_sup (l0 : List Int) : Sup (fun k => slices_Compact_int_int.f k l0) (slices_Compact_int_int.F l0) := Sup.of_mono fun k => slices_Compact_int_int.mono l0 k
theorem slices_Compact_int_int.L0_eq (x0 : List Int) (x3 : Int) : slices_Compact_int_int.L0 x0 x3 = if x3 < (x0.length : Int) then (if 0 ≤ x3 then (if 0 ≤ (wrap64 (x3 - 1)) then (if (wrap64 (x3 - 1)) < (x0.length : Int) then (if (rd x0 x3) = (rd x0 (wrap64 (x3 - 1))) then (if x3 ≤ (x0.length : Int) then (slices_Compact_int_int.L1 x0 x3 (x0.drop (x3 : Int).toNat) 1) else (none)) else (slices_Compact_int_int.L0 x0 (wrap64 (x3 + 1)))) else (none)) else (none)) else (none)) else (some x0) := by
  refine Sup.unique (slices_Compact_int_int.L0_sup x0 x3) (Sup.shift (fun k => (slices_Compact_int_int.mono_l k).1 x0 x3) (Sup.congr (g' := fun k => if x3 < (x0.length : Int) then (if 0 ≤ x3 then (if 0 ≤ (wrap64 (x3 - 1)) then (if (wrap64 (x3 - 1)) < (x0.length : Int) then (if (rd x0 x3) = (rd x0 (wrap64 (x3 - 1))) then (if x3 ≤ (x0.length : Int) then (slices_Compact_int_int.l1 k x0 x3 (x0.drop (x3 : Int).toNat) 1) else (none)) else (slices_Compact_int_int.l0 k x0 (wrap64 (x3 + 1)))) else (none)) else (none)) else (none)) else (some x0)) (fun k => by first | rfl | simp only [slices_Compact_int_int.l0]) ?_))
  repeat' first
    | (with_reducible exact slices_Compact_int_int.L0_sup _ _)
    | (with_reducible exact slices_Compact_int_int.L1_sup _ _ _ _)
    | (with_reducible refine Sup.ite ?_ ?_)
    | (with_reducible refine Sup.bind ?_ (fun _ => ?_))
    | (with_reducible exact Sup.const _)
    | exact slices_Compact_int_int.L0_sup _ _
    | exact slices_Compact_int_int.L1_sup _ _ _ _
    | exact Sup.const _
theorem slices_Compact_int_int.L1_eq (x0 : List Int) (x3 : Int) (x4 : List Int) (x5 : Int) : slices_Compact_int_int.L1 x0 x3 x4 x5 = if x5 < (x4.length : Int) then (if 0 ≤ x5 then (if 0 ≤ (wrap64 (x5 - 1)) then (if (wrap64 (x5 - 1)) < (x4.length : Int) then (if (rd x4 x5) = (rd x4 (wrap64 (x5 - 1))) then (slices_Compact_int_int.L1 x0 x3 x4 (wrap64 (x5 + 1))) else (if 0 ≤ x3 then (if x3 < (x0.length : Int) then (slices_Compact_int_int.L1 (x0.set (x3 : Int).toNat (rd x4 x5)) (wrap64 (x3 + 1)) x4 (wrap64 (x5 + 1))) else (none)) else (none))) else (none)) else (none)) else (none)) else (if 0 ≤ x3 then (if x3 ≤ (x0.length : Int) then (some ((zer (0 : Int) x0 (x3 : Int).toNat (x0.drop (x3 : Int).toNat).length).take (x3 : Int).toNat)) else (none)) else (none)) := by
  refine Sup.unique (slices_Compact_int_int.L1_sup x0 x3 x4 x5) (Sup.shift (fun k => (slices_Compact_int_int.mono_l k).2 x0 x3 x4 x5) (Sup.congr (g' := fun k => if x5 < (x4.length : Int) then (if 0 ≤ x5 then (if 0 ≤ (wrap64 (x5 - 1)) then (if (wrap64 (x5 - 1)) < (x4.length : Int) then (if (rd x4 x5) = (rd x4 (wrap64 (x5 - 1))) then (slices_Compact_int_int.l1 k x0 x3 x4 (wrap64 (x5 + 1))) else (if 0 ≤ x3 then (if x3 < (x0.length : Int) then (slices_Compact_int_int.l1 k (x0.set (x3 : Int).toNat (rd x4 x5)) (wrap64 (x3 + 1)) x4 (wrap64 (x5 + 1))) else (none)) else (none))) else (none)) else (none)) else (none)) else (if 0 ≤ x3 then (if x3 ≤ (x0.length : Int) then (some ((zer (0 : Int) x0 (x3 : Int).toNat (x0.drop (x3 : Int).toNat).length).take (x3 : Int).toNat)) else (none)) else (none))) (fun k => by first | rfl | simp only [slices_Compact_int_int.l1]) ?_))
  repeat' first
    | (with_reducible exact slices_Compact_int_int.L0_sup _ _)
    | (with_reducible exact slices_Compact_int_int.L1_sup _ _ _ _)
    | (with_reducible refine Sup.ite ?_ ?_)
    | (with_reducible refine Sup.bind ?_ (fun _ => ?_))
    | (with_reducible exact Sup.const _)
    | exact slices_Compact_int_int.L0_sup _ _
    | exact slices_Compact_int_int.L1_sup _ _ _ _
    | exact Sup.const _
theorem slices_Compact_int_int.F_eq (l0 : List Int) : slices_Compact_int_int.F l0 = if (l0.length : Int) < 2 then (some l0) else (slices_Compact_int_int.L0 l0 1) := by
  refine Sup.unique (slices_Compact_int_int.F_sup l0) (Sup.congr (g' := fun k => if (l0.length : Int) < 2 then (some l0) else (slices_Compact_int_int.l0 k l0 1)) (fun k => by first | rfl | simp only [slices_Compact_int_int.f]) ?_)
  repeat' first
    | (with_reducible exact slices_Compact_int_int.L0_sup _ _)
    | (with_reducible exact slices_Compact_int_int.L1_sup _ _ _ _)
    | (with_reducible refine Sup.ite ?_ ?_)
    | (with_reducible refine Sup.bind ?_ (fun _ => ?_))
    | (with_reducible exact Sup.const _)
    | exact slices_Compact_int_int.L0_sup _ _
    | exact slices_Compact_int_int.L1_sup _ _ _ _
    | exact Sup.const _
set_option maxHeartbeats 8000000 in
set_option maxRecDepth 100000 in
theorem slices_Compact_int_int.calls (k : Nat) (P0_ : Nat → Prop) (u9000_ : Value) (l0 : List Int) (r : List Int) (w0 w : World) (hB : Below w0.heap.size w0 w) (ho0 : Kd.R (Kd.int .i64) 3 w w0.heap.size P0_ u9000_ l0) (h : slices_Compact_int_int.f k l0 = some r) :
    Calls Try.prog 24 #[u9000_] w fun e w' => ∃ v0_ : Value, e = .returned (v0_) ∧ Kd.R (Kd.int .i64) 3 w' w0.heap.size (fun k_ => (P0_ k_ ∨ w.heap.size ≤ k_)) v0_ r ∧ Below w0.heap.size w0 w' ∧ Kept w w' (fun k_ => P0_ k_) := by
  have HO0 := Qx (show Kd.R (Kd.int .i64) 3 w w0.heap.size (fun k_ => (P0_ k_ ∨ w.heap.size ≤ k_)) u9000_ l0 from Qrm ho0 (fun k_ hk => (.inl hk)))
  have HK := Qx (Kept.refl w (fun k_ => P0_ k_))
  have HW0 := Qx hB.size; have HB := Qx hB; clear hB
  have H : (if (l0.length : Int) < 2 then (some l0) else (slices_Compact_int_int.l0 k l0 1)) = some r := h
  clear h
  by_cases c2 : (l0.length : Int) < 2
  ·rw [if_pos c2] at H
   have c2b0 : decide ((l0.length : Int) < 2) = true := decide_eq_true c2
   have c2b1 : decide (l0.length < 2) = true := decide_eq_true (by omega)
   clear c2; obtain rfl := Option.some.inj H; obtain ⟨Ao3, co3, eo3⟩ := Kd.R_slice HO0.out; subst eo3
   go_enter Try.func24, Try.ntmps24
   go_wp2
   repeat (go_quiet (fail); try go_wp2)
   go_ret
   exact ⟨_, rf_, kR_ HO0, hB_, by repeat (first | (with_reducible first | exact HK.out | apply Kept.alloc | apply Kept.drewN | apply Kept.drew) | exact HK.out)⟩
  ·rw [if_neg c2] at H
   have c2b0 : decide ((l0.length : Int) < 2) = false := decide_eq_false c2
   have c2b1 : decide (l0.length < 2) = false := decide_eq_false (by omega)
   clear c2; have H' := Qx H; clear H; obtain ⟨Ao4, co4, eo4⟩ := Kd.R_slice HO0.out; subst eo4
   go_enter Try.func24, Try.ntmps24
   go_wp2
   repeat (go_quiet (fail); try go_wp2)
   go_loopg [3] k (fun kq v3 w' => ∃ (x0_1 : List Int) (x3_1 : Int), v3 = .int .i64 x3_1 ∧ Aside0 (slices_Compact_int_int.l0 kq x0_1 x3_1 = some r) ∧ Aside0 (kq ≤ k) ∧ Aside0 (Kd.R (Kd.int .i64) 3 w' w0.heap.size (fun k_ => (P0_ k_ ∨ w.heap.size ≤ k_)) (.slice Ao4 l0.length co4) x0_1) ∧ Aside0 (Kept w w' (fun k_ => P0_ k_)) ∧ Aside0 (Below w0.heap.size w0 w'))
   case atStart => exact ⟨(l0), (1), rg_, H', ⟨Nat.le_refl _⟩, ⟨kR_ HO0⟩, ⟨by repeat (first | (with_reducible first | exact HK.out | apply Kept.alloc | apply Kept.drewN | apply Kept.drew) | exact HK.out)⟩, ⟨hB_⟩⟩
   case round =>
    clear H'
    try clear c2
    try clear c2b0
    try clear c2b1
    try clear p2
    obtain ⟨x0_1, x3_1, rfl, HA, HK1, HO_0, HK, HB⟩ := hrel
    have hl0_1 := (Kd.R_reads' HO_0.out).1
    rw [hl0_1] at HO_0
    (try simp only [hl0_1])
    cases gk with
    | zero => exact absurd HA.out (by simp [slices_Compact_int_int.l0])
    | succ k1 =>
     have H := HA.out; clear HA; simp only [slices_Compact_int_int.l0] at H
     by_cases c5 : x3_1 < (x0_1.length : Int)
     ·rw [if_pos c5] at H
      have c5b0 : decide (x3_1 < (x0_1.length : Int)) = true := decide_eq_true c5
      (try (have c5z0 := c5b0; simp only [hl0_1] at c5z0))
      clear c5
      by_cases c6 : 0 ≤ x3_1
      ·rw [if_pos c6] at H
       have c6b0 : decide (0 ≤ x3_1) = true := decide_eq_true c6
       clear c6
       obtain ⟨ji7, hji7⟩ : ∃ j_ : Int, (wrap64 (x3_1 - 1)) = j_ := ⟨_, rfl⟩
       replace H : (if 0 ≤ (ji7) then (if (ji7) < (x0_1.length : Int) then (if (rd x0_1 x3_1) = (rd x0_1 (ji7)) then (if x3_1 ≤ (x0_1.length : Int) then (slices_Compact_int_int.l1 k1 x0_1 x3_1 (x0_1.drop (x3_1 : Int).toNat) 1) else (none)) else (slices_Compact_int_int.l0 k1 x0_1 (wrap64 (x3_1 + 1)))) else (none)) else (none)) = some r := by first | (rw [hji7] at H; exact H) | (simp only [hji7] at H ⊢; exact H)
       have hji7w : (IntKind.i64.wrap (x3_1 - 1)) = ji7 := (i64_w _).trans hji7
       by_cases c8 : 0 ≤ (ji7)
       ·rw [if_pos c8] at H
        have c8b0 : decide (0 ≤ (ji7)) = true := decide_eq_true c8
        clear c8
        by_cases c9 : (ji7) < (x0_1.length : Int)
        ·rw [if_pos c9] at H
         have c9b0 : decide ((ji7) < (x0_1.length : Int)) = true := decide_eq_true c9
         (try (have c9z0 := c9b0; simp only [hl0_1] at c9z0))
         clear c9
         by_cases c10 : (rd x0_1 x3_1) = (rd x0_1 (ji7))
         ·rw [if_pos c10] at H
          have c10b0 : ((rd x0_1 x3_1) == (rd x0_1 (ji7))) = true := beq_iff_eq.mpr c10
          have c10b1 : ((rd x0_1 x3_1) != (rd x0_1 (ji7))) = false := bne_eq_false_iff_eq.mpr c10
          clear c10
          have c11b0 := eq_true (of_decide_eq_true as_ : 0 ≤ x3_1)
          by_cases c12 : x3_1 ≤ (x0_1.length : Int)
          ·rw [if_pos c12] at H; have c12b0 := eq_true c12
           have c12b1 : decide (x3_1 ≤ (x0_1.length : Int)) = true := decide_eq_true c12
           clear c12
           obtain ⟨y370, hy370⟩ : ∃ y_ : List Int, y_ = (x0_1.drop (x3_1 : Int).toNat) := ⟨_, rfl⟩
           replace H : (slices_Compact_int_int.l1 k1 x0_1 x3_1 y370 1) = some r := by first | (rw [hy370]; with_reducible exact H) | (have H2_ := (Option.bind_some _ _).symm.trans H; rw [hy370]; with_reducible exact H2_) | (have H2_ := (Option.bind_some _ _).symm.trans H; with_reducible exact H2_) | with_reducible exact H | (rw [hy370]; exact H) | exact H
           have Ny370 := Qx hy370; clear hy370; have H' := Qx H; clear H
           have p368 : 0 ≤ (x3_1 : Int) := of_decide_eq_true as_
           have q368 : x3_1 < (x0_1.length : Int) := of_decide_eq_true as_
           obtain ⟨ad368, e368, hx368_0⟩ := Kd.at_int (Kd.R_reads' HO_0.out).2.2 x3_1 p368 q368
           cases e368
           obtain ⟨gq_, cq_, eq_, gbq_, glq_, clq_, HGq_⟩ := Kd.R_form HO_0.out (by have hz_ := q368; omega)
           have ez_ : ad368 = ⟨gq_, 0, none⟩ := (by cases eq_; rfl)
           subst ez_; clear eq_ gbq_ glq_ clq_ HGq_; replace p368 := eq_true p368; replace q368 := eq_true q368
           have p369 : 0 ≤ ((ji7) : Int) := of_decide_eq_true as_
           have q369 : (ji7) < (x0_1.length : Int) := of_decide_eq_true as_
           obtain ⟨ad369, e369, hx369_0⟩ := Kd.at_int (Kd.R_reads' HO_0.out).2.2 (ji7) p369 q369
           obtain rfl : (⟨gq_, 0, none⟩ : Addr) = ad369 := (by injection e369)
           replace p369 := eq_true p369; replace q369 := eq_true q369
           have q13 : (x3_1 : Int) ≤ ((x0_1.length : Int) : Int) := of_decide_eq_true as_
           obtain ⟨i013, hi013, _, hsz13, _⟩ := info_parts info3
           have hroom13 : x0_1.length ≤ co4 := (Kd.R_reads' HO_0.out).2.1
           have hC13 : Kd.C (Kd.int .i64) _ (some (⟨gq_, 0, none⟩ : Addr)) x0_1.length x0_1 := (Kd.R_reads' HO_0.out).2.2
           have q013 : (0 : Int) ≤ (x3_1 : Int) := of_decide_eq_true as_
           have hcut13 := cut_from (P := Try.prog) 22 3 .i64 Try.underlying22 hi013 1 hsz13 (some (⟨gq_, 0, none⟩ : Addr)) x0_1.length co4 x3_1 q013 q13
           have hr13 := Kd.C_drop (m := (x3_1 : Int).toNat) (c := co4) hC13 (by omega) hroom13
           obtain ⟨A13, hA13⟩ : ∃ A1, A1 = (if co4 = (x3_1 : Int).toNat then (some (⟨gq_, 0, none⟩ : Addr)) else ((some (⟨gq_, 0, none⟩ : Addr)) : Option Addr).map (·.add ((x3_1 : Int).toNat * 1))) := ⟨_, rfl⟩
           obtain ⟨c13, hc13⟩ : ∃ c1, c1 = co4 - (x3_1 : Int).toNat := ⟨_, rfl⟩
           have hy13 : y370.length = x0_1.length - (x3_1 : Int).toNat := (by rw [Ny370.out, List.length_drop] <;> omega)
           rw [show (x0_1).drop (x3_1 : Int).toNat = y370 from Ny370.out.symm] at hr13
           replace hr13 : Kd.C (Kd.int .i64) _ A13 y370.length y370 := (by rw [hA13]; exact hr13)
           rw [← hy13, ← hA13, ← hc13] at hcut13; have HR373 := Qx hr13
           have HC373 := Qx (show y370.length ≤ c13 from by rw [hy13, hc13]; exact Nat.sub_le_sub_right hroom13 _)
           clear hr13 hC13 hroom13 hi013 hsz13 hc13; have KY13 := Qx hy13; have KA13 := Qx hA13; clear hy13 hA13
           have KL13 := Qx (show (x3_1 : Int).toNat ≤ x0_1.length from by omega)
           have HX_ := Qx (show 0 ≤ x3_1 ∧ x3_1 < (x0_1.length : Int) ∧ x0_1.length ≤ 9223372036854775807 from ⟨of_eq_true p368, of_eq_true q368, (Kd.R_reads' HO_0.out).2.2.2.1⟩)
           replace q13 := eq_true q13
           (first | simp only [add_plain] at hx368_0 | skip)
           (first | simp only [add_plain] at hx369_0 | skip)
           go_wp2
           repeat (go_quiet (fail); try go_wp2)
           go_loopg [3, 5] k1 (fun kq v3 v5 w' => ∃ (x0_2 : List Int) (x3_2 : Int) (x5_2 : Int), v3 = .int .i64 x3_2 ∧ v5 = .int .i64 x5_2 ∧ Aside0 (slices_Compact_int_int.l1 kq x0_2 x3_2 y370 x5_2 = some r) ∧ Aside0 (kq ≤ k1) ∧ Aside0 (compInv x0_1 x0_2 x3_1 x3_2 x5_2) ∧ Aside0 (Kd.R (Kd.int .i64) 3 w' w0.heap.size (fun k_ => (P0_ k_ ∨ w.heap.size ≤ k_)) (.slice (some (⟨gq_, 0, none⟩ : Addr)) x0_1.length co4) x0_2) ∧ Aside0 (Kept w w' (fun k_ => P0_ k_)) ∧ Aside0 (Below w0.heap.size w0 w'))
           case atStart => exact ⟨(x0_1), (x3_1), (1), rg_, rg_, H', ⟨Nat.le_refl _⟩, ⟨compInv.start _ _⟩, ⟨by (try simp only [hl0_1]); (with_reducible repeat (first | apply Qra | apply Qrn | apply Qrd)); exact HO_0.out⟩, ⟨by repeat (first | (with_reducible first | exact HK.out | apply Kept.alloc | apply Kept.drewN | apply Kept.drew) | exact HK.out)⟩, ⟨hB_⟩⟩
           case round =>
            clear H'
            try clear c1
            try clear q1
            try clear c2
            try clear c2b0
            try clear c2b1
            try clear p2
            try clear p3
            try clear q3
            try clear hx3
            try clear c5
            try clear c5b0
            try clear c6
            try clear c6b0
            try clear p6
            try clear c8
            try clear c8b0
            try clear c9
            try clear c9b0
            try clear c10
            try clear c10b0
            try clear c10b1
            try clear c11
            try clear c11b0
            try clear c12
            try clear c12b0
            try clear c12b1
            try clear c13
            try clear q13
            try clear hx368_0
            try clear hx369_0
            try clear p2
            try clear p368
            try clear p369
            try clear q013
            try clear q13
            try clear q368
            try clear q369
            obtain ⟨x0_2, x3_2, x5_2, rfl, rfl, HA, HK2, HV_, HO_0, HK, HB⟩ := hrel
            have hl0_2 := (Kd.R_reads' HO_0.out).1
            rw [hl0_2] at HO_0
            (try simp only [hl0_2])
            cases gk with
            | zero => exact absurd HA.out (by simp [slices_Compact_int_int.l1])
            | succ k2 =>
             have H := HA.out; clear HA; simp only [slices_Compact_int_int.l1] at H
             by_cases c14 : x5_2 < (y370.length : Int)
             ·rw [if_pos c14] at H
              have c14b0 : decide (x5_2 < (y370.length : Int)) = true := decide_eq_true c14
              (try (have c14z0 := c14b0; simp only [hl0_1, hl0_2] at c14z0))
              clear c14
              by_cases c15 : 0 ≤ x5_2
              ·rw [if_pos c15] at H
               have c15b0 : decide (0 ≤ x5_2) = true := decide_eq_true c15
               clear c15
               obtain ⟨ji16, hji16⟩ : ∃ j_ : Int, (wrap64 (x5_2 - 1)) = j_ := ⟨_, rfl⟩
               replace H : (if 0 ≤ (ji16) then (if (ji16) < (y370.length : Int) then (if (rd y370 x5_2) = (rd y370 (ji16)) then (slices_Compact_int_int.l1 k2 x0_2 x3_2 y370 (wrap64 (x5_2 + 1))) else (if 0 ≤ x3_2 then (if x3_2 < (x0_2.length : Int) then (slices_Compact_int_int.l1 k2 (x0_2.set (x3_2 : Int).toNat (rd y370 x5_2)) (wrap64 (x3_2 + 1)) y370 (wrap64 (x5_2 + 1))) else (none)) else (none))) else (none)) else (none)) = some r := by first | (rw [hji16] at H; exact H) | (simp only [hji16] at H ⊢; exact H)
               have hji16w : (IntKind.i64.wrap (x5_2 - 1)) = ji16 := (i64_w _).trans hji16
               have HJ0_ := Qx (show 0 ≤ x5_2 from of_decide_eq_true (by assumption))
               have HJ1_ := Qx (show x5_2 < 9223372036854775807 from by have h1_ := HX_.out; have h2_ : x5_2 < (y370.length : Int) := of_decide_eq_true (by assumption); have h3_ : y370.length = x0_1.length - (x3_1 : Int).toNat := (by rw [Ny370.out, List.length_drop]); omega)
               have HJW_ := Qx (show ∀ z_ : Int, z_ = x5_2 ∨ z_ = ji16 → x5_2 - 1 ≤ z_ from by have h1_ := (HV_.out.2 HJ0_.out).1; have h4_ := HJ1_.out; have h2_ := hji16; unfold wrap64 at h2_; intro z_ hz_; omega)
               by_cases c17 : 0 ≤ (ji16)
               ·rw [if_pos c17] at H
                have c17b0 : decide (0 ≤ (ji16)) = true := decide_eq_true c17
                clear c17
                by_cases c18 : (ji16) < (y370.length : Int)
                ·rw [if_pos c18] at H
                 have c18b0 : decide ((ji16) < (y370.length : Int)) = true := decide_eq_true c18
                 (try (have c18z0 := c18b0; simp only [hl0_1, hl0_2] at c18z0))
                 clear c18
                 by_cases c19 : (rd y370 x5_2) = (rd y370 (ji16))
                 ·rw [if_pos c19] at H
                  have c19b0 : ((rd y370 x5_2) == (rd y370 (ji16))) = true := beq_iff_eq.mpr c19
                  have c19b1 : ((rd y370 x5_2) != (rd y370 (ji16))) = false := bne_eq_false_iff_eq.mpr c19
                  clear c19; have H' := Qx H; clear H
                  have p374 : 0 ≤ (x5_2 : Int) := of_decide_eq_true as_
                  have q374 : x5_2 < (y370.length : Int) := of_decide_eq_true as_
                  obtain ⟨ad374, e374, hx374_0⟩ := compRead HO_0.out Ny370.out HX_.out.1 HX_.out.2.1 KA13.out HV_.out HJ0_.out x5_2 (HJW_.out x5_2 (by first | exact .inl rfl | exact .inr rfl)) q374
                  cases e374
                  replace p374 := eq_true p374; replace q374 := eq_true q374
                  have p375 : 0 ≤ ((ji16) : Int) := of_decide_eq_true as_
                  have q375 : (ji16) < (y370.length : Int) := of_decide_eq_true as_
                  obtain ⟨ad375, e375, hx375_0⟩ := compRead HO_0.out Ny370.out HX_.out.1 HX_.out.2.1 KA13.out HV_.out HJ0_.out (ji16) (HJW_.out (ji16) (by first | exact .inl rfl | exact .inr rfl)) q375
                  obtain rfl : ad374 = ad375 := (by injection e375)
                  replace p375 := eq_true p375; replace q375 := eq_true q375
                  go_wp2
                  repeat (go_quiet (fail); try go_wp2)
                  (try simp only [← hl0_2])
                  go_roundg k2
                  case measure => have := HK1.out; have := HK2.out; omega
                  case rel => exact ⟨(x0_2), (x3_2), (wrap64 (x5_2 + 1)), rg_, rg_, H', ⟨by have := HK1.out; have := HK2.out; omega⟩, ⟨HV_.out.skip HJ0_.out HJ1_.out⟩, ⟨by (try simp only [hl0_1]); (try simp only [hl0_2]); (with_reducible repeat (first | apply Qra | apply Qrn | apply Qrd)); exact HO_0.out⟩, ⟨by repeat (first | (with_reducible first | exact HK.out | apply Kept.alloc | apply Kept.drewN | apply Kept.drew) | exact HK.out)⟩, ⟨hB_⟩⟩
                 ·rw [if_neg c19] at H
                  have c19b0 : ((rd y370 x5_2) == (rd y370 (ji16))) = false := beq_eq_false_iff_ne.mpr c19
                  have c19b1 : ((rd y370 x5_2) != (rd y370 (ji16))) = true := bne_iff_ne.mpr c19
                  by_cases c20 : 0 ≤ x3_2
                  ·rw [if_pos c20] at H
                   have c20b0 : decide (0 ≤ x3_2) = true := decide_eq_true c20
                   clear c20
                   by_cases c21 : x3_2 < (x0_2.length : Int)
                   ·rw [if_pos c21] at H
                    have c21b0 : decide (x3_2 < (x0_2.length : Int)) = true := decide_eq_true c21
                    (try (have c21z0 := c21b0; simp only [hl0_1, hl0_2] at c21z0))
                    clear c21
                    have HK0_ := Qx (show 0 ≤ x3_2 from of_decide_eq_true (by assumption))
                    have HK1_ := Qx (show x3_2 < 9223372036854775807 from by have h1_ := HX_.out; have h2_ : x3_2 < (x0_2.length : Int) := of_decide_eq_true (by assumption); have h3_ := HV_.out.1; omega)
                    obtain ⟨y377, hy377⟩ : ∃ y_ : List Int, y_ = (x0_2.set (x3_2 : Int).toNat (rd y370 x5_2)) := ⟨_, rfl⟩
                    replace H : (slices_Compact_int_int.l1 k2 y377 (wrap64 (x3_2 + 1)) y370 (wrap64 (x5_2 + 1))) = some r := by first | (rw [hy377]; with_reducible exact H) | (have H2_ := (Option.bind_some _ _).symm.trans H; rw [hy377]; with_reducible exact H2_) | (have H2_ := (Option.bind_some _ _).symm.trans H; with_reducible exact H2_) | with_reducible exact H | (rw [hy377]; exact H) | exact H
                    have Ny377 := Qx hy377; clear hy377; have H' := Qx H; clear H
                    have p374 : 0 ≤ (x5_2 : Int) := of_decide_eq_true as_
                    have q374 : x5_2 < (y370.length : Int) := of_decide_eq_true as_
                    obtain ⟨ad374, e374, hx374_0⟩ := compRead HO_0.out Ny370.out HX_.out.1 HX_.out.2.1 KA13.out HV_.out HJ0_.out x5_2 (HJW_.out x5_2 (by first | exact .inl rfl | exact .inr rfl)) q374
                    cases e374
                    replace p374 := eq_true p374; replace q374 := eq_true q374
                    have p375 : 0 ≤ ((ji16) : Int) := of_decide_eq_true as_
                    have q375 : (ji16) < (y370.length : Int) := of_decide_eq_true as_
                    obtain ⟨ad375, e375, hx375_0⟩ := compRead HO_0.out Ny370.out HX_.out.1 HX_.out.2.1 KA13.out HV_.out HJ0_.out (ji16) (HJW_.out (ji16) (by first | exact .inl rfl | exact .inr rfl)) q375
                    obtain rfl : ad374 = ad375 := (by injection e375)
                    replace p375 := eq_true p375; replace q375 := eq_true q375
                    have p376 : 0 ≤ (x5_2 : Int) := of_decide_eq_true as_
                    have q376 : x5_2 < (y370.length : Int) := of_decide_eq_true as_
                    obtain ⟨ad376, e376, hx376_0⟩ := compRead HO_0.out Ny370.out HX_.out.1 HX_.out.2.1 KA13.out HV_.out HJ0_.out x5_2 (HJW_.out x5_2 (by first | exact .inl rfl | exact .inr rfl)) q376
                    obtain rfl : ad374 = ad376 := (by injection e376)
                    replace p376 := eq_true p376; replace q376 := eq_true q376
                    have p22 : 0 ≤ (x3_2 : Int) := of_decide_eq_true as_
                    have q22 : (x3_2 : Int) < ((x0_2.length : Int) : Int) := of_decide_eq_true as_
                    obtain ⟨go22, co22, eo22, gb22, gl22, cl22, HG22⟩ := Kd.R_form HO_0.out (by omega)
                    have ez_ : gq_ = go22 := (by cases eo22; rfl)
                    subst ez_; clear eo22; have GB22 := Qx gb22; have GG22 := Qx HG22; clear gb22 gl22 HG22
                    have HMgo22 := Qx (show (P0_ gq_ ∨ w.heap.size ≤ gq_) from (HO_0.out.1 _ rfl))
                    (first | simp only [add_plain] at hx368_0 | skip)
                    (first | simp only [add_plain] at hx369_0 | skip)
                    replace p22 := eq_true p22; replace q22 := eq_true q22
                    have HP23 := Kd.R_putg HO_0.out (x3_2 : Int) (rd y370 x5_2)
                    go_wp2_with (first | ((with_reducible refine gate_store (t := 3) (p := 51) rfl ?_); (try (rw [drewN_self wr]; generalize hq_ : World.drewN wr _ = wr; have n0_ := Qx (Kd.R_at hq_ HO_0.out); have n1_ := Qx (kept_at hq_ HK.out); have n2_ := Qx (below_at hq_ HB.out); clear hq_ HO_0 HK HB; have HO_0 := n0_; have HK := n1_; have HB := n2_; clear n0_ n1_ n2_; (try (have HP23 := Kd.R_putg HO_0.out (x3_2 : Int) (rd y370 x5_2))))); obtain ⟨hx22_0, hf22_0⟩ := Kd.R_celln 0 HO_0.out (x3_2 : Int) (of_eq_true p22) (of_eq_true q22); refine store_event (t := 3) (p := 51) (v := ?vo_w24) (w1 := (wr.setCell ⟨gq_, (x3_2 : Int).toNat, none⟩ (.int .i64 (rd y370 x5_2)))) ?hg ?ho ?hn ?hr ?_; (case ho => rfl); (case hg => rfl); (case hn => rfl); (case hr => first | (go_simp; done) | (go_simp; rfl)); intro w24 hw; have hg : wr.grownBy w24 (some gq_) := (by rw [hw]; exact HP23.2); have hp_ : Kd.R (Kd.int .i64) 3 w24 w0.heap.size (fun k_ => (P0_ k_ ∨ w.heap.size ≤ k_)) (.slice (some ⟨gq_, 0, none⟩) x0_2.length co4) y377 := (by rw [hw, Ny377.out]; exact HP23.1); clear HP23; replace HB := Qx ((by rw [hw]; exact below_set (HB.out) GB22.out : Below w0.heap.size w0 w24)); replace HK := Qx (Kept.of_grown (S := (fun k_ => P0_ k_)) hg (by repeat (first | (with_reducible first | exact HK.out | apply Kept.alloc | apply Kept.drewN | apply Kept.drew) | exact HK.out)) (fun k_ e_ => (HO_0.out.1 k_ e_))); replace HO_0 := Qx (hp_); clear hg hw hp_))
                    repeat (go_quiet (first | ((with_reducible refine gate_store (t := 3) (p := 51) rfl ?_); (try (rw [drewN_self wr]; generalize hq_ : World.drewN wr _ = wr; have n0_ := Qx (Kd.R_at hq_ HO_0.out); have n1_ := Qx (kept_at hq_ HK.out); have n2_ := Qx (below_at hq_ HB.out); clear hq_ HO_0 HK HB; have HO_0 := n0_; have HK := n1_; have HB := n2_; clear n0_ n1_ n2_; (try (have HP23 := Kd.R_putg HO_0.out (x3_2 : Int) (rd y370 x5_2))))); obtain ⟨hx22_0, hf22_0⟩ := Kd.R_celln 0 HO_0.out (x3_2 : Int) (of_eq_true p22) (of_eq_true q22); refine store_event (t := 3) (p := 51) (v := ?vo_w24) (w1 := (wr.setCell ⟨gq_, (x3_2 : Int).toNat, none⟩ (.int .i64 (rd y370 x5_2)))) ?hg ?ho ?hn ?hr ?_; (case ho => rfl); (case hg => rfl); (case hn => rfl); (case hr => first | (go_simp; done) | (go_simp; rfl)); intro w24 hw; have hg : wr.grownBy w24 (some gq_) := (by rw [hw]; exact HP23.2); have hp_ : Kd.R (Kd.int .i64) 3 w24 w0.heap.size (fun k_ => (P0_ k_ ∨ w.heap.size ≤ k_)) (.slice (some ⟨gq_, 0, none⟩) x0_2.length co4) y377 := (by rw [hw, Ny377.out]; exact HP23.1); clear HP23; replace HB := Qx ((by rw [hw]; exact below_set (HB.out) GB22.out : Below w0.heap.size w0 w24)); replace HK := Qx (Kept.of_grown (S := (fun k_ => P0_ k_)) hg (by repeat (first | (with_reducible first | exact HK.out | apply Kept.alloc | apply Kept.drewN | apply Kept.drew) | exact HK.out)) (fun k_ e_ => (HO_0.out.1 k_ e_))); replace HO_0 := Qx (hp_); clear hg hw hp_)); try go_wp2_with (first | ((with_reducible refine gate_store (t := 3) (p := 51) rfl ?_); (try (rw [drewN_self wr]; generalize hq_ : World.drewN wr _ = wr; have n0_ := Qx (Kd.R_at hq_ HO_0.out); have n1_ := Qx (kept_at hq_ HK.out); have n2_ := Qx (below_at hq_ HB.out); clear hq_ HO_0 HK HB; have HO_0 := n0_; have HK := n1_; have HB := n2_; clear n0_ n1_ n2_; (try (have HP23 := Kd.R_putg HO_0.out (x3_2 : Int) (rd y370 x5_2))))); obtain ⟨hx22_0, hf22_0⟩ := Kd.R_celln 0 HO_0.out (x3_2 : Int) (of_eq_true p22) (of_eq_true q22); refine store_event (t := 3) (p := 51) (v := ?vo_w24) (w1 := (wr.setCell ⟨gq_, (x3_2 : Int).toNat, none⟩ (.int .i64 (rd y370 x5_2)))) ?hg ?ho ?hn ?hr ?_; (case ho => rfl); (case hg => rfl); (case hn => rfl); (case hr => first | (go_simp; done) | (go_simp; rfl)); intro w24 hw; have hg : wr.grownBy w24 (some gq_) := (by rw [hw]; exact HP23.2); have hp_ : Kd.R (Kd.int .i64) 3 w24 w0.heap.size (fun k_ => (P0_ k_ ∨ w.heap.size ≤ k_)) (.slice (some ⟨gq_, 0, none⟩) x0_2.length co4) y377 := (by rw [hw, Ny377.out]; exact HP23.1); clear HP23; replace HB := Qx ((by rw [hw]; exact below_set (HB.out) GB22.out : Below w0.heap.size w0 w24)); replace HK := Qx (Kept.of_grown (S := (fun k_ => P0_ k_)) hg (by repeat (first | (with_reducible first | exact HK.out | apply Kept.alloc | apply Kept.drewN | apply Kept.drew) | exact HK.out)) (fun k_ e_ => (HO_0.out.1 k_ e_))); replace HO_0 := Qx (hp_); clear hg hw hp_)))
                    (try simp only [← hl0_2])
                    go_roundg k2
                    case measure => have := HK1.out; have := HK2.out; omega
                    case rel => exact ⟨(y377), (wrap64 (x3_2 + 1)), (wrap64 (x5_2 + 1)), rg_, rg_, H', ⟨by have := HK1.out; have := HK2.out; omega⟩, ⟨by rw [Ny377.out]; exact HV_.out.put HJ0_.out HJ1_.out HK0_.out HK1_.out _⟩, ⟨by (try simp only [hl0_1]); (try simp only [hl0_2]); (with_reducible repeat (first | apply Qra | apply Qrn | apply Qrd)); exact HO_0.out⟩, ⟨by repeat (first | (with_reducible first | exact HK.out | apply Kept.alloc | apply Kept.drewN | apply Kept.drew) | exact HK.out)⟩, ⟨hB_⟩⟩
                   ·rw [if_neg c21] at H
                    exact absurd H (by simp)
                  ·rw [if_neg c20] at H
                   exact absurd H (by simp)
                ·rw [if_neg c18] at H
                 exact absurd H (by simp)
               ·rw [if_neg c17] at H
                exact absurd H (by simp)
              ·rw [if_neg c15] at H
               exact absurd H (by simp)
             ·rw [if_neg c14] at H
              have c14b0 : decide (x5_2 < (y370.length : Int)) = false := decide_eq_false c14
              (try (have c14z0 := c14b0; simp only [hl0_1, hl0_2] at c14z0))
              clear c14
              by_cases c25 : 0 ≤ x3_2
              ·rw [if_pos c25] at H; have c25b0 := eq_true c25
               have c25b1 : decide (0 ≤ x3_2) = true := decide_eq_true c25
               clear c25
               by_cases c26 : x3_2 ≤ (x0_2.length : Int)
               ·rw [if_pos c26] at H; have c26b0 := eq_true c26
                have c26b1 : decide (x3_2 ≤ (x0_2.length : Int)) = true := decide_eq_true c26
                clear c26
                obtain ⟨y378, hy378⟩ : ∃ y_ : List Int, y_ = (x0_2.drop (x3_2 : Int).toNat) := ⟨_, rfl⟩
                replace H : (some ((zer (0 : Int) x0_2 (x3_2 : Int).toNat y378.length).take (x3_2 : Int).toNat)) = some r := by first | (rw [hy378]; with_reducible exact H) | (have H2_ := (Option.bind_some _ _).symm.trans H; rw [hy378]; with_reducible exact H2_) | (have H2_ := (Option.bind_some _ _).symm.trans H; with_reducible exact H2_) | with_reducible exact H | (rw [hy378]; exact H) | exact H
                have Ny378 := Qx hy378; clear hy378
                obtain ⟨y382, hy382⟩ : ∃ y_ : List Int, y_ = (zer (0 : Int) x0_2 (x3_2 : Int).toNat y378.length) := ⟨_, rfl⟩
                replace H : (some (y382.take (x3_2 : Int).toNat)) = some r := by first | (rw [hy382]; with_reducible exact H) | (have H2_ := (Option.bind_some _ _).symm.trans H; rw [hy382]; with_reducible exact H2_) | (have H2_ := (Option.bind_some _ _).symm.trans H; with_reducible exact H2_) | with_reducible exact H | (rw [hy382]; exact H) | exact H
                have Ny382 := Qx hy382; clear hy382
                have c27b0 := eq_true (of_decide_eq_true as_ : x3_2 ≤ (x0_2.length : Int))
                obtain ⟨y383, hy383⟩ : ∃ y_ : List Int, y_ = (y382.take (x3_2 : Int).toNat) := ⟨_, rfl⟩
                replace H : (some y383) = some r := by first | (rw [hy383]; with_reducible exact H) | (have H2_ := (Option.bind_some _ _).symm.trans H; rw [hy383]; with_reducible exact H2_) | (have H2_ := (Option.bind_some _ _).symm.trans H; with_reducible exact H2_) | with_reducible exact H | (rw [hy383]; exact H) | exact H
                have Ny383 := Qx hy383; clear hy383; obtain rfl := Option.some.inj H
                have q28 : (x3_2 : Int) ≤ ((x0_2.length : Int) : Int) := of_decide_eq_true as_
                obtain ⟨i028, hi028, _, hsz28, _⟩ := info_parts info3
                have hroom28 : x0_2.length ≤ co4 := (Kd.R_reads' HO_0.out).2.1
                have hC28 : Kd.C (Kd.int .i64) _ (some (⟨gq_, 0, none⟩ : Addr)) x0_2.length x0_2 := (Kd.R_reads' HO_0.out).2.2
                have q028 : (0 : Int) ≤ (x3_2 : Int) := of_decide_eq_true as_
                have hcut28 := cut_from (P := Try.prog) 22 3 .i64 Try.underlying22 hi028 1 hsz28 (some (⟨gq_, 0, none⟩ : Addr)) x0_2.length co4 x3_2 q028 q28
                have hr28 := Kd.C_drop (m := (x3_2 : Int).toNat) (c := co4) hC28 (by omega) hroom28
                obtain ⟨A28, hA28⟩ : ∃ A1, A1 = (if co4 = (x3_2 : Int).toNat then (some (⟨gq_, 0, none⟩ : Addr)) else ((some (⟨gq_, 0, none⟩ : Addr)) : Option Addr).map (·.add ((x3_2 : Int).toNat * 1))) := ⟨_, rfl⟩
                obtain ⟨c28, hc28⟩ : ∃ c1, c1 = co4 - (x3_2 : Int).toNat := ⟨_, rfl⟩
                have hy28 : y378.length = x0_2.length - (x3_2 : Int).toNat := (by rw [Ny378.out, List.length_drop] <;> omega)
                rw [show (x0_2).drop (x3_2 : Int).toNat = y378 from Ny378.out.symm] at hr28
                replace hr28 : Kd.C (Kd.int .i64) _ A28 y378.length y378 := (by rw [hA28]; exact hr28)
                rw [← hy28, ← hA28, ← hc28] at hcut28; have HR381 := Qx hr28
                have HC381 := Qx (show y378.length ≤ c28 from by rw [hy28, hc28]; exact Nat.sub_le_sub_right hroom28 _)
                clear hr28 hC28 hroom28 hi028 hsz28 hc28; have KY28 := Qx hy28; have KA28 := Qx hA28; clear hy28 hA28
                have KL28 := Qx (show (x3_2 : Int).toNat ≤ x0_2.length from by omega)
                replace q28 := eq_true q28
                go_wp2_with (first | ((with_reducible refine gate_builtin (b := .clear) (xs := #[.tmp 56]) rfl ?_); have hj_ : 0 ≤ (x3_2 : Int) := of_decide_eq_true as_; have hl_ : (x3_2 : Int) ≤ (x0_2.length : Int) := of_decide_eq_true as_; have hy1_ := KY28.out; refine Kd.R_clear_plain (0 : Int) (w0 := w0) w0.heap.size rfl (.tmp 56) 22 3 rfl Try.underlying22 1 8 info3 rfl (n := x0_2.length) (c := co4) (k := (x3_2 : Int).toNat) rfl ?hA ?hm (kR_ HO_0) ?hk hB_ (Qz hB_) ?_; (case hA => exact KA28.out); (case hm => omega); (case hk => omega); intro w29 ho hb hg; clear hj_ hl_ hy1_; rw [← Ny382.out] at ho; replace HB := Qx (hb); replace HK := Qx (Kept.of_grown (S := (fun k_ => P0_ k_)) hg (by repeat (first | (with_reducible first | exact HK.out | apply Kept.alloc | apply Kept.drewN | apply Kept.drew) | exact HK.out)) (fun k_ e_ => (HO_0.out.1 k_ e_))); replace HO_0 := Qx (ho); clear ho hb hg; have q31 : (x3_2 : Int) ≤ ((x0_2.length : Int) : Int) := of_decide_eq_true as_; obtain ⟨i031, hi031, _, hsz31, _⟩ := info_parts info3; have hcut31 := cut_to (P := Try.prog) 22 3 .i64 Try.underlying22 hi031 (some (⟨gq_, 0, none⟩ : Addr)) x0_2.length co4 x3_2 (of_decide_eq_true as_) q31 (Kd.R_reads' HO_0.out).2.1; have hr31 := Kd.R_take (m := (x3_2 : Int).toNat) HO_0.out (by have hz_ := (Kd.R_reads' HO_0.out).1; omega); have hy31 : y383.length = (x3_2 : Int).toNat := (by have hz_ := (Kd.R_reads' HO_0.out).1; rw [Ny383.out, List.length_take]; omega); rw [← Ny383.out] at hr31; rw [← hy31] at hr31 hcut31; clear hy31 hi031 hsz31 HO_0; have HO385 := Qx hr31; clear hr31; replace q31 := eq_true q31))
                repeat (go_quiet (first | ((with_reducible refine gate_builtin (b := .clear) (xs := #[.tmp 56]) rfl ?_); have hj_ : 0 ≤ (x3_2 : Int) := of_decide_eq_true as_; have hl_ : (x3_2 : Int) ≤ (x0_2.length : Int) := of_decide_eq_true as_; have hy1_ := KY28.out; refine Kd.R_clear_plain (0 : Int) (w0 := w0) w0.heap.size rfl (.tmp 56) 22 3 rfl Try.underlying22 1 8 info3 rfl (n := x0_2.length) (c := co4) (k := (x3_2 : Int).toNat) rfl ?hA ?hm (kR_ HO_0) ?hk hB_ (Qz hB_) ?_; (case hA => exact KA28.out); (case hm => omega); (case hk => omega); intro w29 ho hb hg; clear hj_ hl_ hy1_; rw [← Ny382.out] at ho; replace HB := Qx (hb); replace HK := Qx (Kept.of_grown (S := (fun k_ => P0_ k_)) hg (by repeat (first | (with_reducible first | exact HK.out | apply Kept.alloc | apply Kept.drewN | apply Kept.drew) | exact HK.out)) (fun k_ e_ => (HO_0.out.1 k_ e_))); replace HO_0 := Qx (ho); clear ho hb hg; have q31 : (x3_2 : Int) ≤ ((x0_2.length : Int) : Int) := of_decide_eq_true as_; obtain ⟨i031, hi031, _, hsz31, _⟩ := info_parts info3; have hcut31 := cut_to (P := Try.prog) 22 3 .i64 Try.underlying22 hi031 (some (⟨gq_, 0, none⟩ : Addr)) x0_2.length co4 x3_2 (of_decide_eq_true as_) q31 (Kd.R_reads' HO_0.out).2.1; have hr31 := Kd.R_take (m := (x3_2 : Int).toNat) HO_0.out (by omega); have hy31 : y383.length = (x3_2 : Int).toNat := (by rw [Ny383.out, List.length_take]; omega); rw [← Ny383.out] at hr31; rw [← hy31] at hr31 hcut31; clear hy31 hi031 hsz31 HO_0; have HO385 := Qx hr31; clear hr31; replace q31 := eq_true q31)); try go_wp2_with (first | ((with_reducible refine gate_builtin (b := .clear) (xs := #[.tmp 56]) rfl ?_); have hj_ : 0 ≤ (x3_2 : Int) := of_decide_eq_true as_; have hl_ : (x3_2 : Int) ≤ (x0_2.length : Int) := of_decide_eq_true as_; have hy1_ := KY28.out; refine Kd.R_clear_plain (0 : Int) (w0 := w0) w0.heap.size rfl (.tmp 56) 22 3 rfl Try.underlying22 1 8 info3 rfl (n := x0_2.length) (c := co4) (k := (x3_2 : Int).toNat) rfl ?hA ?hm (kR_ HO_0) ?hk hB_ (Qz hB_) ?_; (case hA => exact KA28.out); (case hm => omega); (case hk => omega); intro w29 ho hb hg; clear hj_ hl_ hy1_; rw [← Ny382.out] at ho; replace HB := Qx (hb); replace HK := Qx (Kept.of_grown (S := (fun k_ => P0_ k_)) hg (by repeat (first | (with_reducible first | exact HK.out | apply Kept.alloc | apply Kept.drewN | apply Kept.drew) | exact HK.out)) (fun k_ e_ => (HO_0.out.1 k_ e_))); replace HO_0 := Qx (ho); clear ho hb hg; have q31 : (x3_2 : Int) ≤ ((x0_2.length : Int) : Int) := of_decide_eq_true as_; obtain ⟨i031, hi031, _, hsz31, _⟩ := info_parts info3; have hcut31 := cut_to (P := Try.prog) 22 3 .i64 Try.underlying22 hi031 (some (⟨gq_, 0, none⟩ : Addr)) x0_2.length co4 x3_2 (of_decide_eq_true as_) q31 (Kd.R_reads' HO_0.out).2.1; have hr31 := Kd.R_take (m := (x3_2 : Int).toNat) HO_0.out (by have hz_ := (Kd.R_reads' HO_0.out).1; omega); have hy31 : y383.length = (x3_2 : Int).toNat := (by have hz_ := (Kd.R_reads' HO_0.out).1; rw [Ny383.out, List.length_take]; omega); rw [← Ny383.out] at hr31; rw [← hy31] at hr31 hcut31; clear hy31 hi031 hsz31 HO_0; have HO385 := Qx hr31; clear hr31; replace q31 := eq_true q31)))
                go_ret
                exact ⟨_, by first | rfl | (simp [errW_none, errW_some] <;> rfl) | (simp only [← hji7]; first | rfl | (simp [errW_none, errW_some] <;> rfl)) | (simp [*, errW_none, errW_some] <;> rfl), kR_ HO385, hB_, by repeat (first | (with_reducible first | exact HK.out | apply Kept.alloc | apply Kept.drewN | apply Kept.drew) | exact HK.out)⟩
               ·rw [if_neg c26] at H
                exact absurd H (by simp)
              ·rw [if_neg c25] at H
               exact absurd H (by simp)
          ·rw [if_neg c12] at H
           exact absurd H (by simp)
         ·rw [if_neg c10] at H
          have c10b0 : ((rd x0_1 x3_1) == (rd x0_1 (ji7))) = false := beq_eq_false_iff_ne.mpr c10
          have c10b1 : ((rd x0_1 x3_1) != (rd x0_1 (ji7))) = true := bne_iff_ne.mpr c10
          have H' := Qx H; clear H
          have p368 : 0 ≤ (x3_1 : Int) := of_decide_eq_true as_
          have q368 : x3_1 < (x0_1.length : Int) := of_decide_eq_true as_
          obtain ⟨ad368, e368, hx368_0⟩ := Kd.at_int (Kd.R_reads' HO_0.out).2.2 x3_1 p368 q368
          cases e368
          replace p368 := eq_true p368; replace q368 := eq_true q368
          have p369 : 0 ≤ ((ji7) : Int) := of_decide_eq_true as_
          have q369 : (ji7) < (x0_1.length : Int) := of_decide_eq_true as_
          obtain ⟨ad369, e369, hx369_0⟩ := Kd.at_int (Kd.R_reads' HO_0.out).2.2 (ji7) p369 q369
          obtain rfl : ad368 = ad369 := (by injection e369)
          replace p369 := eq_true p369; replace q369 := eq_true q369
          go_wp2
          repeat (go_quiet (fail); try go_wp2)
          (try simp only [← hl0_1])
          go_roundg k1
          case measure => have := HK1.out; omega
          case rel => exact ⟨(x0_1), (wrap64 (x3_1 + 1)), rg_, H', ⟨by have := HK1.out; omega⟩, ⟨by (try simp only [hl0_1]); (with_reducible repeat (first | apply Qra | apply Qrn | apply Qrd)); exact HO_0.out⟩, ⟨by repeat (first | (with_reducible first | exact HK.out | apply Kept.alloc | apply Kept.drewN | apply Kept.drew) | exact HK.out)⟩, ⟨hB_⟩⟩
        ·rw [if_neg c9] at H
         exact absurd H (by simp)
       ·rw [if_neg c8] at H
        exact absurd H (by simp)
      ·rw [if_neg c6] at H
       exact absurd H (by simp)
     ·rw [if_neg c5] at H
      have c5b0 : decide (x3_1 < (x0_1.length : Int)) = false := decide_eq_false c5
      (try (have c5z0 := c5b0; simp only [hl0_1] at c5z0))
      clear c5; obtain rfl := Option.some.inj H
      go_wp2
      repeat (go_quiet (fail); try go_wp2)
      go_ret
      exact ⟨_, rf_, kR_ HO_0, hB_, by repeat (first | (with_reducible first | exact HK.out | apply Kept.alloc | apply Kept.drewN | apply Kept.drew) | exact HK.out)⟩
/-! ### slices_Index_int_int: function 40 -/
def slices_Index_int_int.l0 : Nat → List Int → Int → Int → Int → Option (Int)
  | 0, _, _, _, _ => none
  | k + 1, x0, x1, x7, x8 => if x8 < x7 then (if 0 ≤ x8 then (if x8 < (x0.length : Int) then (if x1 = (rd x0 x8) then (some x8) else (slices_Index_int_int.l0 k x0 x1 x7 (wrap64 (x8 + 1)))) else (none)) else (none)) else (some (-1))
def slices_Index_int_int.f (k : Nat) (l0 : List Int) (a1 : Int) : Option (Int) := slices_Index_int_int.l0 k l0 a1 (l0.length : Int) 0
theorem slices_Index_int_int.mono_l : ∀ k, (∀ y0 y1 y2 y3, LeO (slices_Index_int_int.l0 k y0 y1 y2 y3) (slices_Index_int_int.l0 (k + 1) y0 y1 y2 y3))
  | 0 => fun _ _ _ _ r h => by simp [slices_Index_int_int.l0] at h
  | k + 1 => by
    have ih0 := slices_Index_int_int.mono_l k
    · intro y0 y1 y2 y3
      unfold slices_Index_int_int.l0
      repeat' first
      | (with_reducible exact ih0 _ _ _ _)
      | (with_reducible exact LeO.refl _)
      | (with_reducible exact LeO.none _)
      | (with_reducible refine LeO.ite ?_ ?_)
      | (with_reducible refine LeO.bind ?_ (fun _ => ?_))
      | exact ih0 _ _ _ _
      | exact LeO.none _
      | refine LeO.ite ?_ ?_
      | refine LeO.bind ?_ (fun _ => ?_)
theorem slices_Index_int_int.mono : ∀ a0 a1 k, LeO (slices_Index_int_int.f k a0 a1) (slices_Index_int_int.f (k + 1) a0 a1) := by
  intro a0 a1 k
  have ih0 := slices_Index_int_int.mono_l k
  unfold slices_Index_int_int.f
  repeat' first
      | (with_reducible exact ih0 _ _ _ _)
      | (with_reducible exact LeO.refl _)
      | (with_reducible exact LeO.none _)
      | (with_reducible refine LeO.ite ?_ ?_)
      | (with_reducible refine LeO.bind ?_ (fun _ => ?_))
      | exact ih0 _ _ _ _
      | exact LeO.none _
      | refine LeO.ite ?_ ?_
      | refine LeO.bind ?_ (fun _ => ?_)
noncomputable def slices_Index_int_int.L0 (y0 : List Int) (y1 : Int) (y2 : Int) (y3 : Int) : Option (Int) := lim fun k => slices_Index_int_int.l0 k y0 y1 y2 y3
theorem slices_Index_int_int.L0_sup (y0 : List Int) (y1 : Int) (y2 : Int) (y3 : Int) : Sup (fun k => slices_Index_int_int.l0 k y0 y1 y2 y3) (slices_Index_int_int.L0 y0 y1 y2 y3) := Sup.of_mono fun k => slices_Index_int_int.mono_l k y0 y1 y2 y3
noncomputable def slices_Index_int_int.F (l0 : List Int) (a1 : Int) : Option (Int) := lim fun k => slices_Index_int_int.f k l0 a1
theorem slices_Index_int_int.F_sup (l0 : List Int) (a1 : Int) : Sup (fun k => slices_Index_int_int.f k l0 a1) (slices_Index_int_int.F l0 a1) := Sup.of_mono fun k => slices_Index_int_int.mono l0 a1 k
theorem slices_Index_int_int.L0_eq (x0 : List Int) (x1 : Int) (x7 : Int) (x8 : Int) : slices_Index_int_int.L0 x0 x1 x7 x8 = if x8 < x7 then (if 0 ≤ x8 then (if x8 < (x0.length : Int) then (if x1 = (rd x0 x8) then (some x8) else (slices_Index_int_int.L0 x0 x1 x7 (wrap64 (x8 + 1)))) else (none)) else (none)) else (some (-1)) := by
  refine Sup.unique (slices_Index_int_int.L0_sup x0 x1 x7 x8) (Sup.shift (fun k => slices_Index_int_int.mono_l k x0 x1 x7 x8) (Sup.congr (g' := fun k => if x8 < x7 then (if 0 ≤ x8 then (if x8 < (x0.length : Int) then (if x1 = (rd x0 x8) then (some x8) else (slices_Index_int_int.l0 k x0 x1 x7 (wrap64 (x8 + 1)))) else (none)) else (none)) else (some (-1))) (fun k => by first | rfl | simp only [slices_Index_int_int.l0]) ?_))
  repeat' first
    | (with_reducible exact slices_Index_int_int.L0_sup _ _ _ _)
    | (with_reducible refine Sup.ite ?_ ?_)
    | (with_reducible refine Sup.bind ?_ (fun _ => ?_))
    | (with_reducible exact Sup.const _)
    | exact slices_Index_int_int.L0_sup _ _ _ _
    | exact Sup.const _
theorem slices_Index_int_int.F_eq (l0 : List Int) (a1 : Int) : slices_Index_int_int.F l0 a1 = slices_Index_int_int.L0 l0 a1 (l0.length : Int) 0 := by
  refine Sup.unique (slices_Index_int_int.F_sup l0 a1) (Sup.congr (g' := fun k => slices_Index_int_int.l0 k l0 a1 (l0.length : Int) 0) (fun k => by first | rfl | simp only [slices_Index_int_int.f]) ?_)
  repeat' first
    | (with_reducible exact slices_Index_int_int.L0_sup _ _ _ _)
    | (with_reducible refine Sup.ite ?_ ?_)
    | (with_reducible refine Sup.bind ?_ (fun _ => ?_))
    | (with_reducible exact Sup.const _)
    | exact slices_Index_int_int.L0_sup _ _ _ _
    | exact Sup.const _
set_option maxHeartbeats 8000000 in
set_option maxRecDepth 100000 in
theorem slices_Index_int_int.calls (k : Nat) (A0 : Option Addr) (c0 : Nat) (l0 : List Int) (a1 : Int) (r : Int) (w : World) (hr0 : Kd.C (Kd.int .i64) w A0 l0.length l0) (hc0 : l0.length ≤ c0) (h : slices_Index_int_int.f k l0 a1 = some r) :
    Calls Try.prog 40 #[.slice A0 l0.length c0, .int .i64 a1] w fun e w' => e = .returned (.int .i64 r) ∧ Drawn0 w w' := by
  have HR0 := Qx hr0; have HC0 := Qx hc0; clear hr0 hc0
  have H : (slices_Index_int_int.l0 k l0 a1 (l0.length : Int) 0) = some r := h
  clear h; have H' := Qx H; clear H
  go_enter Try.func40, Try.ntmps40
  go_wp2
  go_loopg [8] k (fun kq v8 w' => ∃ (x8_1 : Int), v8 = .int .i64 x8_1 ∧ Aside0 (slices_Index_int_int.l0 kq l0 a1 (l0.length : Int) x8_1 = some r) ∧ Aside0 (kq ≤ k) ∧ Drawn0 w w')
  case atStart => exact ⟨(0), rg_, H', ⟨Nat.le_refl _⟩, by repeat (first | exact Drawn0.refl _ | apply Drawn0.step)⟩
  case round =>
   clear H'
   try clear p2
   obtain ⟨x8_1, rfl, HA, HK1, ⟨m1, rfl⟩⟩ := hrel
   cases gk with
   | zero => exact absurd HA.out (by simp [slices_Index_int_int.l0])
   | succ k1 =>
    have H := HA.out; clear HA; simp only [slices_Index_int_int.l0] at H
    by_cases c3 : x8_1 < (l0.length : Int)
    ·rw [if_pos c3] at H
     have c3b0 : decide (x8_1 < (l0.length : Int)) = true := decide_eq_true c3
     clear c3
     by_cases c4 : 0 ≤ x8_1
     ·rw [if_pos c4] at H
      have c4b0 : decide (0 ≤ x8_1) = true := decide_eq_true c4
      clear c4
      by_cases c5 : x8_1 < (l0.length : Int)
      ·rw [if_pos c5] at H
       have c5b0 : decide (x8_1 < (l0.length : Int)) = true := decide_eq_true c5
       clear c5
       by_cases c6 : a1 = (rd l0 x8_1)
       ·rw [if_pos c6] at H
        have c6b0 : (a1 == (rd l0 x8_1)) = true := beq_iff_eq.mpr c6
        have c6b1 : (a1 != (rd l0 x8_1)) = false := bne_eq_false_iff_eq.mpr c6
        clear c6; obtain rfl := Option.some.inj H
        have p386 : 0 ≤ (x8_1 : Int) := of_decide_eq_true as_
        have q386 : x8_1 < (l0.length : Int) := of_decide_eq_true as_
        obtain ⟨ad386, e386, hx386_0⟩ := Kd.at_int HR0.out x8_1 p386 q386
        cases e386
        replace p386 := eq_true p386; replace q386 := eq_true q386
        go_wp2
        go_ret
        exact ⟨rg_, by repeat (first | exact Drawn0.refl _ | apply Drawn0.step)⟩
       ·rw [if_neg c6] at H
        have c6b0 : (a1 == (rd l0 x8_1)) = false := beq_eq_false_iff_ne.mpr c6
        have c6b1 : (a1 != (rd l0 x8_1)) = true := bne_iff_ne.mpr c6
        have H' := Qx H; clear H
        have p386 : 0 ≤ (x8_1 : Int) := of_decide_eq_true as_
        have q386 : x8_1 < (l0.length : Int) := of_decide_eq_true as_
        obtain ⟨ad386, e386, hx386_0⟩ := Kd.at_int HR0.out x8_1 p386 q386
        cases e386
        replace p386 := eq_true p386; replace q386 := eq_true q386
        go_wp2
        go_roundg k1
        case measure => have := HK1.out; omega
        case rel => exact ⟨(wrap64 (x8_1 + 1)), rg_, H', ⟨by have := HK1.out; omega⟩, by repeat (first | exact Drawn0.refl _ | apply Drawn0.step)⟩
      ·rw [if_neg c5] at H
       exact absurd H (by simp)
     ·rw [if_neg c4] at H
      exact absurd H (by simp)
    ·rw [if_neg c3] at H
     have c3b0 : decide (x8_1 < (l0.length : Int)) = false := decide_eq_false c3
     clear c3; obtain rfl := Option.some.inj H
     go_wp2
     go_ret
     exact ⟨rg_, by repeat (first | exact Drawn0.refl _ | apply Drawn0.step)⟩
/-! ### slices_Contains_int_int: function 23 -/
def slices_Contains_int_int.f (k : Nat) (l0 : List Int) (a1 : Int) : Option (Bool) := (slices_Index_int_int.f k l0 a1).bind fun t387 => (some (decide (t387 ≥ 0)))
theorem slices_Contains_int_int.mono : ∀ a0 a1 k, LeO (slices_Contains_int_int.f k a0 a1) (slices_Contains_int_int.f (k + 1) a0 a1) := by
  intro a0 a1 k
  unfold slices_Contains_int_int.f
  repeat' first
      | (with_reducible exact slices_Index_int_int.mono _ _ _)
      | (with_reducible exact LeO.refl _)
      | (with_reducible exact LeO.none _)
      | (with_reducible refine LeO.ite ?_ ?_)
      | (with_reducible refine LeO.bind ?_ (fun _ => ?_))
      | exact slices_Index_int_int.mono _ _ _
      | exact LeO.none _
      | refine LeO.ite ?_ ?_
      | refine LeO.bind ?_ (fun _ => ?_)
noncomputable def slices_Contains_int_int.F (l0 : List Int) (a1 : Int) : Option (Bool) := lim fun k => slices_Contains_int_int.f k l0 a1
theorem slices_Contains_int_int.F_sup (l0 : List Int) (a1 : Int) : Sup (fun k => slices_Contains_int_int.f k l0 a1) (slices_Contains_int_int.F l0 a1) := Sup.of_mono fun k => slices_Contains_int_int.mono l0 a1 k
theorem slices_Contains_int_int.F_eq (l0 : List Int) (a1 : Int) : slices_Contains_int_int.F l0 a1 = (slices_Index_int_int.F l0 a1).bind fun t387 => (some (decide (t387 ≥ 0))) := by
  refine Sup.unique (slices_Contains_int_int.F_sup l0 a1) (Sup.congr (g' := fun k => (slices_Index_int_int.f k l0 a1).bind fun t387 => (some (decide (t387 ≥ 0)))) (fun k => by first | rfl | simp only [slices_Contains_int_int.f]) ?_)
  repeat' first
    | (with_reducible exact slices_Index_int_int.F_sup _ _)
    | (with_reducible refine Sup.ite ?_ ?_)
    | (with_reducible refine Sup.bind ?_ (fun _ => ?_))
    | (with_reducible exact Sup.const _)
    | exact slices_Index_int_int.F_sup _ _
    | exact Sup.const _
set_option maxHeartbeats 8000000 in
set_option maxRecDepth 100000 in
theorem slices_Contains_int_int.calls (k : Nat) (A0 : Option Addr) (c0 : Nat) (l0 : List Int) (a1 : Int) (r : Bool) (w : World) (hr0 : Kd.C (Kd.int .i64) w A0 l0.length l0) (hc0 : l0.length ≤ c0) (h : slices_Contains_int_int.f k l0 a1 = some r) :
    Calls Try.prog 23 #[.slice A0 l0.length c0, .int .i64 a1] w fun e w' => e = .returned (.bool r) ∧ Drawn0 w w' := by
  have HR0 := Qx hr0; have HC0 := Qx hc0; clear hr0 hc0
  have H : ((slices_Index_int_int.f k l0 a1).bind fun t387 => (some (decide (t387 ≥ 0)))) = some r := h
  clear h; replace H := Option.bind_eq_some_iff.mp H; obtain ⟨t387, A30, H⟩ := H
  have A3 := Qx A30; clear A30; obtain rfl := Option.some.inj H
  go_enter Try.func23, Try.ntmps23
  go_wp2_with (first | ((with_reducible refine gate_callee (f := 40) rfl ?_); refine gl_ 7 Try.func40 #[.slice A0 l0.length c0, .int .i64 a1] ?_; (with_reducible refine (slices_Index_int_int.calls k _ _ l0 a1 t387 _ ?side1 ?side2 A3.out).mono ?_); (case side1 => exact kE_ HR0); (case side2 => exact HC0.out); rintro e w' ⟨rfl, ⟨nd, rfl⟩⟩; refine ⟨_, rfl, ?_⟩))
  go_ret
  exact ⟨rg_, by repeat (first | exact Drawn0.refl _ | apply Drawn0.step)⟩
/-! ### impl_MeetSparse_1: function 22 -/
def impl_MeetSparse_1.f (k : Nat) (a0 : Int) (l1_0 : List Int) : Option (Bool) := (slices_Contains_int_int.f k l1_0 a0).bind fun t388 => (some (!t388))
theorem impl_MeetSparse_1.mono : ∀ a0 a1 k, LeO (impl_MeetSparse_1.f k a0 a1) (impl_MeetSparse_1.f (k + 1) a0 a1) := by
  intro a0 a1 k
  unfold impl_MeetSparse_1.f
  repeat' first
      | (with_reducible exact slices_Contains_int_int.mono _ _ _)
      | (with_reducible exact LeO.refl _)
      | (with_reducible exact LeO.none _)
      | (with_reducible refine LeO.ite ?_ ?_)
      | (with_reducible refine LeO.bind ?_ (fun _ => ?_))
      | exact slices_Contains_int_int.mono _ _ _
      | exact LeO.none _
      | refine LeO.ite ?_ ?_
      | refine LeO.bind ?_ (fun _ => ?_)
noncomputable def impl_MeetSparse_1.F (a0 : Int) (l1_0 : List Int) : Option (Bool) := lim fun k => impl_MeetSparse_1.f k a0 l1_0
theorem impl_MeetSparse_1.F_sup (a0 : Int) (l1_0 : List Int) : Sup (fun k => impl_MeetSparse_1.f k a0 l1_0) (impl_MeetSparse_1.F a0 l1_0) := Sup.of_mono fun k => impl_MeetSparse_1.mono a0 l1_0 k
theorem impl_MeetSparse_1.F_eq (a0 : Int) (l1_0 : List Int) : impl_MeetSparse_1.F a0 l1_0 = (slices_Contains_int_int.F l1_0 a0).bind fun t388 => (some (!t388)) := by
  refine Sup.unique (impl_MeetSparse_1.F_sup a0 l1_0) (Sup.congr (g' := fun k => (slices_Contains_int_int.f k l1_0 a0).bind fun t388 => (some (!t388))) (fun k => by first | rfl | simp only [impl_MeetSparse_1.f]) ?_)
  repeat' first
    | (with_reducible exact slices_Contains_int_int.F_sup _ _)
    | (with_reducible refine Sup.ite ?_ ?_)
    | (with_reducible refine Sup.bind ?_ (fun _ => ?_))
    | (with_reducible exact Sup.const _)
    | exact slices_Contains_int_int.F_sup _ _
    | exact Sup.const _
set_option maxHeartbeats 8000000 in
set_option maxRecDepth 100000 in
theorem impl_MeetSparse_1.calls (k : Nat) (a0 : Int) (gb1_ : Nat) (A1_0 : Option Addr) (c1_0 : Nat) (l1_0 : List Int) (r : Bool) (w : World) (hr1_0 : Kd.C (Kd.int .i64) w A1_0 l1_0.length l1_0) (hc1_0 : l1_0.length ≤ c1_0) (hb1_ : w.heap[gb1_]? = some (.cells #[.slice A1_0 l1_0.length c1_0] 22 (0, 0))) (h : impl_MeetSparse_1.f k a0 l1_0 = some r) :
    Calls Try.prog 22 #[.int .i64 a0, .pointer (some ⟨gb1_, 0, none⟩)] w fun e w' => e = .returned (.bool r) ∧ Drawn0 w w' := by
  have hu22 := Try.underlying22; have HR1_0 := Qx hr1_0; have HC1_0 := Qx hc1_0; clear hr1_0 hc1_0; have BK1 := Qx hb1_; clear hb1_
  have H : ((slices_Contains_int_int.f k l1_0 a0).bind fun t388 => (some (!t388))) = some r := h
  clear h; replace H := Option.bind_eq_some_iff.mp H; obtain ⟨t388, A30, H⟩ := H
  have A3 := Qx A30; clear A30; obtain rfl := Option.some.inj H
  have hcz4_0 : w.cell? ⟨gb1_, 0, none⟩ = some (.slice A1_0 l1_0.length c1_0) := (blk_cell BK1.out 0).trans rfl
  have hfz4_0 := blk_frozen BK1.out 0
  go_enter Try.func22, Try.ntmps22
  go_wp2_with (first | ((with_reducible refine gate_callee (f := 23) rfl ?_); refine gl_ 6 Try.func23 #[.slice A1_0 l1_0.length c1_0, .int .i64 a0] ?_; (with_reducible refine (slices_Contains_int_int.calls k _ _ l1_0 a0 t388 _ ?side1 ?side2 A3.out).mono ?_); (case side1 => exact kE_ HR1_0); (case side2 => exact HC1_0.out); rintro e w' ⟨rfl, ⟨nd, rfl⟩⟩; refine ⟨_, rfl, ?_⟩))
  go_ret
  exact ⟨rg_, by repeat (first | exact Drawn0.refl _ | apply Drawn0.step)⟩
/-! ### slices_IndexFunc_int_int_at_impl_MeetSparse_1: function 80 -/
def slices_IndexFunc_int_int_at_impl_MeetSparse_1.l0 : Nat → List Int → Int → Int → List Int → Option (Int)
  | 0, _, _, _, _ => none
  | k + 1, x0, x7, x8, x2000 => if x8 < x7 then (if 0 ≤ x8 then (if x8 < (x0.length : Int) then ((impl_MeetSparse_1.f k (rd x0 x8) x2000).bind fun t390 => (if t390 = true then (some x8) else (slices_IndexFunc_int_int_at_impl_MeetSparse_1.l0 k x0 x7 (wrap64 (x8 + 1)) x2000))) else (none)) else (none)) else (some (-1))
def slices_IndexFunc_int_int_at_impl_MeetSparse_1.f (k : Nat) (l0 : List Int) (l1_0 : List Int) : Option (Int) := slices_IndexFunc_int_int_at_impl_MeetSparse_1.l0 k l0 (l0.length : Int) 0 l1_0
theorem slices_IndexFunc_int_int_at_impl_MeetSparse_1.mono_l : ∀ k, (∀ y0 y1 y2 y3, LeO (slices_IndexFunc_int_int_at_impl_MeetSparse_1.l0 k y0 y1 y2 y3) (slices_IndexFunc_int_int_at_impl_MeetSparse_1.l0 (k + 1) y0 y1 y2 y3))
  | 0 => fun _ _ _ _ r h => by simp [slices_IndexFunc_int_int_at_impl_MeetSparse_1.l0] at h
  | k + 1 => by
    have ih0 := slices_IndexFunc_int_int_at_impl_MeetSparse_1.mono_l k
    · intro y0 y1 y2 y3
      unfold slices_IndexFunc_int_int_at_impl_MeetSparse_1.l0
      repeat' first
      | (with_reducible exact ih0 _ _ _ _)
      | (with_reducible exact impl_MeetSparse_1.mono _ _ _)
      | (with_reducible exact LeO.refl _)
      | (with_reducible exact LeO.none _)
      | (with_reducible refine LeO.ite ?_ ?_)
      | (with_reducible refine LeO.bind ?_ (fun _ => ?_))
      | exact ih0 _ _ _ _
      | exact impl_MeetSparse_1.mono _ _ _
      | exact LeO.none _
      | refine LeO.ite ?_ ?_
      | refine LeO.bind ?_ (fun _ => ?_)
theorem slices_IndexFunc_int_int_at_impl_MeetSparse_1.mono : ∀ a0 a1 k, LeO (slices_IndexFunc_int_int_at_impl_MeetSparse_1.f k a0 a1) (slices_IndexFunc_int_int_at_impl_MeetSparse_1.f (k + 1) a0 a1) := by
  intro a0 a1 k
  have ih0 := slices_IndexFunc_int_int_at_impl_MeetSparse_1.mono_l k
  unfold slices_IndexFunc_int_int_at_impl_MeetSparse_1.f
  repeat' first
      | (with_reducible exact ih0 _ _ _ _)
      | (with_reducible exact impl_MeetSparse_1.mono _ _ _)
      | (with_reducible exact LeO.refl _)
      | (with_reducible exact LeO.none _)
      | (with_reducible refine LeO.ite ?_ ?_)
      | (with_reducible refine LeO.bind ?_ (fun _ => ?_))
      | exact ih0 _ _ _ _
      | exact impl_MeetSparse_1.mono _ _ _
      | exact LeO.none _
      | refine LeO.ite ?_ ?_
      | refine LeO.bind ?_ (fun _ => ?_)
noncomputable def slices_IndexFunc_int_int_at_impl_MeetSparse_1.L0 (y0 : List Int) (y1 : Int) (y2 : Int) (y3 : List Int) : Option (Int) := lim fun k => slices_IndexFunc_int_int_at_impl_MeetSparse_1.l0 k y0 y1 y2 y3
theorem slices_IndexFunc_int_int_at_impl_MeetSparse_1.L0_sup (y0 : List Int) (y1 : Int) (y2 : Int) (y3 : List Int) : Sup (fun k => slices_IndexFunc_int_int_at_impl_MeetSparse_1.l0 k y0 y1 y2 y3) (slices_IndexFunc_int_int_at_impl_MeetSparse_1.L0 y0 y1 y2 y3) := Sup.of_mono fun k => slices_IndexFunc_int_int_at_impl_MeetSparse_1.mono_l k y0 y1 y2 y3
noncomputable def slices_IndexFunc_int_int_at_impl_MeetSparse_1.F (l0 : List Int) (l1_0 : List Int) : Option (Int) := lim fun k => slices_IndexFunc_int_int_at_impl_MeetSparse_1.f k l0 l1_0
theorem slices_IndexFunc_int_int_at_impl_MeetSparse_1.F_sup (l0 : List Int) (l1_0 : List Int) : Sup (fun k => slices_IndexFunc_int_int_at_impl_MeetSparse_1.f k l0 l1_0) (slices_IndexFunc_int_int_at_impl_MeetSparse_1.F l0 l1_0) := Sup.of_mono fun k => slices_IndexFunc_int_int_at_impl_MeetSparse_1.mono l0 l1_0 k
theorem slices_IndexFunc_int_int_at_impl_MeetSparse_1.L0_eq (x0 : List Int) (x7 : Int) (x8 : Int) (x2000 : List Int) : slices_IndexFunc_int_int_at_impl_MeetSparse_1.L0 x0 x7 x8 x2000 = if x8 < x7 then (if 0 ≤ x8 then (if x8 < (x0.length : Int) then ((impl_MeetSparse_1.F (rd x0 x8) x2000).bind fun t390 => (if t390 = true then (some x8) else (slices_IndexFunc_int_int_at_impl_MeetSparse_1.L0 x0 x7 (wrap64 (x8 + 1)) x2000))) else (none)) else (none)) else (some (-1)) := by
  refine Sup.unique (slices_IndexFunc_int_int_at_impl_MeetSparse_1.L0_sup x0 x7 x8 x2000) (Sup.shift (fun k => slices_IndexFunc_int_int_at_impl_MeetSparse_1.mono_l k x0 x7 x8 x2000) (Sup.congr (g' := fun k => if x8 < x7 then (if 0 ≤ x8 then (if x8 < (x0.length : Int) then ((impl_MeetSparse_1.f k (rd x0 x8) x2000).bind fun t390 => (if t390 = true then (some x8) else (slices_IndexFunc_int_int_at_impl_MeetSparse_1.l0 k x0 x7 (wrap64 (x8 + 1)) x2000))) else (none)) else (none)) else (some (-1))) (fun k => by first | rfl | simp only [slices_IndexFunc_int_int_at_impl_MeetSparse_1.l0]) ?_))
  repeat' first
    | (with_reducible exact slices_IndexFunc_int_int_at_impl_MeetSparse_1.L0_sup _ _ _ _)
    | (with_reducible exact impl_MeetSparse_1.F_sup _ _)
    | (with_reducible refine Sup.ite ?_ ?_)
    | (with_reducible refine Sup.bind ?_ (fun _ => ?_))
    | (with_reducible exact Sup.const _)
    | exact slices_IndexFunc_int_int_at_impl_MeetSparse_1.L0_sup _ _ _ _
    | exact impl_MeetSparse_1.F_sup _ _
    | exact Sup.const _
theorem slices_IndexFunc_int_int_at_impl_MeetSparse_1.F_eq (l0 : List Int) (l1_0 : List Int) : slices_IndexFunc_int_int_at_impl_MeetSparse_1.F l0 l1_0 = slices_IndexFunc_int_int_at_impl_MeetSparse_1.L0 l0 (l0.length : Int) 0 l1_0 := by
  refine Sup.unique (slices_IndexFunc_int_int_at_impl_MeetSparse_1.F_sup l0 l1_0) (Sup.congr (g' := fun k => slices_IndexFunc_int_int_at_impl_MeetSparse_1.l0 k l0 (l0.length : Int) 0 l1_0) (fun k => by first | rfl | simp only [slices_IndexFunc_int_int_at_impl_MeetSparse_1.f]) ?_)
  repeat' first
    | (with_reducible exact slices_IndexFunc_int_int_at_impl_MeetSparse_1.L0_sup _ _ _ _)
    | (with_reducible exact impl_MeetSparse_1.F_sup _ _)
    | (with_reducible refine Sup.ite ?_ ?_)
    | (with_reducible refine Sup.bind ?_ (fun _ => ?_))
    | (with_reducible exact Sup.const _)
    | exact slices_IndexFunc_int_int_at_impl_MeetSparse_1.L0_sup _ _ _ _
    | exact impl_MeetSparse_1.F_sup _ _
    | exact Sup.const _
set_option maxHeartbeats 8000000 in
set_option maxRecDepth 100000 in
theorem slices_IndexFunc_int_int_at_impl_MeetSparse_1.calls (k : Nat) (A0 : Option Addr) (c0 : Nat) (l0 : List Int) (gb1_ : Nat) (A1_0 : Option Addr) (c1_0 : Nat) (l1_0 : List Int) (r : Int) (w : World) (hr0 : Kd.C (Kd.int .i64) w A0 l0.length l0) (hc0 : l0.length ≤ c0) (hr1_0 : Kd.C (Kd.int .i64) w A1_0 l1_0.length l1_0) (hc1_0 : l1_0.length ≤ c1_0) (hb1_ : w.heap[gb1_]? = some (.cells #[.slice A1_0 l1_0.length c1_0] 22 (0, 0))) (h : slices_IndexFunc_int_int_at_impl_MeetSparse_1.f k l0 l1_0 = some r) :
    Calls Try.prog 39 #[.slice A0 l0.length c0, .func (.func 22) #[] #[.pointer (some ⟨gb1_, 0, none⟩)]] w fun e w' => e = .returned (.int .i64 r) ∧ Drawn0 w w' := by
  have HR0 := Qx hr0; have HC0 := Qx hc0; clear hr0 hc0; have HR1_0 := Qx hr1_0; have HC1_0 := Qx hc1_0; clear hr1_0 hc1_0; have BK1 := Qx hb1_; clear hb1_
  have H : (slices_IndexFunc_int_int_at_impl_MeetSparse_1.l0 k l0 (l0.length : Int) 0 l1_0) = some r := h
  clear h; have H' := Qx H; clear H
  go_enter Try.func39, Try.ntmps39
  go_wp2
  go_loopg [8] k (fun kq v8 w' => ∃ (x8_1 : Int), v8 = .int .i64 x8_1 ∧ Aside0 (slices_IndexFunc_int_int_at_impl_MeetSparse_1.l0 kq l0 (l0.length : Int) x8_1 l1_0 = some r) ∧ Aside0 (kq ≤ k) ∧ Drawn0 w w')
  case atStart => exact ⟨(0), rg_, H', ⟨Nat.le_refl _⟩, by repeat (first | exact Drawn0.refl _ | apply Drawn0.step)⟩
  case round =>
   clear H'
   try clear c1
   try clear p2
   obtain ⟨x8_1, rfl, HA, HK1, ⟨m1, rfl⟩⟩ := hrel
   cases gk with
   | zero => exact absurd HA.out (by simp [slices_IndexFunc_int_int_at_impl_MeetSparse_1.l0])
   | succ k1 =>
    have H := HA.out; clear HA; simp only [slices_IndexFunc_int_int_at_impl_MeetSparse_1.l0] at H
    by_cases c3 : x8_1 < (l0.length : Int)
    ·rw [if_pos c3] at H
     have c3b0 : decide (x8_1 < (l0.length : Int)) = true := decide_eq_true c3
     clear c3
     by_cases c4 : 0 ≤ x8_1
     ·rw [if_pos c4] at H
      have c4b0 : decide (0 ≤ x8_1) = true := decide_eq_true c4
      clear c4
      by_cases c5 : x8_1 < (l0.length : Int)
      ·rw [if_pos c5] at H
       have c5b0 : decide (x8_1 < (l0.length : Int)) = true := decide_eq_true c5
       clear c5; replace H := Option.bind_eq_some_iff.mp H; obtain ⟨t390, A60, H⟩ := H
       have A6 := Qx A60; clear A60
       by_cases c7 : t390 = true
       ·subst c7
        have H1 : (some x8_1) = some r := by rw [if_pos rfl] at H; exact H
        clear H; have H := H1; clear H1; obtain rfl := Option.some.inj H
        have p389 : 0 ≤ (x8_1 : Int) := of_decide_eq_true as_
        have q389 : x8_1 < (l0.length : Int) := of_decide_eq_true as_
        obtain ⟨ad389, e389, hx389_0⟩ := Kd.at_int HR0.out x8_1 p389 q389
        cases e389
        replace p389 := eq_true p389; replace q389 := eq_true q389
        go_wp2_with (first | (go_at_call 22; (with_reducible refine (impl_MeetSparse_1.calls k1 (rd l0 x8_1) gb1_ A1_0 c1_0 l1_0 true _ ?side1 ?side2 ?side3 A6.out).mono ?_); (case side1 => exact kE_ HR1_0); (case side2 => exact HC1_0.out); (case side3 => exact (kB_ BK1)); rintro e w' ⟨rfl, ⟨nd, rfl⟩⟩))
        go_ret
        exact ⟨rg_, by repeat (first | exact Drawn0.refl _ | apply Drawn0.step)⟩
       ·replace c7 := Bool.eq_false_iff.mpr c7; subst c7
        have H1 : (slices_IndexFunc_int_int_at_impl_MeetSparse_1.l0 k1 l0 (l0.length : Int) (wrap64 (x8_1 + 1)) l1_0) = some r := by rw [if_neg (show ¬ (false = true) by decide)] at H; exact H
        clear H; have H := H1; clear H1; have H' := Qx H; clear H
        have p389 : 0 ≤ (x8_1 : Int) := of_decide_eq_true as_
        have q389 : x8_1 < (l0.length : Int) := of_decide_eq_true as_
        obtain ⟨ad389, e389, hx389_0⟩ := Kd.at_int HR0.out x8_1 p389 q389
        cases e389
        replace p389 := eq_true p389; replace q389 := eq_true q389
        go_wp2_with (first | (go_at_call 22; (with_reducible refine (impl_MeetSparse_1.calls k1 (rd l0 x8_1) gb1_ A1_0 c1_0 l1_0 false _ ?side1 ?side2 ?side3 A6.out).mono ?_); (case side1 => exact kE_ HR1_0); (case side2 => exact HC1_0.out); (case side3 => exact (kB_ BK1)); rintro e w' ⟨rfl, ⟨nd, rfl⟩⟩))
        go_roundg k1
        case measure => have := HK1.out; omega
        case rel => exact ⟨(wrap64 (x8_1 + 1)), rg_, H', ⟨by have := HK1.out; omega⟩, by repeat (first | exact Drawn0.refl _ | apply Drawn0.step)⟩
      ·rw [if_neg c5] at H
       exact absurd H (by simp)
     ·rw [if_neg c4] at H
      exact absurd H (by simp)
    ·rw [if_neg c3] at H
     have c3b0 : decide (x8_1 < (l0.length : Int)) = false := decide_eq_false c3
     clear c3; obtain rfl := Option.some.inj H
     go_wp2
     go_ret
     exact ⟨rg_, by repeat (first | exact Drawn0.refl _ | apply Drawn0.step)⟩
/-! ### slices_DeleteFunc_int_int_at_impl_MeetSparse_1: function 79 -/
def slices_DeleteFunc_int_int_at_impl_MeetSparse_1.l0 : Nat → List Int → Int → Int → List Int → Option (List Int)
  | 0, _, _, _, _ => none
  | k + 1, x0, x5, x6, x2000 => if x6 < (x0.length : Int) then (if 0 ≤ x6 then ((impl_MeetSparse_1.f k (rd x0 x6) x2000).bind fun t393 => (if t393 = true then (slices_DeleteFunc_int_int_at_impl_MeetSparse_1.l0 k x0 x5 (wrap64 (x6 + 1)) x2000) else (if 0 ≤ x5 then (if x5 < (x0.length : Int) then (slices_DeleteFunc_int_int_at_impl_MeetSparse_1.l0 k (x0.set (x5 : Int).toNat (rd x0 x6)) (wrap64 (x5 + 1)) (wrap64 (x6 + 1)) x2000) else (none)) else (none)))) else (none)) else (if 0 ≤ x5 then (if x5 ≤ (x0.length : Int) then (some ((zer (0 : Int) x0 (x5 : Int).toNat (x0.drop (x5 : Int).toNat).length).take (x5 : Int).toNat)) else (none)) else (none))
def slices_DeleteFunc_int_int_at_impl_MeetSparse_1.f (k : Nat) (l0 : List Int) (l1_0 : List Int) : Option (List Int) := (slices_IndexFunc_int_int_at_impl_MeetSparse_1.f k l0 l1_0).bind fun t391 => (if t391 = (-1) then (some l0) else (slices_DeleteFunc_int_int_at_impl_MeetSparse_1.l0 k l0 t391 (wrap64 (t391 + 1)) l1_0))
theorem slices_DeleteFunc_int_int_at_impl_MeetSparse_1.mono_l : ∀ k, (∀ y0 y1 y2 y3, LeO (slices_DeleteFunc_int_int_at_impl_MeetSparse_1.l0 k y0 y1 y2 y3) (slices_DeleteFunc_int_int_at_impl_MeetSparse_1.l0 (k + 1) y0 y1 y2 y3))
  | 0 => fun _ _ _ _ r h => by simp [slices_DeleteFunc_int_int_at_impl_MeetSparse_1.l0] at h
  | k + 1 => by
    have ih0 := slices_DeleteFunc_int_int_at_impl_MeetSparse_1.mono_l k
    · intro y0 y1 y2 y3
      unfold slices_DeleteFunc_int_int_at_impl_MeetSparse_1.l0
      repeat' first
      | (with_reducible exact ih0 _ _ _ _)
      | (with_reducible exact impl_MeetSparse_1.mono _ _ _)
      | (with_reducible exact slices_IndexFunc_int_int_at_impl_MeetSparse_1.mono _ _ _)
      | (with_reducible exact LeO.refl _)
      | (with_reducible exact LeO.none _)
      | (with_reducible refine LeO.ite ?_ ?_)
      | (with_reducible refine LeO.bind ?_ (fun _ => ?_))
      | exact ih0 _ _ _ _
      | exact impl_MeetSparse_1.mono _ _ _
      | exact slices_IndexFunc_int_int_at_impl_MeetSparse_1.mono _ _ _
      | exact LeO.none _
      | refine LeO.ite ?_ ?_
      | refine LeO.bind ?_ (fun _ => ?_)
theorem slices_DeleteFunc_int_int_at_impl_MeetSparse_1.mono : ∀ a0 a1 k, LeO (slices_DeleteFunc_int_int_at_impl_MeetSparse_1.f k a0 a1) (slices_DeleteFunc_int_int_at_impl_MeetSparse_1.f (k + 1) a0 a1) := by
  intro a0 a1 k
  have ih0 := slices_DeleteFunc_int_int_at_impl_MeetSparse_1.mono_l k
  unfold slices_DeleteFunc_int_int_at_impl_MeetSparse_1.f
  repeat' first
      | (with_reducible exact ih0 _ _ _ _)
      | (with_reducible exact impl_MeetSparse_1.mono _ _ _)
      | (with_reducible exact slices_IndexFunc_int_int_at_impl_MeetSparse_1.mono _ _ _)
      | (with_reducible exact LeO.refl _)
      | (with_reducible exact LeO.none _)
      | (with_reducible refine LeO.ite ?_ ?_)
      | (with_reducible refine LeO.bind ?_ (fun _ => ?_))
      | exact ih0 _ _ _ _
      | exact impl_MeetSparse_1.mono _ _ _
      | exact slices_IndexFunc_int_int_at_impl_MeetSparse_1.mono _ _ _
      | exact LeO.none _
      | refine LeO.ite ?_ ?_
      | refine LeO.bind ?_ (fun _ => ?_)
noncomputable def slices_DeleteFunc_int_int_at_impl_MeetSparse_1.L0 (y0 : List Int) (y1 : Int) (y2 : Int) (y3 : List Int) : Option (List Int) := lim fun k => slices_DeleteFunc_int_int_at_impl_MeetSparse_1.l0 k y0 y1 y2 y3
theorem slices_DeleteFunc_int_int_at_impl_MeetSparse_1.L0_sup (y0 : List Int) (y1 : Int) (y2 : Int) (y3 : List Int) : Sup (fun k => slices_DeleteFunc_int_int_at_impl_MeetSparse_1.l0 k y0 y1 y2 y3) (slices_DeleteFunc_int_int_at_impl_MeetSparse_1.L0 y0 y1 y2 y3) := Sup.of_mono fun k => slices_DeleteFunc_int_int_at_impl_MeetSparse_1.mono_l k y0 y1 y2 y3
noncomputable def slices_DeleteFunc_int_int_at_impl_MeetSparse_1.F (l0 : List Int) (l1_0 : List Int) : Option (List Int) := lim fun k => slices_DeleteFunc_int_int_at_impl_MeetSparse_1.f k l0 l1_0
theorem slices_DeleteFunc_int_int_at_impl_MeetSparse_1.F_sup (l0 : List Int) (l1_0 : List Int) : Sup (fun k => slices_DeleteFunc_int_int_at_impl_MeetSparse_1.f k l0 l1_0) (slices_DeleteFunc_int_int_at_impl_MeetSparse_1.F l0 l1_0) := Sup.of_mono fun k => slices_DeleteFunc_int_int_at_impl_MeetSparse_1.mono l0 l1_0 k
theorem slices_DeleteFunc_int_int_at_impl_MeetSparse_1.L0_eq (x0 : List Int) (x5 : Int) (x6 : Int) (x2000 : List Int) : slices_DeleteFunc_int_int_at_impl_MeetSparse_1.L0 x0 x5 x6 x2000 = if x6 < (x0.length : Int) then (if 0 ≤ x6 then ((impl_MeetSparse_1.F (rd x0 x6) x2000).bind fun t393 => (if t393 = true then (slices_DeleteFunc_int_int_at_impl_MeetSparse_1.L0 x0 x5 (wrap64 (x6 + 1)) x2000) else (if 0 ≤ x5 then (if x5 < (x0.length : Int) then (slices_DeleteFunc_int_int_at_impl_MeetSparse_1.L0 (x0.set (x5 : Int).toNat (rd x0 x6)) (wrap64 (x5 + 1)) (wrap64 (x6 + 1)) x2000) else (none)) else (none)))) else (none)) else (if 0 ≤ x5 then (if x5 ≤ (x0.length : Int) then (some ((zer (0 : Int) x0 (x5 : Int).toNat (x0.drop (x5 : Int).toNat).length).take (x5 : Int).toNat)) else (none)) else (none)) := by
  refine Sup.unique (slices_DeleteFunc_int_int_at_impl_MeetSparse_1.L0_sup x0 x5 x6 x2000) (Sup.shift (fun k => slices_DeleteFunc_int_int_at_impl_MeetSparse_1.mono_l k x0 x5 x6 x2000) (Sup.congr (g' := fun k => if x6 < (x0.length : Int) then (if 0 ≤ x6 then ((impl_MeetSparse_1.f k (rd x0 x6) x2000).bind fun t393 => (if t393 = true then (slices_DeleteFunc_int_int_at_impl_MeetSparse_1.l0 k x0 x5 (wrap64 (x6 + 1)) x2000) else (if 0 ≤ x5 then (if x5 < (x0.length : Int) then (slices_DeleteFunc_int_int_at_impl_MeetSparse_1.l0 k (x0.set (x5 : Int).toNat (rd x0 x6)) (wrap64 (x5 + 1)) (wrap64 (x6 + 1)) x2000) else (none)) else (none)))) else (none)) else (if 0 ≤ x5 then (if x5 ≤ (x0.length : Int) then (some ((zer (0 : Int) x0 (x5 : Int).toNat (x0.drop (x5 : Int).toNat).length).take (x5 : Int).toNat)) else (none)) else (none))) (fun k => by first | rfl | simp only [slices_DeleteFunc_int_int_at_impl_MeetSparse_1.l0]) ?_))
  repeat' first
    | (with_reducible exact slices_DeleteFunc_int_int_at_impl_MeetSparse_1.L0_sup _ _ _ _)
    | (with_reducible exact impl_MeetSparse_1.F_sup _ _)
    | (with_reducible exact slices_IndexFunc_int_int_at_impl_MeetSparse_1.F_sup _ _)
    | (with_reducible refine Sup.ite ?_ ?_)
    | (with_reducible refine Sup.bind ?_ (fun _ => ?_))
    | (with_reducible exact Sup.const _)
    | exact slices_DeleteFunc_int_int_at_impl_MeetSparse_1.L0_sup _ _ _ _
    | exact impl_MeetSparse_1.F_sup _ _
    | exact slices_IndexFunc_int_int_at_impl_MeetSparse_1.F_sup _ _
    | exact Sup.const _
theorem slices_DeleteFunc_int_int_at_impl_MeetSparse_1.F_eq (l0 : List Int) (l1_0 : List Int) : slices_DeleteFunc_int_int_at_impl_MeetSparse_1.F l0 l1_0 = (slices_IndexFunc_int_int_at_impl_MeetSparse_1.F l0 l1_0).bind fun t391 => (if t391 = (-1) then (some l0) else (slices_DeleteFunc_int_int_at_impl_MeetSparse_1.L0 l0 t391 (wrap64 (t391 + 1)) l1_0)) := by
  refine Sup.unique (slices_DeleteFunc_int_int_at_impl_MeetSparse_1.F_sup l0 l1_0) (Sup.congr (g' := fun k => (slices_IndexFunc_int_int_at_impl_MeetSparse_1.f k l0 l1_0).bind fun t391 => (if t391 = (-1) then (some l0) else (slices_DeleteFunc_int_int_at_impl_MeetSparse_1.l0 k l0 t391 (wrap64 (t391 + 1)) l1_0))) (fun k => by first | rfl | simp only [slices_DeleteFunc_int_int_at_impl_MeetSparse_1.f]) ?_)
  repeat' first
    | (with_reducible exact slices_DeleteFunc_int_int_at_impl_MeetSparse_1.L0_sup _ _ _ _)
    | (with_reducible exact impl_MeetSparse_1.F_sup _ _)
    | (with_reducible exact slices_IndexFunc_int_int_at_impl_MeetSparse_1.F_sup _ _)
    | (with_reducible refine Sup.ite ?_ ?_)
    | (with_reducible refine Sup.bind ?_ (fun _ => ?_))
    | (with_reducible exact Sup.const _)
    | exact slices_DeleteFunc_int_int_at_impl_MeetSparse_1.L0_sup _ _ _ _
    | exact impl_MeetSparse_1.F_sup _ _
    | exact slices_IndexFunc_int_int_at_impl_MeetSparse_1.F_sup _ _
    | exact Sup.const _
set_option maxHeartbeats 8000000 in
set_option maxRecDepth 100000 in
theorem slices_DeleteFunc_int_int_at_impl_MeetSparse_1.calls (k : Nat) (P0_ : Nat → Prop) (u9000_ : Value) (l0 : List Int) (gb1_ : Nat) (A1_0 : Option Addr) (c1_0 : Nat) (l1_0 : List Int) (r : List Int) (w0 w : World) (hB : Below w0.heap.size w0 w) (ho0 : Kd.R (Kd.int .i64) 3 w w0.heap.size P0_ u9000_ l0) (hr1_0 : ∀ W_, Kept w W_ (fun k_ => P0_ k_) → Kd.C (Kd.int .i64) W_ A1_0 l1_0.length l1_0) (hc1_0 : l1_0.length ≤ c1_0) (hb1_ : w.heap[gb1_]? = some (.cells #[.slice A1_0 l1_0.length c1_0] 22 (0, 0))) (h : slices_DeleteFunc_int_int_at_impl_MeetSparse_1.f k l0 l1_0 = some r) :
    Calls Try.prog 20 #[u9000_, .func (.func 22) #[] #[.pointer (some ⟨gb1_, 0, none⟩)]] w fun e w' => ∃ v0_ : Value, e = .returned (v0_) ∧ Kd.R (Kd.int .i64) 3 w' w0.heap.size (fun k_ => (P0_ k_ ∨ w.heap.size ≤ k_)) v0_ r ∧ Below w0.heap.size w0 w' ∧ Kept w w' (fun k_ => P0_ k_) := by
  have HO0 := Qx (show Kd.R (Kd.int .i64) 3 w w0.heap.size (fun k_ => (P0_ k_ ∨ w.heap.size ≤ k_)) u9000_ l0 from Qrm ho0 (fun k_ hk => (.inl hk)))
  have HR1_0 := Qx hr1_0; have HC1_0 := Qx hc1_0; clear hr1_0 hc1_0; have BK1 := Qx hb1_; clear hb1_
  have HK := Qx (Kept.refl w (fun k_ => P0_ k_))
  have HW0 := Qx hB.size; have HB := Qx hB; clear hB
  have H : ((slices_IndexFunc_int_int_at_impl_MeetSparse_1.f k l0 l1_0).bind fun t391 => (if t391 = (-1) then (some l0) else (slices_DeleteFunc_int_int_at_impl_MeetSparse_1.l0 k l0 t391 (wrap64 (t391 + 1)) l1_0))) = some r := h
  clear h; replace H := Option.bind_eq_some_iff.mp H; obtain ⟨t391, A30, H⟩ := H
  have A3 := Qx A30; clear A30
  by_cases c4 : t391 = (-1)
  ·rw [if_pos c4] at H
   have c4b0 : (t391 == (-1)) = true := beq_iff_eq.mpr c4
   have c4b1 : (t391 != (-1)) = false := bne_eq_false_iff_eq.mpr c4
   clear c4; obtain rfl := Option.some.inj H; obtain ⟨Ao5, co5, eo5⟩ := Kd.R_slice HO0.out; subst eo5
   go_enter Try.func20, Try.ntmps20
   go_wp2_with (first | ((with_reducible refine gate_callee (f := 39) rfl ?_); refine gl_ 10 Try.func39 #[.slice Ao5 l0.length co5, .func (.func 22) #[] #[.pointer (some ⟨gb1_, 0, none⟩)]] ?_; (with_reducible refine (slices_IndexFunc_int_int_at_impl_MeetSparse_1.calls k _ _ l0 gb1_ A1_0 c1_0 l1_0 t391 _ ?side1 ?side2 ?side3 ?side4 ?side5 A3.out).mono ?_); (case side1 => exact kD_ HO0); (case side2 => exact (Kd.R_reads' HO0.out).2.1); (case side3 => exact Kd.C_kept_now HR1_0.out (by repeat (first | (with_reducible first | exact HK.out | apply Kept.alloc | apply Kept.drewN | apply Kept.drew | refine Kept.setCell ?_ (.inr GW1.out) _) | exact HK.out))); (case side4 => exact HC1_0.out); (case side5 => exact (kB_ BK1)); rintro e w' ⟨rfl, ⟨nd, rfl⟩⟩; refine ⟨_, rfl, ?_⟩))
   go_ret
   exact ⟨_, rf_, kR_ HO0, hB_, by repeat (first | (with_reducible first | exact HK.out | apply Kept.alloc | apply Kept.drewN | apply Kept.drew | refine Kept.setCell ?_ (.inr GW1.out) _) | exact HK.out)⟩
  ·rw [if_neg c4] at H
   have c4b0 : (t391 == (-1)) = false := beq_eq_false_iff_ne.mpr c4
   have c4b1 : (t391 != (-1)) = true := bne_iff_ne.mpr c4
   have H' := Qx H; clear H; obtain ⟨Ao6, co6, eo6⟩ := Kd.R_slice HO0.out; subst eo6
   go_enter Try.func20, Try.ntmps20
   go_wp2_with (first | ((with_reducible refine gate_callee (f := 39) rfl ?_); refine gl_ 10 Try.func39 #[.slice Ao6 l0.length co6, .func (.func 22) #[] #[.pointer (some ⟨gb1_, 0, none⟩)]] ?_; (with_reducible refine (slices_IndexFunc_int_int_at_impl_MeetSparse_1.calls k _ _ l0 gb1_ A1_0 c1_0 l1_0 t391 _ ?side1 ?side2 ?side3 ?side4 ?side5 A3.out).mono ?_); (case side1 => exact kD_ HO0); (case side2 => exact (Kd.R_reads' HO0.out).2.1); (case side3 => exact Kd.C_kept_now HR1_0.out (by repeat (first | (with_reducible first | exact HK.out | apply Kept.alloc | apply Kept.drewN | apply Kept.drew | refine Kept.setCell ?_ (.inr GW1.out) _) | exact HK.out))); (case side4 => exact HC1_0.out); (case side5 => exact (kB_ BK1)); rintro e w' ⟨rfl, ⟨nd, rfl⟩⟩; refine ⟨_, rfl, ?_⟩))
   go_loopg [5, 6] k (fun kq v5 v6 w' => ∃ (x0_1 : List Int) (x5_1 : Int) (x6_1 : Int), v5 = .int .i64 x5_1 ∧ v6 = .int .i64 x6_1 ∧ Aside0 (slices_DeleteFunc_int_int_at_impl_MeetSparse_1.l0 kq x0_1 x5_1 x6_1 l1_0 = some r) ∧ Aside0 (kq ≤ k) ∧ Aside0 (Kd.R (Kd.int .i64) 3 w' w0.heap.size (fun k_ => (P0_ k_ ∨ w.heap.size ≤ k_)) (.slice Ao6 l0.length co6) x0_1) ∧ Aside0 (w'.heap[gb1_]? = some (.cells #[(.slice A1_0 l1_0.length c1_0)] 22 (0, 0))) ∧ Aside0 (Kept w w' (fun k_ => P0_ k_)) ∧ Aside0 (Below w0.heap.size w0 w'))
   case atStart => exact ⟨(l0), (t391), (wrap64 (t391 + 1)), rg_, rg_, H', ⟨Nat.le_refl _⟩, ⟨kR_ HO0⟩, ⟨kB_ BK1⟩, ⟨by repeat (first | (with_reducible first | exact HK.out | apply Kept.alloc | apply Kept.drewN | apply Kept.drew | refine Kept.setCell ?_ (.inr GW1.out) _) | exact HK.out)⟩, ⟨hB_⟩⟩
   case round =>
    clear H'
    try clear c1
    try clear c2
    try clear p2
    try clear c3
    try clear c4
    try clear c4b0
    try clear c4b1
    try clear p6
    obtain ⟨x0_1, x5_1, x6_1, rfl, rfl, HA, HK1, HO_0, BK1, HK, HB⟩ := hrel
    have hl0_1 := (Kd.R_reads' HO_0.out).1
    rw [hl0_1] at HO_0
    (try simp only [hl0_1])
    (try simp only [hl0_1] at BK1)
    cases gk with
    | zero => exact absurd HA.out (by simp [slices_DeleteFunc_int_int_at_impl_MeetSparse_1.l0])
    | succ k1 =>
     have H := HA.out; clear HA; simp only [slices_DeleteFunc_int_int_at_impl_MeetSparse_1.l0] at H
     by_cases c7 : x6_1 < (x0_1.length : Int)
     ·rw [if_pos c7] at H
      have c7b0 : decide (x6_1 < (x0_1.length : Int)) = true := decide_eq_true c7
      (try (have c7z0 := c7b0; simp only [hl0_1] at c7z0))
      clear c7
      by_cases c8 : 0 ≤ x6_1
      ·rw [if_pos c8] at H
       have c8b0 : decide (0 ≤ x6_1) = true := decide_eq_true c8
       clear c8; replace H := Option.bind_eq_some_iff.mp H; obtain ⟨t393, A90, H⟩ := H
       have A9 := Qx A90; clear A90
       by_cases c10 : t393 = true
       ·subst c10
        have H1 : (slices_DeleteFunc_int_int_at_impl_MeetSparse_1.l0 k1 x0_1 x5_1 (wrap64 (x6_1 + 1)) l1_0) = some r := by rw [if_pos rfl] at H; exact H
        clear H; have H := H1; clear H1; have H' := Qx H; clear H
        have p392 : 0 ≤ (x6_1 : Int) := of_decide_eq_true as_
        have q392 : x6_1 < (x0_1.length : Int) := of_decide_eq_true as_
        obtain ⟨ad392, e392, hx392_0⟩ := Kd.at_int (Kd.R_reads' HO_0.out).2.2 x6_1 p392 q392
        cases e392
        replace p392 := eq_true p392; replace q392 := eq_true q392
        go_wp2_with (first | (go_at_call 22; (with_reducible refine (impl_MeetSparse_1.calls k1 (rd x0_1 x6_1) gb1_ A1_0 c1_0 l1_0 true _ ?side1 ?side2 ?side3 A9.out).mono ?_); (case side1 => exact Kd.C_kept_now HR1_0.out (by repeat (first | (with_reducible first | exact HK.out | apply Kept.alloc | apply Kept.drewN | apply Kept.drew | refine Kept.setCell ?_ (.inr GW1.out) _) | exact HK.out))); (case side2 => exact HC1_0.out); (case side3 => exact (kB_ BK1)); rintro e w' ⟨rfl, ⟨nd, rfl⟩⟩))
        (try simp only [← hl0_1])
        go_roundg k1
        case measure => have := HK1.out; omega
        case rel => exact ⟨(x0_1), (x5_1), (wrap64 (x6_1 + 1)), rg_, rg_, H', ⟨by have := HK1.out; omega⟩, ⟨by (try simp only [hl0_1]); (with_reducible repeat (first | apply Qra | apply Qrn | apply Qrd)); exact HO_0.out⟩, ⟨by (try simp only [hl0_1]); (with_reducible repeat (first | refine blk_drewN ?_ _ | refine blk_drew ?_ | refine blk_alloc ?_ _)); exact BK1.out⟩, ⟨by repeat (first | (with_reducible first | exact HK.out | apply Kept.alloc | apply Kept.drewN | apply Kept.drew | refine Kept.setCell ?_ (.inr GW1.out) _) | exact HK.out)⟩, ⟨hB_⟩⟩
       ·replace c10 := Bool.eq_false_iff.mpr c10; subst c10
        have H1 : (if 0 ≤ x5_1 then (if x5_1 < (x0_1.length : Int) then (slices_DeleteFunc_int_int_at_impl_MeetSparse_1.l0 k1 (x0_1.set (x5_1 : Int).toNat (rd x0_1 x6_1)) (wrap64 (x5_1 + 1)) (wrap64 (x6_1 + 1)) l1_0) else (none)) else (none)) = some r := by rw [if_neg (show ¬ (false = true) by decide)] at H; exact H
        clear H; have H := H1; clear H1
        by_cases c11 : 0 ≤ x5_1
        ·rw [if_pos c11] at H
         have c11b0 : decide (0 ≤ x5_1) = true := decide_eq_true c11
         clear c11
         by_cases c12 : x5_1 < (x0_1.length : Int)
         ·rw [if_pos c12] at H
          have c12b0 : decide (x5_1 < (x0_1.length : Int)) = true := decide_eq_true c12
          (try (have c12z0 := c12b0; simp only [hl0_1] at c12z0))
          clear c12
          obtain ⟨y394, hy394⟩ : ∃ y_ : List Int, y_ = (x0_1.set (x5_1 : Int).toNat (rd x0_1 x6_1)) := ⟨_, rfl⟩
          replace H : (slices_DeleteFunc_int_int_at_impl_MeetSparse_1.l0 k1 y394 (wrap64 (x5_1 + 1)) (wrap64 (x6_1 + 1)) l1_0) = some r := by first | (rw [hy394]; with_reducible exact H) | (have H2_ := (Option.bind_some _ _).symm.trans H; rw [hy394]; with_reducible exact H2_) | (have H2_ := (Option.bind_some _ _).symm.trans H; with_reducible exact H2_) | with_reducible exact H | (rw [hy394]; exact H) | exact H
          have Ny394 := Qx hy394; clear hy394; have H' := Qx H; clear H
          have p392 : 0 ≤ (x6_1 : Int) := of_decide_eq_true as_
          have q392 : x6_1 < (x0_1.length : Int) := of_decide_eq_true as_
          obtain ⟨ad392, e392, hx392_0⟩ := Kd.at_int (Kd.R_reads' HO_0.out).2.2 x6_1 p392 q392
          cases e392
          replace p392 := eq_true p392; replace q392 := eq_true q392
          go_wp2_with (first | (go_at_call 22; (with_reducible refine (impl_MeetSparse_1.calls k1 (rd x0_1 x6_1) gb1_ A1_0 c1_0 l1_0 false _ ?side1 ?side2 ?side3 A9.out).mono ?_); (case side1 => exact Kd.C_kept_now HR1_0.out (by repeat (first | (with_reducible first | exact HK.out | apply Kept.alloc | apply Kept.drewN | apply Kept.drew | refine Kept.setCell ?_ (.inr GW1.out) _) | exact HK.out))); (case side2 => exact HC1_0.out); (case side3 => exact (kB_ BK1)); rintro e w' ⟨rfl, ⟨nd, rfl⟩⟩; (try (rw [drewN_self wr]; generalize hq_ : World.drewN wr _ = wr; have n0_ : Aside0 (Kd.R (Kd.int .i64) 3 wr w0.heap.size (fun k_ => ((P0_ k_ ∨ w.heap.size ≤ k_))) (.slice (some ad392) x0_1.length co6) x0_1) := ⟨by rw [← hq_]; exact (kR_ HO_0)⟩; have n1_ : Aside0 (wr.heap[gb1_]? = some (.cells #[.slice A1_0 l1_0.length c1_0] 22 (0, 0))) := ⟨by rw [← hq_]; exact (kB_ BK1)⟩; have n2_ : Aside0 (Kept w wr (fun k_ => P0_ k_)) := ⟨by rw [← hq_]; exact (by repeat (first | (with_reducible first | exact HK.out | apply Kept.alloc | apply Kept.drewN | apply Kept.drew | refine Kept.setCell ?_ (.inr GW1.out) _) | exact HK.out))⟩; have n3_ : Aside0 (Below w0.heap.size w0 wr) := ⟨by rw [← hq_]; exact hB_⟩; clear HO_0 BK1 HK HB hq_; have HO_0 := n0_; have BK1 := n1_; have HK := n2_; have HB := n3_; clear n0_ n1_ n2_ n3_)); have p13 : 0 ≤ (x5_1 : Int) := of_decide_eq_true as_; have q13 : (x5_1 : Int) < ((x0_1.length : Int) : Int) := of_decide_eq_true as_; obtain ⟨go13, co13, eo13, gb13, gl13, cl13, HG13⟩ := Kd.R_form HO_0.out (by omega); (first | cases eo13 | (injection eo13 with ea_ en_ ec_; (first | subst ea_ | (injection ea_ with ea_; subst ea_)); subst ec_; clear en_)); have GB13 := Qx gb13; have GG13 := Qx HG13; clear gb13 gl13 HG13; have HMgo13 := Qx (show (P0_ go13 ∨ w.heap.size ≤ go13) from (HO_0.out.1 _ rfl)); (first | simp only [add_plain] at hx392_0 | skip); obtain ⟨hx13_0, hf13_0⟩ := Kd.R_celln 0 HO_0.out (x5_1 : Int) p13 q13; replace p13 := eq_true p13; replace q13 := eq_true q13; obtain ⟨hy14_, hz14_⟩ := Kd.R_celln 0 HO_0.out (x5_1 : Int) (of_decide_eq_true as_) (of_decide_eq_true as_); have HP14 := Kd.R_putg HO_0.out (x5_1 : Int) (rd x0_1 x6_1)) | ((with_reducible refine gate_store (t := 3) (p := 33) rfl ?_); refine store_event (t := 3) (p := 33) (v := ?vo_w15) (w1 := (wr.setCell ⟨go13, (x5_1 : Int).toNat, none⟩ (.int .i64 (rd x0_1 x6_1)))) ?hg ?ho ?hn ?hr ?_; (case ho => rfl); (case hg => rfl); (case hn => rfl); (case hr => first | (go_simp; done) | (go_simp; rfl)); intro w15 hw; have hg : wr.grownBy w15 (some go13) := (by rw [hw]; exact HP14.2); have hp_ : Kd.R (Kd.int .i64) 3 w15 w0.heap.size (fun k_ => (P0_ k_ ∨ w.heap.size ≤ k_)) (.slice (some ⟨go13, 0, none⟩) x0_1.length co6) y394 := (by rw [hw, Ny394.out]; exact HP14.1); clear HP14; replace BK1 := Qx (blk_grown (kB_ BK1) hg (Kd.R_ne HO_0.out BK1.out (by decide))); replace HB := Qx ((by rw [hw]; exact below_set (HB.out) GB13.out : Below w0.heap.size w0 w15)); replace HK := Qx (Kept.of_grown (S := (fun k_ => P0_ k_)) hg (by repeat (first | (with_reducible first | exact HK.out | apply Kept.alloc | apply Kept.drewN | apply Kept.drew | refine Kept.setCell ?_ (.inr GW1.out) _) | exact HK.out)) (fun k_ e_ => (HO_0.out.1 k_ e_))); replace HO_0 := Qx (hp_); clear hg hw hp_))
          (try simp only [← hl0_1])
          go_roundg k1
          case measure => have := HK1.out; omega
          case rel => exact ⟨(y394), (wrap64 (x5_1 + 1)), (wrap64 (x6_1 + 1)), rg_, rg_, H', ⟨by have := HK1.out; omega⟩, ⟨by (try simp only [hl0_1]); (with_reducible repeat (first | apply Qra | apply Qrn | apply Qrd)); exact HO_0.out⟩, ⟨by (try simp only [hl0_1]); (with_reducible repeat (first | refine blk_drewN ?_ _ | refine blk_drew ?_ | refine blk_alloc ?_ _)); exact BK1.out⟩, ⟨by repeat (first | (with_reducible first | exact HK.out | apply Kept.alloc | apply Kept.drewN | apply Kept.drew | refine Kept.setCell ?_ (.inr GW1.out) _) | exact HK.out)⟩, ⟨hB_⟩⟩
         ·rw [if_neg c12] at H
          exact absurd H (by simp)
        ·rw [if_neg c11] at H
         exact absurd H (by simp)
      ·rw [if_neg c8] at H
       exact absurd H (by simp)
     ·rw [if_neg c7] at H
      have c7b0 : decide (x6_1 < (x0_1.length : Int)) = false := decide_eq_false c7
      (try (have c7z0 := c7b0; simp only [hl0_1] at c7z0))
      clear c7
      by_cases c16 : 0 ≤ x5_1
      ·rw [if_pos c16] at H; have c16b0 := eq_true c16
       have c16b1 : decide (0 ≤ x5_1) = true := decide_eq_true c16
       clear c16
       by_cases c17 : x5_1 ≤ (x0_1.length : Int)
       ·rw [if_pos c17] at H; have c17b0 := eq_true c17
        have c17b1 : decide (x5_1 ≤ (x0_1.length : Int)) = true := decide_eq_true c17
        clear c17
        obtain ⟨y395, hy395⟩ : ∃ y_ : List Int, y_ = (x0_1.drop (x5_1 : Int).toNat) := ⟨_, rfl⟩
        replace H : (some ((zer (0 : Int) x0_1 (x5_1 : Int).toNat y395.length).take (x5_1 : Int).toNat)) = some r := by first | (rw [hy395]; with_reducible exact H) | (have H2_ := (Option.bind_some _ _).symm.trans H; rw [hy395]; with_reducible exact H2_) | (have H2_ := (Option.bind_some _ _).symm.trans H; with_reducible exact H2_) | with_reducible exact H | (rw [hy395]; exact H) | exact H
        have Ny395 := Qx hy395; clear hy395
        obtain ⟨y399, hy399⟩ : ∃ y_ : List Int, y_ = (zer (0 : Int) x0_1 (x5_1 : Int).toNat y395.length) := ⟨_, rfl⟩
        replace H : (some (y399.take (x5_1 : Int).toNat)) = some r := by first | (rw [hy399]; with_reducible exact H) | (have H2_ := (Option.bind_some _ _).symm.trans H; rw [hy399]; with_reducible exact H2_) | (have H2_ := (Option.bind_some _ _).symm.trans H; with_reducible exact H2_) | with_reducible exact H | (rw [hy399]; exact H) | exact H
        have Ny399 := Qx hy399; clear hy399
        have c18b0 := eq_true (of_decide_eq_true as_ : x5_1 ≤ (x0_1.length : Int))
        obtain ⟨y400, hy400⟩ : ∃ y_ : List Int, y_ = (y399.take (x5_1 : Int).toNat) := ⟨_, rfl⟩
        replace H : (some y400) = some r := by first | (rw [hy400]; with_reducible exact H) | (have H2_ := (Option.bind_some _ _).symm.trans H; rw [hy400]; with_reducible exact H2_) | (have H2_ := (Option.bind_some _ _).symm.trans H; with_reducible exact H2_) | with_reducible exact H | (rw [hy400]; exact H) | exact H
        have Ny400 := Qx hy400; clear hy400; obtain rfl := Option.some.inj H
        have q19 : (x5_1 : Int) ≤ ((x0_1.length : Int) : Int) := of_decide_eq_true as_
        obtain ⟨i019, hi019, _, hsz19, _⟩ := info_parts info3
        have hroom19 : x0_1.length ≤ co6 := (Kd.R_reads' HO_0.out).2.1
        have hC19 : Kd.C (Kd.int .i64) _ Ao6 x0_1.length x0_1 := (Kd.R_reads' HO_0.out).2.2
        have q019 : (0 : Int) ≤ (x5_1 : Int) := of_decide_eq_true as_
        have hcut19 := cut_from (P := Try.prog) 22 3 .i64 Try.underlying22 hi019 1 hsz19 Ao6 x0_1.length co6 x5_1 q019 q19
        have hr19 := Kd.C_drop (m := (x5_1 : Int).toNat) (c := co6) hC19 (by omega) hroom19
        obtain ⟨A19, hA19⟩ : ∃ A1, A1 = (if co6 = (x5_1 : Int).toNat then Ao6 else (Ao6 : Option Addr).map (·.add ((x5_1 : Int).toNat * 1))) := ⟨_, rfl⟩
        obtain ⟨c19, hc19⟩ : ∃ c1, c1 = co6 - (x5_1 : Int).toNat := ⟨_, rfl⟩
        have hy19 : y395.length = x0_1.length - (x5_1 : Int).toNat := (by rw [Ny395.out, List.length_drop] <;> omega)
        rw [show (x0_1).drop (x5_1 : Int).toNat = y395 from Ny395.out.symm] at hr19
        replace hr19 : Kd.C (Kd.int .i64) _ A19 y395.length y395 := (by rw [hA19]; exact hr19)
        rw [← hy19, ← hA19, ← hc19] at hcut19; have HR398 := Qx hr19
        have HC398 := Qx (show y395.length ≤ c19 from by rw [hy19, hc19]; exact Nat.sub_le_sub_right hroom19 _)
        clear hr19 hC19 hroom19 hi019 hsz19 hc19; have KY19 := Qx hy19; have KA19 := Qx hA19; clear hy19 hA19
        have KL19 := Qx (show (x5_1 : Int).toNat ≤ x0_1.length from by omega)
        replace q19 := eq_true q19
        go_wp2_with (first | ((with_reducible refine gate_builtin (b := .clear) (xs := #[.tmp 38]) rfl ?_); have hj_ : 0 ≤ (x5_1 : Int) := of_decide_eq_true as_; have hl_ : (x5_1 : Int) ≤ (x0_1.length : Int) := of_decide_eq_true as_; have hy1_ := KY19.out; refine Kd.R_clear_plain (0 : Int) (w0 := w0) w0.heap.size rfl (.tmp 38) 22 3 rfl Try.underlying22 1 8 info3 rfl (n := x0_1.length) (c := co6) (k := (x5_1 : Int).toNat) rfl ?hA ?hm (kR_ HO_0) ?hk hB_ (Qz hB_) ?_; (case hA => exact KA19.out); (case hm => omega); (case hk => omega); intro w20 ho hb hg; clear hj_ hl_ hy1_; rw [← Ny399.out] at ho; replace BK1 := Qx (blk_grown (kB_ BK1) hg (Kd.R_ne HO_0.out BK1.out (by decide))); replace HB := Qx (hb); replace HK := Qx (Kept.of_grown (S := (fun k_ => P0_ k_)) hg (by repeat (first | (with_reducible first | exact HK.out | apply Kept.alloc | apply Kept.drewN | apply Kept.drew | refine Kept.setCell ?_ (.inr GW1.out) _) | exact HK.out)) (fun k_ e_ => (HO_0.out.1 k_ e_))); replace HO_0 := Qx (ho); clear ho hb hg; have q22 : (x5_1 : Int) ≤ ((x0_1.length : Int) : Int) := of_decide_eq_true as_; obtain ⟨i022, hi022, _, hsz22, _⟩ := info_parts info3; have hcut22 := cut_to (P := Try.prog) 22 3 .i64 Try.underlying22 hi022 Ao6 x0_1.length co6 x5_1 (of_decide_eq_true as_) q22 (Kd.R_reads' HO_0.out).2.1; have hr22 := Kd.R_take (m := (x5_1 : Int).toNat) HO_0.out (by have hz_ := (Kd.R_reads' HO_0.out).1; omega); have hy22 : y400.length = (x5_1 : Int).toNat := (by have hz_ := (Kd.R_reads' HO_0.out).1; rw [Ny400.out, List.length_take]; omega); rw [← Ny400.out] at hr22; rw [← hy22] at hr22 hcut22; clear hy22 hi022 hsz22 HO_0; have HO402 := Qx hr22; clear hr22; replace q22 := eq_true q22))
        go_ret
        exact ⟨_, rf_, kR_ HO402, hB_, by repeat (first | (with_reducible first | exact HK.out | apply Kept.alloc | apply Kept.drewN | apply Kept.drew | refine Kept.setCell ?_ (.inr GW1.out) _) | exact HK.out)⟩
       ·rw [if_neg c17] at H
        exact absurd H (by simp)
      ·rw [if_neg c16] at H
       exact absurd H (by simp)
/-! ### impl_MeetSparse: function 7 -/
def impl_MeetSparse.f (k : Nat) (a0_0 : Int) (a0_1 : Int) (a0_2 : Int) (a0_3 : Int) (l0_4 : List Int) (a0_5 : Int) (l0_6 : List Int) (a1_0 : Int) (a1_1 : Int) (a1_2 : Int) (a1_3 : Int) (l1_4 : List Int) (a1_5 : Int) (l1_6 : List Int) : Option (List Int × Bool) := (impl_twoLists.f k a0_0 a0_1 a0_2 a0_3 l0_4 a0_5 l0_6 a1_0 a1_1 a1_2 a1_3 l1_4 a1_5 l1_6).bind fun bt405 => (if bt405.2.2 = true then ((slices_Clone_int_int.f bt405.1).bind fun t413 => ((slices_DeleteFunc_int_int_at_impl_MeetSparse_1.f k t413 bt405.2.1).bind fun t416 => ((slices_Compact_int_int.f k t416).bind fun t419 => (some (t419, true))))) else (some (([] : List Int), false)))
theorem impl_MeetSparse.mono : ∀ a0 a1 a2 a3 a4 a5 a6 a7 a8 a9 a10 a11 a12 a13 k, LeO (impl_MeetSparse.f k a0 a1 a2 a3 a4 a5 a6 a7 a8 a9 a10 a11 a12 a13) (impl_MeetSparse.f (k + 1) a0 a1 a2 a3 a4 a5 a6 a7 a8 a9 a10 a11 a12 a13) := by
  intro a0 a1 a2 a3 a4 a5 a6 a7 a8 a9 a10 a11 a12 a13 k
  unfold impl_MeetSparse.f
  repeat' first
      | (with_reducible exact impl_twoLists.mono _ _ _ _ _ _ _ _ _ _ _ _ _ _ _)
      | (with_reducible exact slices_Compact_int_int.mono _ _)
      | (with_reducible exact slices_DeleteFunc_int_int_at_impl_MeetSparse_1.mono _ _ _)
      | (with_reducible exact LeO.refl _)
      | (with_reducible exact LeO.none _)
      | (with_reducible refine LeO.ite ?_ ?_)
      | (with_reducible refine LeO.bind ?_ (fun _ => ?_))
      | exact impl_twoLists.mono _ _ _ _ _ _ _ _ _ _ _ _ _ _ _
      | exact slices_Compact_int_int.mono _ _
      | exact slices_DeleteFunc_int_int_at_impl_MeetSparse_1.mono _ _ _
      | exact LeO.none _
      | refine LeO.ite ?_ ?_
      | refine LeO.bind ?_ (fun _ => ?_)
noncomputable def impl_MeetSparse.F (a0_0 : Int) (a0_1 : Int) (a0_2 : Int) (a0_3 : Int) (l0_4 : List Int) (a0_5 : Int) (l0_6 : List Int) (a1_0 : Int) (a1_1 : Int) (a1_2 : Int) (a1_3 : Int) (l1_4 : List Int) (a1_5 : Int) (l1_6 : List Int) : Option (List Int × Bool) := lim fun k => impl_MeetSparse.f k a0_0 a0_1 a0_2 a0_3 l0_4 a0_5 l0_6 a1_0 a1_1 a1_2 a1_3 l1_4 a1_5 l1_6
theorem impl_MeetSparse.F_sup (a0_0 : Int) (a0_1 : Int) (a0_2 : Int) (a0_3 : Int) (l0_4 : List Int) (a0_5 : Int) (l0_6 : List Int) (a1_0 : Int) (a1_1 : Int) (a1_2 : Int) (a1_3 : Int) (l1_4 : List Int) (a1_5 : Int) (l1_6 : List Int) : Sup (fun k => impl_MeetSparse.f k a0_0 a0_1 a0_2 a0_3 l0_4 a0_5 l0_6 a1_0 a1_1 a1_2 a1_3 l1_4 a1_5 l1_6) (impl_MeetSparse.F a0_0 a0_1 a0_2 a0_3 l0_4 a0_5 l0_6 a1_0 a1_1 a1_2 a1_3 l1_4 a1_5 l1_6) := Sup.of_mono fun k => impl_MeetSparse.mono a0_0 a0_1 a0_2 a0_3 l0_4 a0_5 l0_6 a1_0 a1_1 a1_2 a1_3 l1_4 a1_5 l1_6 k
theorem impl_MeetSparse.F_eq (a0_0 : Int) (a0_1 : Int) (a0_2 : Int) (a0_3 : Int) (l0_4 : List Int) (a0_5 : Int) (l0_6 : List Int) (a1_0 : Int) (a1_1 : Int) (a1_2 : Int) (a1_3 : Int) (l1_4 : List Int) (a1_5 : Int) (l1_6 : List Int) : impl_MeetSparse.F a0_0 a0_1 a0_2 a0_3 l0_4 a0_5 l0_6 a1_0 a1_1 a1_2 a1_3 l1_4 a1_5 l1_6 = (impl_twoLists.F a0_0 a0_1 a0_2 a0_3 l0_4 a0_5 l0_6 a1_0 a1_1 a1_2 a1_3 l1_4 a1_5 l1_6).bind fun bt405 => (if bt405.2.2 = true then ((slices_Clone_int_int.f bt405.1).bind fun t413 => ((slices_DeleteFunc_int_int_at_impl_MeetSparse_1.F t413 bt405.2.1).bind fun t416 => ((slices_Compact_int_int.F t416).bind fun t419 => (some (t419, true))))) else (some (([] : List Int), false))) := by
  refine Sup.unique (impl_MeetSparse.F_sup a0_0 a0_1 a0_2 a0_3 l0_4 a0_5 l0_6 a1_0 a1_1 a1_2 a1_3 l1_4 a1_5 l1_6) (Sup.congr (g' := fun k => (impl_twoLists.f k a0_0 a0_1 a0_2 a0_3 l0_4 a0_5 l0_6 a1_0 a1_1 a1_2 a1_3 l1_4 a1_5 l1_6).bind fun bt405 => (if bt405.2.2 = true then ((slices_Clone_int_int.f bt405.1).bind fun t413 => ((slices_DeleteFunc_int_int_at_impl_MeetSparse_1.f k t413 bt405.2.1).bind fun t416 => ((slices_Compact_int_int.f k t416).bind fun t419 => (some (t419, true))))) else (some (([] : List Int), false)))) (fun k => by first | rfl | simp only [impl_MeetSparse.f]) ?_)
  repeat' first
    | (with_reducible exact impl_twoLists.F_sup _ _ _ _ _ _ _ _ _ _ _ _ _ _)
    | (with_reducible exact slices_Compact_int_int.F_sup _)
    | (with_reducible exact slices_DeleteFunc_int_int_at_impl_MeetSparse_1.F_sup _ _)
    | (with_reducible refine Sup.ite ?_ ?_)
    | (with_reducible refine Sup.bind ?_ (fun _ => ?_))
    | (with_reducible exact Sup.const _)
    | exact impl_twoLists.F_sup _ _ _ _ _ _ _ _ _ _ _ _ _ _
    | exact slices_Compact_int_int.F_sup _
    | exact slices_DeleteFunc_int_int_at_impl_MeetSparse_1.F_sup _ _
    | exact Sup.const _
set_option maxHeartbeats 8000000 in
set_option maxRecDepth 100000 in
theorem impl_MeetSparse.calls (k : Nat) (a0_0 : Int) (a0_1 : Int) (a0_2 : Int) (a0_3 : Int) (A0_4 : Option Addr) (c0_4 : Nat) (l0_4 : List Int) (a0_5 : Int) (A0_6 : Option Addr) (c0_6 : Nat) (l0_6 : List Int) (a1_0 : Int) (a1_1 : Int) (a1_2 : Int) (a1_3 : Int) (A1_4 : Option Addr) (c1_4 : Nat) (l1_4 : List Int) (a1_5 : Int) (A1_6 : Option Addr) (c1_6 : Nat) (l1_6 : List Int) (r1 : List Int) (r2 : Bool) (w : World) (hr0_4 : Kd.C (Kd.int .i64) w A0_4 l0_4.length l0_4) (hc0_4 : l0_4.length ≤ c0_4) (hr0_6 : Kd.C (Kd.int .i64) w A0_6 l0_6.length l0_6) (hc0_6 : l0_6.length ≤ c0_6) (hr1_4 : Kd.C (Kd.int .i64) w A1_4 l1_4.length l1_4) (hc1_4 : l1_4.length ≤ c1_4) (hr1_6 : Kd.C (Kd.int .i64) w A1_6 l1_6.length l1_6) (hc1_6 : l1_6.length ≤ c1_6) (h : impl_MeetSparse.f k a0_0 a0_1 a0_2 a0_3 l0_4 a0_5 l0_6 a1_0 a1_1 a1_2 a1_3 l1_4 a1_5 l1_6 = some (r1, r2)) :
    Calls Try.prog 7 #[.agg #[.int .i64 a0_0, .int .i64 a0_1, .int .i64 a0_2, .int .i64 a0_3, .slice A0_4 l0_4.length c0_4, .int .i64 a0_5, .slice A0_6 l0_6.length c0_6], .agg #[.int .i64 a1_0, .int .i64 a1_1, .int .i64 a1_2, .int .i64 a1_3, .slice A1_4 l1_4.length c1_4, .int .i64 a1_5, .slice A1_6 l1_6.length c1_6]] w fun e w' => ∃ v0_ : Value, e = .returned (.tuple #[v0_, .bool r2]) ∧ Kd.R (Kd.int .i64) 3 w' w.heap.size (fun _ => True) v0_ r1 ∧ Below w.heap.size w w' := by
  have hu32 := Try.underlying32; have hu22 := Try.underlying22; have HR0_4 := Qx hr0_4; have HC0_4 := Qx hc0_4; clear hr0_4 hc0_4; have HR0_6 := Qx hr0_6; have HC0_6 := Qx hc0_6; clear hr0_6 hc0_6; have HR1_4 := Qx hr1_4; have HC1_4 := Qx hc1_4; clear hr1_4 hc1_4; have HR1_6 := Qx hr1_6; have HC1_6 := Qx hc1_6; clear hr1_6 hc1_6
  have HB := Qx (Below.refl w.heap.size w)
  have H : ((impl_twoLists.f k a0_0 a0_1 a0_2 a0_3 l0_4 a0_5 l0_6 a1_0 a1_1 a1_2 a1_3 l1_4 a1_5 l1_6).bind fun bt405 => (if bt405.2.2 = true then ((slices_Clone_int_int.f bt405.1).bind fun t413 => ((slices_DeleteFunc_int_int_at_impl_MeetSparse_1.f k t413 bt405.2.1).bind fun t416 => ((slices_Compact_int_int.f k t416).bind fun t419 => (some (t419, true))))) else (some (([] : List Int), false)))) = some (r1, r2) := h
  clear h; replace H := Option.bind_eq_some_iff.mp H; obtain ⟨⟨t405, t408, t411⟩, A30, H⟩ := H
  have A3 := Qx A30; clear A30
  by_cases c4 : t411 = true
  ·subst c4
   have H1 : ((slices_Clone_int_int.f t405).bind fun t413 => ((slices_DeleteFunc_int_int_at_impl_MeetSparse_1.f k t413 t408).bind fun t416 => ((slices_Compact_int_int.f k t416).bind fun t419 => (some (t419, true))))) = some (r1, r2) := by rw [if_pos rfl] at H; exact H
   clear H; have H := H1; clear H1; replace H := Option.bind_eq_some_iff.mp H; obtain ⟨t413, A50, H⟩ := H
   have A5 := Qx A50; clear A50; replace H := Option.bind_eq_some_iff.mp H; obtain ⟨t416, A60, H⟩ := H
   have A6 := Qx A60; clear A60; replace H := Option.bind_eq_some_iff.mp H; obtain ⟨t419, A70, H⟩ := H
   have A7 := Qx A70; clear A70; simp only [Option.some.injEq, Prod.mk.injEq] at H; obtain ⟨rfl, rfl⟩ := H
   go_enter Try.func7, Try.ntmps7
   go_wp2_with (first | ((with_reducible refine gate_dst (N := 2) rfl ?_); refine bx_ 2 #[.int .i64 a0_0, .int .i64 a0_1, .int .i64 a0_2, .int .i64 a0_3, .slice A0_4 l0_4.length c0_4, .int .i64 a0_5, .slice A0_6 l0_6.length c0_6] 32 ?_; intro gb403 hg w8 hbox hb; have BK403 := Qx (hbox); have GW403 := Qx ((ge_ hg)); have GE403 := Qx ((ge_ hg)); replace HB := Qx (Qp hB_ hb); clear hb hbox hg) | ((with_reducible refine gate_dst (N := 3) rfl ?_); refine bx_ 3 #[.int .i64 a1_0, .int .i64 a1_1, .int .i64 a1_2, .int .i64 a1_3, .slice A1_4 l1_4.length c1_4, .int .i64 a1_5, .slice A1_6 l1_6.length c1_6] 32 ?_; intro gb404 hg w9 hbox hb; have BK404 := Qx (hbox); have GW404 := Qx ((ge_ hg)); have GE404 := Qx ((ge_ hg)); replace HB := Qx (Qp hB_ hb); have NB403_404 := Qx ((ne_ hg BK403)); have NB404_403 := Qx ((nf_ hg BK403)); replace BK403 := Qx (Qb (kB_ BK403) hb); clear hb hbox hg; have hnb10 := NB403_404.out; have hnc10 := NB404_403.out; obtain ⟨hcz11_0, hcz11_1, hcz11_2, hcz11_3, hcz11_4, hcz11_5, hcz11_6, hfz11_0, hfz11_1, hfz11_2, hfz11_3, hfz11_4, hfz11_5, hfz11_6⟩ := cellsQ7_g1f (w := w9) BK403.out; obtain ⟨hcz12_0, hcz12_1, hcz12_2, hcz12_3, hcz12_4, hcz12_5, hcz12_6, hfz12_0, hfz12_1, hfz12_2, hfz12_3, hfz12_4, hfz12_5, hfz12_6⟩ := cellsQ7_g1f (w := w9) BK404.out) | ((with_reducible refine gate_callee (f := 19) rfl ?_); refine gl_ 13 Try.func19 #[.agg #[.int .i64 a0_0, .int .i64 a0_1, .int .i64 a0_2, .int .i64 a0_3, .slice A0_4 l0_4.length c0_4, .int .i64 a0_5, .slice A0_6 l0_6.length c0_6], .agg #[.int .i64 a1_0, .int .i64 a1_1, .int .i64 a1_2, .int .i64 a1_3, .slice A1_4 l1_4.length c1_4, .int .i64 a1_5, .slice A1_6 l1_6.length c1_6]] ?_; (with_reducible refine (impl_twoLists.calls k a0_0 a0_1 a0_2 a0_3 _ _ l0_4 a0_5 _ _ l0_6 a1_0 a1_1 a1_2 a1_3 _ _ l1_4 a1_5 _ _ l1_6 t405 t408 true _ ?side1 ?side2 ?side3 ?side4 ?side5 ?side6 ?side7 ?side8 A3.out).mono ?_); (case side1 => exact kC_ HR0_4); (case side2 => exact HC0_4.out); (case side3 => exact kC_ HR0_6); (case side4 => exact HC0_6.out); (case side5 => exact kC_ HR1_4); (case side6 => exact HC1_4.out); (case side7 => exact kC_ HR1_6); (case side8 => exact HC1_6.out); rintro e w13 ⟨v406, v409, rfl, ho0, ho1, hb⟩; refine ⟨_, rfl, ?_⟩; have HO407 := Qx (Kd.R_lower ho0 (Qz hB_)); have HO410 := Qx (Kd.R_lower ho1 (Qz hB_)); replace BK403 := Qx (Qb (kB_ BK403) hb); replace BK404 := Qx (Qb (kB_ BK404) hb); replace HB := Qx (Qp hB_ hb); (try clear hb); (try clear hb2); (try clear hk); (try clear hi); (try clear ho0); (try clear ho1)) | ((with_reducible refine gate_dst (N := 7) rfl ?_); refine bx_ 7 #[.slice none 0 0] 22 ?_; intro gb412 hg w14 hbox hb; replace HO407 := Qx (Kd.R_below (kR_ HO407) hb); replace HO410 := Qx (Kd.R_below (kR_ HO410) hb); have BK412 := Qx (hbox); have GW412 := Qx ((ge_ hg)); have GE412 := Qx ((ge_ hg)); replace HB := Qx (Qp hB_ hb); have NB403_412 := Qx ((ne_ hg BK403)); have NB412_403 := Qx ((nf_ hg BK403)); replace BK403 := Qx (Qb (kB_ BK403) hb); have NB404_412 := Qx ((ne_ hg BK404)); have NB412_404 := Qx ((nf_ hg BK404)); replace BK404 := Qx (Qb (kB_ BK404) hb); clear hb hbox hg; obtain ⟨Ao15, co15, eo15⟩ := Kd.R_slice HO410.out; subst eo15; have hnb16 := NB412_403.out; have hnc16 := NB403_412.out; have hnb17 := NB412_404.out; have hnc17 := NB404_412.out; have hcz18_0 : w14.cell? ⟨gb412, 0, none⟩ = some (.slice none 0 0) := (blk_cell BK412.out 0).trans rfl; have hfz18_0 := blk_frozen BK412.out 0; obtain ⟨Ao19, co19, eo19⟩ := Kd.R_slice HO407.out; subst eo19) | ((with_reducible refine gate_callee (f := 21) rfl ?_); refine gl_ 20 Try.func21 #[.slice Ao19 t405.length co19] ?_; (with_reducible refine (slices_Clone_int_int.calls _ _ t405 t413 _ ?side1 ?side2 A5.out).mono ?_); (case side1 => refine (Kd.R_reads' (e := 3) (base := w.heap.size) (ok := fun k_ => some k_ ≠ (.slice Ao15 t408.length co15 : Value).ownBlock) (n := t405.length) (c := co19) ?_).2.2; exact (by (with_reducible repeat (first | apply Qra | apply Qrn | apply Qrd)); exact (Qrm (Kd.R_far (p := ⟨gb412, 0, none⟩) (Kd.R_types HO407.out BK412.out (by decide)) (fun _ hk => hk.2) (.slice Ao15 t408.length co15)) (fun _ h_ => h_.1)))); (case side2 => exact (Kd.R_reads' HO407.out).2.1); rintro e w20 ⟨v414, rfl, ho0, hb⟩; refine ⟨_, rfl, ?_⟩; have HO415 := Qx (Kd.R_lower (Kd.R_new' (Kd.R_new' ho0 (Kd.R_lt (by (with_reducible repeat (first | apply Qra | apply Qrn | apply Qrd)); exact (Qrm (Kd.R_far (p := ⟨gb412, 0, none⟩) (Kd.R_types HO407.out BK412.out (by decide)) (fun _ hk => hk.2) (.slice Ao15 t408.length co15)) (fun _ h_ => h_.1))))) (Kd.R_lt (by (with_reducible repeat (first | apply Qra | apply Qrn | apply Qrd)); exact (Qrm (Kd.R_far (p := ⟨gb412, 0, none⟩) (Kd.R_types HO410.out BK412.out (by decide)) (fun _ hk => hk.2) (.slice Ao15 t408.length co15)) (fun _ h_ => h_.1))))) (Qz hB_)); replace HO407 := Qx (Kd.R_elder' (by (with_reducible repeat (first | apply Qra | apply Qrn | apply Qrd)); exact (Qrm (Kd.R_far (p := ⟨gb412, 0, none⟩) (Kd.R_types HO407.out BK412.out (by decide)) (fun _ hk => hk.2) (.slice Ao15 t408.length co15)) (fun _ h_ => h_.1))) (Kd.R_base ho0) hb); replace HO410 := Qx (Kd.R_elder' (by (with_reducible repeat (first | apply Qra | apply Qrn | apply Qrd)); exact (Qrm (Kd.R_far (p := ⟨gb412, 0, none⟩) (Kd.R_types HO410.out BK412.out (by decide)) (fun _ hk => hk.2) (.slice Ao15 t408.length co15)) (fun _ h_ => h_.1))) (Kd.R_base ho0) hb); replace BK403 := Qx (Qb (g := gb403) (o := .cells #[.int .i64 a0_0, .int .i64 a0_1, .int .i64 a0_2, .int .i64 a0_3, .slice A0_4 l0_4.length c0_4, .int .i64 a0_5, .slice A0_6 l0_6.length c0_6] 32 (0, 0)) (by (with_reducible repeat (first | refine blk_drewN ?_ _ | refine blk_drew ?_ | refine blk_alloc ?_ _)); refine blk_far ?_ NB403_412.out _; (with_reducible repeat (first | refine blk_drewN ?_ _ | refine blk_drew ?_ | refine blk_alloc ?_ _)); exact BK403.out) hb); replace BK404 := Qx (Qb (g := gb404) (o := .cells #[.int .i64 a1_0, .int .i64 a1_1, .int .i64 a1_2, .int .i64 a1_3, .slice A1_4 l1_4.length c1_4, .int .i64 a1_5, .slice A1_6 l1_6.length c1_6] 32 (0, 0)) (by (with_reducible repeat (first | refine blk_drewN ?_ _ | refine blk_drew ?_ | refine blk_alloc ?_ _)); refine blk_far ?_ NB404_412.out _; (with_reducible repeat (first | refine blk_drewN ?_ _ | refine blk_drew ?_ | refine blk_alloc ?_ _)); exact BK404.out) hb); replace BK412 := Qx (Qb (g := gb412) (o := .cells #[.slice Ao15 t408.length co15] 22 (0, 0)) (by (with_reducible repeat (first | refine blk_drewN ?_ _ | refine blk_drew ?_ | refine blk_alloc ?_ _)); refine blk_put (cs := #[.slice none 0 0]) ?_ 0 _ rfl; (with_reducible repeat (first | refine blk_drewN ?_ _ | refine blk_drew ?_ | refine blk_alloc ?_ _)); exact BK412.out) hb); replace HB := Qx (Qp hB_ hb); (try clear hb); (try clear hb2); (try clear hk); (try clear hi); (try clear ho0); obtain ⟨Ao21, co21, eo21⟩ := Kd.R_slice HO415.out; subst eo21) | ((with_reducible refine gate_callee (f := 20) rfl ?_); refine gl_ 22 Try.func20 #[.slice Ao21 t413.length co21, .func (.func 22) #[] #[.pointer (some ⟨gb412, 0, none⟩)]] ?_; (with_reducible refine (slices_DeleteFunc_int_int_at_impl_MeetSparse_1.calls k (fun k_ => some k_ = (.slice Ao21 t413.length co21 : Value).ownBlock) (.slice Ao21 t413.length co21) t413 gb412 Ao15 co15 t408 t416 w _ ?side1 ?side2 ?side3 ?side4 ?side5 A6.out).mono ?_); (case side1 => exact hB_); (case side2 => exact Kd.R_tight rfl HO415.out); (case side3 => exact Kd.C_kept_own (HO410.out) (fun k_ hk_ hs_ => (hk_.2) hs_)); (case side4 => exact (Kd.R_reads' HO410.out).2.1); (case side5 => exact (kB_ BK412)); rintro e w22 ⟨v417, rfl, ho0, hb, hkp⟩; refine ⟨_, rfl, ?_⟩; have n0_ := Qx (blk_kept (kB_ BK403) hkp (fun hs_ => (fun e_ => (Kd.R_ne HO415.out BK403.out (by decide)) e_) hs_)); have n1_ := Qx (blk_kept (kB_ BK404) hkp (fun hs_ => (fun e_ => (Kd.R_ne HO415.out BK404.out (by decide)) e_) hs_)); have n2_ := Qx (Qrm (ok' := fun k_ => some k_ ≠ (.slice Ao15 t408.length co15 : Value).ownBlock ∧ some k_ ≠ (v417 : Value).ownBlock) (Kd.R_keptB (HO407.out) hkp (fun k_ hk_ hs_ => (hk_.2) hs_)) (fun k_ hk_ => ⟨hk_.1.1, fun e_ => Or.elim (ho0.1 k_ e_.symm) (fun hs_ => hk_.2.1 hs_) (fun hn_ => Nat.not_le.2 hk_.2.2 hn_)⟩)); have n3_ := Qx (Qrm (ok' := fun k_ => some k_ ≠ (.slice Ao19 t405.length co19 : Value).ownBlock ∧ some k_ ≠ (v417 : Value).ownBlock) (Kd.R_keptB (HO410.out) hkp (fun k_ hk_ hs_ => (hk_.2) hs_)) (fun k_ hk_ => ⟨hk_.1.1, fun e_ => Or.elim (ho0.1 k_ e_.symm) (fun hs_ => hk_.2.1 hs_) (fun hn_ => Nat.not_le.2 hk_.2.2 hn_)⟩)); have n4_ := Qx (blk_kept (kB_ BK412) hkp (fun hs_ => (fun e_ => (Kd.R_ne HO415.out BK412.out (by decide)) e_) hs_)); have n5_ := Qx (Qrm (ok' := fun k_ => some k_ ≠ (.slice Ao19 t405.length co19 : Value).ownBlock ∧ some k_ ≠ (.slice Ao15 t408.length co15 : Value).ownBlock) ho0 (fun k_ hk_ => ⟨Or.elim hk_ (fun hs_ => fun e_ => (((HO407.out).1 k_ e_.symm).2) hs_) (fun hn_ => (Kd.fresh' (Kd.R_lt (kR_ HO407)) k_ hn_)), Or.elim hk_ (fun hs_ => fun e_ => (((HO410.out).1 k_ e_.symm).2) hs_) (fun hn_ => (Kd.fresh' (Kd.R_lt (kR_ HO410)) k_ hn_))⟩)); have n6_ := Qx (hb); clear BK403 BK404 HO407 HO410 BK412 HB HO415; have BK403 := n0_; have BK404 := n1_; have HO407 := n2_; have HO410 := n3_; have BK412 := n4_; have HO418 := n5_; have HB := n6_; clear n0_ n1_ n2_ n3_ n4_ n5_ n6_; (try clear hb); (try clear hkp); (try clear ho0); obtain ⟨Ao23, co23, eo23⟩ := Kd.R_slice HO418.out; subst eo23) | ((with_reducible refine gate_callee (f := 24) rfl ?_); refine gl_ 24 Try.func24 #[.slice Ao23 t416.length co23] ?_; (with_reducible refine (slices_Compact_int_int.calls k (fun k_ => some k_ = (.slice Ao23 t416.length co23 : Value).ownBlock) (.slice Ao23 t416.length co23) t416 t419 w _ ?side1 ?side2 A7.out).mono ?_); (case side1 => exact hB_); (case side2 => exact Kd.R_tight rfl HO418.out); rintro e w24 ⟨v420, rfl, ho0, hb, hkp⟩; refine ⟨_, rfl, ?_⟩; have n0_ := Qx (blk_kept (kB_ BK403) hkp (fun hs_ => (fun e_ => (Kd.R_ne HO418.out BK403.out (by decide)) e_) hs_)); have n1_ := Qx (blk_kept (kB_ BK404) hkp (fun hs_ => (fun e_ => (Kd.R_ne HO418.out BK404.out (by decide)) e_) hs_)); have n2_ := Qx (Qrm (ok' := fun k_ => some k_ ≠ (.slice Ao15 t408.length co15 : Value).ownBlock ∧ some k_ ≠ (v420 : Value).ownBlock) (Kd.R_keptB (HO407.out) hkp (fun k_ hk_ hs_ => (hk_.2) hs_)) (fun k_ hk_ => ⟨hk_.1.1, fun e_ => Or.elim (ho0.1 k_ e_.symm) (fun hs_ => hk_.2.1 hs_) (fun hn_ => Nat.not_le.2 hk_.2.2 hn_)⟩)); have n3_ := Qx (Qrm (ok' := fun k_ => some k_ ≠ (.slice Ao19 t405.length co19 : Value).ownBlock ∧ some k_ ≠ (v420 : Value).ownBlock) (Kd.R_keptB (HO410.out) hkp (fun k_ hk_ hs_ => (hk_.2) hs_)) (fun k_ hk_ => ⟨hk_.1.1, fun e_ => Or.elim (ho0.1 k_ e_.symm) (fun hs_ => hk_.2.1 hs_) (fun hn_ => Nat.not_le.2 hk_.2.2 hn_)⟩)); have n4_ := Qx (blk_kept (kB_ BK412) hkp (fun hs_ => (fun e_ => (Kd.R_ne HO418.out BK412.out (by decide)) e_) hs_)); have n5_ := Qx (Qrm (ok' := fun k_ => some k_ ≠ (.slice Ao19 t405.length co19 : Value).ownBlock ∧ some k_ ≠ (.slice Ao15 t408.length co15 : Value).ownBlock) ho0 (fun k_ hk_ => ⟨Or.elim hk_ (fun hs_ => fun e_ => (((HO407.out).1 k_ e_.symm).2) hs_) (fun hn_ => (Kd.fresh' (Kd.R_lt (kR_ HO407)) k_ hn_)), Or.elim hk_ (fun hs_ => fun e_ => (((HO410.out).1 k_ e_.symm).2) hs_) (fun hn_ => (Kd.fresh' (Kd.R_lt (kR_ HO410)) k_ hn_))⟩)); have n6_ := Qx (hb); clear BK403 BK404 HO407 HO410 BK412 HB HO418; have BK403 := n0_; have BK404 := n1_; have HO407 := n2_; have HO410 := n3_; have BK412 := n4_; have HO421 := n5_; have HB := n6_; clear n0_ n1_ n2_ n3_ n4_ n5_ n6_; (try clear hb); (try clear hkp); (try clear ho0)))
   go_ret2
   exact ⟨_, rf_, by (with_reducible repeat (first | apply Qra | apply Qrn | apply Qrd)); exact Qrm HO421.out (fun _ hk => trivial), hB_⟩
  ·replace c4 := Bool.eq_false_iff.mpr c4; subst c4
   have H1 : (some (([] : List Int), false)) = some (r1, r2) := by rw [if_neg (show ¬ (false = true) by decide)] at H; exact H
   clear H; have H := H1; clear H1; simp only [Option.some.injEq, Prod.mk.injEq] at H; obtain ⟨rfl, rfl⟩ := H
   go_enter Try.func7, Try.ntmps7
   go_wp2_with (first | ((with_reducible refine gate_dst (N := 2) rfl ?_); refine bx_ 2 #[.int .i64 a0_0, .int .i64 a0_1, .int .i64 a0_2, .int .i64 a0_3, .slice A0_4 l0_4.length c0_4, .int .i64 a0_5, .slice A0_6 l0_6.length c0_6] 32 ?_; intro gb403 hg w25 hbox hb; have BK403 := Qx (hbox); have GW403 := Qx ((ge_ hg)); have GE403 := Qx ((ge_ hg)); replace HB := Qx (Qp hB_ hb); clear hb hbox hg) | ((with_reducible refine gate_dst (N := 3) rfl ?_); refine bx_ 3 #[.int .i64 a1_0, .int .i64 a1_1, .int .i64 a1_2, .int .i64 a1_3, .slice A1_4 l1_4.length c1_4, .int .i64 a1_5, .slice A1_6 l1_6.length c1_6] 32 ?_; intro gb404 hg w26 hbox hb; have BK404 := Qx (hbox); have GW404 := Qx ((ge_ hg)); have GE404 := Qx ((ge_ hg)); replace HB := Qx (Qp hB_ hb); have NB403_404 := Qx ((ne_ hg BK403)); have NB404_403 := Qx ((nf_ hg BK403)); replace BK403 := Qx (Qb (kB_ BK403) hb); clear hb hbox hg; have hnb27 := NB403_404.out; have hnc27 := NB404_403.out; obtain ⟨hcz28_0, hcz28_1, hcz28_2, hcz28_3, hcz28_4, hcz28_5, hcz28_6, hfz28_0, hfz28_1, hfz28_2, hfz28_3, hfz28_4, hfz28_5, hfz28_6⟩ := cellsQ7_g1f (w := w26) BK403.out; obtain ⟨hcz29_0, hcz29_1, hcz29_2, hcz29_3, hcz29_4, hcz29_5, hcz29_6, hfz29_0, hfz29_1, hfz29_2, hfz29_3, hfz29_4, hfz29_5, hfz29_6⟩ := cellsQ7_g1f (w := w26) BK404.out) | ((with_reducible refine gate_callee (f := 19) rfl ?_); refine gl_ 13 Try.func19 #[.agg #[.int .i64 a0_0, .int .i64 a0_1, .int .i64 a0_2, .int .i64 a0_3, .slice A0_4 l0_4.length c0_4, .int .i64 a0_5, .slice A0_6 l0_6.length c0_6], .agg #[.int .i64 a1_0, .int .i64 a1_1, .int .i64 a1_2, .int .i64 a1_3, .slice A1_4 l1_4.length c1_4, .int .i64 a1_5, .slice A1_6 l1_6.length c1_6]] ?_; (with_reducible refine (impl_twoLists.calls k a0_0 a0_1 a0_2 a0_3 _ _ l0_4 a0_5 _ _ l0_6 a1_0 a1_1 a1_2 a1_3 _ _ l1_4 a1_5 _ _ l1_6 t405 t408 false _ ?side1 ?side2 ?side3 ?side4 ?side5 ?side6 ?side7 ?side8 A3.out).mono ?_); (case side1 => exact kC_ HR0_4); (case side2 => exact HC0_4.out); (case side3 => exact kC_ HR0_6); (case side4 => exact HC0_6.out); (case side5 => exact kC_ HR1_4); (case side6 => exact HC1_4.out); (case side7 => exact kC_ HR1_6); (case side8 => exact HC1_6.out); rintro e w30 ⟨v406, v409, rfl, ho0, ho1, hb⟩; refine ⟨_, rfl, ?_⟩; have HO407 := Qx (Kd.R_lower ho0 (Qz hB_)); have HO410 := Qx (Kd.R_lower ho1 (Qz hB_)); replace BK403 := Qx (Qb (kB_ BK403) hb); replace BK404 := Qx (Qb (kB_ BK404) hb); replace HB := Qx (Qp hB_ hb); (try clear hb); (try clear hb2); (try clear hk); (try clear hi); (try clear ho0); (try clear ho1)) | ((with_reducible refine gate_dst (N := 7) rfl ?_); refine bx_ 7 #[.slice none 0 0] 22 ?_; intro gb412 hg w31 hbox hb; replace HO407 := Qx (Kd.R_below (kR_ HO407) hb); replace HO410 := Qx (Kd.R_below (kR_ HO410) hb); have BK412 := Qx (hbox); have GW412 := Qx ((ge_ hg)); have GE412 := Qx ((ge_ hg)); replace HB := Qx (Qp hB_ hb); have NB403_412 := Qx ((ne_ hg BK403)); have NB412_403 := Qx ((nf_ hg BK403)); replace BK403 := Qx (Qb (kB_ BK403) hb); have NB404_412 := Qx ((ne_ hg BK404)); have NB412_404 := Qx ((nf_ hg BK404)); replace BK404 := Qx (Qb (kB_ BK404) hb); clear hb hbox hg; obtain ⟨Ao32, co32, eo32⟩ := Kd.R_slice HO410.out; subst eo32; have hnb33 := NB412_403.out; have hnc33 := NB403_412.out; have hnb34 := NB412_404.out; have hnc34 := NB404_412.out; have hcz35_0 : w31.cell? ⟨gb412, 0, none⟩ = some (.slice none 0 0) := (blk_cell BK412.out 0).trans rfl; have hfz35_0 := blk_frozen BK412.out 0))
   go_ret2
   exact ⟨_, rf_, by first | exact Kd.R_nil _ _ _ _ _ | exact Kd.N_nil _ _ _ _ _ | exact Kd.V_nil _ _ _ _ _ | exact Kd.Q_nil _ _ _ _ _ | exact Kd.S_nil _ _ _ _ _, hB_⟩
/-! ### laws_eqIntS: function 8 -/
def laws_eqIntS.l0 : Nat → List Int → List Int → Int → Option (Bool)
  | 0, _, _, _ => none
  | k + 1, x0, x1, x5 => if x5 < (x0.length : Int) then (if 0 ≤ x5 then (if x5 < (x1.length : Int) then (if (rd x0 x5) = (rd x1 x5) then (laws_eqIntS.l0 k x0 x1 (wrap64 (x5 + 1))) else (some false)) else (none)) else (none)) else (some true)
def laws_eqIntS.f (k : Nat) (l0 : List Int) (l1 : List Int) : Option (Bool) := if (l0.length : Int) = (l1.length : Int) then (laws_eqIntS.l0 k l0 l1 0) else (some false)
theorem laws_eqIntS.mono_l : ∀ k, (∀ y0 y1 y2, LeO (laws_eqIntS.l0 k y0 y1 y2) (laws_eqIntS.l0 (k + 1) y0 y1 y2))
  | 0 => fun _ _ _ r h => by simp [laws_eqIntS.l0] at h
  | k + 1 => by
    have ih0 := laws_eqIntS.mono_l k
    · intro y0 y1 y2
      unfold laws_eqIntS.l0
      repeat' first
      | (with_reducible exact ih0 _ _ _)
      | (with_reducible exact LeO.refl _)
      | (with_reducible exact LeO.none _)
      | (with_reducible refine LeO.ite ?_ ?_)
      | (with_reducible refine LeO.bind ?_ (fun _ => ?_))
      | exact ih0 _ _ _
      | exact LeO.none _
      | refine LeO.ite ?_ ?_
      | refine LeO.bind ?_ (fun _ => ?_)
theorem laws_eqIntS.mono : ∀ a0 a1 k, LeO (laws_eqIntS.f k a0 a1) (laws_eqIntS.f (k + 1) a0 a1) := by
  intro a0 a1 k
  have ih0 := laws_eqIntS.mono_l k
  unfold laws_eqIntS.f
  repeat' first
      | (with_reducible exact ih0 _ _ _)
      | (with_reducible exact LeO.refl _)
      | (with_reducible exact LeO.none _)
      | (with_reducible refine LeO.ite ?_ ?_)
      | (with_reducible refine LeO.bind ?_ (fun _ => ?_))
      | exact ih0 _ _ _
      | exact LeO.none _
      | refine LeO.ite ?_ ?_
      | refine LeO.bind ?_ (fun _ => ?_)
noncomputable def laws_eqIntS.L0 (y0 : List Int) (y1 : List Int) (y2 : Int) : Option (Bool) := lim fun k => laws_eqIntS.l0 k y0 y1 y2
theorem laws_eqIntS.L0_sup (y0 : List Int) (y1 : List Int) (y2 : Int) : Sup (fun k => laws_eqIntS.l0 k y0 y1 y2) (laws_eqIntS.L0 y0 y1 y2) := Sup.of_mono fun k => laws_eqIntS.mono_l k y0 y1 y2
noncomputable def laws_eqIntS.F (l0 : List Int) (l1 : List Int) : Option (Bool) := lim fun k => laws_eqIntS.f k l0 l1
theorem laws_eqIntS.F_sup (l0 : List Int) (l1 : List Int) : Sup (fun k => laws_eqIntS.f k l0 l1) (laws_eqIntS.F l0 l1) := Sup.of_mono fun k => laws_eqIntS.mono l0 l1 k
theorem laws_eqIntS.L0_eq (x0 : List Int) (x1 : List Int) (x5 : Int) : laws_eqIntS.L0 x0 x1 x5 = if x5 < (x0.length : Int) then (if 0 ≤ x5 then (if x5 < (x1.length : Int) then (if (rd x0 x5) = (rd x1 x5) then (laws_eqIntS.L0 x0 x1 (wrap64 (x5 + 1))) else (some false)) else (none)) else (none)) else (some true) := by
  refine Sup.unique (laws_eqIntS.L0_sup x0 x1 x5) (Sup.shift (fun k => laws_eqIntS.mono_l k x0 x1 x5) (Sup.congr (g' := fun k => if x5 < (x0.length : Int) then (if 0 ≤ x5 then (if x5 < (x1.length : Int) then (if (rd x0 x5) = (rd x1 x5) then (laws_eqIntS.l0 k x0 x1 (wrap64 (x5 + 1))) else (some false)) else (none)) else (none)) else (some true)) (fun k => by first | rfl | simp only [laws_eqIntS.l0]) ?_))
  repeat' first
    | (with_reducible exact laws_eqIntS.L0_sup _ _ _)
    | (with_reducible refine Sup.ite ?_ ?_)
    | (with_reducible refine Sup.bind ?_ (fun _ => ?_))
    | (with_reducible exact Sup.const _)
    | exact laws_eqIntS.L0_sup _ _ _
    | exact Sup.const _
theorem laws_eqIntS.F_eq (l0 : List Int) (l1 : List Int) : laws_eqIntS.F l0 l1 = if (l0.length : Int) = (l1.length : Int) then (laws_eqIntS.L0 l0 l1 0) else (some false) := by
  refine Sup.unique (laws_eqIntS.F_sup l0 l1) (Sup.congr (g' := fun k => if (l0.length : Int) = (l1.length : Int) then (laws_eqIntS.l0 k l0 l1 0) else (some false)) (fun k => by first | rfl | simp only [laws_eqIntS.f]) ?_)
  repeat' first
    | (with_reducible exact laws_eqIntS.L0_sup _ _ _)
    | (with_reducible refine Sup.ite ?_ ?_)
    | (with_reducible refine Sup.bind ?_ (fun _ => ?_))
    | (with_reducible exact Sup.const _)
    | exact laws_eqIntS.L0_sup _ _ _
    | exact Sup.const _
set_option maxHeartbeats 8000000 in
set_option maxRecDepth 100000 in
theorem laws_eqIntS.calls (k : Nat) (A0 : Option Addr) (c0 : Nat) (l0 : List Int) (A1 : Option Addr) (c1 : Nat) (l1 : List Int) (r : Bool) (w : World) (hr0 : Kd.C (Kd.int .i64) w A0 l0.length l0) (hc0 : l0.length ≤ c0) (hr1 : Kd.C (Kd.int .i64) w A1 l1.length l1) (hc1 : l1.length ≤ c1) (h : laws_eqIntS.f k l0 l1 = some r) :
    Calls Try.prog 8 #[.slice A0 l0.length c0, .slice A1 l1.length c1] w fun e w' => e = .returned (.bool r) ∧ Drawn0 w w' := by
  have HR0 := Qx hr0; have HC0 := Qx hc0; clear hr0 hc0; have HR1 := Qx hr1; have HC1 := Qx hc1; clear hr1 hc1
  have H : (if (l0.length : Int) = (l1.length : Int) then (laws_eqIntS.l0 k l0 l1 0) else (some false)) = some r := h
  clear h
  by_cases c3 : (l0.length : Int) = (l1.length : Int)
  ·rw [if_pos c3] at H
   have c3b0 : ((l0.length : Int) == (l1.length : Int)) = true := beq_iff_eq.mpr c3
   have c3b1 : ((l0.length : Int) != (l1.length : Int)) = false := bne_eq_false_iff_eq.mpr c3
   have c3b2 : (l0.length == l1.length) = true := by first | simpa using c3 | (simp at c3 ⊢; omega)
   clear c3; have H' := Qx H; clear H
   go_enter Try.func8, Try.ntmps8
   go_wp2
   repeat (go_quiet (fail); try go_wp2)
   go_loopg [5] k (fun kq v5 w' => ∃ (x5_1 : Int), v5 = .int .i64 x5_1 ∧ Aside0 (laws_eqIntS.l0 kq l0 l1 x5_1 = some r) ∧ Aside0 (kq ≤ k) ∧ Drawn0 w w')
   case atStart => exact ⟨(0), rg_, H', ⟨Nat.le_refl _⟩, by repeat (first | exact Drawn0.refl _ | apply Drawn0.step)⟩
   case round =>
    clear H'
    try clear c1
    try clear p2
    try clear c3
    try clear c3b0
    try clear c3b1
    try clear c3b2
    obtain ⟨x5_1, rfl, HA, HK1, ⟨m1, rfl⟩⟩ := hrel
    cases gk with
    | zero => exact absurd HA.out (by simp [laws_eqIntS.l0])
    | succ k1 =>
     have H := HA.out; clear HA; simp only [laws_eqIntS.l0] at H
     by_cases c4 : x5_1 < (l0.length : Int)
     ·rw [if_pos c4] at H
      have c4b0 : decide (x5_1 < (l0.length : Int)) = true := decide_eq_true c4
      clear c4
      by_cases c5 : 0 ≤ x5_1
      ·rw [if_pos c5] at H
       have c5b0 : decide (0 ≤ x5_1) = true := decide_eq_true c5
       clear c5
       by_cases c6 : x5_1 < (l1.length : Int)
       ·rw [if_pos c6] at H
        have c6b0 : decide (x5_1 < (l1.length : Int)) = true := decide_eq_true c6
        clear c6
        by_cases c7 : (rd l0 x5_1) = (rd l1 x5_1)
        ·rw [if_pos c7] at H
         have c7b0 : ((rd l0 x5_1) == (rd l1 x5_1)) = true := beq_iff_eq.mpr c7
         have c7b1 : ((rd l0 x5_1) != (rd l1 x5_1)) = false := bne_eq_false_iff_eq.mpr c7
         clear c7; have H' := Qx H; clear H
         have p422 : 0 ≤ (x5_1 : Int) := of_decide_eq_true as_
         have q422 : x5_1 < (l0.length : Int) := of_decide_eq_true as_
         obtain ⟨ad422, e422, hx422_0⟩ := Kd.at_int HR0.out x5_1 p422 q422
         cases e422
         replace p422 := eq_true p422; replace q422 := eq_true q422
         have p423 : 0 ≤ (x5_1 : Int) := of_decide_eq_true as_
         have q423 : x5_1 < (l1.length : Int) := of_decide_eq_true as_
         obtain ⟨ad423, e423, hx423_0⟩ := Kd.at_int HR1.out x5_1 p423 q423
         cases e423
         replace p423 := eq_true p423; replace q423 := eq_true q423
         go_wp2
         repeat (go_quiet (fail); try go_wp2)
         go_roundg k1
         case measure => have := HK1.out; omega
         case rel => exact ⟨(wrap64 (x5_1 + 1)), rg_, H', ⟨by have := HK1.out; omega⟩, by repeat (first | exact Drawn0.refl _ | apply Drawn0.step)⟩
        ·rw [if_neg c7] at H
         have c7b0 : ((rd l0 x5_1) == (rd l1 x5_1)) = false := beq_eq_false_iff_ne.mpr c7
         have c7b1 : ((rd l0 x5_1) != (rd l1 x5_1)) = true := bne_iff_ne.mpr c7
         obtain rfl := Option.some.inj H
         have p422 : 0 ≤ (x5_1 : Int) := of_decide_eq_true as_
         have q422 : x5_1 < (l0.length : Int) := of_decide_eq_true as_
         obtain ⟨ad422, e422, hx422_0⟩ := Kd.at_int HR0.out x5_1 p422 q422
         cases e422
         replace p422 := eq_true p422; replace q422 := eq_true q422
         have p423 : 0 ≤ (x5_1 : Int) := of_decide_eq_true as_
         have q423 : x5_1 < (l1.length : Int) := of_decide_eq_true as_
         obtain ⟨ad423, e423, hx423_0⟩ := Kd.at_int HR1.out x5_1 p423 q423
         cases e423
         replace p423 := eq_true p423; replace q423 := eq_true q423
         go_wp2
         repeat (go_quiet (fail); try go_wp2)
         go_ret
         exact ⟨rg_, by repeat (first | exact Drawn0.refl _ | apply Drawn0.step)⟩
       ·rw [if_neg c6] at H
        exact absurd H (by simp)
      ·rw [if_neg c5] at H
       exact absurd H (by simp)
     ·rw [if_neg c4] at H
      have c4b0 : decide (x5_1 < (l0.length : Int)) = false := decide_eq_false c4
      clear c4; obtain rfl := Option.some.inj H
      go_wp2
      repeat (go_quiet (fail); try go_wp2)
      go_ret
      exact ⟨rg_, by repeat (first | exact Drawn0.refl _ | apply Drawn0.step)⟩
  ·rw [if_neg c3] at H
   have c3b0 : ((l0.length : Int) == (l1.length : Int)) = false := beq_eq_false_iff_ne.mpr c3
   have c3b1 : ((l0.length : Int) != (l1.length : Int)) = true := bne_iff_ne.mpr c3
   have c3b2 : (l0.length == l1.length) = false := by first | simpa using c3 | (simp at c3 ⊢; omega)
   obtain rfl := Option.some.inj H
   go_enter Try.func8, Try.ntmps8
   go_wp2
   repeat (go_quiet (fail); try go_wp2)
   go_ret
   exact ⟨rg_, by repeat (first | exact Drawn0.refl _ | apply Drawn0.step)⟩
/-! ### laws_eqBits: function 25 -/
def laws_eqBits.f (k : Nat) (a0_0 : Int) (l0_1 : List Int) (a1_0 : Int) (l1_1 : List Int) : Option (Bool) := if a0_0 = a1_0 then ((laws_eqIntS.f k l0_1 l1_1).bind fun t426 => (if t426 = true then (some true) else (some false))) else (some false)
theorem laws_eqBits.mono : ∀ a0 a1 a2 a3 k, LeO (laws_eqBits.f k a0 a1 a2 a3) (laws_eqBits.f (k + 1) a0 a1 a2 a3) := by
  intro a0 a1 a2 a3 k
  unfold laws_eqBits.f
  repeat' first
      | (with_reducible exact laws_eqIntS.mono _ _ _)
      | (with_reducible exact LeO.refl _)
      | (with_reducible exact LeO.none _)
      | (with_reducible refine LeO.ite ?_ ?_)
      | (with_reducible refine LeO.bind ?_ (fun _ => ?_))
      | exact laws_eqIntS.mono _ _ _
      | exact LeO.none _
      | refine LeO.ite ?_ ?_
      | refine LeO.bind ?_ (fun _ => ?_)
noncomputable def laws_eqBits.F (a0_0 : Int) (l0_1 : List Int) (a1_0 : Int) (l1_1 : List Int) : Option (Bool) := lim fun k => laws_eqBits.f k a0_0 l0_1 a1_0 l1_1
theorem laws_eqBits.F_sup (a0_0 : Int) (l0_1 : List Int) (a1_0 : Int) (l1_1 : List Int) : Sup (fun k => laws_eqBits.f k a0_0 l0_1 a1_0 l1_1) (laws_eqBits.F a0_0 l0_1 a1_0 l1_1) := Sup.of_mono fun k => laws_eqBits.mono a0_0 l0_1 a1_0 l1_1 k
theorem laws_eqBits.F_eq (a0_0 : Int) (l0_1 : List Int) (a1_0 : Int) (l1_1 : List Int) : laws_eqBits.F a0_0 l0_1 a1_0 l1_1 = if a0_0 = a1_0 then ((laws_eqIntS.F l0_1 l1_1).bind fun t426 => (if t426 = true then (some true) else (some false))) else (some false) := by
  refine Sup.unique (laws_eqBits.F_sup a0_0 l0_1 a1_0 l1_1) (Sup.congr (g' := fun k => if a0_0 = a1_0 then ((laws_eqIntS.f k l0_1 l1_1).bind fun t426 => (if t426 = true then (some true) else (some false))) else (some false)) (fun k => by first | rfl | simp only [laws_eqBits.f]) ?_)
  repeat' first
    | (with_reducible exact laws_eqIntS.F_sup _ _)
    | (with_reducible refine Sup.ite ?_ ?_)
    | (with_reducible refine Sup.bind ?_ (fun _ => ?_))
    | (with_reducible exact Sup.const _)
    | exact laws_eqIntS.F_sup _ _
    | exact Sup.const _
set_option maxHeartbeats 8000000 in
set_option maxRecDepth 100000 in
theorem laws_eqBits.calls (k : Nat) (a0_0 : Int) (A0_1 : Option Addr) (c0_1 : Nat) (l0_1 : List Int) (a1_0 : Int) (A1_1 : Option Addr) (c1_1 : Nat) (l1_1 : List Int) (r : Bool) (w : World) (hr0_1 : Kd.C (Kd.int .i64) w A0_1 l0_1.length l0_1) (hc0_1 : l0_1.length ≤ c0_1) (hr1_1 : Kd.C (Kd.int .i64) w A1_1 l1_1.length l1_1) (hc1_1 : l1_1.length ≤ c1_1) (h : laws_eqBits.f k a0_0 l0_1 a1_0 l1_1 = some r) :
    Calls Try.prog 25 #[.agg #[.int .i64 a0_0, .slice A0_1 l0_1.length c0_1], .agg #[.int .i64 a1_0, .slice A1_1 l1_1.length c1_1]] w fun e w' => e = .returned (.bool r) ∧ Below w.heap.size w w' := by
  have hu30 := Try.underlying30; have hu22 := Try.underlying22; have HR0_1 := Qx hr0_1; have HC0_1 := Qx hc0_1; clear hr0_1 hc0_1; have HR1_1 := Qx hr1_1; have HC1_1 := Qx hc1_1; clear hr1_1 hc1_1
  have HB := Qx (Below.refl w.heap.size w)
  have H : (if a0_0 = a1_0 then ((laws_eqIntS.f k l0_1 l1_1).bind fun t426 => (if t426 = true then (some true) else (some false))) else (some false)) = some r := h
  clear h
  by_cases c3 : a0_0 = a1_0
  ·rw [if_pos c3] at H
   have c3b0 : (a0_0 == a1_0) = true := beq_iff_eq.mpr c3
   have c3b1 : (a0_0 != a1_0) = false := bne_eq_false_iff_eq.mpr c3
   clear c3; replace H := Option.bind_eq_some_iff.mp H; obtain ⟨t426, A40, H⟩ := H
   have A4 := Qx A40; clear A40
   by_cases c5 : t426 = true
   ·subst c5
    have H1 : (some true) = some r := by rw [if_pos rfl] at H; exact H
    clear H; have H := H1; clear H1; obtain rfl := Option.some.inj H
    go_enter Try.func25, Try.ntmps25
    go_wp2_with (first | ((with_reducible refine gate_dst (N := 2) rfl ?_); refine bx_ 2 #[.int .i64 a0_0, .slice A0_1 l0_1.length c0_1] 30 ?_; intro gb424 hg w6 hbox hb; have BK424 := Qx (hbox); have GW424 := Qx ((ge_ hg)); have GE424 := Qx ((ge_ hg)); replace HB := Qx (Qp hB_ hb); clear hb hbox hg) | ((with_reducible refine gate_dst (N := 3) rfl ?_); refine bx_ 3 #[.int .i64 a1_0, .slice A1_1 l1_1.length c1_1] 30 ?_; intro gb425 hg w7 hbox hb; have BK425 := Qx (hbox); have GW425 := Qx ((ge_ hg)); have GE425 := Qx ((ge_ hg)); replace HB := Qx (Qp hB_ hb); have NB424_425 := Qx ((ne_ hg BK424)); have NB425_424 := Qx ((nf_ hg BK424)); replace BK424 := Qx (Qb (kB_ BK424) hb); clear hb hbox hg; have hnb8 := NB424_425.out; have hnc8 := NB425_424.out; obtain ⟨hcz9_0, hcz9_1, hfz9_0, hfz9_1⟩ := cellsQ2_g1f (w := w7) BK424.out; obtain ⟨hcz10_0, hcz10_1, hfz10_0, hfz10_1⟩ := cellsQ2_g1f (w := w7) BK425.out) | ((with_reducible refine gate_callee (f := 8) rfl ?_); refine gl_ 14 Try.func8 #[.slice A0_1 l0_1.length c0_1, .slice A1_1 l1_1.length c1_1] ?_; (with_reducible refine (laws_eqIntS.calls k _ _ l0_1 _ _ l1_1 true _ ?side1 ?side2 ?side3 ?side4 A4.out).mono ?_); (case side1 => exact kC_ HR0_1); (case side2 => exact HC0_1.out); (case side3 => exact kC_ HR1_1); (case side4 => exact HC1_1.out); rintro e w' ⟨rfl, ⟨nd, rfl⟩⟩; refine ⟨_, rfl, ?_⟩))
    go_ret
    exact ⟨rf_, hB_⟩
   ·replace c5 := Bool.eq_false_iff.mpr c5; subst c5
    have H1 : (some false) = some r := by rw [if_neg (show ¬ (false = true) by decide)] at H; exact H
    clear H; have H := H1; clear H1; obtain rfl := Option.some.inj H
    go_enter Try.func25, Try.ntmps25
    go_wp2_with (first | ((with_reducible refine gate_dst (N := 2) rfl ?_); refine bx_ 2 #[.int .i64 a0_0, .slice A0_1 l0_1.length c0_1] 30 ?_; intro gb424 hg w11 hbox hb; have BK424 := Qx (hbox); have GW424 := Qx ((ge_ hg)); have GE424 := Qx ((ge_ hg)); replace HB := Qx (Qp hB_ hb); clear hb hbox hg) | ((with_reducible refine gate_dst (N := 3) rfl ?_); refine bx_ 3 #[.int .i64 a1_0, .slice A1_1 l1_1.length c1_1] 30 ?_; intro gb425 hg w12 hbox hb; have BK425 := Qx (hbox); have GW425 := Qx ((ge_ hg)); have GE425 := Qx ((ge_ hg)); replace HB := Qx (Qp hB_ hb); have NB424_425 := Qx ((ne_ hg BK424)); have NB425_424 := Qx ((nf_ hg BK424)); replace BK424 := Qx (Qb (kB_ BK424) hb); clear hb hbox hg; have hnb13 := NB424_425.out; have hnc13 := NB425_424.out; obtain ⟨hcz14_0, hcz14_1, hfz14_0, hfz14_1⟩ := cellsQ2_g1f (w := w12) BK424.out; obtain ⟨hcz15_0, hcz15_1, hfz15_0, hfz15_1⟩ := cellsQ2_g1f (w := w12) BK425.out) | ((with_reducible refine gate_callee (f := 8) rfl ?_); refine gl_ 14 Try.func8 #[.slice A0_1 l0_1.length c0_1, .slice A1_1 l1_1.length c1_1] ?_; (with_reducible refine (laws_eqIntS.calls k _ _ l0_1 _ _ l1_1 false _ ?side1 ?side2 ?side3 ?side4 A4.out).mono ?_); (case side1 => exact kC_ HR0_1); (case side2 => exact HC0_1.out); (case side3 => exact kC_ HR1_1); (case side4 => exact HC1_1.out); rintro e w' ⟨rfl, ⟨nd, rfl⟩⟩; refine ⟨_, rfl, ?_⟩))
    go_ret
    exact ⟨rf_, hB_⟩
  ·rw [if_neg c3] at H
   have c3b0 : (a0_0 == a1_0) = false := beq_eq_false_iff_ne.mpr c3
   have c3b1 : (a0_0 != a1_0) = true := bne_iff_ne.mpr c3
   obtain rfl := Option.some.inj H
   go_enter Try.func25, Try.ntmps25
   go_wp2_with (first | ((with_reducible refine gate_dst (N := 2) rfl ?_); refine bx_ 2 #[.int .i64 a0_0, .slice A0_1 l0_1.length c0_1] 30 ?_; intro gb424 hg w16 hbox hb; have BK424 := Qx (hbox); have GW424 := Qx ((ge_ hg)); have GE424 := Qx ((ge_ hg)); replace HB := Qx (Qp hB_ hb); clear hb hbox hg) | ((with_reducible refine gate_dst (N := 3) rfl ?_); refine bx_ 3 #[.int .i64 a1_0, .slice A1_1 l1_1.length c1_1] 30 ?_; intro gb425 hg w17 hbox hb; have BK425 := Qx (hbox); have GW425 := Qx ((ge_ hg)); have GE425 := Qx ((ge_ hg)); replace HB := Qx (Qp hB_ hb); have NB424_425 := Qx ((ne_ hg BK424)); have NB425_424 := Qx ((nf_ hg BK424)); replace BK424 := Qx (Qb (kB_ BK424) hb); clear hb hbox hg; have hnb18 := NB424_425.out; have hnc18 := NB425_424.out; obtain ⟨hcz19_0, hcz19_1, hfz19_0, hfz19_1⟩ := cellsQ2_g1f (w := w17) BK424.out; obtain ⟨hcz20_0, hcz20_1, hfz20_0, hfz20_1⟩ := cellsQ2_g1f (w := w17) BK425.out))
   go_ret
   exact ⟨rf_, hB_⟩
end Go.Proofs.Ytcjhnpbehkfknaa.X
