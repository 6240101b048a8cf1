/- Written by a program of this session: what functions of the given program compute, and that their calls do so. -/
import Derived.Test.YtcjhnpbehkfknaaXx0
import Derived.Test.YtcjhnpbehkfknaaXg1a
import Derived.Test.YtcjhnpbehkfknaaXg1b
import Derived.Test.YtcjhnpbehkfknaaXs
namespace Go.Proofs.Ytcjhnpbehkfknaa.X
open Go.RowKit Go.Proofs.YtcjhnpbehkfknaaW.PrintWords Go.Proofs.YtcjhnpbehkfknaaW.PrintLast Go.Proofs.YtcjhnpbehkfknaaW.PrintMore
theorem cellsQ2_g1c {w : World} {g : Nat} {t : TypeId} {a0 a1 : Value} (k : w.heap[g]? = some (.cells #[a0, a1] t (0, 0))) : w.cell? ⟨g, 0, none⟩ = some a0 ∧ w.cell? ⟨g, 1, none⟩ = some a1 ∧ w.frozen? ⟨g, 0, none⟩ = false ∧ w.frozen? ⟨g, 1, none⟩ = false := ⟨(blk_cell k 0).trans rfl, (blk_cell k 1).trans rfl, blk_frozen k 0, blk_frozen k 1⟩
theorem cellsQ7_g1c {w : World} {g : Nat} {t : TypeId} {a0 a1 a2 a3 a4 a5 a6 : Value} (k : w.heap[g]? = some (.cells #[a0, a1, a2, a3, a4, a5, a6] t (0, 0))) : w.cell? ⟨g, 0, none⟩ = some a0 ∧ w.cell? ⟨g, 1, none⟩ = some a1 ∧ w.cell? ⟨g, 2, none⟩ = some a2 ∧ w.cell? ⟨g, 3, none⟩ = some a3 ∧ w.cell? ⟨g, 4, none⟩ = some a4 ∧ w.cell? ⟨g, 5, none⟩ = some a5 ∧ w.cell? ⟨g, 6, none⟩ = some a6 ∧ w.frozen? ⟨g, 0, none⟩ = false ∧ w.frozen? ⟨g, 1, none⟩ = false ∧ w.frozen? ⟨g, 2, none⟩ = false ∧ w.frozen? ⟨g, 3, none⟩ = false ∧ w.frozen? ⟨g, 4, none⟩ = false ∧ w.frozen? ⟨g, 5, none⟩ = false ∧ w.frozen? ⟨g, 6, none⟩ = false := ⟨(blk_cell k 0).trans rfl, (blk_cell k 1).trans rfl, (blk_cell k 2).trans rfl, (blk_cell k 3).trans rfl, (blk_cell k 4).trans rfl, (blk_cell k 5).trans rfl, (blk_cell k 6).trans rfl, blk_frozen k 0, blk_frozen k 1, blk_frozen k 2, blk_frozen k 3, blk_frozen k 4, blk_frozen k 5, blk_frozen k 6⟩
open Go.Proofs.YtcjhnpbehkfknaaW.PrintWords renaming blk_alloc → Qk, blk_drewN → Qm, blk_drew → Qw, below_size → Qz, below_step → Qp, blk_below → Qb, blk_put → Qu, blk_far → Qr
open Go.Proofs.YtcjhnpbehkfknaaW.PrintWords.Kd renaming R_far → Qrf, R_drewN → Qrn, R_alloc → Qra, R_drew → Qrd, R_mono → Qrm
open Go.Proofs.YtcjhnpbehkfknaaW.PrintWords.Aside0 renaming mk → Qx
attribute [local go_sem] max2_int min2_int max_two min_two max_three min_three max_four min_four   -- for this text's walks alone
set_option linter.unusedVariables false
set_option linter.unusedSimpArgs false
/-! ### spec_l1Put: function 17 -/
def spec_l1Put.l0 : Nat → List Int → Int → Int → Option (List Int)
  | 0, _, _, _ => none
  | k + 1, x0, x1, x5 => if x5 < (x0.length : Int) then (if 0 ≤ x5 then (if (rd x0 x5) < x1 then (spec_l1Put.l0 k x0 x1 (wrap64 (x5 + 1))) else (if (rd x0 x5) = x1 then (some x0) else ((some (([] : List Int) : List Int)).bind fun y195 => (if x5 ≤ (x0.length : Int) then ((some (x0.take (x5 : Int).toNat : List Int)).bind fun y198 => (if y195.length + y198.length < 17592186044416 then ((some (y195 ++ y198 : List Int)).bind fun y202 => (if y202.length < 17592186044416 then ((some (y202 ++ [x1] : List Int)).bind fun y205 => ((some (x0.drop (x5 : Int).toNat : List Int)).bind fun y208 => (if y205.length + y208.length < 17592186044416 then (some (y205 ++ y208)) else (none)))) else (none))) else (none))) else (none))))) else (none)) else ((some (([] : List Int) : List Int)).bind fun y215 => (if 0 ≤ x5 then (if x5 ≤ (x0.length : Int) then ((some (x0.take (x5 : Int).toNat : List Int)).bind fun y218 => (if y215.length + y218.length < 17592186044416 then ((some (y215 ++ y218 : List Int)).bind fun y222 => (if y222.length < 17592186044416 then ((some (y222 ++ [x1] : List Int)).bind fun y225 => ((some (x0.drop (x5 : Int).toNat : List Int)).bind fun y228 => (if y225.length + y228.length < 17592186044416 then (some (y225 ++ y228)) else (none)))) else (none))) else (none))) else (none)) else (none)))
def spec_l1Put.f (k : Nat) (l0 : List Int) (a1 : Int) : Option (List Int) := spec_l1Put.l0 k l0 a1 0
theorem spec_l1Put.mono_l : ∀ k, (∀ y0 y1 y2, LeO (spec_l1Put.l0 k y0 y1 y2) (spec_l1Put.l0 (k + 1) y0 y1 y2))
  | 0 => fun _ _ _ r h => by simp [spec_l1Put.l0] at h
  | k + 1 => by
    have ih0 := spec_l1Put.mono_l k
    · intro y0 y1 y2
      unfold spec_l1Put.l0
      repeat' first
      | (with_reducible exact ih0 _ _ _)
      | (with_reducible exact LeO.refl _)
      | (with_reducible exact LeO.none _)
      | (with_reducible refine LeO.ite ?_ ?_)
      | (with_reducible refine LeO.bind ?_ (fun _ => ?_))
      | exact ih0 _ _ _
      | exact LeO.none _
      | refine LeO.ite ?_ ?_
      | refine LeO.bind ?_ (fun _ => ?_)
theorem spec_l1Put.mono : ∀ a0 a1 k, LeO (spec_l1Put.f k a0 a1) (spec_l1Put.f (k + 1) a0 a1) := by
  intro a0 a1 k
  have ih0 := spec_l1Put.mono_l k
  unfold spec_l1Put.f
  repeat' first
      | (with_reducible exact ih0 _ _ _)
      | (with_reducible exact LeO.refl _)
      | (with_reducible exact LeO.none _)
      | (with_reducible refine LeO.ite ?_ ?_)
      | (with_reducible refine LeO.bind ?_ (fun _ => ?_))
      | exact ih0 _ _ _
      | exact LeO.none _
      | refine LeO.ite ?_ ?_
      | refine LeO.bind ?_ (fun _ => ?_)
noncomputable def spec_l1Put.L0 (y0 : List Int) (y1 : Int) (y2 : Int) : Option (List Int) := lim fun k => spec_l1Put.l0 k y0 y1 y2
theorem spec_l1Put.L0_sup (y0 : List Int) (y1 : Int) (y2 : Int) : Sup (fun k => spec_l1Put.l0 k y0 y1 y2) (spec_l1Put.L0 y0 y1 y2) := Sup.of_mono fun k => spec_l1Put.mono_l k y0 y1 y2
noncomputable def spec_l1Put.F (l0 : List Int) (a1 : Int) : Option (List Int) := lim fun k => spec_l1Put.f k l0 a1
theorem spec_l1Put.F_sup (l0 : List Int) (a1 : Int) : Sup (fun k => spec_l1Put.f k l0 a1) (spec_l1Put.F l0 a1) := Sup.of_mono fun k => spec_l1Put.mono l0 a1 k
theorem spec_l1Put.L0_eq (x0 : List Int) (x1 : Int) (x5 : Int) : spec_l1Put.L0 x0 x1 x5 = if x5 < (x0.length : Int) then (if 0 ≤ x5 then (if (rd x0 x5) < x1 then (spec_l1Put.L0 x0 x1 (wrap64 (x5 + 1))) else (if (rd x0 x5) = x1 then (some x0) else ((some (([] : List Int) : List Int)).bind fun y195 => (if x5 ≤ (x0.length : Int) then ((some (x0.take (x5 : Int).toNat : List Int)).bind fun y198 => (if y195.length + y198.length < 17592186044416 then ((some (y195 ++ y198 : List Int)).bind fun y202 => (if y202.length < 17592186044416 then ((some (y202 ++ [x1] : List Int)).bind fun y205 => ((some (x0.drop (x5 : Int).toNat : List Int)).bind fun y208 => (if y205.length + y208.length < 17592186044416 then (some (y205 ++ y208)) else (none)))) else (none))) else (none))) else (none))))) else (none)) else ((some (([] : List Int) : List Int)).bind fun y215 => (if 0 ≤ x5 then (if x5 ≤ (x0.length : Int) then ((some (x0.take (x5 : Int).toNat : List Int)).bind fun y218 => (if y215.length + y218.length < 17592186044416 then ((some (y215 ++ y218 : List Int)).bind fun y222 => (if y222.length < 17592186044416 then ((some (y222 ++ [x1] : List Int)).bind fun y225 => ((some (x0.drop (x5 : Int).toNat : List Int)).bind fun y228 => (if y225.length + y228.length < 17592186044416 then (some (y225 ++ y228)) else (none)))) else (none))) else (none))) else (none)) else (none))) := by
  refine Sup.unique (spec_l1Put.L0_sup x0 x1 x5) (Sup.shift (fun k => spec_l1Put.mono_l k x0 x1 x5) (Sup.congr (g' := fun k => if x5 < (x0.length : Int) then (if 0 ≤ x5 then (if (rd x0 x5) < x1 then (spec_l1Put.l0 k x0 x1 (wrap64 (x5 + 1))) else (if (rd x0 x5) = x1 then (some x0) else ((some (([] : List Int) : List Int)).bind fun y195 => (if x5 ≤ (x0.length : Int) then ((some (x0.take (x5 : Int).toNat : List Int)).bind fun y198 => (if y195.length + y198.length < 17592186044416 then ((some (y195 ++ y198 : List Int)).bind fun y202 => (if y202.length < 17592186044416 then ((some (y202 ++ [x1] : List Int)).bind fun y205 => ((some (x0.drop (x5 : Int).toNat : List Int)).bind fun y208 => (if y205.length + y208.length < 17592186044416 then (some (y205 ++ y208)) else (none)))) else (none))) else (none))) else (none))))) else (none)) else ((some (([] : List Int) : List Int)).bind fun y215 => (if 0 ≤ x5 then (if x5 ≤ (x0.length : Int) then ((some (x0.take (x5 : Int).toNat : List Int)).bind fun y218 => (if y215.length + y218.length < 17592186044416 then ((some (y215 ++ y218 : List Int)).bind fun y222 => (if y222.length < 17592186044416 then ((some (y222 ++ [x1] : List Int)).bind fun y225 => ((some (x0.drop (x5 : Int).toNat : List Int)).bind fun y228 => (if y225.length + y228.length < 17592186044416 then (some (y225 ++ y228)) else (none)))) else (none))) else (none))) else (none)) else (none)))) (fun k => by first | rfl | simp only [spec_l1Put.l0]) ?_))
  repeat' first
    | (with_reducible exact spec_l1Put.L0_sup _ _ _)
    | (with_reducible refine Sup.ite ?_ ?_)
    | (with_reducible refine Sup.bind ?_ (fun _ => ?_))
    | (with_reducible exact Sup.const _)
    | exact spec_l1Put.L0_sup _ _ _
    | exact Sup.const _
theorem spec_l1Put.F_eq (l0 : List Int) (a1 : Int) : spec_l1Put.F l0 a1 = spec_l1Put.L0 l0 a1 0 := by
  refine Sup.unique (spec_l1Put.F_sup l0 a1) (Sup.congr (g' := fun k => spec_l1Put.l0 k l0 a1 0) (fun k => by first | rfl | simp only [spec_l1Put.f]) ?_)
  repeat' first
    | (with_reducible exact spec_l1Put.L0_sup _ _ _)
    | (with_reducible refine Sup.ite ?_ ?_)
    | (with_reducible refine Sup.bind ?_ (fun _ => ?_))
    | (with_reducible exact Sup.const _)
    | exact spec_l1Put.L0_sup _ _ _
    | exact Sup.const _
set_option maxHeartbeats 8000000 in
set_option maxRecDepth 100000 in
theorem spec_l1Put.calls (k : Nat) (P0_ : Nat → Prop) (u9000_ : Value) (l0 : List Int) (a1 : Int) (r : List Int) (w0 w : World) (hB : Below w0.heap.size w0 w) (ho0 : Kd.R (Kd.int .i64) 3 w w0.heap.size P0_ u9000_ l0) (h : spec_l1Put.f k l0 a1 = some r) :
    Calls Try.prog 17 #[u9000_, .int .i64 a1] w fun e w' => ∃ v0_ : Value, e = .returned (v0_) ∧ Kd.R (Kd.int .i64) 3 w' w0.heap.size (fun k_ => (P0_ k_ ∨ w.heap.size ≤ k_)) v0_ r ∧ Below w0.heap.size w0 w' ∧ Kept w w' (fun k_ => P0_ k_) := by
  have HO0 := Qx (show Kd.R (Kd.int .i64) 3 w w0.heap.size (fun k_ => (P0_ k_ ∨ w.heap.size ≤ k_)) u9000_ l0 from Qrm ho0 (fun k_ hk => (.inl hk)))
  have HK := Qx (Kept.refl w (fun k_ => P0_ k_))
  have HW0 := Qx hB.size; have HB := Qx hB; clear hB
  have H : (spec_l1Put.l0 k l0 a1 0) = some r := h
  clear h; have H' := Qx H; clear H
  go_enter Try.func17, Try.ntmps17
  go_wp2
  go_loopg [5] k (fun kq v5 w' => ∃ (x5_1 : Int), v5 = .int .i64 x5_1 ∧ Aside0 (spec_l1Put.l0 kq l0 a1 x5_1 = some r) ∧ Aside0 (kq ≤ k) ∧ Aside0 (Kd.R (Kd.int .i64) 3 w' w0.heap.size (fun k_ => (P0_ k_ ∨ w.heap.size ≤ k_)) u9000_ l0) ∧ Aside0 (Kept w w' (fun k_ => P0_ k_)) ∧ Aside0 (Below w0.heap.size w0 w'))
  case atStart => exact ⟨(0), rg_, H', ⟨Nat.le_refl _⟩, ⟨kR_ HO0⟩, ⟨by repeat (first | (with_reducible first | exact HK.out | apply Kept.alloc | apply Kept.drewN | apply Kept.drew) | exact HK.out)⟩, ⟨hB_⟩⟩
  case round =>
   clear H'
   try clear c1
   try clear p2
   obtain ⟨x5_1, rfl, HA, HK1, HO_0, HK, HB⟩ := hrel
   cases gk with
   | zero => exact absurd HA.out (by simp [spec_l1Put.l0])
   | succ k1 =>
    have H := HA.out; clear HA; simp only [spec_l1Put.l0] at H
    by_cases c3 : x5_1 < (l0.length : Int)
    ·rw [if_pos c3] at H
     have c3b0 : decide (x5_1 < (l0.length : Int)) = true := decide_eq_true c3
     clear c3
     by_cases c4 : 0 ≤ x5_1
     ·rw [if_pos c4] at H
      have c4b0 : decide (0 ≤ x5_1) = true := decide_eq_true c4
      clear c4
      by_cases c5 : (rd l0 x5_1) < a1
      ·rw [if_pos c5] at H
       have c5b0 : decide ((rd l0 x5_1) < a1) = true := decide_eq_true c5
       clear c5; have H' := Qx H; clear H; obtain ⟨Ao6, co6, eo6⟩ := Kd.R_slice HO_0.out; subst eo6
       have p193 : 0 ≤ (x5_1 : Int) := of_decide_eq_true as_
       have q193 : x5_1 < (l0.length : Int) := of_decide_eq_true as_
       obtain ⟨ad193, e193, hx193_0⟩ := Kd.at_int (Kd.R_reads' HO_0.out).2.2 x5_1 p193 q193
       cases e193
       replace p193 := eq_true p193; replace q193 := eq_true q193
       go_wp2
       go_roundg k1
       case measure => have := HK1.out; omega
       case rel => exact ⟨(wrap64 (x5_1 + 1)), rg_, H', ⟨by have := HK1.out; omega⟩, ⟨kR_ HO_0⟩, ⟨by repeat (first | (with_reducible first | exact HK.out | apply Kept.alloc | apply Kept.drewN | apply Kept.drew) | exact HK.out)⟩, ⟨hB_⟩⟩
      ·rw [if_neg c5] at H
       have c5b0 : decide ((rd l0 x5_1) < a1) = false := decide_eq_false c5
       clear c5
       by_cases c7 : (rd l0 x5_1) = a1
       ·rw [if_pos c7] at H
        have c7b0 : ((rd l0 x5_1) == a1) = true := beq_iff_eq.mpr c7
        have c7b1 : ((rd l0 x5_1) != a1) = false := bne_eq_false_iff_eq.mpr c7
        clear c7; obtain rfl := Option.some.inj H; obtain ⟨Ao8, co8, eo8⟩ := Kd.R_slice HO_0.out; subst eo8
        have p193 : 0 ≤ (x5_1 : Int) := of_decide_eq_true as_
        have q193 : x5_1 < (l0.length : Int) := of_decide_eq_true as_
        obtain ⟨ad193, e193, hx193_0⟩ := Kd.at_int (Kd.R_reads' HO_0.out).2.2 x5_1 p193 q193
        cases e193
        replace p193 := eq_true p193; replace q193 := eq_true q193
        have p194 : 0 ≤ (x5_1 : Int) := of_decide_eq_true as_
        have q194 : x5_1 < (l0.length : Int) := of_decide_eq_true as_
        obtain ⟨ad194, e194, hx194_0⟩ := Kd.at_int (Kd.R_reads' HO_0.out).2.2 x5_1 p194 q194
        obtain rfl : ad193 = ad194 := (by injection e194)
        replace p194 := eq_true p194; replace q194 := eq_true q194
        go_wp2
        go_ret
        exact ⟨_, rf_, kR_ HO_0, hB_, by repeat (first | (with_reducible first | exact HK.out | apply Kept.alloc | apply Kept.drewN | apply Kept.drew) | exact HK.out)⟩
       ·rw [if_neg c7] at H
        have c7b0 : ((rd l0 x5_1) == a1) = false := beq_eq_false_iff_ne.mpr c7
        have c7b1 : ((rd l0 x5_1) != a1) = true := bne_iff_ne.mpr c7
        obtain ⟨y195, hy195⟩ : ∃ y_ : List Int, y_ = (([] : List Int)) := ⟨_, rfl⟩
        replace H : (if x5_1 ≤ (l0.length : Int) then ((some (l0.take (x5_1 : Int).toNat : List Int)).bind fun y198 => (if y195.length + y198.length < 17592186044416 then ((some (y195 ++ y198 : List Int)).bind fun y202 => (if y202.length < 17592186044416 then ((some (y202 ++ [a1] : List Int)).bind fun y205 => ((some (l0.drop (x5_1 : Int).toNat : List Int)).bind fun y208 => (if y205.length + y208.length < 17592186044416 then (some (y205 ++ y208)) else (none)))) else (none))) else (none))) else (none)) = some r := by first | (rw [hy195]; with_reducible exact H) | (have H2_ := (Option.bind_some _ _).symm.trans H; rw [hy195]; with_reducible exact H2_) | (have H2_ := (Option.bind_some _ _).symm.trans H; with_reducible exact H2_) | with_reducible exact H | (rw [hy195]; exact H) | exact H
        have Ny195 := Qx hy195; clear hy195
        have c9b0 := eq_true (of_decide_eq_true as_ : 0 ≤ x5_1)
        by_cases c10 : x5_1 ≤ (l0.length : Int)
        ·rw [if_pos c10] at H; have c10b0 := eq_true c10
         have c10b1 : decide (x5_1 ≤ (l0.length : Int)) = true := decide_eq_true c10
         clear c10
         obtain ⟨y198, hy198⟩ : ∃ y_ : List Int, y_ = (l0.take (x5_1 : Int).toNat) := ⟨_, rfl⟩
         replace H : (if y195.length + y198.length < 17592186044416 then ((some (y195 ++ y198 : List Int)).bind fun y202 => (if y202.length < 17592186044416 then ((some (y202 ++ [a1] : List Int)).bind fun y205 => ((some (l0.drop (x5_1 : Int).toNat : List Int)).bind fun y208 => (if y205.length + y208.length < 17592186044416 then (some (y205 ++ y208)) else (none)))) else (none))) else (none)) = some r := by first | (rw [hy198]; with_reducible exact H) | (have H2_ := (Option.bind_some _ _).symm.trans H; rw [hy198]; with_reducible exact H2_) | (have H2_ := (Option.bind_some _ _).symm.trans H; with_reducible exact H2_) | with_reducible exact H | (rw [hy198]; exact H) | exact H
         have Ny198 := Qx hy198; clear hy198
         by_cases c11 : y195.length + y198.length < 17592186044416
         ·rw [if_pos c11] at H; have LMc11 := Qx c11; clear c11
          obtain ⟨y202, hy202⟩ : ∃ y_ : List Int, y_ = (y195 ++ y198) := ⟨_, rfl⟩
          replace H : (if y202.length < 17592186044416 then ((some (y202 ++ [a1] : List Int)).bind fun y205 => ((some (l0.drop (x5_1 : Int).toNat : List Int)).bind fun y208 => (if y205.length + y208.length < 17592186044416 then (some (y205 ++ y208)) else (none)))) else (none)) = some r := by first | (rw [hy202]; with_reducible exact H) | (have H2_ := (Option.bind_some _ _).symm.trans H; rw [hy202]; with_reducible exact H2_) | (have H2_ := (Option.bind_some _ _).symm.trans H; with_reducible exact H2_) | with_reducible exact H | (rw [hy202]; exact H) | exact H
          have Ny202 := Qx hy202; clear hy202
          by_cases c12 : y202.length < 17592186044416
          ·rw [if_pos c12] at H; have LMc12 := Qx c12; clear c12
           obtain ⟨y205, hy205⟩ : ∃ y_ : List Int, y_ = (y202 ++ [a1]) := ⟨_, rfl⟩
           replace H : ((some (l0.drop (x5_1 : Int).toNat : List Int)).bind fun y208 => (if y205.length + y208.length < 17592186044416 then (some (y205 ++ y208)) else (none))) = some r := by first | (rw [hy205]; with_reducible exact H) | (have H2_ := (Option.bind_some _ _).symm.trans H; rw [hy205]; with_reducible exact H2_) | (have H2_ := (Option.bind_some _ _).symm.trans H; with_reducible exact H2_) | with_reducible exact H | (rw [hy205]; exact H) | exact H
           have Ny205 := Qx hy205; clear hy205
           have c13b0 := eq_true (of_decide_eq_true as_ : 0 ≤ x5_1)
           have c14b0 := eq_true (of_decide_eq_true as_ : x5_1 ≤ (l0.length : Int))
           obtain ⟨y208, hy208⟩ : ∃ y_ : List Int, y_ = (l0.drop (x5_1 : Int).toNat) := ⟨_, rfl⟩
           replace H : (if y205.length + y208.length < 17592186044416 then (some (y205 ++ y208)) else (none)) = some r := by first | (rw [hy208]; with_reducible exact H) | (have H2_ := (Option.bind_some _ _).symm.trans H; rw [hy208]; with_reducible exact H2_) | (have H2_ := (Option.bind_some _ _).symm.trans H; with_reducible exact H2_) | with_reducible exact H | (rw [hy208]; exact H) | exact H
           have Ny208 := Qx hy208; clear hy208
           by_cases c15 : y205.length + y208.length < 17592186044416
           ·rw [if_pos c15] at H; have LMc15 := Qx c15; clear c15
            obtain ⟨y212, hy212⟩ : ∃ y_ : List Int, y_ = (y205 ++ y208) := ⟨_, rfl⟩
            replace H : (some y212) = some r := by first | (rw [hy212]; with_reducible exact H) | (have H2_ := (Option.bind_some _ _).symm.trans H; rw [hy212]; with_reducible exact H2_) | (have H2_ := (Option.bind_some _ _).symm.trans H; with_reducible exact H2_) | with_reducible exact H | (rw [hy212]; exact H) | exact H
            have Ny212 := Qx hy212; clear hy212; obtain rfl := Option.some.inj H; obtain ⟨Ao16, co16, eo16⟩ := Kd.R_slice HO_0.out; subst eo16
            have p193 : 0 ≤ (x5_1 : Int) := of_decide_eq_true as_
            have q193 : x5_1 < (l0.length : Int) := of_decide_eq_true as_
            obtain ⟨ad193, e193, hx193_0⟩ := Kd.at_int (Kd.R_reads' HO_0.out).2.2 x5_1 p193 q193
            cases e193
            replace p193 := eq_true p193; replace q193 := eq_true q193
            have p194 : 0 ≤ (x5_1 : Int) := of_decide_eq_true as_
            have q194 : x5_1 < (l0.length : Int) := of_decide_eq_true as_
            obtain ⟨ad194, e194, hx194_0⟩ := Kd.at_int (Kd.R_reads' HO_0.out).2.2 x5_1 p194 q194
            obtain rfl : ad193 = ad194 := (by injection e194)
            replace p194 := eq_true p194; replace q194 := eq_true q194
            go_wp2_with (first | ((with_reducible refine gate_dst (N := 34) rfl ?_); refine Kd.R_lit (Kd.int .i64) _ 3 ?hg (N := 34) ?hd (xs := ([] : List Int)) (inner := []) (ok := fun _ => True) (okp := fun _ => True) ?hr ?hp (fun _ hk => hk) trivial (Below.refl _ _) (Nat.le_refl _) (by simp) ?_; (case hd => rfl); (case hg => rfl); (case hr => first | (go_simp; done) | (go_simp; rfl)); (case hp => exact (Reps.none _ _)); intro v196 w17 ho18 hb hg_ hnew_; clear hg_ hnew_; (first | rw [← Ny195.out] at ho18 | (simp only [Int.reduceToNat] at ho18; rw [← Ny195.out] at ho18)); have HO197 := Qx (Kd.R_lower (Kd.R_new' (Kd.R_newM (M := fun k_ => (P0_ k_ ∨ w.heap.size ≤ k_)) ho18 (by first | exact HK.out.1 | exact (show Kept w _ (fun k_ => P0_ k_) from by repeat (first | (with_reducible first | exact HK.out | apply Kept.alloc | apply Kept.drewN | apply Kept.drew) | exact HK.out)).1) (fun k_ h_ => .inr h_)) (Kd.R_lt (kR_ HO_0))) (Qz hB_)); replace HO_0 := Qx (Kd.R_elder' (kR_ HO_0) (Kd.R_base ho18) hb); replace HK := Qx (Kept.below (S := (fun k_ => P0_ k_)) (by repeat (first | (with_reducible first | exact HK.out | apply Kept.alloc | apply Kept.drewN | apply Kept.drew) | exact HK.out)) hb); replace HB := Qx (Qp hB_ hb); clear hb ho18; have q19 : (x5_1 : Int) ≤ ((l0.length : Int) : Int) := of_decide_eq_true as_; obtain ⟨i019, hi019, _, hsz19, _⟩ := info_parts info3; have hroom19 : l0.length ≤ co16 := (Kd.R_reads' HO_0.out).2.1; have hC19 : Kd.C (Kd.int .i64) _ (some ad193) l0.length l0 := (Kd.R_reads' HO_0.out).2.2; have hcut19 := cut_to (P := Try.prog) 22 3 .i64 Try.underlying22 hi019 (some ad193) l0.length co16 x5_1 (of_decide_eq_true as_) q19 hroom19; have hr19 := Kd.C_take (m := (x5_1 : Int).toNat) hC19 (by omega); have hy19 : y198.length = (x5_1 : Int).toNat := (by rw [Ny198.out, List.length_take]; omega); rw [← Ny198.out] at hr19; rw [← hy19] at hcut19; have HR201 := Qx hr19; have HC201 := Qx (show y198.length ≤ co16 from by omega); clear hr19 hC19 hroom19 hi019 hsz19; have KY19 := Qx hy19; clear hy19; have KL19 := Qx (show (x5_1 : Int).toNat ≤ l0.length from by omega); replace q19 := eq_true q19) | ((with_reducible refine gate_builtin (b := .append) (xs := #[.tmp 34, .tmp 37]) rfl ?_); at_builtin; refine Kd.R_append_rows (Kd.int .i64) (w0 := w0) w0.heap.size rfl (.tmp 34) (.tmp 37) 22 3 (.int .i64 0) 8 rfl Try.underlying22 info3 rfl (by decide) (by omega) v196 y195 y198 _ _ _ (fun k_ => (P0_ k_ ∨ w.heap.size ≤ k_) ∧ some k_ ≠ (.slice (some ad193) l0.length co16 : Value).ownBlock) (fun _ => False) rfl rfl ?aO ?aR (fun _ _ h => h) (fun _ h => h.elim) ?aF ?aB ?aS ?aL ?_; (case aR => repeat (first | exact (by repeat (first | (with_reducible exact HR201.out) | (with_reducible refine Kd.C_alloc ?_ _) | (with_reducible refine Kd.C_drewN ?_ _) | (with_reducible refine Kd.C_drew ?_) | exact HR201.out)) | (with_reducible refine Kd.C_alloc ?_ _) | (with_reducible refine Kd.C_drewN ?_ _) | (with_reducible refine Kd.C_drew ?_))); (case aB => exact hB_); (case aF => exact (fun k_ hk => ⟨(.inr (Nat.le_trans (by first | exact HK.out.1 | exact (show Kept w _ (fun k_ => P0_ k_) from by repeat (first | (with_reducible first | exact HK.out | apply Kept.alloc | apply Kept.drewN | apply Kept.drew) | exact HK.out)).1) hk)), Kd.fresh' (Kd.R_lt (kR_ HO_0)) k_ hk⟩)); (case aO => exact (by (with_reducible repeat (first | apply Qra | apply Qrn | apply Qrd)); exact Qrm HO197.out (fun _ hk => ⟨hk.1.1, hk.2⟩))); (case aS => exact (Qz hB_)); (case aL => have := LMc11.out; omega); intro v203 w20 ho hb hg hat; rw [← Ny202.out] at ho; have n0_ := Qx (Kd.R_after (ok := (fun k_ => (P0_ k_ ∨ w.heap.size ≤ k_))) (kR_ HO_0) hg hat); have n1_ := Qx (hb); have n2_ := Qx (Kept.of_grown (S := (fun k_ => P0_ k_)) hg (by repeat (first | (with_reducible first | exact HK.out | apply Kept.alloc | apply Kept.drewN | apply Kept.drew) | exact HK.out)) (fun k_ e_ => (HO197.out.1 k_ e_).1.1)); have n3_ := Qx ((show Kd.C (Kd.int .i64) w20 (some ad193) y198.length y198 from by rw [Ny198.out]; exact Kd.C_take (m := (x5_1 : Int).toNat) ((Kd.R_reads' (Kd.R_after (ok := (fun k_ => (P0_ k_ ∨ w.heap.size ≤ k_))) (kR_ HO_0) hg hat)).2.2) KL19.out)); have n4_ := Qx (ho); clear HO_0 HB HK HR201 HO197; have HO_0 := n0_; have HB := n1_; have HK := n2_; have HR201 := n3_; have HO204 := n4_; clear n0_ n1_ n2_ n3_ n4_ ho hb hg hat) | ((with_reducible refine gate_builtin (b := .append) (xs := #[.tmp 39, .tmp 41]) rfl ?_); at_builtin; refine Kd.R_append (Kd.int .i64) (w0 := w0) w0.heap.size rfl (.tmp 39) (.tmp 41) 22 3 (.int .i64 0) 8 rfl Try.underlying22 info3 rfl (by decide) (by omega) v203 y202 a1 [.int .i64 a1] (fun k_ => (P0_ k_ ∨ w.heap.size ≤ k_) ∧ some k_ ≠ (.slice (some ad193) l0.length co16 : Value).ownBlock) (fun _ => False) rfl rfl ?aP (fun _ hk => hk.elim) ?aF ?aO ?aB ?aS ?aL ?_; (case aP => exact rfl); (case aB => exact hB_); (case aF => exact (fun k_ hk => ⟨(.inr (Nat.le_trans (by first | exact HK.out.1 | exact (show Kept w _ (fun k_ => P0_ k_) from by repeat (first | (with_reducible first | exact HK.out | apply Kept.alloc | apply Kept.drewN | apply Kept.drew) | exact HK.out)).1) hk)), Kd.fresh' (Kd.R_lt (kR_ HO_0)) k_ hk⟩)); (case aO => exact (kR_ HO204)); (case aS => exact (Qz hB_)); (case aL => have := LMc12.out; omega); intro v206 w21 ho hb hg hat; rw [← Ny205.out] at ho; have n0_ := Qx (Kd.R_after (ok := (fun k_ => (P0_ k_ ∨ w.heap.size ≤ k_))) (kR_ HO_0) hg hat); have n1_ := Qx (hb); have n2_ := Qx (Kept.of_grown (S := (fun k_ => P0_ k_)) hg (by repeat (first | (with_reducible first | exact HK.out | apply Kept.alloc | apply Kept.drewN | apply Kept.drew) | exact HK.out)) (fun k_ e_ => (HO204.out.1 k_ e_).1)); have n3_ := Qx ((show Kd.C (Kd.int .i64) w21 (some ad193) y198.length y198 from by rw [Ny198.out]; exact Kd.C_take (m := (x5_1 : Int).toNat) ((Kd.R_reads' (Kd.R_after (ok := (fun k_ => (P0_ k_ ∨ w.heap.size ≤ k_))) (kR_ HO_0) hg hat)).2.2) KL19.out)); have n4_ := Qx (ho); clear HO_0 HB HK HR201 HO204; have HO_0 := n0_; have HB := n1_; have HK := n2_; have HR201 := n3_; have HO207 := n4_; clear n0_ n1_ n2_ n3_ n4_ ho hb hg hat; have q22 : (x5_1 : Int) ≤ ((l0.length : Int) : Int) := of_decide_eq_true as_; obtain ⟨i022, hi022, _, hsz22, _⟩ := info_parts info3; have hroom22 : l0.length ≤ co16 := (Kd.R_reads' HO_0.out).2.1; have hC22 : Kd.C (Kd.int .i64) _ (some ad193) l0.length l0 := (Kd.R_reads' HO_0.out).2.2; have q022 : (0 : Int) ≤ (x5_1 : Int) := of_decide_eq_true as_; have hcut22 := cut_from (P := Try.prog) 22 3 .i64 Try.underlying22 hi022 1 hsz22 (some ad193) l0.length co16 x5_1 q022 q22; have hr22 := Kd.C_drop (m := (x5_1 : Int).toNat) (c := co16) hC22 (by omega) hroom22; obtain ⟨A22, hA22⟩ : ∃ A1, A1 = (if co16 = (x5_1 : Int).toNat then (some ad193) else ((some ad193) : Option Addr).map (·.add ((x5_1 : Int).toNat * 1))) := ⟨_, rfl⟩; obtain ⟨c22, hc22⟩ : ∃ c1, c1 = co16 - (x5_1 : Int).toNat := ⟨_, rfl⟩; have hy22 : y208.length = l0.length - (x5_1 : Int).toNat := (by rw [Ny208.out, List.length_drop] <;> omega); rw [show (l0).drop (x5_1 : Int).toNat = y208 from Ny208.out.symm] at hr22; replace hr22 : Kd.C (Kd.int .i64) _ A22 y208.length y208 := (by rw [hA22]; exact hr22); rw [← hy22, ← hA22, ← hc22] at hcut22; have HR211 := Qx hr22; have HC211 := Qx (show y208.length ≤ c22 from by rw [hy22, hc22]; exact Nat.sub_le_sub_right hroom22 _); clear hr22 hC22 hroom22 hi022 hsz22 hc22; have KY22 := Qx hy22; have KA22 := Qx hA22; clear hy22 hA22; have KL22 := Qx (show (x5_1 : Int).toNat ≤ l0.length from by omega); replace q22 := eq_true q22) | ((with_reducible refine gate_builtin (b := .append) (xs := #[.tmp 43, .tmp 46]) rfl ?_); at_builtin; refine Kd.R_append_rows (Kd.int .i64) (w0 := w0) w0.heap.size rfl (.tmp 43) (.tmp 46) 22 3 (.int .i64 0) 8 rfl Try.underlying22 info3 rfl (by decide) (by omega) v206 y205 y208 _ _ _ (fun k_ => (P0_ k_ ∨ w.heap.size ≤ k_) ∧ some k_ ≠ (.slice (some ad193) l0.length co16 : Value).ownBlock) (fun _ => False) rfl rfl ?aO ?aR (fun _ _ h => h) (fun _ h => h.elim) ?aF ?aB ?aS ?aL ?_; (case aR => repeat (first | exact (by repeat (first | (with_reducible exact HR211.out) | (with_reducible refine Kd.C_alloc ?_ _) | (with_reducible refine Kd.C_drewN ?_ _) | (with_reducible refine Kd.C_drew ?_) | exact HR211.out)) | (with_reducible refine Kd.C_alloc ?_ _) | (with_reducible refine Kd.C_drewN ?_ _) | (with_reducible refine Kd.C_drew ?_))); (case aB => exact hB_); (case aF => exact (fun k_ hk => ⟨(.inr (Nat.le_trans (by first | exact HK.out.1 | exact (show Kept w _ (fun k_ => P0_ k_) from by repeat (first | (with_reducible first | exact HK.out | apply Kept.alloc | apply Kept.drewN | apply Kept.drew) | exact HK.out)).1) hk)), Kd.fresh' (Kd.R_lt (kR_ HO_0)) k_ hk⟩)); (case aO => exact (kR_ HO207)); (case aS => exact (Qz hB_)); (case aL => have := LMc15.out; omega); intro v213 w23 ho hb hg hat; rw [← Ny212.out] at ho; have n0_ := Qx (Kd.R_after (ok := (fun k_ => (P0_ k_ ∨ w.heap.size ≤ k_))) (kR_ HO_0) hg hat); have n1_ := Qx (hb); have n2_ := Qx (Kept.of_grown (S := (fun k_ => P0_ k_)) hg (by repeat (first | (with_reducible first | exact HK.out | apply Kept.alloc | apply Kept.drewN | apply Kept.drew) | exact HK.out)) (fun k_ e_ => (HO207.out.1 k_ e_).1)); have n3_ := Qx ((show Kd.C (Kd.int .i64) w23 (some ad193) y198.length y198 from by rw [Ny198.out]; exact Kd.C_take (m := (x5_1 : Int).toNat) ((Kd.R_reads' (Kd.R_after (ok := (fun k_ => (P0_ k_ ∨ w.heap.size ≤ k_))) (kR_ HO_0) hg hat)).2.2) KL19.out)); have n4_ := Qx ((show Kd.C (Kd.int .i64) w23 A22 y208.length y208 from by rw [Ny208.out, KA22.out]; exact Kd.C_drop (m := (x5_1 : Int).toNat) (c := co16) ((Kd.R_reads' (Kd.R_after (ok := (fun k_ => (P0_ k_ ∨ w.heap.size ≤ k_))) (kR_ HO_0) hg hat)).2.2) KL22.out ((Kd.R_reads' (Kd.R_after (ok := (fun k_ => (P0_ k_ ∨ w.heap.size ≤ k_))) (kR_ HO_0) hg hat)).2.1))); have n5_ := Qx (ho); clear HO_0 HB HK HR201 HR211 HO207; have HO_0 := n0_; have HB := n1_; have HK := n2_; have HR201 := n3_; have HR211 := n4_; have HO214 := n5_; clear n0_ n1_ n2_ n3_ n4_ n5_ ho hb hg hat))
            go_ret
            exact ⟨_, rf_, by (with_reducible repeat (first | apply Qra | apply Qrn | apply Qrd)); exact Qrm HO214.out (fun _ hk => hk.1), hB_, by repeat (first | (with_reducible first | exact HK.out | apply Kept.alloc | apply Kept.drewN | apply Kept.drew) | exact HK.out)⟩
           ·rw [if_neg c15] at H
            exact absurd H (by simp)
          ·rw [if_neg c12] at H
           exact absurd H (by simp)
         ·rw [if_neg c11] at H
          exact absurd H (by simp)
        ·rw [if_neg c10] at H
         exact absurd H (by simp)
     ·rw [if_neg c4] at H
      exact absurd H (by simp)
    ·rw [if_neg c3] at H
     have c3b0 : decide (x5_1 < (l0.length : Int)) = false := decide_eq_false c3
     clear c3
     obtain ⟨y215, hy215⟩ : ∃ y_ : List Int, y_ = (([] : List Int)) := ⟨_, rfl⟩
     replace H : (if 0 ≤ x5_1 then (if x5_1 ≤ (l0.length : Int) then ((some (l0.take (x5_1 : Int).toNat : List Int)).bind fun y218 => (if y215.length + y218.length < 17592186044416 then ((some (y215 ++ y218 : List Int)).bind fun y222 => (if y222.length < 17592186044416 then ((some (y222 ++ [a1] : List Int)).bind fun y225 => ((some (l0.drop (x5_1 : Int).toNat : List Int)).bind fun y228 => (if y225.length + y228.length < 17592186044416 then (some (y225 ++ y228)) else (none)))) else (none))) else (none))) else (none)) else (none)) = some r := by first | (rw [hy215]; with_reducible exact H) | (have H2_ := (Option.bind_some _ _).symm.trans H; rw [hy215]; with_reducible exact H2_) | (have H2_ := (Option.bind_some _ _).symm.trans H; with_reducible exact H2_) | with_reducible exact H | (rw [hy215]; exact H) | exact H
     have Ny215 := Qx hy215; clear hy215
     by_cases c24 : 0 ≤ x5_1
     ·rw [if_pos c24] at H; have c24b0 := eq_true c24
      have c24b1 : decide (0 ≤ x5_1) = true := decide_eq_true c24
      clear c24
      by_cases c25 : x5_1 ≤ (l0.length : Int)
      ·rw [if_pos c25] at H; have c25b0 := eq_true c25
       have c25b1 : decide (x5_1 ≤ (l0.length : Int)) = true := decide_eq_true c25
       clear c25
       obtain ⟨y218, hy218⟩ : ∃ y_ : List Int, y_ = (l0.take (x5_1 : Int).toNat) := ⟨_, rfl⟩
       replace H : (if y215.length + y218.length < 17592186044416 then ((some (y215 ++ y218 : List Int)).bind fun y222 => (if y222.length < 17592186044416 then ((some (y222 ++ [a1] : List Int)).bind fun y225 => ((some (l0.drop (x5_1 : Int).toNat : List Int)).bind fun y228 => (if y225.length + y228.length < 17592186044416 then (some (y225 ++ y228)) else (none)))) else (none))) else (none)) = some r := by first | (rw [hy218]; with_reducible exact H) | (have H2_ := (Option.bind_some _ _).symm.trans H; rw [hy218]; with_reducible exact H2_) | (have H2_ := (Option.bind_some _ _).symm.trans H; with_reducible exact H2_) | with_reducible exact H | (rw [hy218]; exact H) | exact H
       have Ny218 := Qx hy218; clear hy218
       by_cases c26 : y215.length + y218.length < 17592186044416
       ·rw [if_pos c26] at H; have LMc26 := Qx c26; clear c26
        obtain ⟨y222, hy222⟩ : ∃ y_ : List Int, y_ = (y215 ++ y218) := ⟨_, rfl⟩
        replace H : (if y222.length < 17592186044416 then ((some (y222 ++ [a1] : List Int)).bind fun y225 => ((some (l0.drop (x5_1 : Int).toNat : List Int)).bind fun y228 => (if y225.length + y228.length < 17592186044416 then (some (y225 ++ y228)) else (none)))) else (none)) = some r := by first | (rw [hy222]; with_reducible exact H) | (have H2_ := (Option.bind_some _ _).symm.trans H; rw [hy222]; with_reducible exact H2_) | (have H2_ := (Option.bind_some _ _).symm.trans H; with_reducible exact H2_) | with_reducible exact H | (rw [hy222]; exact H) | exact H
        have Ny222 := Qx hy222; clear hy222
        by_cases c27 : y222.length < 17592186044416
        ·rw [if_pos c27] at H; have LMc27 := Qx c27; clear c27
         obtain ⟨y225, hy225⟩ : ∃ y_ : List Int, y_ = (y222 ++ [a1]) := ⟨_, rfl⟩
         replace H : ((some (l0.drop (x5_1 : Int).toNat : List Int)).bind fun y228 => (if y225.length + y228.length < 17592186044416 then (some (y225 ++ y228)) else (none))) = some r := by first | (rw [hy225]; with_reducible exact H) | (have H2_ := (Option.bind_some _ _).symm.trans H; rw [hy225]; with_reducible exact H2_) | (have H2_ := (Option.bind_some _ _).symm.trans H; with_reducible exact H2_) | with_reducible exact H | (rw [hy225]; exact H) | exact H
         have Ny225 := Qx hy225; clear hy225
         have c28b0 := eq_true (of_decide_eq_true as_ : 0 ≤ x5_1)
         have c29b0 := eq_true (of_decide_eq_true as_ : x5_1 ≤ (l0.length : Int))
         obtain ⟨y228, hy228⟩ : ∃ y_ : List Int, y_ = (l0.drop (x5_1 : Int).toNat) := ⟨_, rfl⟩
         replace H : (if y225.length + y228.length < 17592186044416 then (some (y225 ++ y228)) else (none)) = some r := by first | (rw [hy228]; with_reducible exact H) | (have H2_ := (Option.bind_some _ _).symm.trans H; rw [hy228]; with_reducible exact H2_) | (have H2_ := (Option.bind_some _ _).symm.trans H; with_reducible exact H2_) | with_reducible exact H | (rw [hy228]; exact H) | exact H
         have Ny228 := Qx hy228; clear hy228
         by_cases c30 : y225.length + y228.length < 17592186044416
         ·rw [if_pos c30] at H; have LMc30 := Qx c30; clear c30
          obtain ⟨y232, hy232⟩ : ∃ y_ : List Int, y_ = (y225 ++ y228) := ⟨_, rfl⟩
          replace H : (some y232) = some r := by first | (rw [hy232]; with_reducible exact H) | (have H2_ := (Option.bind_some _ _).symm.trans H; rw [hy232]; with_reducible exact H2_) | (have H2_ := (Option.bind_some _ _).symm.trans H; with_reducible exact H2_) | with_reducible exact H | (rw [hy232]; exact H) | exact H
          have Ny232 := Qx hy232; clear hy232; obtain rfl := Option.some.inj H; obtain ⟨Ao31, co31, eo31⟩ := Kd.R_slice HO_0.out; subst eo31
          go_wp2_with (first | ((with_reducible refine gate_dst (N := 34) rfl ?_); refine Kd.R_lit (Kd.int .i64) _ 3 ?hg (N := 34) ?hd (xs := ([] : List Int)) (inner := []) (ok := fun _ => True) (okp := fun _ => True) ?hr ?hp (fun _ hk => hk) trivial (Below.refl _ _) (Nat.le_refl _) (by simp) ?_; (case hd => rfl); (case hg => rfl); (case hr => first | (go_simp; done) | (go_simp; rfl)); (case hp => exact (Reps.none _ _)); intro v216 w32 ho33 hb hg_ hnew_; clear hg_ hnew_; (first | rw [← Ny215.out] at ho33 | (simp only [Int.reduceToNat] at ho33; rw [← Ny215.out] at ho33)); have HO217 := Qx (Kd.R_lower (Kd.R_new' (Kd.R_newM (M := fun k_ => (P0_ k_ ∨ w.heap.size ≤ k_)) ho33 (by first | exact HK.out.1 | exact (show Kept w _ (fun k_ => P0_ k_) from by repeat (first | (with_reducible first | exact HK.out | apply Kept.alloc | apply Kept.drewN | apply Kept.drew) | exact HK.out)).1) (fun k_ h_ => .inr h_)) (Kd.R_lt (kR_ HO_0))) (Qz hB_)); replace HO_0 := Qx (Kd.R_elder' (kR_ HO_0) (Kd.R_base ho33) hb); replace HK := Qx (Kept.below (S := (fun k_ => P0_ k_)) (by repeat (first | (with_reducible first | exact HK.out | apply Kept.alloc | apply Kept.drewN | apply Kept.drew) | exact HK.out)) hb); replace HB := Qx (Qp hB_ hb); clear hb ho33; have q34 : (x5_1 : Int) ≤ ((l0.length : Int) : Int) := of_decide_eq_true as_; obtain ⟨i034, hi034, _, hsz34, _⟩ := info_parts info3; have hroom34 : l0.length ≤ co31 := (Kd.R_reads' HO_0.out).2.1; have hC34 : Kd.C (Kd.int .i64) _ Ao31 l0.length l0 := (Kd.R_reads' HO_0.out).2.2; have hcut34 := cut_to (P := Try.prog) 22 3 .i64 Try.underlying22 hi034 Ao31 l0.length co31 x5_1 (of_decide_eq_true as_) q34 hroom34; have hr34 := Kd.C_take (m := (x5_1 : Int).toNat) hC34 (by omega); have hy34 : y218.length = (x5_1 : Int).toNat := (by rw [Ny218.out, List.length_take]; omega); rw [← Ny218.out] at hr34; rw [← hy34] at hcut34; have HR221 := Qx hr34; have HC221 := Qx (show y218.length ≤ co31 from by omega); clear hr34 hC34 hroom34 hi034 hsz34; have KY34 := Qx hy34; clear hy34; have KL34 := Qx (show (x5_1 : Int).toNat ≤ l0.length from by omega); replace q34 := eq_true q34) | ((with_reducible refine gate_builtin (b := .append) (xs := #[.tmp 34, .tmp 37]) rfl ?_); at_builtin; refine Kd.R_append_rows (Kd.int .i64) (w0 := w0) w0.heap.size rfl (.tmp 34) (.tmp 37) 22 3 (.int .i64 0) 8 rfl Try.underlying22 info3 rfl (by decide) (by omega) v216 y215 y218 _ _ _ (fun k_ => (P0_ k_ ∨ w.heap.size ≤ k_) ∧ some k_ ≠ (.slice Ao31 l0.length co31 : Value).ownBlock) (fun _ => False) rfl rfl ?aO ?aR (fun _ _ h => h) (fun _ h => h.elim) ?aF ?aB ?aS ?aL ?_; (case aR => repeat (first | exact (by repeat (first | (with_reducible exact HR221.out) | (with_reducible refine Kd.C_alloc ?_ _) | (with_reducible refine Kd.C_drewN ?_ _) | (with_reducible refine Kd.C_drew ?_) | exact HR221.out)) | (with_reducible refine Kd.C_alloc ?_ _) | (with_reducible refine Kd.C_drewN ?_ _) | (with_reducible refine Kd.C_drew ?_))); (case aB => exact hB_); (case aF => exact (fun k_ hk => ⟨(.inr (Nat.le_trans (by first | exact HK.out.1 | exact (show Kept w _ (fun k_ => P0_ k_) from by repeat (first | (with_reducible first | exact HK.out | apply Kept.alloc | apply Kept.drewN | apply Kept.drew) | exact HK.out)).1) hk)), Kd.fresh' (Kd.R_lt (kR_ HO_0)) k_ hk⟩)); (case aO => exact (by (with_reducible repeat (first | apply Qra | apply Qrn | apply Qrd)); exact Qrm HO217.out (fun _ hk => ⟨hk.1.1, hk.2⟩))); (case aS => exact (Qz hB_)); (case aL => have := LMc26.out; omega); intro v223 w35 ho hb hg hat; rw [← Ny222.out] at ho; have n0_ := Qx (Kd.R_after (ok := (fun k_ => (P0_ k_ ∨ w.heap.size ≤ k_))) (kR_ HO_0) hg hat); have n1_ := Qx (hb); have n2_ := Qx (Kept.of_grown (S := (fun k_ => P0_ k_)) hg (by repeat (first | (with_reducible first | exact HK.out | apply Kept.alloc | apply Kept.drewN | apply Kept.drew) | exact HK.out)) (fun k_ e_ => (HO217.out.1 k_ e_).1.1)); have n3_ := Qx ((show Kd.C (Kd.int .i64) w35 Ao31 y218.length y218 from by rw [Ny218.out]; exact Kd.C_take (m := (x5_1 : Int).toNat) ((Kd.R_reads' (Kd.R_after (ok := (fun k_ => (P0_ k_ ∨ w.heap.size ≤ k_))) (kR_ HO_0) hg hat)).2.2) KL34.out)); have n4_ := Qx (ho); clear HO_0 HB HK HR221 HO217; have HO_0 := n0_; have HB := n1_; have HK := n2_; have HR221 := n3_; have HO224 := n4_; clear n0_ n1_ n2_ n3_ n4_ ho hb hg hat) | ((with_reducible refine gate_builtin (b := .append) (xs := #[.tmp 39, .tmp 41]) rfl ?_); at_builtin; refine Kd.R_append (Kd.int .i64) (w0 := w0) w0.heap.size rfl (.tmp 39) (.tmp 41) 22 3 (.int .i64 0) 8 rfl Try.underlying22 info3 rfl (by decide) (by omega) v223 y222 a1 [.int .i64 a1] (fun k_ => (P0_ k_ ∨ w.heap.size ≤ k_) ∧ some k_ ≠ (.slice Ao31 l0.length co31 : Value).ownBlock) (fun _ => False) rfl rfl ?aP (fun _ hk => hk.elim) ?aF ?aO ?aB ?aS ?aL ?_; (case aP => exact rfl); (case aB => exact hB_); (case aF => exact (fun k_ hk => ⟨(.inr (Nat.le_trans (by first | exact HK.out.1 | exact (show Kept w _ (fun k_ => P0_ k_) from by repeat (first | (with_reducible first | exact HK.out | apply Kept.alloc | apply Kept.drewN | apply Kept.drew) | exact HK.out)).1) hk)), Kd.fresh' (Kd.R_lt (kR_ HO_0)) k_ hk⟩)); (case aO => exact (kR_ HO224)); (case aS => exact (Qz hB_)); (case aL => have := LMc27.out; omega); intro v226 w36 ho hb hg hat; rw [← Ny225.out] at ho; have n0_ := Qx (Kd.R_after (ok := (fun k_ => (P0_ k_ ∨ w.heap.size ≤ k_))) (kR_ HO_0) hg hat); have n1_ := Qx (hb); have n2_ := Qx (Kept.of_grown (S := (fun k_ => P0_ k_)) hg (by repeat (first | (with_reducible first | exact HK.out | apply Kept.alloc | apply Kept.drewN | apply Kept.drew) | exact HK.out)) (fun k_ e_ => (HO224.out.1 k_ e_).1)); have n3_ := Qx ((show Kd.C (Kd.int .i64) w36 Ao31 y218.length y218 from by rw [Ny218.out]; exact Kd.C_take (m := (x5_1 : Int).toNat) ((Kd.R_reads' (Kd.R_after (ok := (fun k_ => (P0_ k_ ∨ w.heap.size ≤ k_))) (kR_ HO_0) hg hat)).2.2) KL34.out)); have n4_ := Qx (ho); clear HO_0 HB HK HR221 HO224; have HO_0 := n0_; have HB := n1_; have HK := n2_; have HR221 := n3_; have HO227 := n4_; clear n0_ n1_ n2_ n3_ n4_ ho hb hg hat; have q37 : (x5_1 : Int) ≤ ((l0.length : Int) : Int) := of_decide_eq_true as_; obtain ⟨i037, hi037, _, hsz37, _⟩ := info_parts info3; have hroom37 : l0.length ≤ co31 := (Kd.R_reads' HO_0.out).2.1; have hC37 : Kd.C (Kd.int .i64) _ Ao31 l0.length l0 := (Kd.R_reads' HO_0.out).2.2; have q037 : (0 : Int) ≤ (x5_1 : Int) := of_decide_eq_true as_; have hcut37 := cut_from (P := Try.prog) 22 3 .i64 Try.underlying22 hi037 1 hsz37 Ao31 l0.length co31 x5_1 q037 q37; have hr37 := Kd.C_drop (m := (x5_1 : Int).toNat) (c := co31) hC37 (by omega) hroom37; obtain ⟨A37, hA37⟩ : ∃ A1, A1 = (if co31 = (x5_1 : Int).toNat then Ao31 else (Ao31 : Option Addr).map (·.add ((x5_1 : Int).toNat * 1))) := ⟨_, rfl⟩; obtain ⟨c37, hc37⟩ : ∃ c1, c1 = co31 - (x5_1 : Int).toNat := ⟨_, rfl⟩; have hy37 : y228.length = l0.length - (x5_1 : Int).toNat := (by rw [Ny228.out, List.length_drop] <;> omega); rw [show (l0).drop (x5_1 : Int).toNat = y228 from Ny228.out.symm] at hr37; replace hr37 : Kd.C (Kd.int .i64) _ A37 y228.length y228 := (by rw [hA37]; exact hr37); rw [← hy37, ← hA37, ← hc37] at hcut37; have HR231 := Qx hr37; have HC231 := Qx (show y228.length ≤ c37 from by rw [hy37, hc37]; exact Nat.sub_le_sub_right hroom37 _); clear hr37 hC37 hroom37 hi037 hsz37 hc37; have KY37 := Qx hy37; have KA37 := Qx hA37; clear hy37 hA37; have KL37 := Qx (show (x5_1 : Int).toNat ≤ l0.length from by omega); replace q37 := eq_true q37) | ((with_reducible refine gate_builtin (b := .append) (xs := #[.tmp 43, .tmp 46]) rfl ?_); at_builtin; refine Kd.R_append_rows (Kd.int .i64) (w0 := w0) w0.heap.size rfl (.tmp 43) (.tmp 46) 22 3 (.int .i64 0) 8 rfl Try.underlying22 info3 rfl (by decide) (by omega) v226 y225 y228 _ _ _ (fun k_ => (P0_ k_ ∨ w.heap.size ≤ k_) ∧ some k_ ≠ (.slice Ao31 l0.length co31 : Value).ownBlock) (fun _ => False) rfl rfl ?aO ?aR (fun _ _ h => h) (fun _ h => h.elim) ?aF ?aB ?aS ?aL ?_; (case aR => repeat (first | exact (by repeat (first | (with_reducible exact HR231.out) | (with_reducible refine Kd.C_alloc ?_ _) | (with_reducible refine Kd.C_drewN ?_ _) | (with_reducible refine Kd.C_drew ?_) | exact HR231.out)) | (with_reducible refine Kd.C_alloc ?_ _) | (with_reducible refine Kd.C_drewN ?_ _) | (with_reducible refine Kd.C_drew ?_))); (case aB => exact hB_); (case aF => exact (fun k_ hk => ⟨(.inr (Nat.le_trans (by first | exact HK.out.1 | exact (show Kept w _ (fun k_ => P0_ k_) from by repeat (first | (with_reducible first | exact HK.out | apply Kept.alloc | apply Kept.drewN | apply Kept.drew) | exact HK.out)).1) hk)), Kd.fresh' (Kd.R_lt (kR_ HO_0)) k_ hk⟩)); (case aO => exact (kR_ HO227)); (case aS => exact (Qz hB_)); (case aL => have := LMc30.out; omega); intro v233 w38 ho hb hg hat; rw [← Ny232.out] at ho; have n0_ := Qx (Kd.R_after (ok := (fun k_ => (P0_ k_ ∨ w.heap.size ≤ k_))) (kR_ HO_0) hg hat); have n1_ := Qx (hb); have n2_ := Qx (Kept.of_grown (S := (fun k_ => P0_ k_)) hg (by repeat (first | (with_reducible first | exact HK.out | apply Kept.alloc | apply Kept.drewN | apply Kept.drew) | exact HK.out)) (fun k_ e_ => (HO227.out.1 k_ e_).1)); have n3_ := Qx ((show Kd.C (Kd.int .i64) w38 Ao31 y218.length y218 from by rw [Ny218.out]; exact Kd.C_take (m := (x5_1 : Int).toNat) ((Kd.R_reads' (Kd.R_after (ok := (fun k_ => (P0_ k_ ∨ w.heap.size ≤ k_))) (kR_ HO_0) hg hat)).2.2) KL34.out)); have n4_ := Qx ((show Kd.C (Kd.int .i64) w38 A37 y228.length y228 from by rw [Ny228.out, KA37.out]; exact Kd.C_drop (m := (x5_1 : Int).toNat) (c := co31) ((Kd.R_reads' (Kd.R_after (ok := (fun k_ => (P0_ k_ ∨ w.heap.size ≤ k_))) (kR_ HO_0) hg hat)).2.2) KL37.out ((Kd.R_reads' (Kd.R_after (ok := (fun k_ => (P0_ k_ ∨ w.heap.size ≤ k_))) (kR_ HO_0) hg hat)).2.1))); have n5_ := Qx (ho); clear HO_0 HB HK HR221 HR231 HO227; have HO_0 := n0_; have HB := n1_; have HK := n2_; have HR221 := n3_; have HR231 := n4_; have HO234 := n5_; clear n0_ n1_ n2_ n3_ n4_ n5_ ho hb hg hat))
          go_ret
          exact ⟨_, rf_, by (with_reducible repeat (first | apply Qra | apply Qrn | apply Qrd)); exact Qrm HO234.out (fun _ hk => hk.1), hB_, by repeat (first | (with_reducible first | exact HK.out | apply Kept.alloc | apply Kept.drewN | apply Kept.drew) | exact HK.out)⟩
         ·rw [if_neg c30] at H
          exact absurd H (by simp)
        ·rw [if_neg c27] at H
         exact absurd H (by simp)
       ·rw [if_neg c26] at H
        exact absurd H (by simp)
      ·rw [if_neg c25] at H
       exact absurd H (by simp)
     ·rw [if_neg c24] at H
      exact absurd H (by simp)
/-! ### spec_MeetSparse: function 5 -/
mutual
def spec_MeetSparse.j0 : Nat → Bool → Int → Int → Int → Int → List Int → Int → List Int → Int → Int → Int → Int → List Int → Int → List Int → Option (List Int × Bool)
  | 0, _, _, _, _, _, _, _, _, _, _, _, _, _, _, _ => none
  | k + 1, x16, x236000, x236001, x236002, x236003, x236004, x236005, x236006, x237000, x237001, x237002, x237003, x237004, x237005, x237006 => if x16 = true then (some (([] : List Int), false)) else ((spec_spList.f k x236000 x236001 x236002 x236003 x236004 x236005 x236006).bind fun t239 => (spec_MeetSparse.l0 k ([] : List Int) t239 (t239.length : Int) 0 x237000 x237001 x237002 x237003 x237004 x237005 x237006))
def spec_MeetSparse.l0 : Nat → List Int → List Int → Int → Int → Int → Int → Int → Int → List Int → Int → List Int → Option (List Int × Bool)
  | 0, _, _, _, _, _, _, _, _, _, _, _ => none
  | k + 1, x6, x18, x19, x20, x237000, x237001, x237002, x237003, x237004, x237005, x237006 => if x20 < x19 then (if 0 ≤ x20 then (if x20 < (x18.length : Int) then ((spec_spList.f k x237000 x237001 x237002 x237003 x237004 x237005 x237006).bind fun t243 => ((spec_l1Has.f k t243 (rd x18 x20)).bind fun t246 => (if t246 = true then ((spec_l1Put.f k x6 (rd x18 x20)).bind fun t247 => (spec_MeetSparse.l0 k t247 x18 x19 (wrap64 (x20 + 1)) x237000 x237001 x237002 x237003 x237004 x237005 x237006)) else (spec_MeetSparse.l0 k x6 x18 x19 (wrap64 (x20 + 1)) x237000 x237001 x237002 x237003 x237004 x237005 x237006)))) else (none)) else (none)) else (some (x6, true))
end
def spec_MeetSparse.f (k : Nat) (a0_0 : Int) (a0_1 : Int) (a0_2 : Int) (a0_3 : Int) (l0_4 : List Int) (a0_5 : Int) (l0_6 : List Int) (a1_0 : Int) (a1_1 : Int) (a1_2 : Int) (a1_3 : Int) (l1_4 : List Int) (a1_5 : Int) (l1_6 : List Int) : Option (List Int × Bool) := (spec_spGood.f k a0_0 a0_1 a0_2 a0_3 l0_4 a0_5 l0_6).bind fun t237 => (if t237 = true then ((spec_spGood.f k a1_0 a1_1 a1_2 a1_3 l1_4 a1_5 l1_6).bind fun t238 => (spec_MeetSparse.j0 k (!t238) a0_0 a0_1 a0_2 a0_3 l0_4 a0_5 l0_6 a1_0 a1_1 a1_2 a1_3 l1_4 a1_5 l1_6)) else (spec_MeetSparse.j0 k true a0_0 a0_1 a0_2 a0_3 l0_4 a0_5 l0_6 a1_0 a1_1 a1_2 a1_3 l1_4 a1_5 l1_6))
theorem spec_MeetSparse.mono_l : ∀ k, (∀ y0 y1 y2 y3 y4 y5 y6 y7 y8 y9 y10 y11 y12 y13 y14, LeO (spec_MeetSparse.j0 k y0 y1 y2 y3 y4 y5 y6 y7 y8 y9 y10 y11 y12 y13 y14) (spec_MeetSparse.j0 (k + 1) y0 y1 y2 y3 y4 y5 y6 y7 y8 y9 y10 y11 y12 y13 y14)) ∧ (∀ y0 y1 y2 y3 y4 y5 y6 y7 y8 y9 y10, LeO (spec_MeetSparse.l0 k y0 y1 y2 y3 y4 y5 y6 y7 y8 y9 y10) (spec_MeetSparse.l0 (k + 1) y0 y1 y2 y3 y4 y5 y6 y7 y8 y9 y10))
  | 0 => ⟨fun _ _ _ _ _ _ _ _ _ _ _ _ _ _ _ r h => by simp [spec_MeetSparse.j0] at h, fun _ _ _ _ _ _ _ _ _ _ _ r h => by simp [spec_MeetSparse.l0] at h⟩
  | k + 1 => by
    obtain ⟨ih0, ih1⟩ := spec_MeetSparse.mono_l k
    refine ⟨?_, ?_⟩
    · intro y0 y1 y2 y3 y4 y5 y6 y7 y8 y9 y10 y11 y12 y13 y14
      unfold spec_MeetSparse.j0
      repeat' first
      | (with_reducible exact ih0 _ _ _ _ _ _ _ _ _ _ _ _ _ _ _)
      | (with_reducible exact ih1 _ _ _ _ _ _ _ _ _ _ _)
      | (with_reducible exact spec_l1Has.mono _ _ _)
      | (with_reducible exact spec_l1Put.mono _ _ _)
      | (with_reducible exact spec_spGood.mono _ _ _ _ _ _ _ _)
      | (with_reducible exact spec_spList.mono _ _ _ _ _ _ _ _)
      | (with_reducible exact LeO.refl _)
      | (with_reducible exact LeO.none _)
      | (with_reducible refine LeO.ite ?_ ?_)
      | (with_reducible refine LeO.bind ?_ (fun _ => ?_))
      | exact ih0 _ _ _ _ _ _ _ _ _ _ _ _ _ _ _
      | exact ih1 _ _ _ _ _ _ _ _ _ _ _
      | exact spec_l1Has.mono _ _ _
      | exact spec_l1Put.mono _ _ _
      | exact spec_spGood.mono _ _ _ _ _ _ _ _
      | exact spec_spList.mono _ _ _ _ _ _ _ _
      | exact LeO.none _
      | refine LeO.ite ?_ ?_
      | refine LeO.bind ?_ (fun _ => ?_)
    · intro y0 y1 y2 y3 y4 y5 y6 y7 y8 y9 y10
      unfold spec_MeetSparse.l0
      repeat' first
      | (with_reducible exact ih0 _ _ _ _ _ _ _ _ _ _ _ _ _ _ _)
      | (with_reducible exact ih1 _ _ _ _ _ _ _ _ _ _ _)
      | (with_reducible exact spec_l1Has.mono _ _ _)
      | (with_reducible exact spec_l1Put.mono _ _ _)
      | (with_reducible exact spec_spGood.mono _ _ _ _ _ _ _ _)
      | (with_reducible exact spec_spList.mono _ _ _ _ _ _ _ _)
      | (with_reducible exact LeO.refl _)
      | (with_reducible exact LeO.none _)
      | (with_reducible refine LeO.ite ?_ ?_)
      | (with_reducible refine LeO.bind ?_ (fun _ => ?_))
      | exact ih0 _ _ _ _ _ _ _ _ _ _ _ _ _ _ _
      | exact ih1 _ _ _ _ _ _ _ _ _ _ _
      | exact spec_l1Has.mono _ _ _
      | exact spec_l1Put.mono _ _ _
      | exact spec_spGood.mono _ _ _ _ _ _ _ _
      | exact spec_spList.mono _ _ _ _ _ _ _ _
      | exact LeO.none _
      | refine LeO.ite ?_ ?_
      | refine LeO.bind ?_ (fun _ => ?_)
theorem spec_MeetSparse.mono : ∀ a0 a1 a2 a3 a4 a5 a6 a7 a8 a9 a10 a11 a12 a13 k, LeO (spec_MeetSparse.f k a0 a1 a2 a3 a4 a5 a6 a7 a8 a9 a10 a11 a12 a13) (spec_MeetSparse.f (k + 1) a0 a1 a2 a3 a4 a5 a6 a7 a8 a9 a10 a11 a12 a13) := by
  intro a0 a1 a2 a3 a4 a5 a6 a7 a8 a9 a10 a11 a12 a13 k
  obtain ⟨ih0, ih1⟩ := spec_MeetSparse.mono_l k
  unfold spec_MeetSparse.f
  repeat' first
      | (with_reducible exact ih0 _ _ _ _ _ _ _ _ _ _ _ _ _ _ _)
      | (with_reducible exact ih1 _ _ _ _ _ _ _ _ _ _ _)
      | (with_reducible exact spec_l1Has.mono _ _ _)
      | (with_reducible exact spec_l1Put.mono _ _ _)
      | (with_reducible exact spec_spGood.mono _ _ _ _ _ _ _ _)
      | (with_reducible exact spec_spList.mono _ _ _ _ _ _ _ _)
      | (with_reducible exact LeO.refl _)
      | (with_reducible exact LeO.none _)
      | (with_reducible refine LeO.ite ?_ ?_)
      | (with_reducible refine LeO.bind ?_ (fun _ => ?_))
      | exact ih0 _ _ _ _ _ _ _ _ _ _ _ _ _ _ _
      | exact ih1 _ _ _ _ _ _ _ _ _ _ _
      | exact spec_l1Has.mono _ _ _
      | exact spec_l1Put.mono _ _ _
      | exact spec_spGood.mono _ _ _ _ _ _ _ _
      | exact spec_spList.mono _ _ _ _ _ _ _ _
      | exact LeO.none _
      | refine LeO.ite ?_ ?_
      | refine LeO.bind ?_ (fun _ => ?_)
noncomputable def spec_MeetSparse.J0 (y0 : Bool) (y1 : Int) (y2 : Int) (y3 : Int) (y4 : Int) (y5 : List Int) (y6 : Int) (y7 : List Int) (y8 : Int) (y9 : Int) (y10 : Int) (y11 : Int) (y12 : List Int) (y13 : Int) (y14 : List Int) : Option (List Int × Bool) := lim fun k => spec_MeetSparse.j0 k y0 y1 y2 y3 y4 y5 y6 y7 y8 y9 y10 y11 y12 y13 y14
theorem spec_MeetSparse.J0_sup (y0 : Bool) (y1 : Int) (y2 : Int) (y3 : Int) (y4 : Int) (y5 : List Int) (y6 : Int) (y7 : List Int) (y8 : Int) (y9 : Int) (y10 : Int) (y11 : Int) (y12 : List Int) (y13 : Int) (y14 : List Int) : Sup (fun k => spec_MeetSparse.j0 k y0 y1 y2 y3 y4 y5 y6 y7 y8 y9 y10 y11 y12 y13 y14) (spec_MeetSparse.J0 y0 y1 y2 y3 y4 y5 y6 y7 y8 y9 y10 y11 y12 y13 y14) := Sup.of_mono fun k => (spec_MeetSparse.mono_l k).1 y0 y1 y2 y3 y4 y5 y6 y7 y8 y9 y10 y11 y12 y13 y14
noncomputable def spec_MeetSparse.L0 (y0 : List Int) (y1 : List Int) (y2 : Int) (y3 : Int) (y4 : Int) (y5 : Int) (y6 : Int) (y7 : Int) (y8 : List Int) (y9 : Int) (y10 : List Int) : Option (List Int × Bool) := lim fun k => spec_MeetSparse.l0 k y0 y1 y2 y3 y4 y5 y6 y7 y8 y9 y10
theorem spec_MeetSparse.L0_sup (y0 : List Int) (y1 : List Int) (y2 : Int) (y3 : Int) (y4 : Int) (y5 : Int) (y6 : Int) (y7 : Int) (y8 : List Int) (y9 : Int) (y10 : List Int) : Sup (fun k => spec_MeetSparse.l0 k y0 y1 y2 y3 y4 y5 y6 y7 y8 y9 y10) (spec_MeetSparse.L0 y0 y1 y2 y3 y4 y5 y6 y7 y8 y9 y10) := Sup.of_mono fun k => (spec_MeetSparse.mono_l k).2 y0 y1 y2 y3 y4 y5 y6 y7 y8 y9 y10
noncomputable def spec_MeetSparse.F (a0_0 : Int) (a0_1 : Int) (a0_2 : Int) (a0_3 : Int) (l0_4 : List Int) (a0_5 : Int) (l0_6 : List Int) (a1_0 : Int) (a1_1 : Int) (a1_2 : Int) (a1_3 : Int) (l1_4 : List Int) (a1_5 : Int) (l1_6 : List Int) : Option (List Int × Bool) := lim fun k => spec_MeetSparse.f k a0_0 a0_1 a0_2 a0_3 l0_4 a0_5 l0_6 a1_0 a1_1 a1_2 a1_3 l1_4 a1_5 l1_6
theorem spec_MeetSparse.F_sup (a0_0 : Int) (a0_1 : Int) (a0_2 : Int) (a0_3 : Int) (l0_4 : List Int) (a0_5 : Int) (l0_6 : List Int) (a1_0 : Int) (a1_1 : Int) (a1_2 : Int) (a1_3 : Int) (l1_4 : List Int) (a1_5 : Int) (l1_6 : List Int) : Sup (fun k => spec_MeetSparse.f k a0_0 a0_1 a0_2 a0_3 l0_4 a0_5 l0_6 a1_0 a1_1 a1_2 a1_3 l1_4 a1_5 l1_6) (spec_MeetSparse.F a0_0 a0_1 a0_2 a0_3 l0_4 a0_5 l0_6 a1_0 a1_1 a1_2 a1_3 l1_4 a1_5 l1_6) := Sup.of_mono fun k => spec_MeetSparse.mono a0_0 a0_1 a0_2 a0_3 l0_4 a0_5 l0_6 a1_0 a1_1 a1_2 a1_3 l1_4 a1_5 l1_6 k
theorem spec_MeetSparse.J0_eq (x16 : Bool) (x236000 : Int) (x236001 : Int) (x236002 : Int) (x236003 : Int) (x236004 : List Int) (x236005 : Int) (x236006 : List Int) (x237000 : Int) (x237001 : Int) (x237002 : Int) (x237003 : Int) (x237004 : List Int) (x237005 : Int) (x237006 : List Int) : spec_MeetSparse.J0 x16 x236000 x236001 x236002 x236003 x236004 x236005 x236006 x237000 x237001 x237002 x237003 x237004 x237005 x237006 = if x16 = true then (some (([] : List Int), false)) else ((spec_spList.F x236000 x236001 x236002 x236003 x236004 x236005 x236006).bind fun t239 => (spec_MeetSparse.L0 ([] : List Int) t239 (t239.length : Int) 0 x237000 x237001 x237002 x237003 x237004 x237005 x237006)) := by
  refine Sup.unique (spec_MeetSparse.J0_sup x16 x236000 x236001 x236002 x236003 x236004 x236005 x236006 x237000 x237001 x237002 x237003 x237004 x237005 x237006) (Sup.shift (fun k => (spec_MeetSparse.mono_l k).1 x16 x236000 x236001 x236002 x236003 x236004 x236005 x236006 x237000 x237001 x237002 x237003 x237004 x237005 x237006) (Sup.congr (g' := fun k => if x16 = true then (some (([] : List Int), false)) else ((spec_spList.f k x236000 x236001 x236002 x236003 x236004 x236005 x236006).bind fun t239 => (spec_MeetSparse.l0 k ([] : List Int) t239 (t239.length : Int) 0 x237000 x237001 x237002 x237003 x237004 x237005 x237006))) (fun k => by first | rfl | simp only [spec_MeetSparse.j0]) ?_))
  repeat' first
    | (with_reducible exact spec_MeetSparse.J0_sup _ _ _ _ _ _ _ _ _ _ _ _ _ _ _)
    | (with_reducible exact spec_MeetSparse.L0_sup _ _ _ _ _ _ _ _ _ _ _)
    | (with_reducible exact spec_spGood.F_sup _ _ _ _ _ _ _)
    | (with_reducible exact spec_spList.F_sup _ _ _ _ _ _ _)
    | (with_reducible exact spec_l1Has.F_sup _ _)
    | (with_reducible exact spec_l1Put.F_sup _ _)
    | (with_reducible refine Sup.ite ?_ ?_)
    | (with_reducible refine Sup.bind ?_ (fun _ => ?_))
    | (with_reducible exact Sup.const _)
    | exact spec_MeetSparse.J0_sup _ _ _ _ _ _ _ _ _ _ _ _ _ _ _
    | exact spec_MeetSparse.L0_sup _ _ _ _ _ _ _ _ _ _ _
    | exact spec_spGood.F_sup _ _ _ _ _ _ _
    | exact spec_spList.F_sup _ _ _ _ _ _ _
    | exact spec_l1Has.F_sup _ _
    | exact spec_l1Put.F_sup _ _
    | exact Sup.const _
theorem spec_MeetSparse.L0_eq (x6 : List Int) (x18 : List Int) (x19 : Int) (x20 : Int) (x237000 : Int) (x237001 : Int) (x237002 : Int) (x237003 : Int) (x237004 : List Int) (x237005 : Int) (x237006 : List Int) : spec_MeetSparse.L0 x6 x18 x19 x20 x237000 x237001 x237002 x237003 x237004 x237005 x237006 = if x20 < x19 then (if 0 ≤ x20 then (if x20 < (x18.length : Int) then ((spec_spList.F x237000 x237001 x237002 x237003 x237004 x237005 x237006).bind fun t243 => ((spec_l1Has.F t243 (rd x18 x20)).bind fun t246 => (if t246 = true then ((spec_l1Put.F x6 (rd x18 x20)).bind fun t247 => (spec_MeetSparse.L0 t247 x18 x19 (wrap64 (x20 + 1)) x237000 x237001 x237002 x237003 x237004 x237005 x237006)) else (spec_MeetSparse.L0 x6 x18 x19 (wrap64 (x20 + 1)) x237000 x237001 x237002 x237003 x237004 x237005 x237006)))) else (none)) else (none)) else (some (x6, true)) := by
  refine Sup.unique (spec_MeetSparse.L0_sup x6 x18 x19 x20 x237000 x237001 x237002 x237003 x237004 x237005 x237006) (Sup.shift (fun k => (spec_MeetSparse.mono_l k).2 x6 x18 x19 x20 x237000 x237001 x237002 x237003 x237004 x237005 x237006) (Sup.congr (g' := fun k => if x20 < x19 then (if 0 ≤ x20 then (if x20 < (x18.length : Int) then ((spec_spList.f k x237000 x237001 x237002 x237003 x237004 x237005 x237006).bind fun t243 => ((spec_l1Has.f k t243 (rd x18 x20)).bind fun t246 => (if t246 = true then ((spec_l1Put.f k x6 (rd x18 x20)).bind fun t247 => (spec_MeetSparse.l0 k t247 x18 x19 (wrap64 (x20 + 1)) x237000 x237001 x237002 x237003 x237004 x237005 x237006)) else (spec_MeetSparse.l0 k x6 x18 x19 (wrap64 (x20 + 1)) x237000 x237001 x237002 x237003 x237004 x237005 x237006)))) else (none)) else (none)) else (some (x6, true))) (fun k => by first | rfl | simp only [spec_MeetSparse.l0]) ?_))
  repeat' first
    | (with_reducible exact spec_MeetSparse.J0_sup _ _ _ _ _ _ _ _ _ _ _ _ _ _ _)
    | (with_reducible exact spec_MeetSparse.L0_sup _ _ _ _ _ _ _ _ _ _ _)
    | (with_reducible exact spec_spGood.F_sup _ _ _ _ _ _ _)
    | (with_reducible exact spec_spList.F_sup _ _ _ _ _ _ _)
    | (with_reducible exact spec_l1Has.F_sup _ _)
    | (with_reducible exact spec_l1Put.F_sup _ _)
    | (with_reducible refine Sup.ite ?_ ?_)
    | (with_reducible refine Sup.bind ?_ (fun _ => ?_))
    | (with_reducible exact Sup.const _)
    | exact spec_MeetSparse.J0_sup _ _ _ _ _ _ _ _ _ _ _ _ _ _ _
    | exact spec_MeetSparse.L0_sup _ _ _ _ _ _ _ _ _ _ _
    | exact spec_spGood.F_sup _ _ _ _ _ _ _
    | exact spec_spList.F_sup _ _ _ _ _ _ _
    | exact spec_l1Has.F_sup _ _
    | exact spec_l1Put.F_sup _ _
    | exact Sup.const _
theorem spec_MeetSparse.F_eq (a0_0 : Int) (a0_1 : Int) (a0_2 : Int) (a0_3 : Int) (l0_4 : List Int) (a0_5 : Int) (l0_6 : List Int) (a1_0 : Int) (a1_1 : Int) (a1_2 : Int) (a1_3 : Int) (l1_4 : List Int) (a1_5 : Int) (l1_6 : List Int) : spec_MeetSparse.F a0_0 a0_1 a0_2 a0_3 l0_4 a0_5 l0_6 a1_0 a1_1 a1_2 a1_3 l1_4 a1_5 l1_6 = (spec_spGood.F a0_0 a0_1 a0_2 a0_3 l0_4 a0_5 l0_6).bind fun t237 => (if t237 = true then ((spec_spGood.F a1_0 a1_1 a1_2 a1_3 l1_4 a1_5 l1_6).bind fun t238 => (spec_MeetSparse.J0 (!t238) a0_0 a0_1 a0_2 a0_3 l0_4 a0_5 l0_6 a1_0 a1_1 a1_2 a1_3 l1_4 a1_5 l1_6)) else (spec_MeetSparse.J0 true a0_0 a0_1 a0_2 a0_3 l0_4 a0_5 l0_6 a1_0 a1_1 a1_2 a1_3 l1_4 a1_5 l1_6)) := by
  refine Sup.unique (spec_MeetSparse.F_sup a0_0 a0_1 a0_2 a0_3 l0_4 a0_5 l0_6 a1_0 a1_1 a1_2 a1_3 l1_4 a1_5 l1_6) (Sup.congr (g' := fun k => (spec_spGood.f k a0_0 a0_1 a0_2 a0_3 l0_4 a0_5 l0_6).bind fun t237 => (if t237 = true then ((spec_spGood.f k a1_0 a1_1 a1_2 a1_3 l1_4 a1_5 l1_6).bind fun t238 => (spec_MeetSparse.j0 k (!t238) a0_0 a0_1 a0_2 a0_3 l0_4 a0_5 l0_6 a1_0 a1_1 a1_2 a1_3 l1_4 a1_5 l1_6)) else (spec_MeetSparse.j0 k true a0_0 a0_1 a0_2 a0_3 l0_4 a0_5 l0_6 a1_0 a1_1 a1_2 a1_3 l1_4 a1_5 l1_6))) (fun k => by first | rfl | simp only [spec_MeetSparse.f]) ?_)
  repeat' first
    | (with_reducible exact spec_MeetSparse.J0_sup _ _ _ _ _ _ _ _ _ _ _ _ _ _ _)
    | (with_reducible exact spec_MeetSparse.L0_sup _ _ _ _ _ _ _ _ _ _ _)
    | (with_reducible exact spec_spGood.F_sup _ _ _ _ _ _ _)
    | (with_reducible exact spec_spList.F_sup _ _ _ _ _ _ _)
    | (with_reducible exact spec_l1Has.F_sup _ _)
    | (with_reducible exact spec_l1Put.F_sup _ _)
    | (with_reducible refine Sup.ite ?_ ?_)
    | (with_reducible refine Sup.bind ?_ (fun _ => ?_))
    | (with_reducible exact Sup.const _)
    | exact spec_MeetSparse.J0_sup _ _ _ _ _ _ _ _ _ _ _ _ _ _ _
    | exact spec_MeetSparse.L0_sup _ _ _ _ _ _ _ _ _ _ _
    | exact spec_spGood.F_sup _ _ _ _ _ _ _
    | exact spec_spList.F_sup _ _ _ _ _ _ _
    | exact spec_l1Has.F_sup _ _
    | exact spec_l1Put.F_sup _ _
    | exact Sup.const _
set_option maxHeartbeats 8000000 in
set_option maxRecDepth 100000 in
theorem spec_MeetSparse.calls (k : Nat) (a0_0 : Int) (a0_1 : Int) (a0_2 : Int) (a0_3 : Int) (A0_4 : Option Addr) (c0_4 : Nat) (l0_4 : List Int) (a0_5 : Int) (A0_6 : Option Addr) (c0_6 : Nat) (l0_6 : List Int) (a1_0 : Int) (a1_1 : Int) (a1_2 : Int) (a1_3 : Int) (A1_4 : Option Addr) (c1_4 : Nat) (l1_4 : List Int) (a1_5 : Int) (A1_6 : Option Addr) (c1_6 : Nat) (l1_6 : List Int) (r1 : List Int) (r2 : Bool) (w : World) (hr0_4 : Kd.C (Kd.int .i64) w A0_4 l0_4.length l0_4) (hc0_4 : l0_4.length ≤ c0_4) (hr0_6 : Kd.C (Kd.int .i64) w A0_6 l0_6.length l0_6) (hc0_6 : l0_6.length ≤ c0_6) (hr1_4 : Kd.C (Kd.int .i64) w A1_4 l1_4.length l1_4) (hc1_4 : l1_4.length ≤ c1_4) (hr1_6 : Kd.C (Kd.int .i64) w A1_6 l1_6.length l1_6) (hc1_6 : l1_6.length ≤ c1_6) (h : spec_MeetSparse.f k a0_0 a0_1 a0_2 a0_3 l0_4 a0_5 l0_6 a1_0 a1_1 a1_2 a1_3 l1_4 a1_5 l1_6 = some (r1, r2)) :
    Calls Try.prog 5 #[.agg #[.int .i64 a0_0, .int .i64 a0_1, .int .i64 a0_2, .int .i64 a0_3, .slice A0_4 l0_4.length c0_4, .int .i64 a0_5, .slice A0_6 l0_6.length c0_6], .agg #[.int .i64 a1_0, .int .i64 a1_1, .int .i64 a1_2, .int .i64 a1_3, .slice A1_4 l1_4.length c1_4, .int .i64 a1_5, .slice A1_6 l1_6.length c1_6]] w fun e w' => ∃ v0_ : Value, e = .returned (.tuple #[v0_, .bool r2]) ∧ Kd.R (Kd.int .i64) 3 w' w.heap.size (fun _ => True) v0_ r1 ∧ Below w.heap.size w w' := by
  have hu32 := Try.underlying32; have HR0_4 := Qx hr0_4; have HC0_4 := Qx hc0_4; clear hr0_4 hc0_4; have HR0_6 := Qx hr0_6; have HC0_6 := Qx hc0_6; clear hr0_6 hc0_6; have HR1_4 := Qx hr1_4; have HC1_4 := Qx hc1_4; clear hr1_4 hc1_4; have HR1_6 := Qx hr1_6; have HC1_6 := Qx hc1_6; clear hr1_6 hc1_6
  have HB := Qx (Below.refl w.heap.size w)
  have H : ((spec_spGood.f k a0_0 a0_1 a0_2 a0_3 l0_4 a0_5 l0_6).bind fun t237 => (if t237 = true then ((spec_spGood.f k a1_0 a1_1 a1_2 a1_3 l1_4 a1_5 l1_6).bind fun t238 => (spec_MeetSparse.j0 k (!t238) a0_0 a0_1 a0_2 a0_3 l0_4 a0_5 l0_6 a1_0 a1_1 a1_2 a1_3 l1_4 a1_5 l1_6)) else (spec_MeetSparse.j0 k true a0_0 a0_1 a0_2 a0_3 l0_4 a0_5 l0_6 a1_0 a1_1 a1_2 a1_3 l1_4 a1_5 l1_6))) = some (r1, r2) := h
  clear h; have HC3 := Qx H; clear H
  go_enter Try.func5, Try.ntmps5
  go_upto_region 1 with (first | ((with_reducible refine gate_dst (N := 2) rfl ?_); refine bx_ 2 #[.int .i64 a0_0, .int .i64 a0_1, .int .i64 a0_2, .int .i64 a0_3, .slice A0_4 l0_4.length c0_4, .int .i64 a0_5, .slice A0_6 l0_6.length c0_6] 32 ?_; intro gb235 hg w4 hbox hb; have BK235 := Qx (hbox); have GW235 := Qx ((ge_ hg)); have GE235 := Qx ((ge_ hg)); replace HB := Qx (Qp hB_ hb); clear hb hbox hg) | ((with_reducible refine gate_dst (N := 3) rfl ?_); refine bx_ 3 #[.int .i64 a1_0, .int .i64 a1_1, .int .i64 a1_2, .int .i64 a1_3, .slice A1_4 l1_4.length c1_4, .int .i64 a1_5, .slice A1_6 l1_6.length c1_6] 32 ?_; intro gb236 hg w5 hbox hb; have BK236 := Qx (hbox); have GW236 := Qx ((ge_ hg)); have GE236 := Qx ((ge_ hg)); replace HB := Qx (Qp hB_ hb); have NB235_236 := Qx ((ne_ hg BK235)); have NB236_235 := Qx ((nf_ hg BK235)); replace BK235 := Qx (Qb (kB_ BK235) hb); clear hb hbox hg))
  (try simp only [Act.put, List.setIfInBounds_toArray, List.set_cons_zero, List.set_cons_succ])
  go_cut [16] (fun v16 wc => ∃ (kq : Nat) (x16_2 : Bool), v16 = .bool x16_2 ∧ Aside0 (spec_MeetSparse.j0 kq x16_2 a0_0 a0_1 a0_2 a0_3 l0_4 a0_5 l0_6 a1_0 a1_1 a1_2 a1_3 l1_4 a1_5 l1_6 = some (r1, r2)) ∧ Aside0 (kq ≤ k) ∧ Aside0 (wc.heap[gb235]? = some (.cells #[.int .i64 a0_0, .int .i64 a0_1, .int .i64 a0_2, .int .i64 a0_3, (.slice A0_4 l0_4.length c0_4), .int .i64 a0_5, (.slice A0_6 l0_6.length c0_6)] 32 (0, 0))) ∧ Aside0 (wc.heap[gb236]? = some (.cells #[.int .i64 a1_0, .int .i64 a1_1, .int .i64 a1_2, .int .i64 a1_3, (.slice A1_4 l1_4.length c1_4), .int .i64 a1_5, (.slice A1_6 l1_6.length c1_6)] 32 (0, 0))) ∧ Aside0 (Below w.heap.size w wc))
  case first =>
   have H := HC3.out; clear HC3; replace H := Option.bind_eq_some_iff.mp H; obtain ⟨t237, A60, H⟩ := H
   have A6 := Qx A60; clear A60
   by_cases c7 : t237 = true
   ·subst c7
    have H1 : ((spec_spGood.f k a1_0 a1_1 a1_2 a1_3 l1_4 a1_5 l1_6).bind fun t238 => (spec_MeetSparse.j0 k (!t238) a0_0 a0_1 a0_2 a0_3 l0_4 a0_5 l0_6 a1_0 a1_1 a1_2 a1_3 l1_4 a1_5 l1_6)) = some (r1, r2) := by rw [if_pos rfl] at H; exact H
    clear H; have H := H1; clear H1; replace H := Option.bind_eq_some_iff.mp H; obtain ⟨t238, A80, H⟩ := H
    have A8 := Qx A80; clear A80; have H' := Qx H; clear H; have hnb9 := NB235_236.out; have hnc9 := NB236_235.out
    obtain ⟨hcz10_0, hcz10_1, hcz10_2, hcz10_3, hcz10_4, hcz10_5, hcz10_6, hfz10_0, hfz10_1, hfz10_2, hfz10_3, hfz10_4, hfz10_5, hfz10_6⟩ := cellsQ7_g1c (w := w5) BK235.out
    go_wp2_with (first | ((with_reducible refine gate_callee (f := 14) rfl ?_); refine gl_ 10 Try.func14 #[.agg #[.int .i64 a0_0, .int .i64 a0_1, .int .i64 a0_2, .int .i64 a0_3, .slice A0_4 l0_4.length c0_4, .int .i64 a0_5, .slice A0_6 l0_6.length c0_6]] ?_; (with_reducible refine (spec_spGood.calls k a0_0 a0_1 a0_2 a0_3 _ _ l0_4 a0_5 _ _ l0_6 true _ ?side1 ?side2 ?side3 ?side4 A6.out).mono ?_); (case side1 => exact kC_ HR0_4); (case side2 => exact HC0_4.out); (case side3 => exact kC_ HR0_6); (case side4 => exact HC0_6.out); rintro e w11 ⟨rfl, hb⟩; refine ⟨_, rfl, ?_⟩; replace BK235 := Qx (Qb (kB_ BK235) hb); replace BK236 := Qx (Qb (kB_ BK236) hb); replace HB := Qx (Qp hB_ hb); (try clear hb); (try clear hb2); (try clear hk); (try clear hi); obtain ⟨hcz12_0, hcz12_1, hcz12_2, hcz12_3, hcz12_4, hcz12_5, hcz12_6, hfz12_0, hfz12_1, hfz12_2, hfz12_3, hfz12_4, hfz12_5, hfz12_6⟩ := cellsQ7_g1c (w := w11) BK236.out) | (go_at_call 14; (with_reducible refine (spec_spGood.calls k a1_0 a1_1 a1_2 a1_3 _ _ l1_4 a1_5 _ _ l1_6 t238 _ ?side1 ?side2 ?side3 ?side4 A8.out).mono ?_); (case side1 => exact kC_ HR1_4); (case side2 => exact HC1_4.out); (case side3 => exact kC_ HR1_6); (case side4 => exact HC1_6.out); rintro e w13 ⟨rfl, hb⟩; replace BK235 := Qx (Qb (kB_ BK235) hb); replace BK236 := Qx (Qb (kB_ BK236) hb); replace HB := Qx (Qp hB_ hb); (try clear hb); (try clear hb2); (try clear hk); (try clear hi)))
    go_meet
    case rel => exact ⟨_, (!t238), rg_, H', ⟨by first | omega | exact Nat.le_refl _⟩, ⟨kB_ BK235⟩, ⟨kB_ BK236⟩, ⟨hB_⟩⟩
   ·replace c7 := Bool.eq_false_iff.mpr c7; subst c7
    have H1 : (spec_MeetSparse.j0 k true a0_0 a0_1 a0_2 a0_3 l0_4 a0_5 l0_6 a1_0 a1_1 a1_2 a1_3 l1_4 a1_5 l1_6) = some (r1, r2) := by rw [if_neg (show ¬ (false = true) by decide)] at H; exact H
    clear H; have H := H1; clear H1; have H' := Qx H; clear H; have hnb14 := NB235_236.out; have hnc14 := NB236_235.out
    obtain ⟨hcz15_0, hcz15_1, hcz15_2, hcz15_3, hcz15_4, hcz15_5, hcz15_6, hfz15_0, hfz15_1, hfz15_2, hfz15_3, hfz15_4, hfz15_5, hfz15_6⟩ := cellsQ7_g1c (w := w5) BK235.out
    go_wp2_with (first | ((with_reducible refine gate_callee (f := 14) rfl ?_); refine gl_ 10 Try.func14 #[.agg #[.int .i64 a0_0, .int .i64 a0_1, .int .i64 a0_2, .int .i64 a0_3, .slice A0_4 l0_4.length c0_4, .int .i64 a0_5, .slice A0_6 l0_6.length c0_6]] ?_; (with_reducible refine (spec_spGood.calls k a0_0 a0_1 a0_2 a0_3 _ _ l0_4 a0_5 _ _ l0_6 false _ ?side1 ?side2 ?side3 ?side4 A6.out).mono ?_); (case side1 => exact kC_ HR0_4); (case side2 => exact HC0_4.out); (case side3 => exact kC_ HR0_6); (case side4 => exact HC0_6.out); rintro e w16 ⟨rfl, hb⟩; refine ⟨_, rfl, ?_⟩; replace BK235 := Qx (Qb (kB_ BK235) hb); replace BK236 := Qx (Qb (kB_ BK236) hb); replace HB := Qx (Qp hB_ hb); (try clear hb); (try clear hb2); (try clear hk); (try clear hi)))
    go_meet
    case rel => exact ⟨_, (true), rg_, H', ⟨by first | omega | exact Nat.le_refl _⟩, ⟨kB_ BK235⟩, ⟨kB_ BK236⟩, ⟨hB_⟩⟩
  case rest =>
   clear HC3
   try clear c1
   try clear p2
   try clear c5
   try clear c7
   try clear c9
   try clear c14
   try clear hcz10_0
   try clear hcz10_1
   try clear hcz10_2
   try clear hcz10_3
   try clear hcz10_4
   try clear hcz10_5
   try clear hcz10_6
   try clear hcz12_0
   try clear hcz12_1
   try clear hcz12_2
   try clear hcz12_3
   try clear hcz12_4
   try clear hcz12_5
   try clear hcz12_6
   try clear hcz15_0
   try clear hcz15_1
   try clear hcz15_2
   try clear hcz15_3
   try clear hcz15_4
   try clear hcz15_5
   try clear hcz15_6
   try clear hfz10_0
   try clear hfz10_1
   try clear hfz10_2
   try clear hfz10_3
   try clear hfz10_4
   try clear hfz10_5
   try clear hfz10_6
   try clear hfz12_0
   try clear hfz12_1
   try clear hfz12_2
   try clear hfz12_3
   try clear hfz12_4
   try clear hfz12_5
   try clear hfz12_6
   try clear hfz15_0
   try clear hfz15_1
   try clear hfz15_2
   try clear hfz15_3
   try clear hfz15_4
   try clear hfz15_5
   try clear hfz15_6
   obtain ⟨kq, x16_2, rfl, HA, HJ2, BK235, BK236, HB⟩ := hcut
   cases kq with
   | zero => exact absurd HA.out (by simp [spec_MeetSparse.j0])
   | succ kj2 =>
    have H := HA.out; clear HA; simp only [spec_MeetSparse.j0] at H
    by_cases c17 : x16_2 = true
    ·subst c17
     have H1 : (some (([] : List Int), false)) = some (r1, r2) := by rw [if_pos rfl] at H; exact H
     clear H; have H := H1; clear H1; simp only [Option.some.injEq, Prod.mk.injEq] at H; obtain ⟨rfl, rfl⟩ := H
     go_wp2
     go_ret2
     exact ⟨_, rf_, by first | exact Kd.R_nil _ _ _ _ _ | exact Kd.N_nil _ _ _ _ _ | exact Kd.V_nil _ _ _ _ _ | exact Kd.Q_nil _ _ _ _ _ | exact Kd.S_nil _ _ _ _ _, hB_⟩
    ·replace c17 := Bool.eq_false_iff.mpr c17; subst c17
     have H1 : ((spec_spList.f kj2 a0_0 a0_1 a0_2 a0_3 l0_4 a0_5 l0_6).bind fun t239 => (spec_MeetSparse.l0 kj2 ([] : List Int) t239 (t239.length : Int) 0 a1_0 a1_1 a1_2 a1_3 l1_4 a1_5 l1_6)) = some (r1, r2) := by rw [if_neg (show ¬ (false = true) by decide)] at H; exact H
     clear H; have H := H1; clear H1; replace H := Option.bind_eq_some_iff.mp H; obtain ⟨t239, A180, H⟩ := H
     have A18 := Qx A180; clear A180; have H' := Qx H; clear H; have hnb19 := NB235_236.out; have hnc19 := NB236_235.out
     obtain ⟨hcz20_0, hcz20_1, hcz20_2, hcz20_3, hcz20_4, hcz20_5, hcz20_6, hfz20_0, hfz20_1, hfz20_2, hfz20_3, hfz20_4, hfz20_5, hfz20_6⟩ := cellsQ7_g1c (w := wc) BK235.out
     go_wp2_with (first | ((with_reducible refine gate_callee (f := 15) rfl ?_); refine gl_ 18 Try.func15 #[.agg #[.int .i64 a0_0, .int .i64 a0_1, .int .i64 a0_2, .int .i64 a0_3, .slice A0_4 l0_4.length c0_4, .int .i64 a0_5, .slice A0_6 l0_6.length c0_6]] ?_; (with_reducible refine (spec_spList.calls kj2 a0_0 a0_1 a0_2 a0_3 _ _ l0_4 a0_5 _ _ l0_6 t239 _ ?side1 ?side2 ?side3 ?side4 A18.out).mono ?_); (case side1 => exact kC_ HR0_4); (case side2 => exact HC0_4.out); (case side3 => exact kC_ HR0_6); (case side4 => exact HC0_6.out); rintro e w21 ⟨v240, rfl, ho0, hb⟩; refine ⟨_, rfl, ?_⟩; have HO241 := Qx (Kd.R_lower ho0 (Qz hB_)); replace BK235 := Qx (Qb (kB_ BK235) hb); replace BK236 := Qx (Qb (kB_ BK236) hb); replace HB := Qx (Qp hB_ hb); (try clear hb); (try clear hb2); (try clear hk); (try clear hi); (try clear ho0); obtain ⟨Ao22, co22, eo22⟩ := Kd.R_slice HO241.out; subst eo22))
     go_loopg [6, 20] kj2 (fun kq v6 v20 w' => ∃ (x6_2 : List Int) (x20_2 : Int), v20 = .int .i64 x20_2 ∧ Aside0 (spec_MeetSparse.l0 kq x6_2 t239 (t239.length : Int) x20_2 a1_0 a1_1 a1_2 a1_3 l1_4 a1_5 l1_6 = some (r1, r2)) ∧ Aside0 (kq ≤ kj2) ∧ Aside0 (Kd.R (Kd.int .i64) 3 w' w.heap.size (fun k_ => some k_ ≠ ((.slice Ao22 t239.length co22) : Value).ownBlock) v6 x6_2) ∧ Aside0 (Kd.R (Kd.int .i64) 3 w' w.heap.size (fun k_ => some k_ ≠ (v6 : Value).ownBlock) (.slice Ao22 t239.length co22) t239) ∧ Aside0 (w'.heap[gb235]? = some (.cells #[.int .i64 a0_0, .int .i64 a0_1, .int .i64 a0_2, .int .i64 a0_3, (.slice A0_4 l0_4.length c0_4), .int .i64 a0_5, (.slice A0_6 l0_6.length c0_6)] 32 (0, 0))) ∧ Aside0 (w'.heap[gb236]? = some (.cells #[.int .i64 a1_0, .int .i64 a1_1, .int .i64 a1_2, .int .i64 a1_3, (.slice A1_4 l1_4.length c1_4), .int .i64 a1_5, (.slice A1_6 l1_6.length c1_6)] 32 (0, 0))) ∧ Aside0 (Below w.heap.size w w'))
     case atStart => exact ⟨(([] : List Int)), (0), rg_, H', ⟨Nat.le_refl _⟩, ⟨by first | exact Kd.R_nil _ _ _ _ _ | exact Kd.N_nil _ _ _ _ _ | exact Kd.V_nil _ _ _ _ _ | exact Kd.Q_nil _ _ _ _ _ | exact Kd.S_nil _ _ _ _ _⟩, ⟨by (with_reducible repeat (first | apply Qra | apply Qrn | apply Qrd)); exact Qrm HO241.out (fun _ hk => (by simp [Value.ownBlock]))⟩, ⟨kB_ BK235⟩, ⟨kB_ BK236⟩, ⟨hB_⟩⟩
     case round =>
      clear H'
      try clear c1
      try clear p2
      try clear c5
      try clear c7
      try clear c9
      try clear c14
      try clear c15
      try clear c17
      try clear c19
      try clear hcz10_0
      try clear hcz10_1
      try clear hcz10_2
      try clear hcz10_3
      try clear hcz10_4
      try clear hcz10_5
      try clear hcz10_6
      try clear hcz12_0
      try clear hcz12_1
      try clear hcz12_2
      try clear hcz12_3
      try clear hcz12_4
      try clear hcz12_5
      try clear hcz12_6
      try clear hcz15_0
      try clear hcz15_1
      try clear hcz15_2
      try clear hcz15_3
      try clear hcz15_4
      try clear hcz15_5
      try clear hcz15_6
      try clear hcz20_0
      try clear hcz20_1
      try clear hcz20_2
      try clear hcz20_3
      try clear hcz20_4
      try clear hcz20_5
      try clear hcz20_6
      try clear hfz10_0
      try clear hfz10_1
      try clear hfz10_2
      try clear hfz10_3
      try clear hfz10_4
      try clear hfz10_5
      try clear hfz10_6
      try clear hfz12_0
      try clear hfz12_1
      try clear hfz12_2
      try clear hfz12_3
      try clear hfz12_4
      try clear hfz12_5
      try clear hfz12_6
      try clear hfz15_0
      try clear hfz15_1
      try clear hfz15_2
      try clear hfz15_3
      try clear hfz15_4
      try clear hfz15_5
      try clear hfz15_6
      try clear hfz20_0
      try clear hfz20_1
      try clear hfz20_2
      try clear hfz20_3
      try clear hfz20_4
      try clear hfz20_5
      try clear hfz20_6
      try clear p2
      obtain ⟨x6_2, x20_2, rfl, HA, HK2, HO_6, HO_18, BK235, BK236, HB⟩ := hrel
      cases gk with
      | zero => exact absurd HA.out (by simp [spec_MeetSparse.l0])
      | succ k2 =>
       have H := HA.out; clear HA; simp only [spec_MeetSparse.l0] at H
       by_cases c23 : x20_2 < (t239.length : Int)
       ·rw [if_pos c23] at H
        have c23b0 : decide (x20_2 < (t239.length : Int)) = true := decide_eq_true c23
        clear c23
        by_cases c24 : 0 ≤ x20_2
        ·rw [if_pos c24] at H
         have c24b0 : decide (0 ≤ x20_2) = true := decide_eq_true c24
         clear c24
         by_cases c25 : x20_2 < (t239.length : Int)
         ·rw [if_pos c25] at H
          have c25b0 : decide (x20_2 < (t239.length : Int)) = true := decide_eq_true c25
          clear c25; replace H := Option.bind_eq_some_iff.mp H; obtain ⟨t243, A260, H⟩ := H
          have A26 := Qx A260; clear A260; replace H := Option.bind_eq_some_iff.mp H; obtain ⟨t246, A270, H⟩ := H
          have A27 := Qx A270; clear A270
          by_cases c28 : t246 = true
          ·subst c28
           have H1 : ((spec_l1Put.f k2 x6_2 (rd t239 x20_2)).bind fun t247 => (spec_MeetSparse.l0 k2 t247 t239 (t239.length : Int) (wrap64 (x20_2 + 1)) a1_0 a1_1 a1_2 a1_3 l1_4 a1_5 l1_6)) = some (r1, r2) := by rw [if_pos rfl] at H; exact H
           clear H; have H := H1; clear H1; replace H := Option.bind_eq_some_iff.mp H; obtain ⟨t247, A290, H⟩ := H
           have A29 := Qx A290; clear A290; have H' := Qx H; clear H
           have p242 : 0 ≤ (x20_2 : Int) := of_decide_eq_true as_
           have q242 : x20_2 < (t239.length : Int) := of_decide_eq_true as_
           obtain ⟨ad242, e242, hx242_0⟩ := Kd.at_int (Kd.R_reads' HO_18.out).2.2 x20_2 p242 q242
           cases e242
           replace p242 := eq_true p242; replace q242 := eq_true q242; have hnb30 := NB236_235.out; have hnc30 := NB235_236.out
           obtain ⟨hcz31_0, hcz31_1, hcz31_2, hcz31_3, hcz31_4, hcz31_5, hcz31_6, hfz31_0, hfz31_1, hfz31_2, hfz31_3, hfz31_4, hfz31_5, hfz31_6⟩ := cellsQ7_g1c (w := wr) BK236.out
           go_wp2_with (first | ((with_reducible refine gate_callee (f := 15) rfl ?_); refine gl_ 25 Try.func15 #[.agg #[.int .i64 a1_0, .int .i64 a1_1, .int .i64 a1_2, .int .i64 a1_3, .slice A1_4 l1_4.length c1_4, .int .i64 a1_5, .slice A1_6 l1_6.length c1_6]] ?_; (with_reducible refine (spec_spList.calls k2 a1_0 a1_1 a1_2 a1_3 _ _ l1_4 a1_5 _ _ l1_6 t243 _ ?side1 ?side2 ?side3 ?side4 A26.out).mono ?_); (case side1 => exact kC_ HR1_4); (case side2 => exact HC1_4.out); (case side3 => exact kC_ HR1_6); (case side4 => exact HC1_6.out); rintro e w32 ⟨v244, rfl, ho0, hb⟩; refine ⟨_, rfl, ?_⟩; have HO245 := Qx (Kd.R_lower (Kd.R_new' (Kd.R_new' ho0 (Kd.R_lt (kR_ HO_6))) (Kd.R_lt (kR_ HO_18))) (Qz hB_)); replace HO_6 := Qx (Kd.R_elder' (kR_ HO_6) (Kd.R_base ho0) hb); replace HO_18 := Qx (Kd.R_elder' (kR_ HO_18) (Kd.R_base ho0) hb); replace BK235 := Qx (Qb (kB_ BK235) hb); replace BK236 := Qx (Qb (kB_ BK236) hb); replace HB := Qx (Qp hB_ hb); (try clear hb); (try clear hb2); (try clear hk); (try clear hi); (try clear ho0); obtain ⟨Ao33, co33, eo33⟩ := Kd.R_slice HO245.out; subst eo33) | ((with_reducible refine gate_callee (f := 16) rfl ?_); refine gl_ 27 Try.func16 #[.slice Ao33 t243.length co33, .int .i64 (rd t239 x20_2)] ?_; (with_reducible refine (spec_l1Has.calls k2 _ _ t243 (rd t239 x20_2) true _ ?side1 ?side2 A27.out).mono ?_); (case side1 => exact kD_ HO245); (case side2 => exact (Kd.R_reads' HO245.out).2.1); rintro e w' ⟨rfl, ⟨nd, rfl⟩⟩; refine ⟨_, rfl, ?_⟩; obtain ⟨Ao34, co34, eo34⟩ := Kd.R_slice HO_6.out; subst eo34) | ((with_reducible refine gate_callee (f := 17) rfl ?_); refine gl_ 30 Try.func17 #[.slice Ao34 x6_2.length co34, .int .i64 (rd t239 x20_2)] ?_; (with_reducible refine (spec_l1Put.calls k2 (fun k_ => some k_ = (.slice Ao34 x6_2.length co34 : Value).ownBlock) (.slice Ao34 x6_2.length co34) x6_2 (rd t239 x20_2) t247 w _ ?side1 ?side2 A29.out).mono ?_); (case side1 => exact hB_); (case side2 => exact Kd.R_tight rfl HO_6.out); rintro e w35 ⟨v248, rfl, ho0, hb, hkp⟩; refine ⟨_, rfl, ?_⟩; have n0_ := Qx (Qrm (ok' := fun k_ => some k_ ≠ (.slice Ao33 t243.length co33 : Value).ownBlock ∧ some k_ ≠ (v248 : Value).ownBlock) (Kd.R_keptB (HO_18.out) hkp (fun k_ hk_ hs_ => (hk_.1) hs_)) (fun k_ hk_ => ⟨hk_.1.2, fun e_ => Or.elim (ho0.1 k_ e_.symm) (fun hs_ => hk_.2.1 hs_) (fun hn_ => Nat.not_le.2 hk_.2.2 hn_)⟩)); have n1_ := Qx (blk_kept (kB_ BK235) hkp (fun hs_ => (fun e_ => (Kd.R_ne HO_6.out BK235.out (by decide)) e_) hs_)); have n2_ := Qx (blk_kept (kB_ BK236) hkp (fun hs_ => (fun e_ => (Kd.R_ne HO_6.out BK236.out (by decide)) e_) hs_)); have n3_ := Qx (Qrm (ok' := fun k_ => some k_ ≠ (.slice (some ad242) t239.length co22 : Value).ownBlock ∧ some k_ ≠ (v248 : Value).ownBlock) (Kd.R_keptB (HO245.out) hkp (fun k_ hk_ hs_ => (hk_.1.2) hs_)) (fun k_ hk_ => ⟨hk_.1.2, fun e_ => Or.elim (ho0.1 k_ e_.symm) (fun hs_ => hk_.2.1 hs_) (fun hn_ => Nat.not_le.2 hk_.2.2 hn_)⟩)); have n4_ := Qx (Qrm (ok' := fun k_ => some k_ ≠ (.slice (some ad242) t239.length co22 : Value).ownBlock ∧ some k_ ≠ (.slice Ao33 t243.length co33 : Value).ownBlock) ho0 (fun k_ hk_ => ⟨Or.elim hk_ (fun hs_ => fun e_ => (((HO_18.out).1 k_ e_.symm).1) hs_) (fun hn_ => (Kd.fresh' (Kd.R_lt (kR_ HO_18)) k_ hn_)), Or.elim hk_ (fun hs_ => fun e_ => (((HO245.out).1 k_ e_.symm).1.2) hs_) (fun hn_ => (Kd.fresh' (Kd.R_lt (kR_ HO245)) k_ hn_))⟩)); have n5_ := Qx (hb); clear HO_18 BK235 BK236 HO245 HB HO_6; have HO_18 := n0_; have BK235 := n1_; have BK236 := n2_; have HO245 := n3_; have HO249 := n4_; have HB := n5_; clear n0_ n1_ n2_ n3_ n4_ n5_; (try clear hb); (try clear hkp); (try clear ho0)))
           go_roundg k2
           case measure => have := HJ2.out; have := HK2.out; omega
           case rel => exact ⟨(t247), (wrap64 (x20_2 + 1)), rg_, H', ⟨by have := HJ2.out; have := HK2.out; omega⟩, ⟨by (with_reducible repeat (first | apply Qra | apply Qrn | apply Qrd)); exact Qrm HO249.out (fun _ hk => hk.1)⟩, ⟨by (with_reducible repeat (first | apply Qra | apply Qrn | apply Qrd)); exact Qrm HO_18.out (fun _ hk => hk.2)⟩, ⟨kB_ BK235⟩, ⟨kB_ BK236⟩, ⟨hB_⟩⟩
          ·replace c28 := Bool.eq_false_iff.mpr c28; subst c28
           have H1 : (spec_MeetSparse.l0 k2 x6_2 t239 (t239.length : Int) (wrap64 (x20_2 + 1)) a1_0 a1_1 a1_2 a1_3 l1_4 a1_5 l1_6) = some (r1, r2) := by rw [if_neg (show ¬ (false = true) by decide)] at H; exact H
           clear H; have H := H1; clear H1; have H' := Qx H; clear H
           have p242 : 0 ≤ (x20_2 : Int) := of_decide_eq_true as_
           have q242 : x20_2 < (t239.length : Int) := of_decide_eq_true as_
           obtain ⟨ad242, e242, hx242_0⟩ := Kd.at_int (Kd.R_reads' HO_18.out).2.2 x20_2 p242 q242
           cases e242
           replace p242 := eq_true p242; replace q242 := eq_true q242; have hnb36 := NB236_235.out; have hnc36 := NB235_236.out
           obtain ⟨hcz37_0, hcz37_1, hcz37_2, hcz37_3, hcz37_4, hcz37_5, hcz37_6, hfz37_0, hfz37_1, hfz37_2, hfz37_3, hfz37_4, hfz37_5, hfz37_6⟩ := cellsQ7_g1c (w := wr) BK236.out
           go_wp2_with (first | ((with_reducible refine gate_callee (f := 15) rfl ?_); refine gl_ 25 Try.func15 #[.agg #[.int .i64 a1_0, .int .i64 a1_1, .int .i64 a1_2, .int .i64 a1_3, .slice A1_4 l1_4.length c1_4, .int .i64 a1_5, .slice A1_6 l1_6.length c1_6]] ?_; (with_reducible refine (spec_spList.calls k2 a1_0 a1_1 a1_2 a1_3 _ _ l1_4 a1_5 _ _ l1_6 t243 _ ?side1 ?side2 ?side3 ?side4 A26.out).mono ?_); (case side1 => exact kC_ HR1_4); (case side2 => exact HC1_4.out); (case side3 => exact kC_ HR1_6); (case side4 => exact HC1_6.out); rintro e w38 ⟨v244, rfl, ho0, hb⟩; refine ⟨_, rfl, ?_⟩; have HO245 := Qx (Kd.R_lower (Kd.R_new' (Kd.R_new' ho0 (Kd.R_lt (kR_ HO_6))) (Kd.R_lt (kR_ HO_18))) (Qz hB_)); replace HO_6 := Qx (Kd.R_elder' (kR_ HO_6) (Kd.R_base ho0) hb); replace HO_18 := Qx (Kd.R_elder' (kR_ HO_18) (Kd.R_base ho0) hb); replace BK235 := Qx (Qb (kB_ BK235) hb); replace BK236 := Qx (Qb (kB_ BK236) hb); replace HB := Qx (Qp hB_ hb); (try clear hb); (try clear hb2); (try clear hk); (try clear hi); (try clear ho0); obtain ⟨Ao39, co39, eo39⟩ := Kd.R_slice HO245.out; subst eo39) | ((with_reducible refine gate_callee (f := 16) rfl ?_); refine gl_ 27 Try.func16 #[.slice Ao39 t243.length co39, .int .i64 (rd t239 x20_2)] ?_; (with_reducible refine (spec_l1Has.calls k2 _ _ t243 (rd t239 x20_2) false _ ?side1 ?side2 A27.out).mono ?_); (case side1 => exact kD_ HO245); (case side2 => exact (Kd.R_reads' HO245.out).2.1); rintro e w' ⟨rfl, ⟨nd, rfl⟩⟩; refine ⟨_, rfl, ?_⟩))
           go_roundg k2
           case measure => have := HJ2.out; have := HK2.out; omega
           case rel => exact ⟨(x6_2), (wrap64 (x20_2 + 1)), rg_, H', ⟨by have := HJ2.out; have := HK2.out; omega⟩, ⟨by (with_reducible repeat (first | apply Qra | apply Qrn | apply Qrd)); exact Qrm HO_6.out (fun _ hk => hk.1)⟩, ⟨by (with_reducible repeat (first | apply Qra | apply Qrn | apply Qrd)); exact Qrm HO_18.out (fun _ hk => hk.1)⟩, ⟨kB_ BK235⟩, ⟨kB_ BK236⟩, ⟨hB_⟩⟩
         ·rw [if_neg c25] at H
          exact absurd H (by simp)
        ·rw [if_neg c24] at H
         exact absurd H (by simp)
       ·rw [if_neg c23] at H
        have c23b0 : decide (x20_2 < (t239.length : Int)) = false := decide_eq_false c23
        clear c23; simp only [Option.some.injEq, Prod.mk.injEq] at H; obtain ⟨rfl, rfl⟩ := H
        go_wp2
        go_ret2
        exact ⟨_, rf_, by (with_reducible repeat (first | apply Qra | apply Qrn | apply Qrd)); exact Qrm HO_6.out (fun _ hk => trivial), hB_⟩
/-! ### laws_toIntS: function 37 -/
def laws_toIntS.l0 : Nat → List Int → List Int → Int → Option (List Int)
  | 0, _, _, _ => none
  | k + 1, x0, x3, x4 => if x4 < (x0.length : Int) then (if 0 ≤ x4 then (if x4 < (x3.length : Int) then (laws_toIntS.l0 k x0 (x3.set (x4 : Int).toNat (rd x0 x4)) (wrap64 (x4 + 1))) else (none)) else (none)) else (some x3)
def laws_toIntS.f (k : Nat) (l0 : List Int) : Option (List Int) := if 0 ≤ (l0.length : Int) then (if ((l0.length : Int) : Int).toNat ≤ 35184372088832 then (laws_toIntS.l0 k l0 (List.replicate ((l0.length : Int) : Int).toNat 0) 0) else (none)) else (none)
theorem laws_toIntS.mono_l : ∀ k, (∀ y0 y1 y2, LeO (laws_toIntS.l0 k y0 y1 y2) (laws_toIntS.l0 (k + 1) y0 y1 y2))
  | 0 => fun _ _ _ r h => by simp [laws_toIntS.l0] at h
  | k + 1 => by
    have ih0 := laws_toIntS.mono_l k
    · intro y0 y1 y2
      unfold laws_toIntS.l0
      repeat' first
      | (with_reducible exact ih0 _ _ _)
      | (with_reducible exact LeO.refl _)
      | (with_reducible exact LeO.none _)
      | (with_reducible refine LeO.ite ?_ ?_)
      | (with_reducible refine LeO.bind ?_ (fun _ => ?_))
      | exact ih0 _ _ _
      | exact LeO.none _
      | refine LeO.ite ?_ ?_
      | refine LeO.bind ?_ (fun _ => ?_)
theorem laws_toIntS.mono : ∀ a0 k, LeO (laws_toIntS.f k a0) (laws_toIntS.f (k + 1) a0) := by
  intro a0 k
  have ih0 := laws_toIntS.mono_l k
  unfold laws_toIntS.f
  repeat' first
      | (with_reducible exact ih0 _ _ _)
      | (with_reducible exact LeO.refl _)
      | (with_reducible exact LeO.none _)
      | (with_reducible refine LeO.ite ?_ ?_)
      | (with_reducible refine LeO.bind ?_ (fun _ => ?_))
      | exact ih0 _ _ _
      | exact LeO.none _
      | refine LeO.ite ?_ ?_
      | refine LeO.bind ?_ (fun _ => ?_)
noncomputable def laws_toIntS.L0 (y0 : List Int) (y1 : List Int) (y2 : Int) : Option (List Int) := lim fun k => laws_toIntS.l0 k y0 y1 y2
theorem laws_toIntS.L0_sup (y0 : List Int) (y1 : List Int) (y2 : Int) : Sup (fun k => laws_toIntS.l0 k y0 y1 y2) (laws_toIntS.L0 y0 y1 y2) := Sup.of_mono fun k => laws_toIntS.mono_l k y0 y1 y2
noncomputable def laws_toIntS.F (l0 : List Int) : Option (List Int) := lim fun k => laws_toIntS.f k l0
theorem laws_toIntS.F_sup (l0 : List Int) : Sup (fun k => laws_toIntS.f k l0) (laws_toIntS.F l0) := Sup.of_mono fun k => laws_toIntS.mono l0 k
theorem laws_toIntS.L0_eq (x0 : List Int) (x3 : List Int) (x4 : Int) : laws_toIntS.L0 x0 x3 x4 = if x4 < (x0.length : Int) then (if 0 ≤ x4 then (if x4 < (x3.length : Int) then (laws_toIntS.L0 x0 (x3.set (x4 : Int).toNat (rd x0 x4)) (wrap64 (x4 + 1))) else (none)) else (none)) else (some x3) := by
  refine Sup.unique (laws_toIntS.L0_sup x0 x3 x4) (Sup.shift (fun k => laws_toIntS.mono_l k x0 x3 x4) (Sup.congr (g' := fun k => if x4 < (x0.length : Int) then (if 0 ≤ x4 then (if x4 < (x3.length : Int) then (laws_toIntS.l0 k x0 (x3.set (x4 : Int).toNat (rd x0 x4)) (wrap64 (x4 + 1))) else (none)) else (none)) else (some x3)) (fun k => by first | rfl | simp only [laws_toIntS.l0]) ?_))
  repeat' first
    | (with_reducible exact laws_toIntS.L0_sup _ _ _)
    | (with_reducible refine Sup.ite ?_ ?_)
    | (with_reducible refine Sup.bind ?_ (fun _ => ?_))
    | (with_reducible exact Sup.const _)
    | exact laws_toIntS.L0_sup _ _ _
    | exact Sup.const _
theorem laws_toIntS.F_eq (l0 : List Int) : laws_toIntS.F l0 = if 0 ≤ (l0.length : Int) then (if ((l0.length : Int) : Int).toNat ≤ 35184372088832 then (laws_toIntS.L0 l0 (List.replicate ((l0.length : Int) : Int).toNat 0) 0) else (none)) else (none) := by
  refine Sup.unique (laws_toIntS.F_sup l0) (Sup.congr (g' := fun k => if 0 ≤ (l0.length : Int) then (if ((l0.length : Int) : Int).toNat ≤ 35184372088832 then (laws_toIntS.l0 k l0 (List.replicate ((l0.length : Int) : Int).toNat 0) 0) else (none)) else (none)) (fun k => by first | rfl | simp only [laws_toIntS.f]) ?_)
  repeat' first
    | (with_reducible exact laws_toIntS.L0_sup _ _ _)
    | (with_reducible refine Sup.ite ?_ ?_)
    | (with_reducible refine Sup.bind ?_ (fun _ => ?_))
    | (with_reducible exact Sup.const _)
    | exact laws_toIntS.L0_sup _ _ _
    | exact Sup.const _
set_option maxHeartbeats 8000000 in
set_option maxRecDepth 100000 in
theorem laws_toIntS.calls (k : Nat) (A0 : Option Addr) (c0 : Nat) (l0 : List Int) (r : List Int) (w : World) (hr0 : Kd.C (Kd.int .i64) w A0 l0.length l0) (hc0 : l0.length ≤ c0) (h : laws_toIntS.f k l0 = some r) :
    Calls Try.prog 37 #[.slice A0 l0.length c0] w fun e w' => ∃ v0_ : Value, e = .returned (v0_) ∧ Kd.R (Kd.int .i64) 3 w' w.heap.size (fun _ => True) v0_ r ∧ Below w.heap.size w w' := by
  have HR0 := Qx hr0; have HC0 := Qx hc0; clear hr0 hc0
  have HB := Qx (Below.refl w.heap.size w)
  have H : (if 0 ≤ (l0.length : Int) then (if ((l0.length : Int) : Int).toNat ≤ 35184372088832 then (laws_toIntS.l0 k l0 (List.replicate ((l0.length : Int) : Int).toNat 0) 0) else (none)) else (none)) = some r := h
  clear h
  by_cases c2 : 0 ≤ (l0.length : Int)
  ·rw [if_pos c2] at H; have c2b0 := eq_true c2
   have c2b1 : decide (0 ≤ (l0.length : Int)) = true := decide_eq_true c2
   clear c2
   by_cases c3 : ((l0.length : Int) : Int).toNat ≤ 35184372088832
   ·rw [if_pos c3] at H; have c3b0 := eq_true c3
    have c3b1 : decide (((l0.length : Int) : Int).toNat ≤ 35184372088832) = true := decide_eq_true c3
    clear c3
    obtain ⟨y250, hy250⟩ : ∃ y_ : List Int, y_ = (List.replicate ((l0.length : Int) : Int).toNat 0) := ⟨_, rfl⟩
    replace H : (laws_toIntS.l0 k l0 y250 0) = some r := by first | (rw [hy250]; with_reducible exact H) | (have H2_ := (Option.bind_some _ _).symm.trans H; rw [hy250]; with_reducible exact H2_) | (have H2_ := (Option.bind_some _ _).symm.trans H; with_reducible exact H2_) | with_reducible exact H | (rw [hy250]; exact H) | exact H
    have Ny250 := Qx hy250; clear hy250; have H' := Qx H; clear H
    go_enter Try.func37, Try.ntmps37
    go_wp2_with (first | ((with_reducible refine gate_dst (N := 7) rfl ?_); refine Kd.R_make (Kd.int .i64) _ 3 rfl (N := 7) rfl 22 _ _ rfl (l0.length : Int) rfl rfl Try.underlying22 (.int .i64 0) 8 info3 rfl (by decide) (by omega) 0 (ok := fun _ => True) (okp := fun _ => True) rfl (fun _ hk => hk) trivial (of_decide_eq_true as_) (Nat.le_trans (Nat.mul_le_mul_right _ (of_decide_eq_true as_ : (l0.length : Int).toNat ≤ 35184372088832)) (by omega)) (Below.refl _ _) (Nat.le_refl _) ?_; intro v251 w4 ho5 hb hg_ hnew_; clear hg_ hnew_; (first | rw [← Ny250.out] at ho5 | (simp only [Int.reduceToNat] at ho5; rw [← Ny250.out] at ho5)); have HO252 := Qx (Kd.R_lower ho5 (Qz hB_)); replace HB := Qx (Qp hB_ hb); clear hb ho5))
    go_loopg [4] k (fun kq v4 w' => ∃ (x3_1 : List Int) (x4_1 : Int), v4 = .int .i64 x4_1 ∧ Aside0 (laws_toIntS.l0 kq l0 x3_1 x4_1 = some r) ∧ Aside0 (kq ≤ k) ∧ Aside0 (Kd.R (Kd.int .i64) 3 w' w.heap.size (fun _ => True) v251 x3_1) ∧ Aside0 (Below w.heap.size w w'))
    case atStart => exact ⟨(y250), (0), rg_, H', ⟨Nat.le_refl _⟩, ⟨kR_ HO252⟩, ⟨hB_⟩⟩
    case round =>
     clear H'
     try clear c2
     try clear c2b0
     try clear c2b1
     try clear p2
     try clear c3
     try clear c3b0
     try clear c3b1
     obtain ⟨x3_1, x4_1, rfl, HA, HK1, HO_3, HB⟩ := hrel
     cases gk with
     | zero => exact absurd HA.out (by simp [laws_toIntS.l0])
     | succ k1 =>
      have H := HA.out; clear HA; simp only [laws_toIntS.l0] at H
      by_cases c6 : x4_1 < (l0.length : Int)
      ·rw [if_pos c6] at H
       have c6b0 : decide (x4_1 < (l0.length : Int)) = true := decide_eq_true c6
       clear c6
       by_cases c7 : 0 ≤ x4_1
       ·rw [if_pos c7] at H
        have c7b0 : decide (0 ≤ x4_1) = true := decide_eq_true c7
        clear c7
        by_cases c8 : x4_1 < (x3_1.length : Int)
        ·rw [if_pos c8] at H
         have c8b0 : decide (x4_1 < (x3_1.length : Int)) = true := decide_eq_true c8
         clear c8
         obtain ⟨y254, hy254⟩ : ∃ y_ : List Int, y_ = (x3_1.set (x4_1 : Int).toNat (rd l0 x4_1)) := ⟨_, rfl⟩
         replace H : (laws_toIntS.l0 k1 l0 y254 (wrap64 (x4_1 + 1))) = some r := by first | (rw [hy254]; with_reducible exact H) | (have H2_ := (Option.bind_some _ _).symm.trans H; rw [hy254]; with_reducible exact H2_) | (have H2_ := (Option.bind_some _ _).symm.trans H; with_reducible exact H2_) | with_reducible exact H | (rw [hy254]; exact H) | exact H
         have Ny254 := Qx hy254; clear hy254; have H' := Qx H; clear H
         have p253 : 0 ≤ (x4_1 : Int) := of_decide_eq_true as_
         have q253 : x4_1 < (l0.length : Int) := of_decide_eq_true as_
         obtain ⟨ad253, e253, hx253_0⟩ := Kd.at_int HR0.out x4_1 p253 q253
         cases e253
         replace hx253_0 := (HB.out.cell (World.block_lt_of_cell? w _ hx253_0)).trans hx253_0
         replace p253 := eq_true p253; replace q253 := eq_true q253
         have p9 : 0 ≤ (x4_1 : Int) := of_decide_eq_true as_
         have q9 : (x4_1 : Int) < ((x3_1.length : Int) : Int) := of_decide_eq_true as_
         obtain ⟨go9, co9, eo9, gb9, gl9, cl9, HG9⟩ := Kd.R_form HO_3.out (by omega)
         (first | cases eo9 | (injection eo9 with ea_ en_ ec_; (first | subst ea_ | (injection ea_ with ea_; subst ea_)); subst ec_; clear en_))
         have GB9 := Qx gb9; have GG9 := Qx HG9; clear gb9 gl9 HG9
         obtain ⟨hx9_0, hf9_0⟩ := Kd.R_celln 0 HO_3.out (x4_1 : Int) p9 q9
         replace p9 := eq_true p9; replace q9 := eq_true q9
         have HP10 := Kd.R_putg HO_3.out (x4_1 : Int) (rd l0 x4_1)
         go_wp2_with (first | ((with_reducible refine gate_store (t := 3) (p := 20) rfl ?_); refine store_event (t := 3) (p := 20) (v := ?vo_w11) (w1 := (wr.setCell ⟨go9, (x4_1 : Int).toNat, none⟩ (.int .i64 (rd l0 x4_1)))) ?hg ?ho ?hn ?hr ?_; (case ho => rfl); (case hg => rfl); (case hn => rfl); (case hr => first | (go_simp; done) | (go_simp; rfl)); intro w11 hw; have hg : wr.grownBy w11 (some go9) := (by rw [hw]; exact HP10.2); have hp_ : Kd.R (Kd.int .i64) 3 w11 w.heap.size (fun _ => True) (.slice (some ⟨go9, 0, none⟩) x3_1.length co9) y254 := (by rw [hw, Ny254.out]; exact HP10.1); clear HP10; replace HO_3 := Qx (hp_); replace HB := Qx ((by rw [hw]; exact below_set (HB.out) GB9.out : Below w.heap.size w w11)); clear hg hw hp_))
         go_roundg k1
         case measure => have := HK1.out; omega
         case rel => exact ⟨(y254), (wrap64 (x4_1 + 1)), rg_, H', ⟨by have := HK1.out; omega⟩, ⟨kR_ HO_3⟩, ⟨hB_⟩⟩
        ·rw [if_neg c8] at H
         exact absurd H (by simp)
       ·rw [if_neg c7] at H
        exact absurd H (by simp)
      ·rw [if_neg c6] at H
       have c6b0 : decide (x4_1 < (l0.length : Int)) = false := decide_eq_false c6
       clear c6; obtain rfl := Option.some.inj H
       go_wp2
       go_ret
       exact ⟨_, rf_, kR_ HO_3, hB_⟩
   ·rw [if_neg c3] at H
    exact absurd H (by simp)
  ·rw [if_neg c2] at H
   exact absurd H (by simp)
/-! ### laws_toBits: function 18 -/
def laws_toBits.f (k : Nat) (a0_0 : Int) (l0_1 : List Int) : Option (Int × List Int) := (laws_toIntS.f k l0_1).bind fun t258 => (some (a0_0, t258))
theorem laws_toBits.mono : ∀ a0 a1 k, LeO (laws_toBits.f k a0 a1) (laws_toBits.f (k + 1) a0 a1) := by
  intro a0 a1 k
  unfold laws_toBits.f
  repeat' first
      | (with_reducible exact laws_toIntS.mono _ _)
      | (with_reducible exact LeO.refl _)
      | (with_reducible exact LeO.none _)
      | (with_reducible refine LeO.ite ?_ ?_)
      | (with_reducible refine LeO.bind ?_ (fun _ => ?_))
      | exact laws_toIntS.mono _ _
      | exact LeO.none _
      | refine LeO.ite ?_ ?_
      | refine LeO.bind ?_ (fun _ => ?_)
noncomputable def laws_toBits.F (a0_0 : Int) (l0_1 : List Int) : Option (Int × List Int) := lim fun k => laws_toBits.f k a0_0 l0_1
theorem laws_toBits.F_sup (a0_0 : Int) (l0_1 : List Int) : Sup (fun k => laws_toBits.f k a0_0 l0_1) (laws_toBits.F a0_0 l0_1) := Sup.of_mono fun k => laws_toBits.mono a0_0 l0_1 k
theorem laws_toBits.F_eq (a0_0 : Int) (l0_1 : List Int) : laws_toBits.F a0_0 l0_1 = (laws_toIntS.F l0_1).bind fun t258 => (some (a0_0, t258)) := by
  refine Sup.unique (laws_toBits.F_sup a0_0 l0_1) (Sup.congr (g' := fun k => (laws_toIntS.f k l0_1).bind fun t258 => (some (a0_0, t258))) (fun k => by first | rfl | simp only [laws_toBits.f]) ?_)
  repeat' first
    | (with_reducible exact laws_toIntS.F_sup _)
    | (with_reducible refine Sup.ite ?_ ?_)
    | (with_reducible refine Sup.bind ?_ (fun _ => ?_))
    | (with_reducible exact Sup.const _)
    | exact laws_toIntS.F_sup _
    | exact Sup.const _
set_option maxHeartbeats 8000000 in
set_option maxRecDepth 100000 in
theorem laws_toBits.calls (k : Nat) (a0_0 : Int) (A0_1 : Option Addr) (c0_1 : Nat) (l0_1 : List Int) (r1 : Int) (r2 : List Int) (w : World) (hr0_1 : Kd.C (Kd.int .i64) w A0_1 l0_1.length l0_1) (hc0_1 : l0_1.length ≤ c0_1) (h : laws_toBits.f k a0_0 l0_1 = some (r1, r2)) :
    Calls Try.prog 18 #[.agg #[.int .i64 a0_0, .slice A0_1 l0_1.length c0_1]] w fun e w' => ∃ v1_ : Value, e = .returned (.agg #[.int .i64 r1, v1_]) ∧ Kd.R (Kd.int .i64) 3 w' w.heap.size (fun _ => True) v1_ r2 ∧ Below w.heap.size w w' := by
  have hu24 := Try.underlying24; have hu30 := Try.underlying30; have hu22 := Try.underlying22; have HR0_1 := Qx hr0_1; have HC0_1 := Qx hc0_1; clear hr0_1 hc0_1
  have HB := Qx (Below.refl w.heap.size w)
  have H : ((laws_toIntS.f k l0_1).bind fun t258 => (some (a0_0, t258))) = some (r1, r2) := h
  clear h; replace H := Option.bind_eq_some_iff.mp H; obtain ⟨t258, A20, H⟩ := H
  have A2 := Qx A20; clear A20; simp only [Option.some.injEq, Prod.mk.injEq] at H; obtain ⟨rfl, rfl⟩ := H
  go_enter Try.func18, Try.ntmps18
  go_wp2_with (first | ((with_reducible refine gate_dst (N := 1) rfl ?_); refine bx_ 1 #[.int .i64 a0_0, .slice A0_1 l0_1.length c0_1] 24 ?_; intro gb255 hg w3 hbox hb; have BK255 := Qx (hbox); have GW255 := Qx ((ge_ hg)); have GE255 := Qx ((ge_ hg)); replace HB := Qx (Qp hB_ hb); clear hb hbox hg) | ((with_reducible refine gate_dst (N := 2) rfl ?_); refine bx_ 2 #[.int .i64 0, .slice none 0 0] 30 ?_; intro gb256 hg w4 hbox hb; have BK256 := Qx (hbox); have GW256 := Qx ((ge_ hg)); have GE256 := Qx ((ge_ hg)); replace HB := Qx (Qp hB_ hb); have NB255_256 := Qx ((ne_ hg BK255)); have NB256_255 := Qx ((nf_ hg BK255)); replace BK255 := Qx (Qb (kB_ BK255) hb); clear hb hbox hg) | ((with_reducible refine gate_dst (N := 3) rfl ?_); refine bx_ 3 #[.int .i64 0, .slice none 0 0] 30 ?_; intro gb257 hg w5 hbox hb; have BK257 := Qx (hbox); have GW257 := Qx ((ge_ hg)); have GE257 := Qx ((ge_ hg)); replace HB := Qx (Qp hB_ hb); have NB255_257 := Qx ((ne_ hg BK255)); have NB257_255 := Qx ((nf_ hg BK255)); replace BK255 := Qx (Qb (kB_ BK255) hb); have NB256_257 := Qx ((ne_ hg BK256)); have NB257_256 := Qx ((nf_ hg BK256)); replace BK256 := Qx (Qb (kB_ BK256) hb); clear hb hbox hg; have hnb6 := NB255_256.out; have hnc6 := NB256_255.out; have hnb7 := NB255_257.out; have hnc7 := NB257_255.out; obtain ⟨hcz8_0, hcz8_1, hfz8_0, hfz8_1⟩ := cellsQ2_g1c (w := w5) BK255.out; have hnb9 := NB257_256.out; have hnc9 := NB256_257.out; obtain ⟨hcz10_0, hcz10_1, hfz10_0, hfz10_1⟩ := cellsQ2_g1c (w := w5) BK257.out) | ((with_reducible refine gate_callee (f := 37) rfl ?_); refine gl_ 9 Try.func37 #[.slice A0_1 l0_1.length c0_1] ?_; (with_reducible refine (laws_toIntS.calls k _ _ l0_1 t258 _ ?side1 ?side2 A2.out).mono ?_); (case side1 => exact Kd.C_below HR0_1.out hB_); (case side2 => exact HC0_1.out); rintro e w11 ⟨v259, rfl, ho0, hb⟩; refine ⟨_, rfl, ?_⟩; have HO260 := Qx (Kd.R_lower ho0 (Qz hB_)); replace BK255 := Qx (Qb (g := gb255) (o := .cells #[.int .i64 a0_0, .slice A0_1 l0_1.length c0_1] 24 (0, 0)) (by (with_reducible repeat (first | refine Qm ?_ _ | refine Qw ?_ | refine Qk ?_ _)); refine Qr ?_ NB255_257.out _; (with_reducible repeat (first | refine Qm ?_ _ | refine Qw ?_ | refine Qk ?_ _)); exact BK255.out) hb); replace BK256 := Qx (Qb (g := gb256) (o := .cells #[.int .i64 0, .slice none 0 0] 30 (0, 0)) (by (with_reducible repeat (first | refine Qm ?_ _ | refine Qw ?_ | refine Qk ?_ _)); refine Qr ?_ NB256_257.out _; (with_reducible repeat (first | refine Qm ?_ _ | refine Qw ?_ | refine Qk ?_ _)); exact BK256.out) hb); replace BK257 := Qx (Qb (g := gb257) (o := .cells #[.int .i64 a0_0, .slice none 0 0] 30 (0, 0)) (by (with_reducible repeat (first | refine Qm ?_ _ | refine Qw ?_ | refine Qk ?_ _)); refine Qu (cs := #[.int .i64 0, .slice none 0 0]) ?_ 0 _ rfl; (with_reducible repeat (first | refine Qm ?_ _ | refine Qw ?_ | refine Qk ?_ _)); exact BK257.out) hb); replace HB := Qx (Qp hB_ hb); (try clear hb); (try clear hb2); (try clear hk); (try clear hi); (try clear ho0); obtain ⟨Ao12, co12, eo12⟩ := Kd.R_slice HO260.out; subst eo12; obtain ⟨hcz13_0, hcz13_1, hfz13_0, hfz13_1⟩ := cellsQ2_g1c (w := w11) BK257.out; obtain ⟨hcz14_0, hcz14_1, hfz14_0, hfz14_1⟩ := cellsQ2_g1c (w := w11) BK256.out))
  refine bodyPost_ret (results_cell_row rfl _ _ gb256 30 #[.int .i64 a0_0, .slice Ao12 t258.length co12] (0, 0) _ rfl (by (with_reducible repeat (first | refine Qm ?_ _ | refine Qw ?_ | refine Qk ?_ _)); refine Qu (cs := #[.int .i64 a0_0, .slice none 0 0]) ?_ 1 _ rfl; (with_reducible repeat (first | refine Qm ?_ _ | refine Qw ?_ | refine Qk ?_ _)); refine Qu (cs := #[.int .i64 0, .slice none 0 0]) ?_ 0 _ rfl; (with_reducible repeat (first | refine Qm ?_ _ | refine Qw ?_ | refine Qk ?_ _)); refine Qr ?_ NB256_257.out _; (with_reducible repeat (first | refine Qm ?_ _ | refine Qw ?_ | refine Qk ?_ _)); exact BK256.out) Try.underlying30 rfl (by kernel_rfl)) rfl ?_
  exact ⟨_, rf_, by (with_reducible repeat (first | apply Qra | apply Qrn | apply Qrd)); exact Qrm (Qrf (p := ⟨gb256, 1, none⟩) (Qrf (p := ⟨gb256, 0, none⟩) (Qrf (p := ⟨gb257, 1, none⟩) (Kd.R_types (Kd.R_types HO260.out BK257.out (by decide)) BK256.out (by decide)) (fun _ hk => hk.1.2) (.slice Ao12 t258.length co12)) (fun _ hk => hk.2) (.int .i64 a0_0)) (fun _ hk => hk.2) (.slice Ao12 t258.length co12)) (fun _ hk => trivial), hB_⟩
/-! ### laws_toSparse: function 6 -/
def laws_toSparse.f (k : Nat) (a0_0 : Int) (a0_1 : Int) (a0_2 : Int) (a0_3 : Int) (l0_4 : List Int) (a0_5 : Int) (l0_6 : List Int) : Option (Int × Int × Int × Int × List Int × Int × List Int) := (laws_toBits.f k a0_3 l0_4).bind fun bt264 => ((laws_toBits.f k a0_5 l0_6).bind fun bt268 => (some (a0_0, a0_1, a0_2, bt264.1, bt264.2, bt268.1, bt268.2)))
theorem laws_toSparse.mono : ∀ a0 a1 a2 a3 a4 a5 a6 k, LeO (laws_toSparse.f k a0 a1 a2 a3 a4 a5 a6) (laws_toSparse.f (k + 1) a0 a1 a2 a3 a4 a5 a6) := by
  intro a0 a1 a2 a3 a4 a5 a6 k
  unfold laws_toSparse.f
  repeat' first
      | (with_reducible exact laws_toBits.mono _ _ _)
      | (with_reducible exact LeO.refl _)
      | (with_reducible exact LeO.none _)
      | (with_reducible refine LeO.ite ?_ ?_)
      | (with_reducible refine LeO.bind ?_ (fun _ => ?_))
      | exact laws_toBits.mono _ _ _
      | exact LeO.none _
      | refine LeO.ite ?_ ?_
      | refine LeO.bind ?_ (fun _ => ?_)
noncomputable def laws_toSparse.F (a0_0 : Int) (a0_1 : Int) (a0_2 : Int) (a0_3 : Int) (l0_4 : List Int) (a0_5 : Int) (l0_6 : List Int) : Option (Int × Int × Int × Int × List Int × Int × List Int) := lim fun k => laws_toSparse.f k a0_0 a0_1 a0_2 a0_3 l0_4 a0_5 l0_6
theorem laws_toSparse.F_sup (a0_0 : Int) (a0_1 : Int) (a0_2 : Int) (a0_3 : Int) (l0_4 : List Int) (a0_5 : Int) (l0_6 : List Int) : Sup (fun k => laws_toSparse.f k a0_0 a0_1 a0_2 a0_3 l0_4 a0_5 l0_6) (laws_toSparse.F a0_0 a0_1 a0_2 a0_3 l0_4 a0_5 l0_6) := Sup.of_mono fun k => laws_toSparse.mono a0_0 a0_1 a0_2 a0_3 l0_4 a0_5 l0_6 k
theorem laws_toSparse.F_eq (a0_0 : Int) (a0_1 : Int) (a0_2 : Int) (a0_3 : Int) (l0_4 : List Int) (a0_5 : Int) (l0_6 : List Int) : laws_toSparse.F a0_0 a0_1 a0_2 a0_3 l0_4 a0_5 l0_6 = (laws_toBits.F a0_3 l0_4).bind fun bt264 => ((laws_toBits.F a0_5 l0_6).bind fun bt268 => (some (a0_0, a0_1, a0_2, bt264.1, bt264.2, bt268.1, bt268.2))) := by
  refine Sup.unique (laws_toSparse.F_sup a0_0 a0_1 a0_2 a0_3 l0_4 a0_5 l0_6) (Sup.congr (g' := fun k => (laws_toBits.f k a0_3 l0_4).bind fun bt264 => ((laws_toBits.f k a0_5 l0_6).bind fun bt268 => (some (a0_0, a0_1, a0_2, bt264.1, bt264.2, bt268.1, bt268.2)))) (fun k => by first | rfl | simp only [laws_toSparse.f]) ?_)
  repeat' first
    | (with_reducible exact laws_toBits.F_sup _ _)
    | (with_reducible refine Sup.ite ?_ ?_)
    | (with_reducible refine Sup.bind ?_ (fun _ => ?_))
    | (with_reducible exact Sup.const _)
    | exact laws_toBits.F_sup _ _
    | exact Sup.const _
set_option maxHeartbeats 8000000 in
set_option maxRecDepth 100000 in
theorem laws_toSparse.calls (k : Nat) (a0_0 : Int) (a0_1 : Int) (a0_2 : Int) (a0_3 : Int) (A0_4 : Option Addr) (c0_4 : Nat) (l0_4 : List Int) (a0_5 : Int) (A0_6 : Option Addr) (c0_6 : Nat) (l0_6 : List Int) (r1 : Int) (r2 : Int) (r3 : Int) (r4 : Int) (r5 : List Int) (r6 : Int) (r7 : List Int) (w : World) (hr0_4 : Kd.C (Kd.int .i64) w A0_4 l0_4.length l0_4) (hc0_4 : l0_4.length ≤ c0_4) (hr0_6 : Kd.C (Kd.int .i64) w A0_6 l0_6.length l0_6) (hc0_6 : l0_6.length ≤ c0_6) (h : laws_toSparse.f k a0_0 a0_1 a0_2 a0_3 l0_4 a0_5 l0_6 = some (r1, r2, r3, r4, r5, r6, r7)) :
    Calls Try.prog 6 #[.agg #[.int .i64 a0_0, .int .i64 a0_1, .int .i64 a0_2, .int .i64 a0_3, .slice A0_4 l0_4.length c0_4, .int .i64 a0_5, .slice A0_6 l0_6.length c0_6]] w fun e w' => ∃ v4_ v6_ : Value, e = .returned (.agg #[.int .i64 r1, .int .i64 r2, .int .i64 r3, .int .i64 r4, v4_, .int .i64 r6, v6_]) ∧ Kd.R (Kd.int .i64) 3 w' w.heap.size (fun k_ => some k_ ≠ (v6_ : Value).ownBlock) v4_ r5 ∧ Kd.R (Kd.int .i64) 3 w' w.heap.size (fun k_ => some k_ ≠ (v4_ : Value).ownBlock) v6_ r7 ∧ Below w.heap.size w w' := by
  have hu26 := Try.underlying26; have hu32 := Try.underlying32; have hu24 := Try.underlying24; have hu30 := Try.underlying30; have HR0_4 := Qx hr0_4; have HC0_4 := Qx hc0_4; clear hr0_4 hc0_4; have HR0_6 := Qx hr0_6; have HC0_6 := Qx hc0_6; clear hr0_6 hc0_6
  have HB := Qx (Below.refl w.heap.size w)
  have H : ((laws_toBits.f k a0_3 l0_4).bind fun bt264 => ((laws_toBits.f k a0_5 l0_6).bind fun bt268 => (some (a0_0, a0_1, a0_2, bt264.1, bt264.2, bt268.1, bt268.2)))) = some (r1, r2, r3, r4, r5, r6, r7) := h
  clear h; replace H := Option.bind_eq_some_iff.mp H; obtain ⟨⟨t264, t265⟩, A20, H⟩ := H
  have A2 := Qx A20; clear A20; replace H := Option.bind_eq_some_iff.mp H; obtain ⟨⟨t268, t269⟩, A30, H⟩ := H
  have A3 := Qx A30; clear A30; simp only [Option.some.injEq, Prod.mk.injEq] at H; obtain ⟨rfl, rfl, rfl, rfl, rfl, rfl, rfl⟩ := H
  go_enter Try.func6, Try.ntmps6
  go_wp2_with (first | ((with_reducible refine gate_dst (N := 1) rfl ?_); refine bx_ 1 #[.int .i64 a0_0, .int .i64 a0_1, .int .i64 a0_2, .int .i64 a0_3, .slice A0_4 l0_4.length c0_4, .int .i64 a0_5, .slice A0_6 l0_6.length c0_6] 26 ?_; intro gb261 hg w4 hbox hb; have BK261 := Qx (hbox); have GW261 := Qx ((ge_ hg)); have GE261 := Qx ((ge_ hg)); replace HB := Qx (Qp hB_ hb); clear hb hbox hg) | ((with_reducible refine gate_dst (N := 2) rfl ?_); refine bx_ 2 #[.int .i64 0, .int .i64 0, .int .i64 0, .int .i64 0, .slice none 0 0, .int .i64 0, .slice none 0 0] 32 ?_; intro gb262 hg w5 hbox hb; have BK262 := Qx (hbox); have GW262 := Qx ((ge_ hg)); have GE262 := Qx ((ge_ hg)); replace HB := Qx (Qp hB_ hb); have NB261_262 := Qx ((ne_ hg BK261)); have NB262_261 := Qx ((nf_ hg BK261)); replace BK261 := Qx (Qb (kB_ BK261) hb); clear hb hbox hg) | ((with_reducible refine gate_dst (N := 3) rfl ?_); refine bx_ 3 #[.int .i64 0, .int .i64 0, .int .i64 0, .int .i64 0, .slice none 0 0, .int .i64 0, .slice none 0 0] 32 ?_; intro gb263 hg w6 hbox hb; have BK263 := Qx (hbox); have GW263 := Qx ((ge_ hg)); have GE263 := Qx ((ge_ hg)); replace HB := Qx (Qp hB_ hb); have NB261_263 := Qx ((ne_ hg BK261)); have NB263_261 := Qx ((nf_ hg BK261)); replace BK261 := Qx (Qb (kB_ BK261) hb); have NB262_263 := Qx ((ne_ hg BK262)); have NB263_262 := Qx ((nf_ hg BK262)); replace BK262 := Qx (Qb (kB_ BK262) hb); clear hb hbox hg; have hnb7 := NB261_262.out; have hnc7 := NB262_261.out; have hnb8 := NB261_263.out; have hnc8 := NB263_261.out; obtain ⟨hcz9_0, hcz9_1, hcz9_2, hcz9_3, hcz9_4, hcz9_5, hcz9_6, hfz9_0, hfz9_1, hfz9_2, hfz9_3, hfz9_4, hfz9_5, hfz9_6⟩ := cellsQ7_g1c (w := w6) BK261.out; have hnb10 := NB263_262.out; have hnc10 := NB262_263.out; obtain ⟨hcz11_0, hcz11_1, hcz11_2, hcz11_3, hcz11_4, hcz11_5, hcz11_6, hfz11_0, hfz11_1, hfz11_2, hfz11_3, hfz11_4, hfz11_5, hfz11_6⟩ := cellsQ7_g1c (w := w6) BK263.out) | ((with_reducible refine gate_callee (f := 18) rfl ?_); refine gl_ 15 Try.func18 #[.agg #[.int .i64 a0_3, .slice A0_4 l0_4.length c0_4]] ?_; (with_reducible refine (laws_toBits.calls k a0_3 _ _ l0_4 t264 t265 _ ?side1 ?side2 A2.out).mono ?_); (case side1 => exact Kd.C_below HR0_4.out hB_); (case side2 => exact HC0_4.out); rintro e w12 ⟨v266, rfl, ho0, hb⟩; refine ⟨_, rfl, ?_⟩; have HO267 := Qx (Kd.R_lower ho0 (Qz hB_)); replace BK261 := Qx (Qb (g := gb261) (o := .cells #[.int .i64 a0_0, .int .i64 a0_1, .int .i64 a0_2, .int .i64 a0_3, .slice A0_4 l0_4.length c0_4, .int .i64 a0_5, .slice A0_6 l0_6.length c0_6] 26 (0, 0)) (by (with_reducible repeat (first | refine Qm ?_ _ | refine Qw ?_ | refine Qk ?_ _)); refine Qr ?_ NB261_263.out _; (with_reducible repeat (first | refine Qm ?_ _ | refine Qw ?_ | refine Qk ?_ _)); refine Qr ?_ NB261_263.out _; (with_reducible repeat (first | refine Qm ?_ _ | refine Qw ?_ | refine Qk ?_ _)); refine Qr ?_ NB261_263.out _; (with_reducible repeat (first | refine Qm ?_ _ | refine Qw ?_ | refine Qk ?_ _)); exact BK261.out) hb); replace BK262 := Qx (Qb (g := gb262) (o := .cells #[.int .i64 0, .int .i64 0, .int .i64 0, .int .i64 0, .slice none 0 0, .int .i64 0, .slice none 0 0] 32 (0, 0)) (by (with_reducible repeat (first | refine Qm ?_ _ | refine Qw ?_ | refine Qk ?_ _)); refine Qr ?_ NB262_263.out _; (with_reducible repeat (first | refine Qm ?_ _ | refine Qw ?_ | refine Qk ?_ _)); refine Qr ?_ NB262_263.out _; (with_reducible repeat (first | refine Qm ?_ _ | refine Qw ?_ | refine Qk ?_ _)); refine Qr ?_ NB262_263.out _; (with_reducible repeat (first | refine Qm ?_ _ | refine Qw ?_ | refine Qk ?_ _)); exact BK262.out) hb); replace BK263 := Qx (Qb (g := gb263) (o := .cells #[.int .i64 a0_0, .int .i64 a0_1, .int .i64 a0_2, .int .i64 0, .slice none 0 0, .int .i64 0, .slice none 0 0] 32 (0, 0)) (by (with_reducible repeat (first | refine Qm ?_ _ | refine Qw ?_ | refine Qk ?_ _)); refine Qu (cs := #[.int .i64 a0_0, .int .i64 a0_1, .int .i64 0, .int .i64 0, .slice none 0 0, .int .i64 0, .slice none 0 0]) ?_ 2 _ rfl; (with_reducible repeat (first | refine Qm ?_ _ | refine Qw ?_ | refine Qk ?_ _)); refine Qu (cs := #[.int .i64 a0_0, .int .i64 0, .int .i64 0, .int .i64 0, .slice none 0 0, .int .i64 0, .slice none 0 0]) ?_ 1 _ rfl; (with_reducible repeat (first | refine Qm ?_ _ | refine Qw ?_ | refine Qk ?_ _)); refine Qu (cs := #[.int .i64 0, .int .i64 0, .int .i64 0, .int .i64 0, .slice none 0 0, .int .i64 0, .slice none 0 0]) ?_ 0 _ rfl; (with_reducible repeat (first | refine Qm ?_ _ | refine Qw ?_ | refine Qk ?_ _)); exact BK263.out) hb); replace HB := Qx (Qp hB_ hb); (try clear hb); (try clear hb2); (try clear hk); (try clear hi); (try clear ho0); obtain ⟨hcz13_0, hcz13_1, hcz13_2, hcz13_3, hcz13_4, hcz13_5, hcz13_6, hfz13_0, hfz13_1, hfz13_2, hfz13_3, hfz13_4, hfz13_5, hfz13_6⟩ := cellsQ7_g1c (w := w12) BK263.out; obtain ⟨Ao14, co14, eo14⟩ := Kd.R_slice HO267.out; subst eo14; obtain ⟨hcz15_0, hcz15_1, hcz15_2, hcz15_3, hcz15_4, hcz15_5, hcz15_6, hfz15_0, hfz15_1, hfz15_2, hfz15_3, hfz15_4, hfz15_5, hfz15_6⟩ := cellsQ7_g1c (w := w12) BK261.out) | ((with_reducible refine gate_callee (f := 18) rfl ?_); refine gl_ 19 Try.func18 #[.agg #[.int .i64 a0_5, .slice A0_6 l0_6.length c0_6]] ?_; (with_reducible refine (laws_toBits.calls k a0_5 _ _ l0_6 t268 t269 _ ?side1 ?side2 A3.out).mono ?_); (case side1 => exact Kd.C_below HR0_6.out hB_); (case side2 => exact HC0_6.out); rintro e w16 ⟨v270, rfl, ho0, hb⟩; refine ⟨_, rfl, ?_⟩; have HO271 := Qx (Kd.R_lower (Kd.R_new' ho0 (Kd.R_lt (by (with_reducible repeat (first | apply Qra | apply Qrn | apply Qrd)); exact (Qrm (Qrf (p := ⟨gb263, 4, none⟩) (Qrf (p := ⟨gb263, 3, none⟩) (Kd.R_types HO267.out BK263.out (by decide)) (fun _ hk => hk.2) (.int .i64 t264)) (fun _ hk => hk.2) (.slice Ao14 t265.length co14)) (fun _ h_ => h_.1))))) (Qz hB_)); replace HO267 := Qx (Kd.R_elder' (by (with_reducible repeat (first | apply Qra | apply Qrn | apply Qrd)); exact (Qrm (Qrf (p := ⟨gb263, 4, none⟩) (Qrf (p := ⟨gb263, 3, none⟩) (Kd.R_types HO267.out BK263.out (by decide)) (fun _ hk => hk.2) (.int .i64 t264)) (fun _ hk => hk.2) (.slice Ao14 t265.length co14)) (fun _ h_ => h_.1))) (Kd.R_base ho0) hb); replace BK261 := Qx (Qb (g := gb261) (o := .cells #[.int .i64 a0_0, .int .i64 a0_1, .int .i64 a0_2, .int .i64 a0_3, .slice A0_4 l0_4.length c0_4, .int .i64 a0_5, .slice A0_6 l0_6.length c0_6] 26 (0, 0)) (by (with_reducible repeat (first | refine Qm ?_ _ | refine Qw ?_ | refine Qk ?_ _)); refine Qr ?_ NB261_263.out _; (with_reducible repeat (first | refine Qm ?_ _ | refine Qw ?_ | refine Qk ?_ _)); refine Qr ?_ NB261_263.out _; (with_reducible repeat (first | refine Qm ?_ _ | refine Qw ?_ | refine Qk ?_ _)); exact BK261.out) hb); replace BK262 := Qx (Qb (g := gb262) (o := .cells #[.int .i64 0, .int .i64 0, .int .i64 0, .int .i64 0, .slice none 0 0, .int .i64 0, .slice none 0 0] 32 (0, 0)) (by (with_reducible repeat (first | refine Qm ?_ _ | refine Qw ?_ | refine Qk ?_ _)); refine Qr ?_ NB262_263.out _; (with_reducible repeat (first | refine Qm ?_ _ | refine Qw ?_ | refine Qk ?_ _)); refine Qr ?_ NB262_263.out _; (with_reducible repeat (first | refine Qm ?_ _ | refine Qw ?_ | refine Qk ?_ _)); exact BK262.out) hb); replace BK263 := Qx (Qb (g := gb263) (o := .cells #[.int .i64 a0_0, .int .i64 a0_1, .int .i64 a0_2, .int .i64 t264, .slice Ao14 t265.length co14, .int .i64 0, .slice none 0 0] 32 (0, 0)) (by (with_reducible repeat (first | refine Qm ?_ _ | refine Qw ?_ | refine Qk ?_ _)); refine Qu (cs := #[.int .i64 a0_0, .int .i64 a0_1, .int .i64 a0_2, .int .i64 t264, .slice none 0 0, .int .i64 0, .slice none 0 0]) ?_ 4 _ rfl; (with_reducible repeat (first | refine Qm ?_ _ | refine Qw ?_ | refine Qk ?_ _)); refine Qu (cs := #[.int .i64 a0_0, .int .i64 a0_1, .int .i64 a0_2, .int .i64 0, .slice none 0 0, .int .i64 0, .slice none 0 0]) ?_ 3 _ rfl; (with_reducible repeat (first | refine Qm ?_ _ | refine Qw ?_ | refine Qk ?_ _)); exact BK263.out) hb); replace HB := Qx (Qp hB_ hb); (try clear hb); (try clear hb2); (try clear hk); (try clear hi); (try clear ho0); obtain ⟨hcz17_0, hcz17_1, hcz17_2, hcz17_3, hcz17_4, hcz17_5, hcz17_6, hfz17_0, hfz17_1, hfz17_2, hfz17_3, hfz17_4, hfz17_5, hfz17_6⟩ := cellsQ7_g1c (w := w16) BK263.out; obtain ⟨Ao18, co18, eo18⟩ := Kd.R_slice HO271.out; subst eo18; obtain ⟨hcz19_0, hcz19_1, hcz19_2, hcz19_3, hcz19_4, hcz19_5, hcz19_6, hfz19_0, hfz19_1, hfz19_2, hfz19_3, hfz19_4, hfz19_5, hfz19_6⟩ := cellsQ7_g1c (w := w16) BK262.out))
  refine bodyPost_ret (results_cell_row rfl _ _ gb262 32 #[.int .i64 a0_0, .int .i64 a0_1, .int .i64 a0_2, .int .i64 t264, .slice Ao14 t265.length co14, .int .i64 t268, .slice Ao18 t269.length co18] (0, 0) _ rfl (by (with_reducible repeat (first | refine Qm ?_ _ | refine Qw ?_ | refine Qk ?_ _)); refine Qu (cs := #[.int .i64 a0_0, .int .i64 a0_1, .int .i64 a0_2, .int .i64 t264, .slice Ao14 t265.length co14, .int .i64 t268, .slice none 0 0]) ?_ 6 _ rfl; (with_reducible repeat (first | refine Qm ?_ _ | refine Qw ?_ | refine Qk ?_ _)); refine Qu (cs := #[.int .i64 a0_0, .int .i64 a0_1, .int .i64 a0_2, .int .i64 t264, .slice Ao14 t265.length co14, .int .i64 0, .slice none 0 0]) ?_ 5 _ rfl; (with_reducible repeat (first | refine Qm ?_ _ | refine Qw ?_ | refine Qk ?_ _)); refine Qu (cs := #[.int .i64 a0_0, .int .i64 a0_1, .int .i64 a0_2, .int .i64 t264, .slice none 0 0, .int .i64 0, .slice none 0 0]) ?_ 4 _ rfl; (with_reducible repeat (first | refine Qm ?_ _ | refine Qw ?_ | refine Qk ?_ _)); refine Qu (cs := #[.int .i64 a0_0, .int .i64 a0_1, .int .i64 a0_2, .int .i64 0, .slice none 0 0, .int .i64 0, .slice none 0 0]) ?_ 3 _ rfl; (with_reducible repeat (first | refine Qm ?_ _ | refine Qw ?_ | refine Qk ?_ _)); refine Qu (cs := #[.int .i64 a0_0, .int .i64 a0_1, .int .i64 0, .int .i64 0, .slice none 0 0, .int .i64 0, .slice none 0 0]) ?_ 2 _ rfl; (with_reducible repeat (first | refine Qm ?_ _ | refine Qw ?_ | refine Qk ?_ _)); refine Qu (cs := #[.int .i64 a0_0, .int .i64 0, .int .i64 0, .int .i64 0, .slice none 0 0, .int .i64 0, .slice none 0 0]) ?_ 1 _ rfl; (with_reducible repeat (first | refine Qm ?_ _ | refine Qw ?_ | refine Qk ?_ _)); refine Qu (cs := #[.int .i64 0, .int .i64 0, .int .i64 0, .int .i64 0, .slice none 0 0, .int .i64 0, .slice none 0 0]) ?_ 0 _ rfl; (with_reducible repeat (first | refine Qm ?_ _ | refine Qw ?_ | refine Qk ?_ _)); refine Qr ?_ NB262_263.out _; (with_reducible repeat (first | refine Qm ?_ _ | refine Qw ?_ | refine Qk ?_ _)); refine Qr ?_ NB262_263.out _; (with_reducible repeat (first | refine Qm ?_ _ | refine Qw ?_ | refine Qk ?_ _)); exact BK262.out) Try.underlying32 rfl (by kernel_rfl)) rfl ?_
  exact ⟨_, _, rf_, by (with_reducible repeat (first | apply Qra | apply Qrn | apply Qrd)); exact Qrm (Qrf (p := ⟨gb262, 6, none⟩) (Qrf (p := ⟨gb262, 5, none⟩) (Qrf (p := ⟨gb262, 4, none⟩) (Qrf (p := ⟨gb262, 3, none⟩) (Qrf (p := ⟨gb262, 2, none⟩) (Qrf (p := ⟨gb262, 1, none⟩) (Qrf (p := ⟨gb262, 0, none⟩) (Qrf (p := ⟨gb263, 6, none⟩) (Qrf (p := ⟨gb263, 5, none⟩) (Kd.R_types (Kd.R_types HO267.out BK263.out (by decide)) BK262.out (by decide)) (fun _ hk => hk.1.2) (.int .i64 t268)) (fun _ hk => hk.1.2) (.slice Ao18 t269.length co18)) (fun _ hk => hk.2) (.int .i64 a0_0)) (fun _ hk => hk.2) (.int .i64 a0_1)) (fun _ hk => hk.2) (.int .i64 a0_2)) (fun _ hk => hk.2) (.int .i64 t264)) (fun _ hk => hk.2) (.slice Ao14 t265.length co14)) (fun _ hk => hk.2) (.int .i64 t268)) (fun _ hk => hk.2) (.slice Ao18 t269.length co18)) (fun _ hk => hk.1.1.2), by (with_reducible repeat (first | apply Qra | apply Qrn | apply Qrd)); exact Qrm (Qrf (p := ⟨gb262, 6, none⟩) (Qrf (p := ⟨gb262, 5, none⟩) (Qrf (p := ⟨gb262, 4, none⟩) (Qrf (p := ⟨gb262, 3, none⟩) (Qrf (p := ⟨gb262, 2, none⟩) (Qrf (p := ⟨gb262, 1, none⟩) (Qrf (p := ⟨gb262, 0, none⟩) (Qrf (p := ⟨gb263, 6, none⟩) (Qrf (p := ⟨gb263, 5, none⟩) (Kd.R_types (Kd.R_types HO271.out BK263.out (by decide)) BK262.out (by decide)) (fun _ hk => hk.1.2) (.int .i64 t268)) (fun _ hk => hk.1.2) (.slice Ao18 t269.length co18)) (fun _ hk => hk.2) (.int .i64 a0_0)) (fun _ hk => hk.2) (.int .i64 a0_1)) (fun _ hk => hk.2) (.int .i64 a0_2)) (fun _ hk => hk.2) (.int .i64 t264)) (fun _ hk => hk.2) (.slice Ao14 t265.length co14)) (fun _ hk => hk.2) (.int .i64 t268)) (fun _ hk => hk.2) (.slice Ao18 t269.length co18)) (fun _ hk => hk.1.1.2), hB_⟩
/-! ### impl_in: function 55 -/
def impl_in.f (a0 : Int) (a1 : Int) (a2 : Int) : Option (Bool) := if a0 ≥ a1 then (some (decide (a0 ≤ a2))) else (some false)
set_option maxHeartbeats 8000000 in
set_option maxRecDepth 100000 in
theorem impl_in.calls (a0 : Int) (a1 : Int) (a2 : Int) (r : Bool) (w : World) (h : impl_in.f a0 a1 a2 = some r) :
    Calls Try.prog 55 #[.int .i64 a0, .int .i64 a1, .int .i64 a2] w fun e w' => e = .returned (.bool r) ∧ Drawn0 w w' := by
  have H : (if a0 ≥ a1 then (some (decide (a0 ≤ a2))) else (some false)) = some r := h
  clear h
  by_cases c4 : a0 ≥ a1
  ·rw [if_pos c4] at H
   have c4b0 : decide (a1 ≤ a0) = true := decide_eq_true c4
   clear c4; obtain rfl := Option.some.inj H
   go_enter Try.func55, Try.ntmps55
   go_wp2
   go_ret
   exact ⟨rg_, by repeat (first | exact Drawn0.refl _ | apply Drawn0.step)⟩
  ·rw [if_neg c4] at H
   have c4b0 : decide (a1 ≤ a0) = false := decide_eq_false c4
   clear c4; obtain rfl := Option.some.inj H
   go_enter Try.func55, Try.ntmps55
   go_wp2
   go_ret
   exact ⟨rg_, by repeat (first | exact Drawn0.refl _ | apply Drawn0.step)⟩
/-! ### impl_limitOk: function 56 -/
def impl_limitOk.f (a0 : Int) : Option (Bool) := (impl_in.f a0 1 100000).bind fun t272 => (some t272)
set_option maxHeartbeats 8000000 in
set_option maxRecDepth 100000 in
theorem impl_limitOk.calls (a0 : Int) (r : Bool) (w : World) (h : impl_limitOk.f a0 = some r) :
    Calls Try.prog 56 #[.int .i64 a0] w fun e w' => e = .returned (.bool r) ∧ Drawn0 w w' := by
  have H : ((impl_in.f a0 1 100000).bind fun t272 => (some t272)) = some r := h
  clear h; replace H := Option.bind_eq_some_iff.mp H; obtain ⟨t272, A20, H⟩ := H
  have A2 := Qx A20; clear A20; obtain rfl := Option.some.inj H
  go_enter Try.func56, Try.ntmps56
  go_wp2_with (first | ((with_reducible refine gate_callee (f := 55) rfl ?_); refine gl_ 4 Try.func55 #[.int .i64 a0, .int .i64 1, .int .i64 100000] ?_; (with_reducible refine (impl_in.calls a0 1 100000 t272 _ A2.out).mono ?_); rintro e w' ⟨rfl, ⟨nd, rfl⟩⟩; refine ⟨_, rfl, ?_⟩))
  go_ret
  exact ⟨rg_, by repeat (first | exact Drawn0.refl _ | apply Drawn0.step)⟩
/-! ### impl_WidthFor: function 46 -/
mutual
def impl_WidthFor.j0 : Nat → Int → Int → Bool → Option (Int × Bool)
  | 0, _, _, _ => none
  | k + 1, x0, x1, x14 => if x14 = true then (some (0, false)) else (impl_WidthFor.l0 k x0 x1 0)
def impl_WidthFor.l0 : Nat → Int → Int → Int → Option (Int × Bool)
  | 0, _, _, _ => none
  | k + 1, x0, x1, x6 => if 0 ≤ (wrap64 (x6 + 1)) then (if (shl .i64 (mx x0 1) (wrap64 (x6 + 1))) ≤ x1 then (impl_WidthFor.l0 k x0 x1 (wrap64 (x6 + 1))) else (some (x6, true))) else (none)
end
def impl_WidthFor.f (k : Nat) (a0 : Int) (a1 : Int) : Option (Int × Bool) := (impl_in.f a0 0 60).bind fun t273 => (if t273 = true then ((impl_limitOk.f a1).bind fun t274 => (impl_WidthFor.j0 k a0 a1 (!t274))) else (impl_WidthFor.j0 k a0 a1 true))
theorem impl_WidthFor.mono_l : ∀ k, (∀ y0 y1 y2, LeO (impl_WidthFor.j0 k y0 y1 y2) (impl_WidthFor.j0 (k + 1) y0 y1 y2)) ∧ (∀ y0 y1 y2, LeO (impl_WidthFor.l0 k y0 y1 y2) (impl_WidthFor.l0 (k + 1) y0 y1 y2))
  | 0 => ⟨fun _ _ _ r h => by simp [impl_WidthFor.j0] at h, fun _ _ _ r h => by simp [impl_WidthFor.l0] at h⟩
  | k + 1 => by
    obtain ⟨ih0, ih1⟩ := impl_WidthFor.mono_l k
    refine ⟨?_, ?_⟩
    · intro y0 y1 y2
      unfold impl_WidthFor.j0
      repeat' first
      | (with_reducible exact ih0 _ _ _)
      | (with_reducible exact ih1 _ _ _)
      | (with_reducible exact LeO.refl _)
      | (with_reducible exact LeO.none _)
      | (with_reducible refine LeO.ite ?_ ?_)
      | (with_reducible refine LeO.bind ?_ (fun _ => ?_))
      | exact ih0 _ _ _
      | exact ih1 _ _ _
      | exact LeO.none _
      | refine LeO.ite ?_ ?_
      | refine LeO.bind ?_ (fun _ => ?_)
    · intro y0 y1 y2
      unfold impl_WidthFor.l0
      repeat' first
      | (with_reducible exact ih0 _ _ _)
      | (with_reducible exact ih1 _ _ _)
      | (with_reducible exact LeO.refl _)
      | (with_reducible exact LeO.none _)
      | (with_reducible refine LeO.ite ?_ ?_)
      | (with_reducible refine LeO.bind ?_ (fun _ => ?_))
      | exact ih0 _ _ _
      | exact ih1 _ _ _
      | exact LeO.none _
      | refine LeO.ite ?_ ?_
      | refine LeO.bind ?_ (fun _ => ?_)
theorem impl_WidthFor.mono : ∀ a0 a1 k, LeO (impl_WidthFor.f k a0 a1) (impl_WidthFor.f (k + 1) a0 a1) := by
  intro a0 a1 k
  obtain ⟨ih0, ih1⟩ := impl_WidthFor.mono_l k
  unfold impl_WidthFor.f
  repeat' first
      | (with_reducible exact ih0 _ _ _)
      | (with_reducible exact ih1 _ _ _)
      | (with_reducible exact LeO.refl _)
      | (with_reducible exact LeO.none _)
      | (with_reducible refine LeO.ite ?_ ?_)
      | (with_reducible refine LeO.bind ?_ (fun _ => ?_))
      | exact ih0 _ _ _
      | exact ih1 _ _ _
      | exact LeO.none _
      | refine LeO.ite ?_ ?_
      | refine LeO.bind ?_ (fun _ => ?_)
noncomputable def impl_WidthFor.J0 (y0 : Int) (y1 : Int) (y2 : Bool) : Option (Int × Bool) := lim fun k => impl_WidthFor.j0 k y0 y1 y2
theorem impl_WidthFor.J0_sup (y0 : Int) (y1 : Int) (y2 : Bool) : Sup (fun k => impl_WidthFor.j0 k y0 y1 y2) (impl_WidthFor.J0 y0 y1 y2) := Sup.of_mono fun k => (impl_WidthFor.mono_l k).1 y0 y1 y2
noncomputable def impl_WidthFor.L0 (y0 : Int) (y1 : Int) (y2 : Int) : Option (Int × Bool) := lim fun k => impl_WidthFor.l0 k y0 y1 y2
theorem impl_WidthFor.L0_sup (y0 : Int) (y1 : Int) (y2 : Int) : Sup (fun k => impl_WidthFor.l0 k y0 y1 y2) (impl_WidthFor.L0 y0 y1 y2) := Sup.of_mono fun k => (impl_WidthFor.mono_l k).2 y0 y1 y2
noncomputable def impl_WidthFor.F (a0 : Int) (a1 : Int) : Option (Int × Bool) := lim fun k => impl_WidthFor.f k a0 a1
theorem impl_WidthFor.F_sup (a0 : Int) (a1 : Int) : Sup (fun k => impl_WidthFor.f k a0 a1) (impl_WidthFor.F a0 a1) := Sup.of_mono fun k => impl_WidthFor.mono a0 a1 k
theorem impl_WidthFor.J0_eq (x0 : Int) (x1 : Int) (x14 : Bool) : impl_WidthFor.J0 x0 x1 x14 = if x14 = true then (some (0, false)) else (impl_WidthFor.L0 x0 x1 0) := by
  refine Sup.unique (impl_WidthFor.J0_sup x0 x1 x14) (Sup.shift (fun k => (impl_WidthFor.mono_l k).1 x0 x1 x14) (Sup.congr (g' := fun k => if x14 = true then (some (0, false)) else (impl_WidthFor.l0 k x0 x1 0)) (fun k => by first | rfl | simp only [impl_WidthFor.j0]) ?_))
  repeat' first
    | (with_reducible exact impl_WidthFor.J0_sup _ _ _)
    | (with_reducible exact impl_WidthFor.L0_sup _ _ _)
    | (with_reducible refine Sup.ite ?_ ?_)
    | (with_reducible refine Sup.bind ?_ (fun _ => ?_))
    | (with_reducible exact Sup.const _)
    | exact impl_WidthFor.J0_sup _ _ _
    | exact impl_WidthFor.L0_sup _ _ _
    | exact Sup.const _
theorem impl_WidthFor.L0_eq (x0 : Int) (x1 : Int) (x6 : Int) : impl_WidthFor.L0 x0 x1 x6 = if 0 ≤ (wrap64 (x6 + 1)) then (if (shl .i64 (mx x0 1) (wrap64 (x6 + 1))) ≤ x1 then (impl_WidthFor.L0 x0 x1 (wrap64 (x6 + 1))) else (some (x6, true))) else (none) := by
  refine Sup.unique (impl_WidthFor.L0_sup x0 x1 x6) (Sup.shift (fun k => (impl_WidthFor.mono_l k).2 x0 x1 x6) (Sup.congr (g' := fun k => if 0 ≤ (wrap64 (x6 + 1)) then (if (shl .i64 (mx x0 1) (wrap64 (x6 + 1))) ≤ x1 then (impl_WidthFor.l0 k x0 x1 (wrap64 (x6 + 1))) else (some (x6, true))) else (none)) (fun k => by first | rfl | simp only [impl_WidthFor.l0]) ?_))
  repeat' first
    | (with_reducible exact impl_WidthFor.J0_sup _ _ _)
    | (with_reducible exact impl_WidthFor.L0_sup _ _ _)
    | (with_reducible refine Sup.ite ?_ ?_)
    | (with_reducible refine Sup.bind ?_ (fun _ => ?_))
    | (with_reducible exact Sup.const _)
    | exact impl_WidthFor.J0_sup _ _ _
    | exact impl_WidthFor.L0_sup _ _ _
    | exact Sup.const _
theorem impl_WidthFor.F_eq (a0 : Int) (a1 : Int) : impl_WidthFor.F a0 a1 = (impl_in.f a0 0 60).bind fun t273 => (if t273 = true then ((impl_limitOk.f a1).bind fun t274 => (impl_WidthFor.J0 a0 a1 (!t274))) else (impl_WidthFor.J0 a0 a1 true)) := by
  refine Sup.unique (impl_WidthFor.F_sup a0 a1) (Sup.congr (g' := fun k => (impl_in.f a0 0 60).bind fun t273 => (if t273 = true then ((impl_limitOk.f a1).bind fun t274 => (impl_WidthFor.j0 k a0 a1 (!t274))) else (impl_WidthFor.j0 k a0 a1 true))) (fun k => by first | rfl | simp only [impl_WidthFor.f]) ?_)
  repeat' first
    | (with_reducible exact impl_WidthFor.J0_sup _ _ _)
    | (with_reducible exact impl_WidthFor.L0_sup _ _ _)
    | (with_reducible refine Sup.ite ?_ ?_)
    | (with_reducible refine Sup.bind ?_ (fun _ => ?_))
    | (with_reducible exact Sup.const _)
    | exact impl_WidthFor.J0_sup _ _ _
    | exact impl_WidthFor.L0_sup _ _ _
    | exact Sup.const _
set_option maxHeartbeats 8000000 in
set_option maxRecDepth 100000 in
theorem impl_WidthFor.calls (k : Nat) (a0 : Int) (a1 : Int) (r1 : Int) (r2 : Bool) (w : World) (h : impl_WidthFor.f k a0 a1 = some (r1, r2)) :
    Calls Try.prog 46 #[.int .i64 a0, .int .i64 a1] w fun e w' => e = .returned (.tuple #[.int .i64 r1, .bool r2]) ∧ Below w.heap.size w w' := by
  have HB := Qx (Below.refl w.heap.size w)
  have H : ((impl_in.f a0 0 60).bind fun t273 => (if t273 = true then ((impl_limitOk.f a1).bind fun t274 => (impl_WidthFor.j0 k a0 a1 (!t274))) else (impl_WidthFor.j0 k a0 a1 true))) = some (r1, r2) := h
  clear h; have HC3 := Qx H; clear H
  go_enter Try.func46, Try.ntmps46
  go_upto_region 1 with (fail)
  go_cut [14] (fun v14 wc => ∃ (kq : Nat) (x14_2 : Bool), v14 = .bool x14_2 ∧ Aside0 (impl_WidthFor.j0 kq a0 a1 x14_2 = some (r1, r2)) ∧ Aside0 (kq ≤ k) ∧ Aside0 (Below w.heap.size w wc))
  case first =>
   have H := HC3.out; clear HC3; replace H := Option.bind_eq_some_iff.mp H; obtain ⟨t273, A40, H⟩ := H
   have A4 := Qx A40; clear A40
   by_cases c5 : t273 = true
   ·subst c5
    have H1 : ((impl_limitOk.f a1).bind fun t274 => (impl_WidthFor.j0 k a0 a1 (!t274))) = some (r1, r2) := by rw [if_pos rfl] at H; exact H
    clear H; have H := H1; clear H1; replace H := Option.bind_eq_some_iff.mp H; obtain ⟨t274, A60, H⟩ := H
    have A6 := Qx A60; clear A60; have H' := Qx H; clear H
    go_wp2_with (first | ((with_reducible refine gate_callee (f := 55) rfl ?_); refine gl_ 8 Try.func55 #[.int .i64 a0, .int .i64 0, .int .i64 60] ?_; (with_reducible refine (impl_in.calls a0 0 60 true _ A4.out).mono ?_); rintro e w' ⟨rfl, ⟨nd, rfl⟩⟩; refine ⟨_, rfl, ?_⟩) | (go_at_call 56; (with_reducible refine (impl_limitOk.calls a1 t274 _ A6.out).mono ?_); rintro e w' ⟨rfl, ⟨nd, rfl⟩⟩))
    go_meet
    case rel => exact ⟨_, (!t274), rg_, H', ⟨by first | omega | exact Nat.le_refl _⟩, ⟨hB_⟩⟩
   ·replace c5 := Bool.eq_false_iff.mpr c5; subst c5
    have H1 : (impl_WidthFor.j0 k a0 a1 true) = some (r1, r2) := by rw [if_neg (show ¬ (false = true) by decide)] at H; exact H
    clear H; have H := H1; clear H1; have H' := Qx H; clear H
    go_wp2_with (first | ((with_reducible refine gate_callee (f := 55) rfl ?_); refine gl_ 8 Try.func55 #[.int .i64 a0, .int .i64 0, .int .i64 60] ?_; (with_reducible refine (impl_in.calls a0 0 60 false _ A4.out).mono ?_); rintro e w' ⟨rfl, ⟨nd, rfl⟩⟩; refine ⟨_, rfl, ?_⟩))
    go_meet
    case rel => exact ⟨_, (true), rg_, H', ⟨by first | omega | exact Nat.le_refl _⟩, ⟨hB_⟩⟩
  case rest =>
   clear HC3
   try clear p2
   try clear c4
   try clear c5
   obtain ⟨kq, x14_2, rfl, HA, HJ2, HB⟩ := hcut
   cases kq with
   | zero => exact absurd HA.out (by simp [impl_WidthFor.j0])
   | succ kj2 =>
    have H := HA.out; clear HA; simp only [impl_WidthFor.j0] at H
    by_cases c7 : x14_2 = true
    ·subst c7
     have H1 : (some (0, false)) = some (r1, r2) := by rw [if_pos rfl] at H; exact H
     clear H; have H := H1; clear H1; simp only [Option.some.injEq, Prod.mk.injEq] at H; obtain ⟨rfl, rfl⟩ := H
     go_wp2
     go_ret2
     exact ⟨rf_, hB_⟩
    ·replace c7 := Bool.eq_false_iff.mpr c7; subst c7
     have H1 : (impl_WidthFor.l0 kj2 a0 a1 0) = some (r1, r2) := by rw [if_neg (show ¬ (false = true) by decide)] at H; exact H
     clear H; have H := H1; clear H1; have H' := Qx H; clear H
     go_wp2
     go_loopg [6] kj2 (fun kq v6 w' => ∃ (x6_2 : Int), v6 = .int .i64 x6_2 ∧ Aside0 (impl_WidthFor.l0 kq a0 a1 x6_2 = some (r1, r2)) ∧ Aside0 (kq ≤ kj2) ∧ Aside0 (Below w.heap.size w w'))
     case atStart => exact ⟨(0), rg_, H', ⟨Nat.le_refl _⟩, ⟨hB_⟩⟩
     case round =>
      clear H'
      try clear p2
      try clear c4
      try clear c5
      try clear c7
      try clear p2
      obtain ⟨x6_2, rfl, HA, HK2, HB⟩ := hrel
      cases gk with
      | zero => exact absurd HA.out (by simp [impl_WidthFor.l0])
      | succ k2 =>
       have H := HA.out; clear HA; simp only [impl_WidthFor.l0] at H
       obtain ⟨ji8, hji8⟩ : ∃ j_ : Int, (mx a0 1) = j_ := ⟨_, rfl⟩
       replace H : (if 0 ≤ (wrap64 (x6_2 + 1)) then (if (shl .i64 (ji8) (wrap64 (x6_2 + 1))) ≤ a1 then (impl_WidthFor.l0 k2 a0 a1 (wrap64 (x6_2 + 1))) else (some (x6_2, true))) else (none)) = some (r1, r2) := by first | (rw [hji8] at H; exact H) | (simp only [hji8] at H ⊢; exact H)
       have hji8_ : (if a0 < 1 then 1 else a0) = ji8 := hji8
       obtain ⟨ji9, hji9⟩ : ∃ j_ : Int, (wrap64 (x6_2 + 1)) = j_ := ⟨_, rfl⟩
       replace H : (if 0 ≤ (ji9) then (if (shl .i64 (ji8) (ji9)) ≤ a1 then (impl_WidthFor.l0 k2 a0 a1 ji9) else (some (x6_2, true))) else (none)) = some (r1, r2) := by first | (rw [hji9] at H; exact H) | (simp only [hji9] at H ⊢; exact H)
       have hji9w : (IntKind.i64.wrap (x6_2 + 1)) = ji9 := (i64_w _).trans hji9
       by_cases c10 : 0 ≤ (ji9)
       ·rw [if_pos c10] at H; have c10b0 := eq_true c10
        have c10b1 : decide (0 ≤ (ji9)) = true := decide_eq_true c10
        clear c10
        obtain ⟨ji11, hji11⟩ : ∃ j_ : Int, (shl .i64 (ji8) (ji9)) = j_ := ⟨_, rfl⟩
        replace H : (if (ji11) ≤ a1 then (impl_WidthFor.l0 k2 a0 a1 ji9) else (some (x6_2, true))) = some (r1, r2) := by first | (rw [hji11] at H; exact H) | (simp only [hji11] at H ⊢; exact H)
        have hji11_ : (IntKind.i64.wrap ((ji8) * 2 ^ min (ji9).toNat 64)) = ji11 := hji11
        have hji11z : (ji9) ≤ 64 → (IntKind.i64.wrap ((ji8) * 2 ^ (ji9).toNat)) = ji11 := shl_small hji11
        have hji11y : (wrap64 ((ji8) * 2 ^ min (ji9).toNat 64)) = ji11 := (i64_w _).symm.trans hji11_
        have hji11x : (ji9) ≤ 64 → (wrap64 ((ji8) * 2 ^ (ji9).toNat)) = ji11 := fun h_ => (i64_w _).symm.trans (hji11z h_)
        by_cases c12 : (ji11) ≤ a1
        ·rw [if_pos c12] at H
         have c12b0 : decide ((ji11) ≤ a1) = true := decide_eq_true c12
         clear c12; have H' := Qx H; clear H
         go_wp2
         go_roundg k2
         case measure => have := HJ2.out; have := HK2.out; omega
         case rel => exact ⟨(ji9), (by first | rfl | (simp; done) | (simp only [← hji9] <;> (first | rfl | simp)) | (simp [*]; done)), H', ⟨by have := HJ2.out; have := HK2.out; omega⟩, ⟨hB_⟩⟩
        ·rw [if_neg c12] at H
         have c12b0 : decide ((ji11) ≤ a1) = false := decide_eq_false c12
         clear c12; simp only [Option.some.injEq, Prod.mk.injEq] at H; obtain ⟨rfl, rfl⟩ := H
         go_wp2
         go_ret2
         exact ⟨by first | rfl | (simp [errW_none, errW_some] <;> rfl) | (simp only [← hji8, ← hji9, ← hji11]; first | rfl | (simp [errW_none, errW_some] <;> rfl)) | (simp [*, errW_none, errW_some] <;> rfl), hB_⟩
       ·rw [if_neg c10] at H
        exact absurd H (by simp)
/-! ### impl_words: function 57 -/
def impl_words.f (a0 : Int) : Option (Int) := some (wrap64 (Int.tdiv (wrap64 ((wrap64 (a0 + 16)) - 1)) 16))
set_option maxHeartbeats 8000000 in
set_option maxRecDepth 100000 in
theorem impl_words.calls (a0 : Int) (r : Int) (w : World) (h : impl_words.f a0 = some r) :
    Calls Try.prog 57 #[.int .i64 a0] w fun e w' => e = .returned (.int .i64 r) ∧ Drawn0 w w' := by
  have H : (some (wrap64 (Int.tdiv (wrap64 ((wrap64 (a0 + 16)) - 1)) 16))) = some r := h
  clear h; obtain rfl := Option.some.inj H
  go_enter Try.func57, Try.ntmps57
  go_wp2
  go_ret
  exact ⟨rg_, by repeat (first | exact Drawn0.refl _ | apply Drawn0.step)⟩
/-! ### impl_IsBits: function 47 -/
mutual
def impl_IsBits.j0 : Nat → Bool → Int → List Int → Option (Bool)
  | 0, _, _, _ => none
  | k + 1, x18, x276000, x276001 => if x18 = true then (some false) else (impl_IsBits.l0 k x276001 (x276001.length : Int) 0 x276000 x276001)
def impl_IsBits.l0 : Nat → List Int → Int → Int → Int → List Int → Option (Bool)
  | 0, _, _, _, _, _ => none
  | k + 1, x20, x21, x22, x276000, x276001 => if x22 < x21 then (if 0 ≤ x22 then (if x22 < (x20.length : Int) then ((impl_in.f (rd x20 x22) 0 65535).bind fun t279 => (if t279 = true then (impl_IsBits.l0 k x20 x21 (wrap64 (x22 + 1)) x276000 x276001) else (some false))) else (none)) else (none)) else (if (Int.tmod x276000 16) = 0 then (some true) else (if 0 ≤ (wrap64 ((x276001.length : Int) - 1)) then (if (wrap64 ((x276001.length : Int) - 1)) < (x276001.length : Int) then (if 0 ≤ (Int.tmod x276000 16) then (some ((shr .i64 (rd x276001 (wrap64 ((x276001.length : Int) - 1))) (Int.tmod x276000 16)) == 0)) else (none)) else (none)) else (none)))
end
def impl_IsBits.f (k : Nat) (a0_0 : Int) (l0_1 : List Int) : Option (Bool) := (impl_in.f a0_0 0 4096).bind fun t276 => (if t276 = true then ((impl_words.f a0_0).bind fun t277 => (impl_IsBits.j0 k ((l0_1.length : Int) != t277) a0_0 l0_1)) else (impl_IsBits.j0 k true a0_0 l0_1))
theorem impl_IsBits.mono_l : ∀ k, (∀ y0 y1 y2, LeO (impl_IsBits.j0 k y0 y1 y2) (impl_IsBits.j0 (k + 1) y0 y1 y2)) ∧ (∀ y0 y1 y2 y3 y4, LeO (impl_IsBits.l0 k y0 y1 y2 y3 y4) (impl_IsBits.l0 (k + 1) y0 y1 y2 y3 y4))
  | 0 => ⟨fun _ _ _ r h => by simp [impl_IsBits.j0] at h, fun _ _ _ _ _ r h => by simp [impl_IsBits.l0] at h⟩
  | k + 1 => by
    obtain ⟨ih0, ih1⟩ := impl_IsBits.mono_l k
    refine ⟨?_, ?_⟩
    · intro y0 y1 y2
      unfold impl_IsBits.j0
      repeat' first
      | (with_reducible exact ih0 _ _ _)
      | (with_reducible exact ih1 _ _ _ _ _)
      | (with_reducible exact LeO.refl _)
      | (with_reducible exact LeO.none _)
      | (with_reducible refine LeO.ite ?_ ?_)
      | (with_reducible refine LeO.bind ?_ (fun _ => ?_))
      | exact ih0 _ _ _
      | exact ih1 _ _ _ _ _
      | exact LeO.none _
      | refine LeO.ite ?_ ?_
      | refine LeO.bind ?_ (fun _ => ?_)
    · intro y0 y1 y2 y3 y4
      unfold impl_IsBits.l0
      repeat' first
      | (with_reducible exact ih0 _ _ _)
      | (with_reducible exact ih1 _ _ _ _ _)
      | (with_reducible exact LeO.refl _)
      | (with_reducible exact LeO.none _)
      | (with_reducible refine LeO.ite ?_ ?_)
      | (with_reducible refine LeO.bind ?_ (fun _ => ?_))
      | exact ih0 _ _ _
      | exact ih1 _ _ _ _ _
      | exact LeO.none _
      | refine LeO.ite ?_ ?_
      | refine LeO.bind ?_ (fun _ => ?_)
theorem impl_IsBits.mono : ∀ a0 a1 k, LeO (impl_IsBits.f k a0 a1) (impl_IsBits.f (k + 1) a0 a1) := by
  intro a0 a1 k
  obtain ⟨ih0, ih1⟩ := impl_IsBits.mono_l k
  unfold impl_IsBits.f
  repeat' first
      | (with_reducible exact ih0 _ _ _)
      | (with_reducible exact ih1 _ _ _ _ _)
      | (with_reducible exact LeO.refl _)
      | (with_reducible exact LeO.none _)
      | (with_reducible refine LeO.ite ?_ ?_)
      | (with_reducible refine LeO.bind ?_ (fun _ => ?_))
      | exact ih0 _ _ _
      | exact ih1 _ _ _ _ _
      | exact LeO.none _
      | refine LeO.ite ?_ ?_
      | refine LeO.bind ?_ (fun _ => ?_)
noncomputable def impl_IsBits.J0 (y0 : Bool) (y1 : Int) (y2 : List Int) : Option (Bool) := lim fun k => impl_IsBits.j0 k y0 y1 y2
theorem impl_IsBits.J0_sup (y0 : Bool) (y1 : Int) (y2 : List Int) : Sup (fun k => impl_IsBits.j0 k y0 y1 y2) (impl_IsBits.J0 y0 y1 y2) := Sup.of_mono fun k => (impl_IsBits.mono_l k).1 y0 y1 y2
noncomputable def impl_IsBits.L0 (y0 : List Int) (y1 : Int) (y2 : Int) (y3 : Int) (y4 : List Int) : Option (Bool) := lim fun k => impl_IsBits.l0 k y0 y1 y2 y3 y4
theorem impl_IsBits.L0_sup (y0 : List Int) (y1 : Int) (y2 : Int) (y3 : Int) (y4 : List Int) : Sup (fun k => impl_IsBits.l0 k y0 y1 y2 y3 y4) (impl_IsBits.L0 y0 y1 y2 y3 y4) := Sup.of_mono fun k => (impl_IsBits.mono_l k).2 y0 y1 y2 y3 y4
noncomputable def impl_IsBits.F (a0_0 : Int) (l0_1 : List Int) : Option (Bool) := lim fun k => impl_IsBits.f k a0_0 l0_1
theorem impl_IsBits.F_sup (a0_0 : Int) (l0_1 : List Int) : Sup (fun k => impl_IsBits.f k a0_0 l0_1) (impl_IsBits.F a0_0 l0_1) := Sup.of_mono fun k => impl_IsBits.mono a0_0 l0_1 k
theorem impl_IsBits.J0_eq (x18 : Bool) (x276000 : Int) (x276001 : List Int) : impl_IsBits.J0 x18 x276000 x276001 = if x18 = true then (some false) else (impl_IsBits.L0 x276001 (x276001.length : Int) 0 x276000 x276001) := by
  refine Sup.unique (impl_IsBits.J0_sup x18 x276000 x276001) (Sup.shift (fun k => (impl_IsBits.mono_l k).1 x18 x276000 x276001) (Sup.congr (g' := fun k => if x18 = true then (some false) else (impl_IsBits.l0 k x276001 (x276001.length : Int) 0 x276000 x276001)) (fun k => by first | rfl | simp only [impl_IsBits.j0]) ?_))
  repeat' first
    | (with_reducible exact impl_IsBits.J0_sup _ _ _)
    | (with_reducible exact impl_IsBits.L0_sup _ _ _ _ _)
    | (with_reducible refine Sup.ite ?_ ?_)
    | (with_reducible refine Sup.bind ?_ (fun _ => ?_))
    | (with_reducible exact Sup.const _)
    | exact impl_IsBits.J0_sup _ _ _
    | exact impl_IsBits.L0_sup _ _ _ _ _
    | exact Sup.const _
theorem impl_IsBits.L0_eq (x20 : List Int) (x21 : Int) (x22 : Int) (x276000 : Int) (x276001 : List Int) : impl_IsBits.L0 x20 x21 x22 x276000 x276001 = if x22 < x21 then (if 0 ≤ x22 then (if x22 < (x20.length : Int) then ((impl_in.f (rd x20 x22) 0 65535).bind fun t279 => (if t279 = true then (impl_IsBits.L0 x20 x21 (wrap64 (x22 + 1)) x276000 x276001) else (some false))) else (none)) else (none)) else (if (Int.tmod x276000 16) = 0 then (some true) else (if 0 ≤ (wrap64 ((x276001.length : Int) - 1)) then (if (wrap64 ((x276001.length : Int) - 1)) < (x276001.length : Int) then (if 0 ≤ (Int.tmod x276000 16) then (some ((shr .i64 (rd x276001 (wrap64 ((x276001.length : Int) - 1))) (Int.tmod x276000 16)) == 0)) else (none)) else (none)) else (none))) := by
  refine Sup.unique (impl_IsBits.L0_sup x20 x21 x22 x276000 x276001) (Sup.shift (fun k => (impl_IsBits.mono_l k).2 x20 x21 x22 x276000 x276001) (Sup.congr (g' := fun k => if x22 < x21 then (if 0 ≤ x22 then (if x22 < (x20.length : Int) then ((impl_in.f (rd x20 x22) 0 65535).bind fun t279 => (if t279 = true then (impl_IsBits.l0 k x20 x21 (wrap64 (x22 + 1)) x276000 x276001) else (some false))) else (none)) else (none)) else (if (Int.tmod x276000 16) = 0 then (some true) else (if 0 ≤ (wrap64 ((x276001.length : Int) - 1)) then (if (wrap64 ((x276001.length : Int) - 1)) < (x276001.length : Int) then (if 0 ≤ (Int.tmod x276000 16) then (some ((shr .i64 (rd x276001 (wrap64 ((x276001.length : Int) - 1))) (Int.tmod x276000 16)) == 0)) else (none)) else (none)) else (none)))) (fun k => by first | rfl | simp only [impl_IsBits.l0]) ?_))
  repeat' first
    | (with_reducible exact impl_IsBits.J0_sup _ _ _)
    | (with_reducible exact impl_IsBits.L0_sup _ _ _ _ _)
    | (with_reducible refine Sup.ite ?_ ?_)
    | (with_reducible refine Sup.bind ?_ (fun _ => ?_))
    | (with_reducible exact Sup.const _)
    | exact impl_IsBits.J0_sup _ _ _
    | exact impl_IsBits.L0_sup _ _ _ _ _
    | exact Sup.const _
theorem impl_IsBits.F_eq (a0_0 : Int) (l0_1 : List Int) : impl_IsBits.F a0_0 l0_1 = (impl_in.f a0_0 0 4096).bind fun t276 => (if t276 = true then ((impl_words.f a0_0).bind fun t277 => (impl_IsBits.J0 ((l0_1.length : Int) != t277) a0_0 l0_1)) else (impl_IsBits.J0 true a0_0 l0_1)) := by
  refine Sup.unique (impl_IsBits.F_sup a0_0 l0_1) (Sup.congr (g' := fun k => (impl_in.f a0_0 0 4096).bind fun t276 => (if t276 = true then ((impl_words.f a0_0).bind fun t277 => (impl_IsBits.j0 k ((l0_1.length : Int) != t277) a0_0 l0_1)) else (impl_IsBits.j0 k true a0_0 l0_1))) (fun k => by first | rfl | simp only [impl_IsBits.f]) ?_)
  repeat' first
    | (with_reducible exact impl_IsBits.J0_sup _ _ _)
    | (with_reducible exact impl_IsBits.L0_sup _ _ _ _ _)
    | (with_reducible refine Sup.ite ?_ ?_)
    | (with_reducible refine Sup.bind ?_ (fun _ => ?_))
    | (with_reducible exact Sup.const _)
    | exact impl_IsBits.J0_sup _ _ _
    | exact impl_IsBits.L0_sup _ _ _ _ _
    | exact Sup.const _
set_option maxHeartbeats 8000000 in
set_option maxRecDepth 100000 in
theorem impl_IsBits.calls (k : Nat) (a0_0 : Int) (A0_1 : Option Addr) (c0_1 : Nat) (l0_1 : List Int) (r : Bool) (w : World) (hr0_1 : Kd.C (Kd.int .i64) w A0_1 l0_1.length l0_1) (hc0_1 : l0_1.length ≤ c0_1) (h : impl_IsBits.f k a0_0 l0_1 = some r) :
    Calls Try.prog 47 #[.agg #[.int .i64 a0_0, .slice A0_1 l0_1.length c0_1]] w fun e w' => e = .returned (.bool r) ∧ Below w.heap.size w w' := by
  have hu30 := Try.underlying30; have hu22 := Try.underlying22; have HR0_1 := Qx hr0_1; have HC0_1 := Qx hc0_1; clear hr0_1 hc0_1
  have HB := Qx (Below.refl w.heap.size w)
  have H : ((impl_in.f a0_0 0 4096).bind fun t276 => (if t276 = true then ((impl_words.f a0_0).bind fun t277 => (impl_IsBits.j0 k ((l0_1.length : Int) != t277) a0_0 l0_1)) else (impl_IsBits.j0 k true a0_0 l0_1))) = some r := h
  clear h; have HC2 := Qx H; clear H
  go_enter Try.func47, Try.ntmps47
  go_upto_region 1 with (first | ((with_reducible refine gate_dst (N := 1) rfl ?_); (try (refine gate_guard (by rfl) ?_; dsimp only)); refine bx_ 1 #[.int .i64 a0_0, .slice A0_1 l0_1.length c0_1] 30 ?_; intro gb275 hg w3 hbox hb; have BK275 := Qx (hbox); have GW275 := Qx ((ge_ hg)); have GE275 := Qx ((ge_ hg)); replace HB := Qx (Qp hB_ hb); clear hb hbox hg))
  repeat (go_quiet (first | ((with_reducible refine gate_dst (N := 1) rfl ?_); (try (refine gate_guard (by rfl) ?_; dsimp only)); refine bx_ 1 #[.int .i64 a0_0, .slice A0_1 l0_1.length c0_1] 30 ?_; intro gb275 hg w3 hbox hb; have BK275 := Qx (hbox); have GW275 := Qx ((ge_ hg)); have GE275 := Qx ((ge_ hg)); replace HB := Qx (Qp hB_ hb); clear hb hbox hg)); go_upto_region 1 with (first | ((with_reducible refine gate_dst (N := 1) rfl ?_); (try (refine gate_guard (by rfl) ?_; dsimp only)); refine bx_ 1 #[.int .i64 a0_0, .slice A0_1 l0_1.length c0_1] 30 ?_; intro gb275 hg w3 hbox hb; have BK275 := Qx (hbox); have GW275 := Qx ((ge_ hg)); have GE275 := Qx ((ge_ hg)); replace HB := Qx (Qp hB_ hb); clear hb hbox hg)))
  (try simp only [Act.put, List.setIfInBounds_toArray, List.set_cons_zero, List.set_cons_succ])
  go_cut [18] (fun v18 wc => ∃ (kq : Nat) (x18_1 : Bool), v18 = .bool x18_1 ∧ Aside0 (impl_IsBits.j0 kq x18_1 a0_0 l0_1 = some r) ∧ Aside0 (kq ≤ k) ∧ Aside0 (wc.heap[gb275]? = some (.cells #[.int .i64 a0_0, (.slice A0_1 l0_1.length c0_1)] 30 (0, 0))) ∧ Aside0 (Below w.heap.size w wc))
  case first =>
   have H := HC2.out; clear HC2; replace H := Option.bind_eq_some_iff.mp H; obtain ⟨t276, A40, H⟩ := H
   have A4 := Qx A40; clear A40
   by_cases c5 : t276 = true
   ·subst c5
    have H1 : ((impl_words.f a0_0).bind fun t277 => (impl_IsBits.j0 k ((l0_1.length : Int) != t277) a0_0 l0_1)) = some r := by rw [if_pos rfl] at H; exact H
    clear H; have H := H1; clear H1; replace H := Option.bind_eq_some_iff.mp H; obtain ⟨t277, A60, H⟩ := H
    have A6 := Qx A60; clear A60; have H' := Qx H; clear H
    obtain ⟨hcz7_0, hcz7_1, hfz7_0, hfz7_1⟩ := cellsQ2_g1c (w := w3) BK275.out
    go_wp2_with (first | (go_at_call 55; (with_reducible refine (impl_in.calls a0_0 0 4096 true _ A4.out).mono ?_); rintro e w' ⟨rfl, ⟨nd, rfl⟩⟩; (try first | exact ⟨rfl, _, World.drewN_drewN _ _ _⟩ | exact ⟨rfl, _, Eq.trans (World.drewN_drewN _ _ _) (congrArg (World.drewN _) (Nat.add_assoc _ _ _))⟩)) | (go_at_call 57; (with_reducible refine (impl_words.calls a0_0 t277 _ A6.out).mono ?_); rintro e w' ⟨rfl, ⟨nd, rfl⟩⟩; (try first | exact ⟨rfl, _, World.drewN_drewN _ _ _⟩ | exact ⟨rfl, _, Eq.trans (World.drewN_drewN _ _ _) (congrArg (World.drewN _) (Nat.add_assoc _ _ _))⟩)))
    repeat (go_quiet (first | (go_at_call 55; (with_reducible refine (impl_in.calls a0_0 0 4096 true _ A4.out).mono ?_); rintro e w' ⟨rfl, ⟨nd, rfl⟩⟩; (try first | exact ⟨rfl, _, World.drewN_drewN _ _ _⟩ | exact ⟨rfl, _, Eq.trans (World.drewN_drewN _ _ _) (congrArg (World.drewN _) (Nat.add_assoc _ _ _))⟩)) | (go_at_call 57; (with_reducible refine (impl_words.calls a0_0 t277 _ A6.out).mono ?_); rintro e w' ⟨rfl, ⟨nd, rfl⟩⟩; (try first | exact ⟨rfl, _, World.drewN_drewN _ _ _⟩ | exact ⟨rfl, _, Eq.trans (World.drewN_drewN _ _ _) (congrArg (World.drewN _) (Nat.add_assoc _ _ _))⟩))); try go_wp2_with (first | (go_at_call 55; (with_reducible refine (impl_in.calls a0_0 0 4096 true _ A4.out).mono ?_); rintro e w' ⟨rfl, ⟨nd, rfl⟩⟩; (try first | exact ⟨rfl, _, World.drewN_drewN _ _ _⟩ | exact ⟨rfl, _, Eq.trans (World.drewN_drewN _ _ _) (congrArg (World.drewN _) (Nat.add_assoc _ _ _))⟩)) | (go_at_call 57; (with_reducible refine (impl_words.calls a0_0 t277 _ A6.out).mono ?_); rintro e w' ⟨rfl, ⟨nd, rfl⟩⟩; (try first | exact ⟨rfl, _, World.drewN_drewN _ _ _⟩ | exact ⟨rfl, _, Eq.trans (World.drewN_drewN _ _ _) (congrArg (World.drewN _) (Nat.add_assoc _ _ _))⟩))))
    go_meet
    case rel => exact ⟨_, (((l0_1.length : Int) != t277)), rg_, H', ⟨by first | omega | exact Nat.le_refl _⟩, ⟨kB_ BK275⟩, ⟨hB_⟩⟩
   ·replace c5 := Bool.eq_false_iff.mpr c5; subst c5
    have H1 : (impl_IsBits.j0 k true a0_0 l0_1) = some r := by rw [if_neg (show ¬ (false = true) by decide)] at H; exact H
    clear H; have H := H1; clear H1; have H' := Qx H; clear H
    obtain ⟨hcz8_0, hcz8_1, hfz8_0, hfz8_1⟩ := cellsQ2_g1c (w := w3) BK275.out
    go_wp2_with (first | (go_at_call 55; (with_reducible refine (impl_in.calls a0_0 0 4096 false _ A4.out).mono ?_); rintro e w' ⟨rfl, ⟨nd, rfl⟩⟩; (try first | exact ⟨rfl, _, World.drewN_drewN _ _ _⟩ | exact ⟨rfl, _, Eq.trans (World.drewN_drewN _ _ _) (congrArg (World.drewN _) (Nat.add_assoc _ _ _))⟩)))
    repeat (go_quiet (first | (go_at_call 55; (with_reducible refine (impl_in.calls a0_0 0 4096 false _ A4.out).mono ?_); rintro e w' ⟨rfl, ⟨nd, rfl⟩⟩; (try first | exact ⟨rfl, _, World.drewN_drewN _ _ _⟩ | exact ⟨rfl, _, Eq.trans (World.drewN_drewN _ _ _) (congrArg (World.drewN _) (Nat.add_assoc _ _ _))⟩))); try go_wp2_with (first | (go_at_call 55; (with_reducible refine (impl_in.calls a0_0 0 4096 false _ A4.out).mono ?_); rintro e w' ⟨rfl, ⟨nd, rfl⟩⟩; (try first | exact ⟨rfl, _, World.drewN_drewN _ _ _⟩ | exact ⟨rfl, _, Eq.trans (World.drewN_drewN _ _ _) (congrArg (World.drewN _) (Nat.add_assoc _ _ _))⟩))))
    go_meet
    case rel => exact ⟨_, (true), rg_, H', ⟨by first | omega | exact Nat.le_refl _⟩, ⟨kB_ BK275⟩, ⟨hB_⟩⟩
  case rest =>
   clear HC2
   try clear p2
   try clear c4
   try clear c5
   try clear hcz7_0
   try clear hcz7_1
   try clear hcz8_0
   try clear hcz8_1
   try clear hfz7_0
   try clear hfz7_1
   try clear hfz8_0
   try clear hfz8_1
   obtain ⟨kq, x18_1, rfl, HA, HJ1, BK275, HB⟩ := hcut
   cases kq with
   | zero => exact absurd HA.out (by simp [impl_IsBits.j0])
   | succ kj1 =>
    have H := HA.out; clear HA; simp only [impl_IsBits.j0] at H
    by_cases c9 : x18_1 = true
    ·subst c9
     have H1 : (some false) = some r := by rw [if_pos rfl] at H; exact H
     clear H; have H := H1; clear H1; obtain rfl := Option.some.inj H
     go_wp2
     repeat (go_quiet (fail); try go_wp2)
     go_ret
     exact ⟨rf_, hB_⟩
    ·replace c9 := Bool.eq_false_iff.mpr c9; subst c9
     have H1 : (impl_IsBits.l0 kj1 l0_1 (l0_1.length : Int) 0 a0_0 l0_1) = some r := by rw [if_neg (show ¬ (false = true) by decide)] at H; exact H
     clear H; have H := H1; clear H1; have H' := Qx H; clear H
     obtain ⟨hcz10_0, hcz10_1, hfz10_0, hfz10_1⟩ := cellsQ2_g1c (w := wc) BK275.out
     go_wp2
     repeat (go_quiet (fail); try go_wp2)
     go_loopg [22] kj1 (fun kq v22 w' => ∃ (x22_2 : Int), v22 = .int .i64 x22_2 ∧ Aside0 (impl_IsBits.l0 kq l0_1 (l0_1.length : Int) x22_2 a0_0 l0_1 = some r) ∧ Aside0 (kq ≤ kj1) ∧ Aside0 (w'.heap[gb275]? = some (.cells #[.int .i64 a0_0, (.slice A0_1 l0_1.length c0_1)] 30 (0, 0))) ∧ Aside0 (Below w.heap.size w w'))
     case atStart => exact ⟨(0), rg_, H', ⟨Nat.le_refl _⟩, ⟨kB_ BK275⟩, ⟨hB_⟩⟩
     case round =>
      clear H'
      try clear p2
      try clear c4
      try clear c5
      try clear c9
      try clear hcz10_0
      try clear hcz10_1
      try clear hcz7_0
      try clear hcz7_1
      try clear hcz8_0
      try clear hcz8_1
      try clear hfz10_0
      try clear hfz10_1
      try clear hfz7_0
      try clear hfz7_1
      try clear hfz8_0
      try clear hfz8_1
      try clear p2
      obtain ⟨x22_2, rfl, HA, HK2, BK275, HB⟩ := hrel
      cases gk with
      | zero => exact absurd HA.out (by simp [impl_IsBits.l0])
      | succ k2 =>
       have H := HA.out; clear HA; simp only [impl_IsBits.l0] at H
       by_cases c11 : x22_2 < (l0_1.length : Int)
       ·rw [if_pos c11] at H
        have c11b0 : decide (x22_2 < (l0_1.length : Int)) = true := decide_eq_true c11
        clear c11
        by_cases c12 : 0 ≤ x22_2
        ·rw [if_pos c12] at H
         have c12b0 : decide (0 ≤ x22_2) = true := decide_eq_true c12
         clear c12
         by_cases c13 : x22_2 < (l0_1.length : Int)
         ·rw [if_pos c13] at H
          have c13b0 : decide (x22_2 < (l0_1.length : Int)) = true := decide_eq_true c13
          clear c13; replace H := Option.bind_eq_some_iff.mp H; obtain ⟨t279, A140, H⟩ := H
          have A14 := Qx A140; clear A140
          by_cases c15 : t279 = true
          ·subst c15
           have H1 : (impl_IsBits.l0 k2 l0_1 (l0_1.length : Int) (wrap64 (x22_2 + 1)) a0_0 l0_1) = some r := by rw [if_pos rfl] at H; exact H
           clear H; have H := H1; clear H1; have H' := Qx H; clear H
           have p278 : 0 ≤ (x22_2 : Int) := of_decide_eq_true as_
           have q278 : x22_2 < (l0_1.length : Int) := of_decide_eq_true as_
           obtain ⟨ad278, e278, hx278_0⟩ := Kd.at_int HR0_1.out x22_2 p278 q278
           cases e278
           replace hx278_0 := (HB.out.cell (World.block_lt_of_cell? w _ hx278_0)).trans hx278_0
           replace p278 := eq_true p278; replace q278 := eq_true q278
           go_wp2_with (first | (go_at_call 55; (with_reducible refine (impl_in.calls (rd l0_1 x22_2) 0 65535 true _ A14.out).mono ?_); rintro e w' ⟨rfl, ⟨nd, rfl⟩⟩; (try first | exact ⟨rfl, _, World.drewN_drewN _ _ _⟩ | exact ⟨rfl, _, Eq.trans (World.drewN_drewN _ _ _) (congrArg (World.drewN _) (Nat.add_assoc _ _ _))⟩)))
           repeat (go_quiet (first | (go_at_call 55; (with_reducible refine (impl_in.calls (rd l0_1 x22_2) 0 65535 true _ A14.out).mono ?_); rintro e w' ⟨rfl, ⟨nd, rfl⟩⟩; (try first | exact ⟨rfl, _, World.drewN_drewN _ _ _⟩ | exact ⟨rfl, _, Eq.trans (World.drewN_drewN _ _ _) (congrArg (World.drewN _) (Nat.add_assoc _ _ _))⟩))); try go_wp2_with (first | (go_at_call 55; (with_reducible refine (impl_in.calls (rd l0_1 x22_2) 0 65535 true _ A14.out).mono ?_); rintro e w' ⟨rfl, ⟨nd, rfl⟩⟩; (try first | exact ⟨rfl, _, World.drewN_drewN _ _ _⟩ | exact ⟨rfl, _, Eq.trans (World.drewN_drewN _ _ _) (congrArg (World.drewN _) (Nat.add_assoc _ _ _))⟩))))
           go_roundg k2
           case measure => have := HJ1.out; have := HK2.out; omega
           case rel => exact ⟨(wrap64 (x22_2 + 1)), rg_, H', ⟨by have := HJ1.out; have := HK2.out; omega⟩, ⟨kB_ BK275⟩, ⟨hB_⟩⟩
          ·replace c15 := Bool.eq_false_iff.mpr c15; subst c15
           have H1 : (some false) = some r := by rw [if_neg (show ¬ (false = true) by decide)] at H; exact H
           clear H; have H := H1; clear H1; obtain rfl := Option.some.inj H
           have p278 : 0 ≤ (x22_2 : Int) := of_decide_eq_true as_
           have q278 : x22_2 < (l0_1.length : Int) := of_decide_eq_true as_
           obtain ⟨ad278, e278, hx278_0⟩ := Kd.at_int HR0_1.out x22_2 p278 q278
           cases e278
           replace hx278_0 := (HB.out.cell (World.block_lt_of_cell? w _ hx278_0)).trans hx278_0
           replace p278 := eq_true p278; replace q278 := eq_true q278
           go_wp2_with (first | (go_at_call 55; (with_reducible refine (impl_in.calls (rd l0_1 x22_2) 0 65535 false _ A14.out).mono ?_); rintro e w' ⟨rfl, ⟨nd, rfl⟩⟩; (try first | exact ⟨rfl, _, World.drewN_drewN _ _ _⟩ | exact ⟨rfl, _, Eq.trans (World.drewN_drewN _ _ _) (congrArg (World.drewN _) (Nat.add_assoc _ _ _))⟩)))
           repeat (go_quiet (first | (go_at_call 55; (with_reducible refine (impl_in.calls (rd l0_1 x22_2) 0 65535 false _ A14.out).mono ?_); rintro e w' ⟨rfl, ⟨nd, rfl⟩⟩; (try first | exact ⟨rfl, _, World.drewN_drewN _ _ _⟩ | exact ⟨rfl, _, Eq.trans (World.drewN_drewN _ _ _) (congrArg (World.drewN _) (Nat.add_assoc _ _ _))⟩))); try go_wp2_with (first | (go_at_call 55; (with_reducible refine (impl_in.calls (rd l0_1 x22_2) 0 65535 false _ A14.out).mono ?_); rintro e w' ⟨rfl, ⟨nd, rfl⟩⟩; (try first | exact ⟨rfl, _, World.drewN_drewN _ _ _⟩ | exact ⟨rfl, _, Eq.trans (World.drewN_drewN _ _ _) (congrArg (World.drewN _) (Nat.add_assoc _ _ _))⟩))))
           go_ret
           exact ⟨rf_, hB_⟩
         ·rw [if_neg c13] at H
          exact absurd H (by simp)
        ·rw [if_neg c12] at H
         exact absurd H (by simp)
       ·rw [if_neg c11] at H
        have c11b0 : decide (x22_2 < (l0_1.length : Int)) = false := decide_eq_false c11
        clear c11
        by_cases c16 : (Int.tmod a0_0 16) = 0
        ·rw [if_pos c16] at H
         have c16b0 : ((Int.tmod a0_0 16) == 0) = true := beq_iff_eq.mpr c16
         have c16b1 : ((Int.tmod a0_0 16) != 0) = false := bne_eq_false_iff_eq.mpr c16
         clear c16; obtain rfl := Option.some.inj H
         obtain ⟨hcz17_0, hcz17_1, hfz17_0, hfz17_1⟩ := cellsQ2_g1c (w := wr) BK275.out
         go_wp2
         repeat (go_quiet (fail); try go_wp2)
         go_ret
         exact ⟨rf_, hB_⟩
        ·rw [if_neg c16] at H
         have c16b0 : ((Int.tmod a0_0 16) == 0) = false := beq_eq_false_iff_ne.mpr c16
         have c16b1 : ((Int.tmod a0_0 16) != 0) = true := bne_iff_ne.mpr c16
         obtain ⟨ji18, hji18⟩ : ∃ j_ : Int, (wrap64 ((l0_1.length : Int) - 1)) = j_ := ⟨_, rfl⟩
         replace H : (if 0 ≤ (ji18) then (if (ji18) < (l0_1.length : Int) then (if 0 ≤ (Int.tmod a0_0 16) then (some ((shr .i64 (rd l0_1 (ji18)) (Int.tmod a0_0 16)) == 0)) else (none)) else (none)) else (none)) = some r := by first | (rw [hji18] at H; exact H) | (simp only [hji18] at H ⊢; exact H)
         have hji18w : (IntKind.i64.wrap ((l0_1.length : Int) - 1)) = ji18 := (i64_w _).trans hji18
         by_cases c19 : 0 ≤ (ji18)
         ·rw [if_pos c19] at H
          have c19b0 : decide (0 ≤ (ji18)) = true := decide_eq_true c19
          clear c19
          by_cases c20 : (ji18) < (l0_1.length : Int)
          ·rw [if_pos c20] at H
           have c20b0 : decide ((ji18) < (l0_1.length : Int)) = true := decide_eq_true c20
           clear c20
           obtain ⟨ji21, hji21⟩ : ∃ j_ : Int, (Int.tmod a0_0 16) = j_ := ⟨_, rfl⟩
           replace H : (if 0 ≤ (ji21) then (some ((shr .i64 (rd l0_1 (ji18)) (ji21)) == 0)) else (none)) = some r := by first | (rw [hji21] at H; exact H) | (simp only [hji21] at H ⊢; exact H)
           (try rw [hji21] at c16b0)
           (try rw [hji21] at c16b1)
           by_cases c22 : 0 ≤ (ji21)
           ·rw [if_pos c22] at H; have c22b0 := eq_true c22
            have c22b1 : decide (0 ≤ (ji21)) = true := decide_eq_true c22
            clear c22
            obtain ⟨ji23, hji23⟩ : ∃ j_ : Int, (shr .i64 (rd l0_1 (ji18)) (ji21)) = j_ := ⟨_, rfl⟩
            replace H : (some ((ji23) == 0)) = some r := by first | (rw [hji23] at H; exact H) | (simp only [hji23] at H ⊢; exact H)
            have hji23_ : ((rd l0_1 (ji18)) / 2 ^ min (ji21).toNat 64) = ji23 := hji23
            have hji23z : (ji21) ≤ 64 → ((rd l0_1 (ji18)) / 2 ^ (ji21).toNat) = ji23 := shr_small hji23
            obtain rfl := Option.some.inj H
            obtain ⟨hcz24_0, hcz24_1, hfz24_0, hfz24_1⟩ := cellsQ2_g1c (w := wr) BK275.out
            have p280 : 0 ≤ ((ji18) : Int) := of_decide_eq_true as_
            have q280 : (ji18) < (l0_1.length : Int) := of_decide_eq_true as_
            obtain ⟨ad280, e280, hx280_0⟩ := Kd.at_int HR0_1.out (ji18) p280 q280
            cases e280
            replace hx280_0 := (HB.out.cell (World.block_lt_of_cell? w _ hx280_0)).trans hx280_0
            replace p280 := eq_true p280; replace q280 := eq_true q280
            go_wp2
            repeat (go_quiet (fail); try go_wp2)
            go_ret
            exact ⟨by first | rfl | (simp [errW_none, errW_some] <;> rfl) | (simp only [← hji18, ← hji21, ← hji23]; first | rfl | (simp [errW_none, errW_some] <;> rfl)) | (simp [*, errW_none, errW_some] <;> rfl), hB_⟩
           ·rw [if_neg c22] at H
            exact absurd H (by simp)
          ·rw [if_neg c20] at H
           exact absurd H (by simp)
         ·rw [if_neg c19] at H
          exact absurd H (by simp)
end Go.Proofs.Ytcjhnpbehkfknaa.X
