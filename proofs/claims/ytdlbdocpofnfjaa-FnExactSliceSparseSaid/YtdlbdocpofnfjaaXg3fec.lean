/- Written by a program of this session: what functions of the given program compute, and that their calls do so. -/
import Derived.Test.YtdlbdocpofnfjaaXx0
import Derived.Test.YtdlbdocpofnfjaaXg3feb
import Derived.Test.YtdlbdocpofnfjaaXg3ffa
import Derived.Test.YtdlbdocpofnfjaaXg3ffb
namespace Go.Proofs.Ytdlbdocpofnfjaa.X
open Go.RowKit Go.Proofs.YtdlbdocpofnfjaaW.PrintWords Go.Proofs.YtdlbdocpofnfjaaW.PrintLast Go.Proofs.YtdlbdocpofnfjaaW.PrintMore
theorem cellsQ2_g3fec {w : World} {g : Nat} {t : TypeId} {a0 a1 : Value} (k : w.heap[g]? = some (.cells #[a0, a1] t (0, 0))) : w.cell? ⟨g, 0, none⟩ = some a0 ∧ w.cell? ⟨g, 1, none⟩ = some a1 ∧ w.frozen? ⟨g, 0, none⟩ = false ∧ w.frozen? ⟨g, 1, none⟩ = false := ⟨(blk_cell k 0).trans rfl, (blk_cell k 1).trans rfl, blk_frozen k 0, blk_frozen k 1⟩
theorem cellsQ7_g3fec {w : World} {g : Nat} {t : TypeId} {a0 a1 a2 a3 a4 a5 a6 : Value} (k : w.heap[g]? = some (.cells #[a0, a1, a2, a3, a4, a5, a6] t (0, 0))) : w.cell? ⟨g, 0, none⟩ = some a0 ∧ w.cell? ⟨g, 1, none⟩ = some a1 ∧ w.cell? ⟨g, 2, none⟩ = some a2 ∧ w.cell? ⟨g, 3, none⟩ = some a3 ∧ w.cell? ⟨g, 4, none⟩ = some a4 ∧ w.cell? ⟨g, 5, none⟩ = some a5 ∧ w.cell? ⟨g, 6, none⟩ = some a6 ∧ w.frozen? ⟨g, 0, none⟩ = false ∧ w.frozen? ⟨g, 1, none⟩ = false ∧ w.frozen? ⟨g, 2, none⟩ = false ∧ w.frozen? ⟨g, 3, none⟩ = false ∧ w.frozen? ⟨g, 4, none⟩ = false ∧ w.frozen? ⟨g, 5, none⟩ = false ∧ w.frozen? ⟨g, 6, none⟩ = false := ⟨(blk_cell k 0).trans rfl, (blk_cell k 1).trans rfl, (blk_cell k 2).trans rfl, (blk_cell k 3).trans rfl, (blk_cell k 4).trans rfl, (blk_cell k 5).trans rfl, (blk_cell k 6).trans rfl, blk_frozen k 0, blk_frozen k 1, blk_frozen k 2, blk_frozen k 3, blk_frozen k 4, blk_frozen k 5, blk_frozen k 6⟩
theorem farsQ7_g3fec {τ : Type} {d : Kd τ} {e : Nat} {w : World} {base g : Nat} {ok : Nat → Prop} {v : Value} {xs : List τ} (h : d.R e w base ok v xs) (hok : ∀ k, ok k → k ≠ g) (u0 u1 u2 u3 u4 u5 u6 : Value) : d.R e (((((((w.setCell ⟨g, 0, none⟩ u0).setCell ⟨g, 1, none⟩ u1).setCell ⟨g, 2, none⟩ u2).setCell ⟨g, 3, none⟩ u3).setCell ⟨g, 4, none⟩ u4).setCell ⟨g, 5, none⟩ u5).setCell ⟨g, 6, none⟩ u6) base ok v xs := Kd.R_far (p := ⟨g, 6, none⟩) (Kd.R_far (p := ⟨g, 5, none⟩) (Kd.R_far (p := ⟨g, 4, none⟩) (Kd.R_far (p := ⟨g, 3, none⟩) (Kd.R_far (p := ⟨g, 2, none⟩) (Kd.R_far (p := ⟨g, 1, none⟩) (Kd.R_far (p := ⟨g, 0, none⟩) h hok u0) hok u1) hok u2) hok u3) hok u4) hok u5) hok u6
open Go.Proofs.YtdlbdocpofnfjaaW.PrintWords renaming blk_cell → Qc, pw_below_drewN → Qn, below_drew1 → Qd, below_alloc → Qa, blk_alloc → Qk, blk_drewN → Qm, blk_drew → Qw, below_set → Qs, below_size → Qz, below_step → Qp, blk_below → Qb, blk_put → Qu, blk_far → Qr
open Go.Proofs.YtdlbdocpofnfjaaW.PrintWords.Kd renaming R_drewN → Qrn, R_alloc → Qra, R_drew → Qrd, R_mono → Qrm, R_below → Qrb
open Go.Proofs.YtdlbdocpofnfjaaW.PrintWords.Aside0 renaming mk → Qx
attribute [local go_sem] max2_int min2_int max_two min_two max_three min_three max_four min_four   -- for this text's walks alone
set_option linter.unusedVariables false
set_option linter.unusedSimpArgs false
/-! ### impl_sameBits: function 100 -/
def impl_sameBits.f (k : Nat) (a0_0 : Int) (l0_1 : List Int) (a1_0 : Int) (l1_1 : List Int) : Option (Bool) := if a0_0 = a1_0 then ((slices_Equal_int_int.f k l0_1 l1_1).bind fun t383 => (some t383)) else (some false)
theorem impl_sameBits.mono : ∀ a0 a1 a2 a3 k, LeO (impl_sameBits.f k a0 a1 a2 a3) (impl_sameBits.f (k + 1) a0 a1 a2 a3) := by
  intro a0 a1 a2 a3 k
  unfold impl_sameBits.f
  repeat' first
      | (with_reducible exact slices_Equal_int_int.mono _ _ _)
      | (with_reducible exact LeO.refl _)
      | (with_reducible exact LeO.none _)
      | (with_reducible refine LeO.ite ?_ ?_)
      | (with_reducible refine LeO.bind ?_ (fun _ => ?_))
      | exact slices_Equal_int_int.mono _ _ _
      | exact LeO.none _
      | refine LeO.ite ?_ ?_
      | refine LeO.bind ?_ (fun _ => ?_)
noncomputable def impl_sameBits.F (a0_0 : Int) (l0_1 : List Int) (a1_0 : Int) (l1_1 : List Int) : Option (Bool) := lim fun k => impl_sameBits.f k a0_0 l0_1 a1_0 l1_1
theorem impl_sameBits.F_sup (a0_0 : Int) (l0_1 : List Int) (a1_0 : Int) (l1_1 : List Int) : Sup (fun k => impl_sameBits.f k a0_0 l0_1 a1_0 l1_1) (impl_sameBits.F a0_0 l0_1 a1_0 l1_1) := Sup.of_mono fun k => impl_sameBits.mono a0_0 l0_1 a1_0 l1_1 k
theorem impl_sameBits.F_eq (a0_0 : Int) (l0_1 : List Int) (a1_0 : Int) (l1_1 : List Int) : impl_sameBits.F a0_0 l0_1 a1_0 l1_1 = if a0_0 = a1_0 then ((slices_Equal_int_int.F l0_1 l1_1).bind fun t383 => (some t383)) else (some false) := by
  refine Sup.unique (impl_sameBits.F_sup a0_0 l0_1 a1_0 l1_1) (Sup.congr (g' := fun k => if a0_0 = a1_0 then ((slices_Equal_int_int.f k l0_1 l1_1).bind fun t383 => (some t383)) else (some false)) (fun k => by first | rfl | simp only [impl_sameBits.f]) ?_)
  repeat' first
    | (with_reducible exact slices_Equal_int_int.F_sup _ _)
    | (with_reducible refine Sup.ite ?_ ?_)
    | (with_reducible refine Sup.bind ?_ (fun _ => ?_))
    | (with_reducible exact Sup.const _)
    | exact slices_Equal_int_int.F_sup _ _
    | exact Sup.const _
set_option maxHeartbeats 8000000 in
set_option maxRecDepth 100000 in
theorem impl_sameBits.calls (k : Nat) (a0_0 : Int) (A0_1 : Option Addr) (c0_1 : Nat) (l0_1 : List Int) (a1_0 : Int) (A1_1 : Option Addr) (c1_1 : Nat) (l1_1 : List Int) (r : Bool) (w : World) (hr0_1 : Kd.C (Kd.int .i64) w A0_1 l0_1.length l0_1) (hc0_1 : l0_1.length ≤ c0_1) (hr1_1 : Kd.C (Kd.int .i64) w A1_1 l1_1.length l1_1) (hc1_1 : l1_1.length ≤ c1_1) (h : impl_sameBits.f k a0_0 l0_1 a1_0 l1_1 = some r) :
    Calls Try.prog 100 #[.agg #[.int .i64 a0_0, .slice A0_1 l0_1.length c0_1], .agg #[.int .i64 a1_0, .slice A1_1 l1_1.length c1_1]] w fun e w' => e = .returned (.bool r) ∧ Below w.heap.size w w' := by
  have hu24 := Try.underlying24; have HR0_1 := Qx hr0_1; have HC0_1 := Qx hc0_1; clear hr0_1 hc0_1; have HR1_1 := Qx hr1_1; have HC1_1 := Qx hc1_1; clear hr1_1 hc1_1
  have HB := Qx (Below.refl w.heap.size w)
  have H : (if a0_0 = a1_0 then ((slices_Equal_int_int.f k l0_1 l1_1).bind fun t383 => (some t383)) else (some false)) = some r := h
  clear h
  by_cases c3 : a0_0 = a1_0
  ·rw [if_pos c3] at H
   have c3b0 : (a0_0 == a1_0) = true := beq_iff_eq.mpr c3
   have c3b1 : (a0_0 != a1_0) = false := bne_eq_false_iff_eq.mpr c3
   clear c3; replace H := Option.bind_eq_some_iff.mp H; obtain ⟨t383, A40, H⟩ := H
   have A4 := Qx A40; clear A40; obtain rfl := Option.some.inj H
   go_enter Try.func100, Try.ntmps100
   go_wp2_with (first | ((with_reducible refine gate_dst (N := 2) rfl ?_); refine box_event ?hg (N := 2) ?hd (cs := #[.int .i64 a0_0, .slice A0_1 l0_1.length c0_1]) (t := 24) ?hr ?_; (case hd => rfl); (case hg => rfl); (case hr => first | (go_simp; done) | (go_simp; rfl)); intro gb381 hg w5 hbox hb; have n0_ := Qx (Qp (by repeat (first | (with_reducible first | exact HB.out | apply Qa | apply Qn | apply Qd) | exact HB.out)) hb); have n1_ := Qx (hbox); have n2_ := Qx ((by rw [hg]; exact (Qz (by repeat (first | (with_reducible first | exact HB.out | apply Qa | apply Qn | apply Qd) | exact HB.out))) : w.heap.size ≤ gb381)); have n3_ := n2_; clear HB; have HB := n0_; have BK381 := n1_; have GW381 := n2_; have GE381 := n3_; clear n0_ n1_ n2_ n3_ hb hbox hg) | ((with_reducible refine gate_dst (N := 3) rfl ?_); refine box_event ?hg (N := 3) ?hd (cs := #[.int .i64 a1_0, .slice A1_1 l1_1.length c1_1]) (t := 24) ?hr ?_; (case hd => rfl); (case hg => rfl); (case hr => first | (go_simp; done) | (go_simp; rfl)); intro gb382 hg w6 hbox hb; have n0_ := Qx (Qb (g := gb381) (by (with_reducible repeat (first | refine Qm ?_ _ | refine Qw ?_ | refine Qk ?_ _)); exact BK381.out) hb); have n1_ := Qx (Qp (by repeat (first | (with_reducible first | exact HB.out | apply Qa | apply Qn | apply Qd | refine Qs ?_ GE381.out) | exact HB.out)) hb); have n2_ := Qx (hbox); have n3_ := Qx ((by rw [hg]; exact (Qz (by repeat (first | (with_reducible first | exact HB.out | apply Qa | apply Qn | apply Qd | refine Qs ?_ GE381.out) | exact HB.out))) : w.heap.size ≤ gb382)); have n4_ := n3_; have n5_ := Qx ((by rw [hg]; exact Nat.ne_of_lt (blk_lt (g := gb381) (o := .cells #[.int .i64 a0_0, .slice A0_1 l0_1.length c0_1] 24 (0, 0)) (by (with_reducible repeat (first | refine Qm ?_ _ | refine Qw ?_ | refine Qk ?_ _)); exact BK381.out)) : gb381 ≠ gb382)); have n6_ := Qx ((by rw [hg]; exact Nat.ne_of_gt (blk_lt (g := gb381) (o := .cells #[.int .i64 a0_0, .slice A0_1 l0_1.length c0_1] 24 (0, 0)) (by (with_reducible repeat (first | refine Qm ?_ _ | refine Qw ?_ | refine Qk ?_ _)); exact BK381.out)) : gb382 ≠ gb381)); clear BK381 HB; have BK381 := n0_; have HB := n1_; have BK382 := n2_; have GW382 := n3_; have GE382 := n4_; have NB381_382 := n5_; have NB382_381 := n6_; clear n0_ n1_ n2_ n3_ n4_ n5_ n6_ hb hbox hg; have hnb7 := NB381_382.out; have hnc7 := NB382_381.out; obtain ⟨hcz8_0, hcz8_1, hfz8_0, hfz8_1⟩ := cellsQ2_g3fec (w := w6) BK381.out; obtain ⟨hcz9_0, hcz9_1, hfz9_0, hfz9_1⟩ := cellsQ2_g3fec (w := w6) BK382.out) | (go_at_call 119; (with_reducible refine (slices_Equal_int_int.calls k _ _ l0_1 _ _ l1_1 t383 _ ?side1 ?side2 ?side3 ?side4 A4.out).mono ?_); (case side1 => repeat (first | exact (Kd.C_below HR0_1.out HB.out) | (with_reducible refine Kd.C_alloc ?_ _) | (with_reducible refine Kd.C_drewN ?_ _) | (with_reducible refine Kd.C_drew ?_))); (case side2 => exact HC0_1.out); (case side3 => repeat (first | exact (Kd.C_below HR1_1.out HB.out) | (with_reducible refine Kd.C_alloc ?_ _) | (with_reducible refine Kd.C_drewN ?_ _) | (with_reducible refine Kd.C_drew ?_))); (case side4 => exact HC1_1.out); rintro e w' ⟨rfl, ⟨nd, rfl⟩⟩))
   go_ret
   exact ⟨by first | rfl | (simp [errW_none, errW_some] <;> rfl) | (simp [*, errW_none, errW_some] <;> rfl), by repeat (first | (with_reducible first | exact HB.out | apply Qa | apply Qn | apply Qd | refine Qs ?_ GE381.out | refine Qs ?_ GE382.out) | exact HB.out)⟩
  ·rw [if_neg c3] at H
   have c3b0 : (a0_0 == a1_0) = false := beq_eq_false_iff_ne.mpr c3
   have c3b1 : (a0_0 != a1_0) = true := bne_iff_ne.mpr c3
   obtain rfl := Option.some.inj H
   go_enter Try.func100, Try.ntmps100
   go_wp2_with (first | ((with_reducible refine gate_dst (N := 2) rfl ?_); refine box_event ?hg (N := 2) ?hd (cs := #[.int .i64 a0_0, .slice A0_1 l0_1.length c0_1]) (t := 24) ?hr ?_; (case hd => rfl); (case hg => rfl); (case hr => first | (go_simp; done) | (go_simp; rfl)); intro gb381 hg w10 hbox hb; have n0_ := Qx (Qp (by repeat (first | (with_reducible first | exact HB.out | apply Qa | apply Qn | apply Qd) | exact HB.out)) hb); have n1_ := Qx (hbox); have n2_ := Qx ((by rw [hg]; exact (Qz (by repeat (first | (with_reducible first | exact HB.out | apply Qa | apply Qn | apply Qd) | exact HB.out))) : w.heap.size ≤ gb381)); have n3_ := n2_; clear HB; have HB := n0_; have BK381 := n1_; have GW381 := n2_; have GE381 := n3_; clear n0_ n1_ n2_ n3_ hb hbox hg) | ((with_reducible refine gate_dst (N := 3) rfl ?_); refine box_event ?hg (N := 3) ?hd (cs := #[.int .i64 a1_0, .slice A1_1 l1_1.length c1_1]) (t := 24) ?hr ?_; (case hd => rfl); (case hg => rfl); (case hr => first | (go_simp; done) | (go_simp; rfl)); intro gb382 hg w11 hbox hb; have n0_ := Qx (Qb (g := gb381) (by (with_reducible repeat (first | refine Qm ?_ _ | refine Qw ?_ | refine Qk ?_ _)); exact BK381.out) hb); have n1_ := Qx (Qp (by repeat (first | (with_reducible first | exact HB.out | apply Qa | apply Qn | apply Qd | refine Qs ?_ GE381.out) | exact HB.out)) hb); have n2_ := Qx (hbox); have n3_ := Qx ((by rw [hg]; exact (Qz (by repeat (first | (with_reducible first | exact HB.out | apply Qa | apply Qn | apply Qd | refine Qs ?_ GE381.out) | exact HB.out))) : w.heap.size ≤ gb382)); have n4_ := n3_; have n5_ := Qx ((by rw [hg]; exact Nat.ne_of_lt (blk_lt (g := gb381) (o := .cells #[.int .i64 a0_0, .slice A0_1 l0_1.length c0_1] 24 (0, 0)) (by (with_reducible repeat (first | refine Qm ?_ _ | refine Qw ?_ | refine Qk ?_ _)); exact BK381.out)) : gb381 ≠ gb382)); have n6_ := Qx ((by rw [hg]; exact Nat.ne_of_gt (blk_lt (g := gb381) (o := .cells #[.int .i64 a0_0, .slice A0_1 l0_1.length c0_1] 24 (0, 0)) (by (with_reducible repeat (first | refine Qm ?_ _ | refine Qw ?_ | refine Qk ?_ _)); exact BK381.out)) : gb382 ≠ gb381)); clear BK381 HB; have BK381 := n0_; have HB := n1_; have BK382 := n2_; have GW382 := n3_; have GE382 := n4_; have NB381_382 := n5_; have NB382_381 := n6_; clear n0_ n1_ n2_ n3_ n4_ n5_ n6_ hb hbox hg; have hnb12 := NB381_382.out; have hnc12 := NB382_381.out; obtain ⟨hcz13_0, hcz13_1, hfz13_0, hfz13_1⟩ := cellsQ2_g3fec (w := w11) BK381.out; obtain ⟨hcz14_0, hcz14_1, hfz14_0, hfz14_1⟩ := cellsQ2_g3fec (w := w11) BK382.out))
   go_ret
   exact ⟨by first | rfl | (simp [errW_none, errW_some] <;> rfl) | (simp [*, errW_none, errW_some] <;> rfl), by repeat (first | (with_reducible first | exact HB.out | apply Qa | apply Qn | apply Qd | refine Qs ?_ GE381.out | refine Qs ?_ GE382.out) | exact HB.out)⟩
/-! ### impl_Bits_at_in_26_5: function 159 -/
def impl_Bits_at_in_26_5.f (a0_0 : Int) (a0_1 : Int) (a0_2 : Int) (a0_3 : Int) (l0_4 : List Int) (a0_5 : Int) (l0_6 : List Int) (a1 : Int) : Option (Bool) := if 0 ≤ (wrap64 (Int.tdiv a1 16)) then (if (wrap64 (Int.tdiv a1 16)) < (l0_6.length : Int) then (if 0 ≤ (Int.tmod a1 16) then (some ((Go.bits .and .i64 (shr .i64 (rd l0_6 (wrap64 (Int.tdiv a1 16))) (Int.tmod a1 16)) 1) == 1)) else (none)) else (none)) else (none)
set_option maxHeartbeats 8000000 in
set_option maxRecDepth 100000 in
theorem impl_Bits_at_in_26_5.calls (gb0_ : Nat) (a0_0 : Int) (a0_1 : Int) (a0_2 : Int) (a0_3 : Int) (A0_4 : Option Addr) (c0_4 : Nat) (l0_4 : List Int) (a0_5 : Int) (A0_6 : Option Addr) (c0_6 : Nat) (l0_6 : List Int) (a1 : Int) (r : Bool) (w : World) (hr0_4 : Kd.C (Kd.int .i64) w A0_4 l0_4.length l0_4) (hc0_4 : l0_4.length ≤ c0_4) (hr0_6 : Kd.C (Kd.int .i64) w A0_6 l0_6.length l0_6) (hc0_6 : l0_6.length ≤ c0_6) (hb0_ : w.heap[gb0_]? = some (.cells #[.int .i64 a0_0, .int .i64 a0_1, .int .i64 a0_2, .int .i64 a0_3, .slice A0_4 l0_4.length c0_4, .int .i64 a0_5, .slice A0_6 l0_6.length c0_6] 26 (0, 0))) (h : impl_Bits_at_in_26_5.f a0_0 a0_1 a0_2 a0_3 l0_4 a0_5 l0_6 a1 = some r) :
    Calls Try.prog 98 #[.pointer (some ⟨gb0_, 5, none⟩), .int .i64 a1] w fun e w' => e = .returned (.bool r) ∧ Drawn0 w w' := by
  have HR0_4 := Qx hr0_4; have HC0_4 := Qx hc0_4; clear hr0_4 hc0_4; have HR0_6 := Qx hr0_6; have HC0_6 := Qx hc0_6; clear hr0_6 hc0_6; have BK0 := Qx hb0_; clear hb0_
  have H : (if 0 ≤ (wrap64 (Int.tdiv a1 16)) then (if (wrap64 (Int.tdiv a1 16)) < (l0_6.length : Int) then (if 0 ≤ (Int.tmod a1 16) then (some ((Go.bits .and .i64 (shr .i64 (rd l0_6 (wrap64 (Int.tdiv a1 16))) (Int.tmod a1 16)) 1) == 1)) else (none)) else (none)) else (none)) = some r := h
  clear h
  obtain ⟨ji3, hji3⟩ : ∃ j_ : Int, (wrap64 (Int.tdiv a1 16)) = j_ := ⟨_, rfl⟩
  replace H : (if 0 ≤ (ji3) then (if (ji3) < (l0_6.length : Int) then (if 0 ≤ (Int.tmod a1 16) then (some ((Go.bits .and .i64 (shr .i64 (rd l0_6 (ji3)) (Int.tmod a1 16)) 1) == 1)) else (none)) else (none)) else (none)) = some r := by first | (rw [hji3] at H; exact H) | (simp only [hji3] at H ⊢; exact H)
  have hji3w : (IntKind.i64.wrap (Int.tdiv a1 16)) = ji3 := (i64_w _).trans hji3
  by_cases c4 : 0 ≤ (ji3)
  ·rw [if_pos c4] at H
   have c4b0 : decide (0 ≤ (ji3)) = true := decide_eq_true c4
   clear c4
   by_cases c5 : (ji3) < (l0_6.length : Int)
   ·rw [if_pos c5] at H
    have c5b0 : decide ((ji3) < (l0_6.length : Int)) = true := decide_eq_true c5
    clear c5
    obtain ⟨ji6, hji6⟩ : ∃ j_ : Int, (Int.tmod a1 16) = j_ := ⟨_, rfl⟩
    replace H : (if 0 ≤ (ji6) then (some ((Go.bits .and .i64 (shr .i64 (rd l0_6 (ji3)) (ji6)) 1) == 1)) else (none)) = some r := by first | (rw [hji6] at H; exact H) | (simp only [hji6] at H ⊢; exact H)
    by_cases c7 : 0 ≤ (ji6)
    ·rw [if_pos c7] at H; have c7b0 := eq_true c7
     have c7b1 : decide (0 ≤ (ji6)) = true := decide_eq_true c7
     clear c7
     obtain ⟨ji8, hji8⟩ : ∃ j_ : Int, (shr .i64 (rd l0_6 (ji3)) (ji6)) = j_ := ⟨_, rfl⟩
     replace H : (some ((Go.bits .and .i64 (ji8) 1) == 1)) = some r := by first | (rw [hji8] at H; exact H) | (simp only [hji8] at H ⊢; exact H)
     have hji8_ : ((rd l0_6 (ji3)) / 2 ^ min (ji6).toNat 64) = ji8 := hji8
     have hji8z : (ji6) ≤ 64 → ((rd l0_6 (ji3)) / 2 ^ (ji6).toNat) = ji8 := shr_small hji8
     obtain rfl := Option.some.inj H
     obtain ⟨hcz9_0, hcz9_1, hcz9_2, hcz9_3, hcz9_4, hcz9_5, hcz9_6, hfz9_0, hfz9_1, hfz9_2, hfz9_3, hfz9_4, hfz9_5, hfz9_6⟩ := cellsQ7_g3fec (w := w) BK0.out
     have p384 : 0 ≤ ((ji3) : Int) := of_decide_eq_true (by first | (with_reducible assumption) | assumption)
     have q384 : (ji3) < (l0_6.length : Int) := of_decide_eq_true (by first | (with_reducible assumption) | assumption)
     obtain ⟨ad384, e384, hx384_0⟩ := Kd.at_int HR0_6.out (ji3) p384 q384
     cases e384
     replace p384 := eq_true p384; replace q384 := eq_true q384
     go_enter Try.func98, Try.ntmps98
     go_wp2
     go_ret
     exact ⟨by first | rfl | (simp; done) | (simp only [← hji3, ← hji6, ← hji8] <;> (first | rfl | simp)) | (simp [*]; done), by repeat (first | exact Drawn0.refl _ | apply Drawn0.step)⟩
    ·rw [if_neg c7] at H
     exact absurd H (by simp)
   ·rw [if_neg c5] at H
    exact absurd H (by simp)
  ·rw [if_neg c4] at H
   exact absurd H (by simp)
/-! ### impl_Bits_at_in_26_3: function 161 -/
def impl_Bits_at_in_26_3.f (a0_0 : Int) (a0_1 : Int) (a0_2 : Int) (a0_3 : Int) (l0_4 : List Int) (a0_5 : Int) (l0_6 : List Int) (a1 : Int) : Option (Bool) := if 0 ≤ (wrap64 (Int.tdiv a1 16)) then (if (wrap64 (Int.tdiv a1 16)) < (l0_4.length : Int) then (if 0 ≤ (Int.tmod a1 16) then (some ((Go.bits .and .i64 (shr .i64 (rd l0_4 (wrap64 (Int.tdiv a1 16))) (Int.tmod a1 16)) 1) == 1)) else (none)) else (none)) else (none)
set_option maxHeartbeats 8000000 in
set_option maxRecDepth 100000 in
theorem impl_Bits_at_in_26_3.calls (gb0_ : Nat) (a0_0 : Int) (a0_1 : Int) (a0_2 : Int) (a0_3 : Int) (A0_4 : Option Addr) (c0_4 : Nat) (l0_4 : List Int) (a0_5 : Int) (A0_6 : Option Addr) (c0_6 : Nat) (l0_6 : List Int) (a1 : Int) (r : Bool) (w : World) (hr0_4 : Kd.C (Kd.int .i64) w A0_4 l0_4.length l0_4) (hc0_4 : l0_4.length ≤ c0_4) (hr0_6 : Kd.C (Kd.int .i64) w A0_6 l0_6.length l0_6) (hc0_6 : l0_6.length ≤ c0_6) (hb0_ : w.heap[gb0_]? = some (.cells #[.int .i64 a0_0, .int .i64 a0_1, .int .i64 a0_2, .int .i64 a0_3, .slice A0_4 l0_4.length c0_4, .int .i64 a0_5, .slice A0_6 l0_6.length c0_6] 26 (0, 0))) (h : impl_Bits_at_in_26_3.f a0_0 a0_1 a0_2 a0_3 l0_4 a0_5 l0_6 a1 = some r) :
    Calls Try.prog 98 #[.pointer (some ⟨gb0_, 3, none⟩), .int .i64 a1] w fun e w' => e = .returned (.bool r) ∧ Drawn0 w w' := by
  have HR0_4 := Qx hr0_4; have HC0_4 := Qx hc0_4; clear hr0_4 hc0_4; have HR0_6 := Qx hr0_6; have HC0_6 := Qx hc0_6; clear hr0_6 hc0_6; have BK0 := Qx hb0_; clear hb0_
  have H : (if 0 ≤ (wrap64 (Int.tdiv a1 16)) then (if (wrap64 (Int.tdiv a1 16)) < (l0_4.length : Int) then (if 0 ≤ (Int.tmod a1 16) then (some ((Go.bits .and .i64 (shr .i64 (rd l0_4 (wrap64 (Int.tdiv a1 16))) (Int.tmod a1 16)) 1) == 1)) else (none)) else (none)) else (none)) = some r := h
  clear h
  obtain ⟨ji3, hji3⟩ : ∃ j_ : Int, (wrap64 (Int.tdiv a1 16)) = j_ := ⟨_, rfl⟩
  replace H : (if 0 ≤ (ji3) then (if (ji3) < (l0_4.length : Int) then (if 0 ≤ (Int.tmod a1 16) then (some ((Go.bits .and .i64 (shr .i64 (rd l0_4 (ji3)) (Int.tmod a1 16)) 1) == 1)) else (none)) else (none)) else (none)) = some r := by first | (rw [hji3] at H; exact H) | (simp only [hji3] at H ⊢; exact H)
  have hji3w : (IntKind.i64.wrap (Int.tdiv a1 16)) = ji3 := (i64_w _).trans hji3
  by_cases c4 : 0 ≤ (ji3)
  ·rw [if_pos c4] at H
   have c4b0 : decide (0 ≤ (ji3)) = true := decide_eq_true c4
   clear c4
   by_cases c5 : (ji3) < (l0_4.length : Int)
   ·rw [if_pos c5] at H
    have c5b0 : decide ((ji3) < (l0_4.length : Int)) = true := decide_eq_true c5
    clear c5
    obtain ⟨ji6, hji6⟩ : ∃ j_ : Int, (Int.tmod a1 16) = j_ := ⟨_, rfl⟩
    replace H : (if 0 ≤ (ji6) then (some ((Go.bits .and .i64 (shr .i64 (rd l0_4 (ji3)) (ji6)) 1) == 1)) else (none)) = some r := by first | (rw [hji6] at H; exact H) | (simp only [hji6] at H ⊢; exact H)
    by_cases c7 : 0 ≤ (ji6)
    ·rw [if_pos c7] at H; have c7b0 := eq_true c7
     have c7b1 : decide (0 ≤ (ji6)) = true := decide_eq_true c7
     clear c7
     obtain ⟨ji8, hji8⟩ : ∃ j_ : Int, (shr .i64 (rd l0_4 (ji3)) (ji6)) = j_ := ⟨_, rfl⟩
     replace H : (some ((Go.bits .and .i64 (ji8) 1) == 1)) = some r := by first | (rw [hji8] at H; exact H) | (simp only [hji8] at H ⊢; exact H)
     have hji8_ : ((rd l0_4 (ji3)) / 2 ^ min (ji6).toNat 64) = ji8 := hji8
     have hji8z : (ji6) ≤ 64 → ((rd l0_4 (ji3)) / 2 ^ (ji6).toNat) = ji8 := shr_small hji8
     obtain rfl := Option.some.inj H
     obtain ⟨hcz9_0, hcz9_1, hcz9_2, hcz9_3, hcz9_4, hcz9_5, hcz9_6, hfz9_0, hfz9_1, hfz9_2, hfz9_3, hfz9_4, hfz9_5, hfz9_6⟩ := cellsQ7_g3fec (w := w) BK0.out
     have p385 : 0 ≤ ((ji3) : Int) := of_decide_eq_true (by first | (with_reducible assumption) | assumption)
     have q385 : (ji3) < (l0_4.length : Int) := of_decide_eq_true (by first | (with_reducible assumption) | assumption)
     obtain ⟨ad385, e385, hx385_0⟩ := Kd.at_int HR0_4.out (ji3) p385 q385
     cases e385
     replace p385 := eq_true p385; replace q385 := eq_true q385
     go_enter Try.func98, Try.ntmps98
     go_wp2
     go_ret
     exact ⟨by first | rfl | (simp; done) | (simp only [← hji3, ← hji6, ← hji8] <;> (first | rfl | simp)) | (simp [*]; done), by repeat (first | exact Drawn0.refl _ | apply Drawn0.step)⟩
    ·rw [if_neg c7] at H
     exact absurd H (by simp)
   ·rw [if_neg c5] at H
    exact absurd H (by simp)
  ·rw [if_neg c4] at H
   exact absurd H (by simp)
/-! ### impl_Bits_field_in_26_3: function 160 -/
def impl_Bits_field_in_26_3.l0 : Nat → Int → Int → Int → Int → Int → Int → Int → Int → List Int → Int → List Int → Option (Int)
  | 0, _, _, _, _, _, _, _, _, _, _, _ => none
  | k + 1, x1, x7, x9, x10, x1000, x1001, x1002, x1003, x1004, x1005, x1006 => if x10 < x9 then ((impl_Bits_at_in_26_3.f x1000 x1001 x1002 x1003 x1004 x1005 x1006 (wrap64 (x1 + x10))).bind fun t386 => (if t386 = true then (if 0 ≤ x10 then (impl_Bits_field_in_26_3.l0 k x1 (Go.bits .or .i64 x7 (shl .i64 1 x10)) x9 (wrap64 (x10 + 1)) x1000 x1001 x1002 x1003 x1004 x1005 x1006) else (none)) else (impl_Bits_field_in_26_3.l0 k x1 x7 x9 (wrap64 (x10 + 1)) x1000 x1001 x1002 x1003 x1004 x1005 x1006))) else (some x7)
def impl_Bits_field_in_26_3.f (k : Nat) (a0_0 : Int) (a0_1 : Int) (a0_2 : Int) (a0_3 : Int) (l0_4 : List Int) (a0_5 : Int) (l0_6 : List Int) (a1 : Int) (a2 : Int) : Option (Int) := impl_Bits_field_in_26_3.l0 k a1 0 a2 0 a0_0 a0_1 a0_2 a0_3 l0_4 a0_5 l0_6
theorem impl_Bits_field_in_26_3.mono_l : ∀ k, (∀ y0 y1 y2 y3 y4 y5 y6 y7 y8 y9 y10, LeO (impl_Bits_field_in_26_3.l0 k y0 y1 y2 y3 y4 y5 y6 y7 y8 y9 y10) (impl_Bits_field_in_26_3.l0 (k + 1) y0 y1 y2 y3 y4 y5 y6 y7 y8 y9 y10))
  | 0 => fun _ _ _ _ _ _ _ _ _ _ _ r h => by simp [impl_Bits_field_in_26_3.l0] at h
  | k + 1 => by
    have ih0 := impl_Bits_field_in_26_3.mono_l k
    · intro y0 y1 y2 y3 y4 y5 y6 y7 y8 y9 y10
      unfold impl_Bits_field_in_26_3.l0
      repeat' first
      | (with_reducible exact ih0 _ _ _ _ _ _ _ _ _ _ _)
      | (with_reducible exact LeO.refl _)
      | (with_reducible exact LeO.none _)
      | (with_reducible refine LeO.ite ?_ ?_)
      | (with_reducible refine LeO.bind ?_ (fun _ => ?_))
      | exact ih0 _ _ _ _ _ _ _ _ _ _ _
      | exact LeO.none _
      | refine LeO.ite ?_ ?_
      | refine LeO.bind ?_ (fun _ => ?_)
theorem impl_Bits_field_in_26_3.mono : ∀ a0 a1 a2 a3 a4 a5 a6 a7 a8 k, LeO (impl_Bits_field_in_26_3.f k a0 a1 a2 a3 a4 a5 a6 a7 a8) (impl_Bits_field_in_26_3.f (k + 1) a0 a1 a2 a3 a4 a5 a6 a7 a8) := by
  intro a0 a1 a2 a3 a4 a5 a6 a7 a8 k
  have ih0 := impl_Bits_field_in_26_3.mono_l k
  unfold impl_Bits_field_in_26_3.f
  repeat' first
      | (with_reducible exact ih0 _ _ _ _ _ _ _ _ _ _ _)
      | (with_reducible exact LeO.refl _)
      | (with_reducible exact LeO.none _)
      | (with_reducible refine LeO.ite ?_ ?_)
      | (with_reducible refine LeO.bind ?_ (fun _ => ?_))
      | exact ih0 _ _ _ _ _ _ _ _ _ _ _
      | exact LeO.none _
      | refine LeO.ite ?_ ?_
      | refine LeO.bind ?_ (fun _ => ?_)
noncomputable def impl_Bits_field_in_26_3.L0 (y0 : Int) (y1 : Int) (y2 : Int) (y3 : Int) (y4 : Int) (y5 : Int) (y6 : Int) (y7 : Int) (y8 : List Int) (y9 : Int) (y10 : List Int) : Option (Int) := lim fun k => impl_Bits_field_in_26_3.l0 k y0 y1 y2 y3 y4 y5 y6 y7 y8 y9 y10
theorem impl_Bits_field_in_26_3.L0_sup (y0 : Int) (y1 : Int) (y2 : Int) (y3 : Int) (y4 : Int) (y5 : Int) (y6 : Int) (y7 : Int) (y8 : List Int) (y9 : Int) (y10 : List Int) : Sup (fun k => impl_Bits_field_in_26_3.l0 k y0 y1 y2 y3 y4 y5 y6 y7 y8 y9 y10) (impl_Bits_field_in_26_3.L0 y0 y1 y2 y3 y4 y5 y6 y7 y8 y9 y10) := Sup.of_mono fun k => impl_Bits_field_in_26_3.mono_l k y0 y1 y2 y3 y4 y5 y6 y7 y8 y9 y10
noncomputable def impl_Bits_field_in_26_3.F (a0_0 : Int) (a0_1 : Int) (a0_2 : Int) (a0_3 : Int) (l0_4 : List Int) (a0_5 : Int) (l0_6 : List Int) (a1 : Int) (a2 : Int) : Option (Int) := lim fun k => impl_Bits_field_in_26_3.f k a0_0 a0_1 a0_2 a0_3 l0_4 a0_5 l0_6 a1 a2
theorem impl_Bits_field_in_26_3.F_sup (a0_0 : Int) (a0_1 : Int) (a0_2 : Int) (a0_3 : Int) (l0_4 : List Int) (a0_5 : Int) (l0_6 : List Int) (a1 : Int) (a2 : Int) : Sup (fun k => impl_Bits_field_in_26_3.f k a0_0 a0_1 a0_2 a0_3 l0_4 a0_5 l0_6 a1 a2) (impl_Bits_field_in_26_3.F a0_0 a0_1 a0_2 a0_3 l0_4 a0_5 l0_6 a1 a2) := Sup.of_mono fun k => impl_Bits_field_in_26_3.mono a0_0 a0_1 a0_2 a0_3 l0_4 a0_5 l0_6 a1 a2 k
theorem impl_Bits_field_in_26_3.L0_eq (x1 : Int) (x7 : Int) (x9 : Int) (x10 : Int) (x1000 : Int) (x1001 : Int) (x1002 : Int) (x1003 : Int) (x1004 : List Int) (x1005 : Int) (x1006 : List Int) : impl_Bits_field_in_26_3.L0 x1 x7 x9 x10 x1000 x1001 x1002 x1003 x1004 x1005 x1006 = if x10 < x9 then ((impl_Bits_at_in_26_3.f x1000 x1001 x1002 x1003 x1004 x1005 x1006 (wrap64 (x1 + x10))).bind fun t386 => (if t386 = true then (if 0 ≤ x10 then (impl_Bits_field_in_26_3.L0 x1 (Go.bits .or .i64 x7 (shl .i64 1 x10)) x9 (wrap64 (x10 + 1)) x1000 x1001 x1002 x1003 x1004 x1005 x1006) else (none)) else (impl_Bits_field_in_26_3.L0 x1 x7 x9 (wrap64 (x10 + 1)) x1000 x1001 x1002 x1003 x1004 x1005 x1006))) else (some x7) := by
  refine Sup.unique (impl_Bits_field_in_26_3.L0_sup x1 x7 x9 x10 x1000 x1001 x1002 x1003 x1004 x1005 x1006) (Sup.shift (fun k => impl_Bits_field_in_26_3.mono_l k x1 x7 x9 x10 x1000 x1001 x1002 x1003 x1004 x1005 x1006) (Sup.congr (g' := fun k => if x10 < x9 then ((impl_Bits_at_in_26_3.f x1000 x1001 x1002 x1003 x1004 x1005 x1006 (wrap64 (x1 + x10))).bind fun t386 => (if t386 = true then (if 0 ≤ x10 then (impl_Bits_field_in_26_3.l0 k x1 (Go.bits .or .i64 x7 (shl .i64 1 x10)) x9 (wrap64 (x10 + 1)) x1000 x1001 x1002 x1003 x1004 x1005 x1006) else (none)) else (impl_Bits_field_in_26_3.l0 k x1 x7 x9 (wrap64 (x10 + 1)) x1000 x1001 x1002 x1003 x1004 x1005 x1006))) else (some x7)) (fun k => by first | rfl | simp only [impl_Bits_field_in_26_3.l0]) ?_))
  repeat' first
    | (with_reducible exact impl_Bits_field_in_26_3.L0_sup _ _ _ _ _ _ _ _ _ _ _)
    | (with_reducible refine Sup.ite ?_ ?_)
    | (with_reducible refine Sup.bind ?_ (fun _ => ?_))
    | (with_reducible exact Sup.const _)
    | exact impl_Bits_field_in_26_3.L0_sup _ _ _ _ _ _ _ _ _ _ _
    | exact Sup.const _
theorem impl_Bits_field_in_26_3.F_eq (a0_0 : Int) (a0_1 : Int) (a0_2 : Int) (a0_3 : Int) (l0_4 : List Int) (a0_5 : Int) (l0_6 : List Int) (a1 : Int) (a2 : Int) : impl_Bits_field_in_26_3.F a0_0 a0_1 a0_2 a0_3 l0_4 a0_5 l0_6 a1 a2 = impl_Bits_field_in_26_3.L0 a1 0 a2 0 a0_0 a0_1 a0_2 a0_3 l0_4 a0_5 l0_6 := by
  refine Sup.unique (impl_Bits_field_in_26_3.F_sup a0_0 a0_1 a0_2 a0_3 l0_4 a0_5 l0_6 a1 a2) (Sup.congr (g' := fun k => impl_Bits_field_in_26_3.l0 k a1 0 a2 0 a0_0 a0_1 a0_2 a0_3 l0_4 a0_5 l0_6) (fun k => by first | rfl | simp only [impl_Bits_field_in_26_3.f]) ?_)
  repeat' first
    | (with_reducible exact impl_Bits_field_in_26_3.L0_sup _ _ _ _ _ _ _ _ _ _ _)
    | (with_reducible refine Sup.ite ?_ ?_)
    | (with_reducible refine Sup.bind ?_ (fun _ => ?_))
    | (with_reducible exact Sup.const _)
    | exact impl_Bits_field_in_26_3.L0_sup _ _ _ _ _ _ _ _ _ _ _
    | exact Sup.const _
set_option maxHeartbeats 8000000 in
set_option maxRecDepth 100000 in
theorem impl_Bits_field_in_26_3.calls (k : Nat) (gb0_ : Nat) (a0_0 : Int) (a0_1 : Int) (a0_2 : Int) (a0_3 : Int) (A0_4 : Option Addr) (c0_4 : Nat) (l0_4 : List Int) (a0_5 : Int) (A0_6 : Option Addr) (c0_6 : Nat) (l0_6 : List Int) (a1 : Int) (a2 : Int) (r : Int) (w : World) (hr0_4 : Kd.C (Kd.int .i64) w A0_4 l0_4.length l0_4) (hc0_4 : l0_4.length ≤ c0_4) (hr0_6 : Kd.C (Kd.int .i64) w A0_6 l0_6.length l0_6) (hc0_6 : l0_6.length ≤ c0_6) (hb0_ : w.heap[gb0_]? = some (.cells #[.int .i64 a0_0, .int .i64 a0_1, .int .i64 a0_2, .int .i64 a0_3, .slice A0_4 l0_4.length c0_4, .int .i64 a0_5, .slice A0_6 l0_6.length c0_6] 26 (0, 0))) (h : impl_Bits_field_in_26_3.f k a0_0 a0_1 a0_2 a0_3 l0_4 a0_5 l0_6 a1 a2 = some r) :
    Calls Try.prog 99 #[.pointer (some ⟨gb0_, 3, none⟩), .int .i64 a1, .int .i64 a2] w fun e w' => e = .returned (.int .i64 r) ∧ Drawn0 w w' := by
  have HR0_4 := Qx hr0_4; have HC0_4 := Qx hc0_4; clear hr0_4 hc0_4; have HR0_6 := Qx hr0_6; have HC0_6 := Qx hc0_6; clear hr0_6 hc0_6; have BK0 := Qx hb0_; clear hb0_
  have H : (impl_Bits_field_in_26_3.l0 k a1 0 a2 0 a0_0 a0_1 a0_2 a0_3 l0_4 a0_5 l0_6) = some r := h
  clear h; have H' := Qx H; clear H
  go_enter Try.func99, Try.ntmps99
  go_wp2
  go_loopg [7, 10] k (fun kq v7 v10 w' => ∃ (x7_1 : Int) (x10_1 : Int), v7 = .int .i64 x7_1 ∧ v10 = .int .i64 x10_1 ∧ Aside0 (impl_Bits_field_in_26_3.l0 kq a1 x7_1 a2 x10_1 a0_0 a0_1 a0_2 a0_3 l0_4 a0_5 l0_6 = some r) ∧ Aside0 (kq ≤ k) ∧ Drawn0 w w')
  case atStart => exact ⟨(0), (0), (by first | rfl | (simp; done) | (simp [*]; done)), (by first | rfl | (simp; done) | (simp [*]; done)), H', ⟨Nat.le_refl _⟩, by repeat (first | exact Drawn0.refl _ | apply Drawn0.step)⟩
  case round =>
   clear H'
   try clear p2
   obtain ⟨x7_1, x10_1, rfl, rfl, HA, HK1, ⟨m1, rfl⟩⟩ := hrel
   cases gk with
   | zero => exact absurd HA.out (by simp [impl_Bits_field_in_26_3.l0])
   | succ k1 =>
    have H := HA.out; clear HA; simp only [impl_Bits_field_in_26_3.l0] at H
    by_cases c4 : x10_1 < a2
    ·rw [if_pos c4] at H
     have c4b0 : decide (x10_1 < a2) = true := decide_eq_true c4
     clear c4; replace H := Option.bind_eq_some_iff.mp H; obtain ⟨t386, A50, H⟩ := H
     have A5 := Qx A50; clear A50
     by_cases c6 : t386 = true
     ·subst c6
      have H1 : (if 0 ≤ x10_1 then (impl_Bits_field_in_26_3.l0 k1 a1 (Go.bits .or .i64 x7_1 (shl .i64 1 x10_1)) a2 (wrap64 (x10_1 + 1)) a0_0 a0_1 a0_2 a0_3 l0_4 a0_5 l0_6) else (none)) = some r := by rw [if_pos rfl] at H; exact H
      clear H; have H := H1; clear H1
      by_cases c7 : 0 ≤ x10_1
      ·rw [if_pos c7] at H; have c7b0 := eq_true c7
       have c7b1 : decide (0 ≤ x10_1) = true := decide_eq_true c7
       clear c7
       obtain ⟨ji8, hji8⟩ : ∃ j_ : Int, (shl .i64 1 x10_1) = j_ := ⟨_, rfl⟩
       replace H : (impl_Bits_field_in_26_3.l0 k1 a1 (Go.bits .or .i64 x7_1 (ji8)) a2 (wrap64 (x10_1 + 1)) a0_0 a0_1 a0_2 a0_3 l0_4 a0_5 l0_6) = some r := by first | (rw [hji8] at H; exact H) | (simp only [hji8] at H ⊢; exact H)
       (try rw [hji8] at A5)
       have hji8_ : (IntKind.i64.wrap (1 * 2 ^ min x10_1.toNat 64)) = ji8 := hji8
       have hji8z : x10_1 ≤ 64 → (IntKind.i64.wrap (1 * 2 ^ x10_1.toNat)) = ji8 := shl_small hji8
       have hji8u : (IntKind.i64.wrap (2 ^ min x10_1.toNat 64)) = ji8 := by have h_ := hji8_; rw [Int.one_mul] at h_; exact h_
       have hji8v : x10_1 ≤ 64 → (IntKind.i64.wrap (2 ^ x10_1.toNat)) = ji8 := fun hle_ => by have h_ := hji8z hle_; rw [Int.one_mul] at h_; exact h_
       have hji8y : (wrap64 (1 * 2 ^ min x10_1.toNat 64)) = ji8 := (i64_w _).symm.trans hji8_
       have hji8x : x10_1 ≤ 64 → (wrap64 (1 * 2 ^ x10_1.toNat)) = ji8 := fun h_ => (i64_w _).symm.trans (hji8z h_)
       have H' := Qx H; clear H
       go_wp2_with (first | ((with_reducible refine gate_callee (f := 98) rfl ?_); refine goesL_ (some 17) rfl rfl Try.func98 (by kernel_rfl) rfl #[.pointer (some ⟨gb0_, 3, none⟩), .int .i64 (wrap64 (a1 + x10_1))] rfl (by (try simp only [List.map_toArray, List.map_cons, List.map_nil]); first | done | rfl | (simp only [List.length_drop, List.length_take]; rfl)) ?_; (with_reducible refine (impl_Bits_at_in_26_3.calls gb0_ a0_0 a0_1 a0_2 a0_3 A0_4 c0_4 l0_4 a0_5 A0_6 c0_6 l0_6 (wrap64 (a1 + x10_1)) true _ ?side1 ?side2 ?side3 ?side4 ?side5 A5.out).mono ?_); (case side1 => repeat (first | exact HR0_4.out | (with_reducible refine Kd.C_alloc ?_ _) | (with_reducible refine Kd.C_drewN ?_ _) | (with_reducible refine Kd.C_drew ?_))); (case side2 => exact HC0_4.out); (case side3 => repeat (first | exact HR0_6.out | (with_reducible refine Kd.C_alloc ?_ _) | (with_reducible refine Kd.C_drewN ?_ _) | (with_reducible refine Kd.C_drew ?_))); (case side4 => exact HC0_6.out); (case side5 => exact (by (with_reducible repeat (first | refine Qm ?_ _ | refine Qw ?_ | refine Qk ?_ _)); exact BK0.out)); rintro e w' ⟨rfl, ⟨nd, rfl⟩⟩; refine ⟨_, rfl, ?_⟩))
       go_roundg k1
       case measure => have := HK1.out; omega
       case rel => exact ⟨(Go.bits .or .i64 x7_1 (ji8)), (wrap64 (x10_1 + 1)), (by first | rfl | (simp; done) | (simp only [← hji8] <;> (first | rfl | simp)) | (simp [*]; done)), (by first | rfl | (simp; done) | (simp [*]; done)), H', ⟨by have := HK1.out; omega⟩, by repeat (first | exact Drawn0.refl _ | apply Drawn0.step)⟩
      ·rw [if_neg c7] at H
       exact absurd H (by simp)
     ·replace c6 := Bool.eq_false_iff.mpr c6; subst c6
      have H1 : (impl_Bits_field_in_26_3.l0 k1 a1 x7_1 a2 (wrap64 (x10_1 + 1)) a0_0 a0_1 a0_2 a0_3 l0_4 a0_5 l0_6) = some r := by rw [if_neg (show ¬ (false = true) by decide)] at H; exact H
      clear H; have H := H1; clear H1; have H' := Qx H; clear H
      go_wp2_with (first | ((with_reducible refine gate_callee (f := 98) rfl ?_); refine goesL_ (some 17) rfl rfl Try.func98 (by kernel_rfl) rfl #[.pointer (some ⟨gb0_, 3, none⟩), .int .i64 (wrap64 (a1 + x10_1))] rfl (by (try simp only [List.map_toArray, List.map_cons, List.map_nil]); first | done | rfl | (simp only [List.length_drop, List.length_take]; rfl)) ?_; (with_reducible refine (impl_Bits_at_in_26_3.calls gb0_ a0_0 a0_1 a0_2 a0_3 A0_4 c0_4 l0_4 a0_5 A0_6 c0_6 l0_6 (wrap64 (a1 + x10_1)) false _ ?side1 ?side2 ?side3 ?side4 ?side5 A5.out).mono ?_); (case side1 => repeat (first | exact HR0_4.out | (with_reducible refine Kd.C_alloc ?_ _) | (with_reducible refine Kd.C_drewN ?_ _) | (with_reducible refine Kd.C_drew ?_))); (case side2 => exact HC0_4.out); (case side3 => repeat (first | exact HR0_6.out | (with_reducible refine Kd.C_alloc ?_ _) | (with_reducible refine Kd.C_drewN ?_ _) | (with_reducible refine Kd.C_drew ?_))); (case side4 => exact HC0_6.out); (case side5 => exact (by (with_reducible repeat (first | refine Qm ?_ _ | refine Qw ?_ | refine Qk ?_ _)); exact BK0.out)); rintro e w' ⟨rfl, ⟨nd, rfl⟩⟩; refine ⟨_, rfl, ?_⟩))
      go_roundg k1
      case measure => have := HK1.out; omega
      case rel => exact ⟨(x7_1), (wrap64 (x10_1 + 1)), (by first | rfl | (simp; done) | (simp [*]; done)), (by first | rfl | (simp; done) | (simp [*]; done)), H', ⟨by have := HK1.out; omega⟩, by repeat (first | exact Drawn0.refl _ | apply Drawn0.step)⟩
    ·rw [if_neg c4] at H
     have c4b0 : decide (x10_1 < a2) = false := decide_eq_false c4
     clear c4; obtain rfl := Option.some.inj H
     go_wp2
     go_ret
     exact ⟨by first | rfl | (simp; done) | (simp [*]; done), by repeat (first | exact Drawn0.refl _ | apply Drawn0.step)⟩
/-! ### impl_Sparse_numbers: function 63 -/
mutual
def impl_Sparse_numbers.j0 : Nat → Int → Bool → Int → Int → Int → Int → List Int → Int → List Int → Option (List Int × Bool)
  | 0, _, _, _, _, _, _, _, _, _ => none
  | k + 1, x4, x61, x1000, x1001, x1002, x1003, x1004, x1005, x1006 => if x61 = true then (some (([] : List Int), false)) else (impl_Sparse_numbers.l0 k x4 (([] : List Int)) x1005 0 x1000 x1001 x1002 x1003 x1004 x1005 x1006)
def impl_Sparse_numbers.l0 : Nat → Int → List Int → Int → Int → Int → Int → Int → Int → List Int → Int → List Int → Option (List Int × Bool)
  | 0, _, _, _, _, _, _, _, _, _, _, _ => none
  | k + 1, x4, x6, x67, x68, x1000, x1001, x1002, x1003, x1004, x1005, x1006 => if x68 < x67 then ((impl_Bits_at_in_26_5.f x1000 x1001 x1002 x1003 x1004 x1005 x1006 x68).bind fun t394 => (if t394 = true then (if (x6.length : Int) < x1000 then (if 0 ≤ x4 then ((impl_Bits_field_in_26_3.f k x1000 x1001 x1002 x1003 x1004 x1005 x1006 (wrap64 ((x6.length : Int) * x4)) x4).bind fun t395 => (if x6.length < 17592186044416 then (impl_Sparse_numbers.l0 k x4 (x6 ++ [Go.bits .or .i64 (shl .i64 (wrap64 (x68 - (x6.length : Int))) x4) t395]) x67 (wrap64 (x68 + 1)) x1000 x1001 x1002 x1003 x1004 x1005 x1006) else (none))) else (none)) else (impl_Sparse_numbers.l0 k x4 x6 x67 (wrap64 (x68 + 1)) x1000 x1001 x1002 x1003 x1004 x1005 x1006)) else (impl_Sparse_numbers.l0 k x4 x6 x67 (wrap64 (x68 + 1)) x1000 x1001 x1002 x1003 x1004 x1005 x1006))) else (if (x6.length : Int) = x1000 then ((impl_sortedOk.f k x6 x1001).bind fun t399 => (impl_Sparse_numbers.j2 k x6 (!t399) x1000 x1001 x1002 x1003 x1004 x1005 x1006)) else (impl_Sparse_numbers.j2 k x6 true x1000 x1001 x1002 x1003 x1004 x1005 x1006))
def impl_Sparse_numbers.j2 : Nat → List Int → Bool → Int → Int → Int → Int → List Int → Int → List Int → Option (List Int × Bool)
  | 0, _, _, _, _, _, _, _, _, _ => none
  | k + 1, x6, x119, x1000, x1001, x1002, x1003, x1004, x1005, x1006 => if x119 = true then (some (([] : List Int), false)) else ((impl_sparse.f k x6 x1001).bind fun bt400 => ((impl_sameBits.f k bt400.2.2.2.1 bt400.2.2.2.2.1 x1003 x1004).bind fun t412 => (if t412 = true then ((impl_sameBits.f k bt400.2.2.2.2.2.1 bt400.2.2.2.2.2.2 x1005 x1006).bind fun t413 => (some (x6, t413))) else (some (x6, false)))))
end
def impl_Sparse_numbers.f (k : Nat) (a0_0 : Int) (a0_1 : Int) (a0_2 : Int) (a0_3 : Int) (l0_4 : List Int) (a0_5 : Int) (l0_6 : List Int) : Option (List Int × Bool) := (impl_WidthFor.f k a0_0 a0_1).bind fun bt387 => (if bt387.2 = true then (if bt387.1 = a0_2 then ((impl_IsBits.f k a0_3 l0_4).bind fun t389 => (if t389 = true then ((impl_IsBits.f k a0_5 l0_6).bind fun t390 => (if t390 = true then (impl_Sparse_numbers.j0 k bt387.1 (a0_3 != (wrap64 (bt387.1 * a0_0))) a0_0 a0_1 a0_2 a0_3 l0_4 a0_5 l0_6) else (impl_Sparse_numbers.j0 k bt387.1 true a0_0 a0_1 a0_2 a0_3 l0_4 a0_5 l0_6))) else (impl_Sparse_numbers.j0 k bt387.1 true a0_0 a0_1 a0_2 a0_3 l0_4 a0_5 l0_6))) else (impl_Sparse_numbers.j0 k bt387.1 true a0_0 a0_1 a0_2 a0_3 l0_4 a0_5 l0_6)) else (impl_Sparse_numbers.j0 k bt387.1 true a0_0 a0_1 a0_2 a0_3 l0_4 a0_5 l0_6))
theorem impl_Sparse_numbers.mono_l : ∀ k, (∀ y0 y1 y2 y3 y4 y5 y6 y7 y8, LeO (impl_Sparse_numbers.j0 k y0 y1 y2 y3 y4 y5 y6 y7 y8) (impl_Sparse_numbers.j0 (k + 1) y0 y1 y2 y3 y4 y5 y6 y7 y8)) ∧ (∀ y0 y1 y2 y3 y4 y5 y6 y7 y8 y9 y10, LeO (impl_Sparse_numbers.l0 k y0 y1 y2 y3 y4 y5 y6 y7 y8 y9 y10) (impl_Sparse_numbers.l0 (k + 1) y0 y1 y2 y3 y4 y5 y6 y7 y8 y9 y10)) ∧ (∀ y0 y1 y2 y3 y4 y5 y6 y7 y8, LeO (impl_Sparse_numbers.j2 k y0 y1 y2 y3 y4 y5 y6 y7 y8) (impl_Sparse_numbers.j2 (k + 1) y0 y1 y2 y3 y4 y5 y6 y7 y8))
  | 0 => ⟨fun _ _ _ _ _ _ _ _ _ r h => by simp [impl_Sparse_numbers.j0] at h, fun _ _ _ _ _ _ _ _ _ _ _ r h => by simp [impl_Sparse_numbers.l0] at h, fun _ _ _ _ _ _ _ _ _ r h => by simp [impl_Sparse_numbers.j2] at h⟩
  | k + 1 => by
    obtain ⟨ih0, ih1, ih2⟩ := impl_Sparse_numbers.mono_l k
    refine ⟨?_, ?_, ?_⟩
    · intro y0 y1 y2 y3 y4 y5 y6 y7 y8
      unfold impl_Sparse_numbers.j0
      repeat' first
      | (with_reducible exact ih0 _ _ _ _ _ _ _ _ _)
      | (with_reducible exact ih1 _ _ _ _ _ _ _ _ _ _ _)
      | (with_reducible exact ih2 _ _ _ _ _ _ _ _ _)
      | (with_reducible exact impl_Bits_field_in_26_3.mono _ _ _ _ _ _ _ _ _ _)
      | (with_reducible exact impl_IsBits.mono _ _ _)
      | (with_reducible exact impl_WidthFor.mono _ _ _)
      | (with_reducible exact impl_sameBits.mono _ _ _ _ _)
      | (with_reducible exact impl_sortedOk.mono _ _ _)
      | (with_reducible exact impl_sparse.mono _ _ _)
      | (with_reducible exact LeO.refl _)
      | (with_reducible exact LeO.none _)
      | (with_reducible refine LeO.ite ?_ ?_)
      | (with_reducible refine LeO.bind ?_ (fun _ => ?_))
      | exact ih0 _ _ _ _ _ _ _ _ _
      | exact ih1 _ _ _ _ _ _ _ _ _ _ _
      | exact ih2 _ _ _ _ _ _ _ _ _
      | exact impl_Bits_field_in_26_3.mono _ _ _ _ _ _ _ _ _ _
      | exact impl_IsBits.mono _ _ _
      | exact impl_WidthFor.mono _ _ _
      | exact impl_sameBits.mono _ _ _ _ _
      | exact impl_sortedOk.mono _ _ _
      | exact impl_sparse.mono _ _ _
      | exact LeO.none _
      | refine LeO.ite ?_ ?_
      | refine LeO.bind ?_ (fun _ => ?_)
    · intro y0 y1 y2 y3 y4 y5 y6 y7 y8 y9 y10
      unfold impl_Sparse_numbers.l0
      repeat' first
      | (with_reducible exact ih0 _ _ _ _ _ _ _ _ _)
      | (with_reducible exact ih1 _ _ _ _ _ _ _ _ _ _ _)
      | (with_reducible exact ih2 _ _ _ _ _ _ _ _ _)
      | (with_reducible exact impl_Bits_field_in_26_3.mono _ _ _ _ _ _ _ _ _ _)
      | (with_reducible exact impl_IsBits.mono _ _ _)
      | (with_reducible exact impl_WidthFor.mono _ _ _)
      | (with_reducible exact impl_sameBits.mono _ _ _ _ _)
      | (with_reducible exact impl_sortedOk.mono _ _ _)
      | (with_reducible exact impl_sparse.mono _ _ _)
      | (with_reducible exact LeO.refl _)
      | (with_reducible exact LeO.none _)
      | (with_reducible refine LeO.ite ?_ ?_)
      | (with_reducible refine LeO.bind ?_ (fun _ => ?_))
      | exact ih0 _ _ _ _ _ _ _ _ _
      | exact ih1 _ _ _ _ _ _ _ _ _ _ _
      | exact ih2 _ _ _ _ _ _ _ _ _
      | exact impl_Bits_field_in_26_3.mono _ _ _ _ _ _ _ _ _ _
      | exact impl_IsBits.mono _ _ _
      | exact impl_WidthFor.mono _ _ _
      | exact impl_sameBits.mono _ _ _ _ _
      | exact impl_sortedOk.mono _ _ _
      | exact impl_sparse.mono _ _ _
      | exact LeO.none _
      | refine LeO.ite ?_ ?_
      | refine LeO.bind ?_ (fun _ => ?_)
    · intro y0 y1 y2 y3 y4 y5 y6 y7 y8
      unfold impl_Sparse_numbers.j2
      repeat' first
      | (with_reducible exact ih0 _ _ _ _ _ _ _ _ _)
      | (with_reducible exact ih1 _ _ _ _ _ _ _ _ _ _ _)
      | (with_reducible exact ih2 _ _ _ _ _ _ _ _ _)
      | (with_reducible exact impl_Bits_field_in_26_3.mono _ _ _ _ _ _ _ _ _ _)
      | (with_reducible exact impl_IsBits.mono _ _ _)
      | (with_reducible exact impl_WidthFor.mono _ _ _)
      | (with_reducible exact impl_sameBits.mono _ _ _ _ _)
      | (with_reducible exact impl_sortedOk.mono _ _ _)
      | (with_reducible exact impl_sparse.mono _ _ _)
      | (with_reducible exact LeO.refl _)
      | (with_reducible exact LeO.none _)
      | (with_reducible refine LeO.ite ?_ ?_)
      | (with_reducible refine LeO.bind ?_ (fun _ => ?_))
      | exact ih0 _ _ _ _ _ _ _ _ _
      | exact ih1 _ _ _ _ _ _ _ _ _ _ _
      | exact ih2 _ _ _ _ _ _ _ _ _
      | exact impl_Bits_field_in_26_3.mono _ _ _ _ _ _ _ _ _ _
      | exact impl_IsBits.mono _ _ _
      | exact impl_WidthFor.mono _ _ _
      | exact impl_sameBits.mono _ _ _ _ _
      | exact impl_sortedOk.mono _ _ _
      | exact impl_sparse.mono _ _ _
      | exact LeO.none _
      | refine LeO.ite ?_ ?_
      | refine LeO.bind ?_ (fun _ => ?_)
theorem impl_Sparse_numbers.mono : ∀ a0 a1 a2 a3 a4 a5 a6 k, LeO (impl_Sparse_numbers.f k a0 a1 a2 a3 a4 a5 a6) (impl_Sparse_numbers.f (k + 1) a0 a1 a2 a3 a4 a5 a6) := by
  intro a0 a1 a2 a3 a4 a5 a6 k
  obtain ⟨ih0, ih1, ih2⟩ := impl_Sparse_numbers.mono_l k
  unfold impl_Sparse_numbers.f
  repeat' first
      | (with_reducible exact ih0 _ _ _ _ _ _ _ _ _)
      | (with_reducible exact ih1 _ _ _ _ _ _ _ _ _ _ _)
      | (with_reducible exact ih2 _ _ _ _ _ _ _ _ _)
      | (with_reducible exact impl_Bits_field_in_26_3.mono _ _ _ _ _ _ _ _ _ _)
      | (with_reducible exact impl_IsBits.mono _ _ _)
      | (with_reducible exact impl_WidthFor.mono _ _ _)
      | (with_reducible exact impl_sameBits.mono _ _ _ _ _)
      | (with_reducible exact impl_sortedOk.mono _ _ _)
      | (with_reducible exact impl_sparse.mono _ _ _)
      | (with_reducible exact LeO.refl _)
      | (with_reducible exact LeO.none _)
      | (with_reducible refine LeO.ite ?_ ?_)
      | (with_reducible refine LeO.bind ?_ (fun _ => ?_))
      | exact ih0 _ _ _ _ _ _ _ _ _
      | exact ih1 _ _ _ _ _ _ _ _ _ _ _
      | exact ih2 _ _ _ _ _ _ _ _ _
      | exact impl_Bits_field_in_26_3.mono _ _ _ _ _ _ _ _ _ _
      | exact impl_IsBits.mono _ _ _
      | exact impl_WidthFor.mono _ _ _
      | exact impl_sameBits.mono _ _ _ _ _
      | exact impl_sortedOk.mono _ _ _
      | exact impl_sparse.mono _ _ _
      | exact LeO.none _
      | refine LeO.ite ?_ ?_
      | refine LeO.bind ?_ (fun _ => ?_)
noncomputable def impl_Sparse_numbers.J0 (y0 : Int) (y1 : Bool) (y2 : Int) (y3 : Int) (y4 : Int) (y5 : Int) (y6 : List Int) (y7 : Int) (y8 : List Int) : Option (List Int × Bool) := lim fun k => impl_Sparse_numbers.j0 k y0 y1 y2 y3 y4 y5 y6 y7 y8
theorem impl_Sparse_numbers.J0_sup (y0 : Int) (y1 : Bool) (y2 : Int) (y3 : Int) (y4 : Int) (y5 : Int) (y6 : List Int) (y7 : Int) (y8 : List Int) : Sup (fun k => impl_Sparse_numbers.j0 k y0 y1 y2 y3 y4 y5 y6 y7 y8) (impl_Sparse_numbers.J0 y0 y1 y2 y3 y4 y5 y6 y7 y8) := Sup.of_mono fun k => (impl_Sparse_numbers.mono_l k).1 y0 y1 y2 y3 y4 y5 y6 y7 y8
noncomputable def impl_Sparse_numbers.L0 (y0 : Int) (y1 : List Int) (y2 : Int) (y3 : Int) (y4 : Int) (y5 : Int) (y6 : Int) (y7 : Int) (y8 : List Int) (y9 : Int) (y10 : List Int) : Option (List Int × Bool) := lim fun k => impl_Sparse_numbers.l0 k y0 y1 y2 y3 y4 y5 y6 y7 y8 y9 y10
theorem impl_Sparse_numbers.L0_sup (y0 : Int) (y1 : List Int) (y2 : Int) (y3 : Int) (y4 : Int) (y5 : Int) (y6 : Int) (y7 : Int) (y8 : List Int) (y9 : Int) (y10 : List Int) : Sup (fun k => impl_Sparse_numbers.l0 k y0 y1 y2 y3 y4 y5 y6 y7 y8 y9 y10) (impl_Sparse_numbers.L0 y0 y1 y2 y3 y4 y5 y6 y7 y8 y9 y10) := Sup.of_mono fun k => (impl_Sparse_numbers.mono_l k).2.1 y0 y1 y2 y3 y4 y5 y6 y7 y8 y9 y10
noncomputable def impl_Sparse_numbers.J2 (y0 : List Int) (y1 : Bool) (y2 : Int) (y3 : Int) (y4 : Int) (y5 : Int) (y6 : List Int) (y7 : Int) (y8 : List Int) : Option (List Int × Bool) := lim fun k => impl_Sparse_numbers.j2 k y0 y1 y2 y3 y4 y5 y6 y7 y8
theorem impl_Sparse_numbers.J2_sup (y0 : List Int) (y1 : Bool) (y2 : Int) (y3 : Int) (y4 : Int) (y5 : Int) (y6 : List Int) (y7 : Int) (y8 : List Int) : Sup (fun k => impl_Sparse_numbers.j2 k y0 y1 y2 y3 y4 y5 y6 y7 y8) (impl_Sparse_numbers.J2 y0 y1 y2 y3 y4 y5 y6 y7 y8) := Sup.of_mono fun k => (impl_Sparse_numbers.mono_l k).2.2 y0 y1 y2 y3 y4 y5 y6 y7 y8
noncomputable def impl_Sparse_numbers.F (a0_0 : Int) (a0_1 : Int) (a0_2 : Int) (a0_3 : Int) (l0_4 : List Int) (a0_5 : Int) (l0_6 : List Int) : Option (List Int × Bool) := lim fun k => impl_Sparse_numbers.f k a0_0 a0_1 a0_2 a0_3 l0_4 a0_5 l0_6
theorem impl_Sparse_numbers.F_sup (a0_0 : Int) (a0_1 : Int) (a0_2 : Int) (a0_3 : Int) (l0_4 : List Int) (a0_5 : Int) (l0_6 : List Int) : Sup (fun k => impl_Sparse_numbers.f k a0_0 a0_1 a0_2 a0_3 l0_4 a0_5 l0_6) (impl_Sparse_numbers.F a0_0 a0_1 a0_2 a0_3 l0_4 a0_5 l0_6) := Sup.of_mono fun k => impl_Sparse_numbers.mono a0_0 a0_1 a0_2 a0_3 l0_4 a0_5 l0_6 k
theorem impl_Sparse_numbers.J0_eq (x4 : Int) (x61 : Bool) (x1000 : Int) (x1001 : Int) (x1002 : Int) (x1003 : Int) (x1004 : List Int) (x1005 : Int) (x1006 : List Int) : impl_Sparse_numbers.J0 x4 x61 x1000 x1001 x1002 x1003 x1004 x1005 x1006 = if x61 = true then (some (([] : List Int), false)) else (impl_Sparse_numbers.L0 x4 (([] : List Int)) x1005 0 x1000 x1001 x1002 x1003 x1004 x1005 x1006) := by
  refine Sup.unique (impl_Sparse_numbers.J0_sup x4 x61 x1000 x1001 x1002 x1003 x1004 x1005 x1006) (Sup.shift (fun k => (impl_Sparse_numbers.mono_l k).1 x4 x61 x1000 x1001 x1002 x1003 x1004 x1005 x1006) (Sup.congr (g' := fun k => if x61 = true then (some (([] : List Int), false)) else (impl_Sparse_numbers.l0 k x4 (([] : List Int)) x1005 0 x1000 x1001 x1002 x1003 x1004 x1005 x1006)) (fun k => by first | rfl | simp only [impl_Sparse_numbers.j0]) ?_))
  repeat' first
    | (with_reducible exact impl_Sparse_numbers.J0_sup _ _ _ _ _ _ _ _ _)
    | (with_reducible exact impl_Sparse_numbers.L0_sup _ _ _ _ _ _ _ _ _ _ _)
    | (with_reducible exact impl_Sparse_numbers.J2_sup _ _ _ _ _ _ _ _ _)
    | (with_reducible exact impl_sortedOk.F_sup _ _)
    | (with_reducible exact impl_sparse.F_sup _ _)
    | (with_reducible exact impl_WidthFor.F_sup _ _)
    | (with_reducible exact impl_IsBits.F_sup _ _)
    | (with_reducible exact impl_sameBits.F_sup _ _ _ _)
    | (with_reducible exact impl_Bits_field_in_26_3.F_sup _ _ _ _ _ _ _ _ _)
    | (with_reducible refine Sup.ite ?_ ?_)
    | (with_reducible refine Sup.bind ?_ (fun _ => ?_))
    | (with_reducible exact Sup.const _)
    | exact impl_Sparse_numbers.J0_sup _ _ _ _ _ _ _ _ _
    | exact impl_Sparse_numbers.L0_sup _ _ _ _ _ _ _ _ _ _ _
    | exact impl_Sparse_numbers.J2_sup _ _ _ _ _ _ _ _ _
    | exact impl_sortedOk.F_sup _ _
    | exact impl_sparse.F_sup _ _
    | exact impl_WidthFor.F_sup _ _
    | exact impl_IsBits.F_sup _ _
    | exact impl_sameBits.F_sup _ _ _ _
    | exact impl_Bits_field_in_26_3.F_sup _ _ _ _ _ _ _ _ _
    | exact Sup.const _
theorem impl_Sparse_numbers.L0_eq (x4 : Int) (x6 : List Int) (x67 : Int) (x68 : Int) (x1000 : Int) (x1001 : Int) (x1002 : Int) (x1003 : Int) (x1004 : List Int) (x1005 : Int) (x1006 : List Int) : impl_Sparse_numbers.L0 x4 x6 x67 x68 x1000 x1001 x1002 x1003 x1004 x1005 x1006 = if x68 < x67 then ((impl_Bits_at_in_26_5.f x1000 x1001 x1002 x1003 x1004 x1005 x1006 x68).bind fun t394 => (if t394 = true then (if (x6.length : Int) < x1000 then (if 0 ≤ x4 then ((impl_Bits_field_in_26_3.F x1000 x1001 x1002 x1003 x1004 x1005 x1006 (wrap64 ((x6.length : Int) * x4)) x4).bind fun t395 => (if x6.length < 17592186044416 then (impl_Sparse_numbers.L0 x4 (x6 ++ [Go.bits .or .i64 (shl .i64 (wrap64 (x68 - (x6.length : Int))) x4) t395]) x67 (wrap64 (x68 + 1)) x1000 x1001 x1002 x1003 x1004 x1005 x1006) else (none))) else (none)) else (impl_Sparse_numbers.L0 x4 x6 x67 (wrap64 (x68 + 1)) x1000 x1001 x1002 x1003 x1004 x1005 x1006)) else (impl_Sparse_numbers.L0 x4 x6 x67 (wrap64 (x68 + 1)) x1000 x1001 x1002 x1003 x1004 x1005 x1006))) else (if (x6.length : Int) = x1000 then ((impl_sortedOk.F x6 x1001).bind fun t399 => (impl_Sparse_numbers.J2 x6 (!t399) x1000 x1001 x1002 x1003 x1004 x1005 x1006)) else (impl_Sparse_numbers.J2 x6 true x1000 x1001 x1002 x1003 x1004 x1005 x1006)) := by
  refine Sup.unique (impl_Sparse_numbers.L0_sup x4 x6 x67 x68 x1000 x1001 x1002 x1003 x1004 x1005 x1006) (Sup.shift (fun k => (impl_Sparse_numbers.mono_l k).2.1 x4 x6 x67 x68 x1000 x1001 x1002 x1003 x1004 x1005 x1006) (Sup.congr (g' := fun k => if x68 < x67 then ((impl_Bits_at_in_26_5.f x1000 x1001 x1002 x1003 x1004 x1005 x1006 x68).bind fun t394 => (if t394 = true then (if (x6.length : Int) < x1000 then (if 0 ≤ x4 then ((impl_Bits_field_in_26_3.f k x1000 x1001 x1002 x1003 x1004 x1005 x1006 (wrap64 ((x6.length : Int) * x4)) x4).bind fun t395 => (if x6.length < 17592186044416 then (impl_Sparse_numbers.l0 k x4 (x6 ++ [Go.bits .or .i64 (shl .i64 (wrap64 (x68 - (x6.length : Int))) x4) t395]) x67 (wrap64 (x68 + 1)) x1000 x1001 x1002 x1003 x1004 x1005 x1006) else (none))) else (none)) else (impl_Sparse_numbers.l0 k x4 x6 x67 (wrap64 (x68 + 1)) x1000 x1001 x1002 x1003 x1004 x1005 x1006)) else (impl_Sparse_numbers.l0 k x4 x6 x67 (wrap64 (x68 + 1)) x1000 x1001 x1002 x1003 x1004 x1005 x1006))) else (if (x6.length : Int) = x1000 then ((impl_sortedOk.f k x6 x1001).bind fun t399 => (impl_Sparse_numbers.j2 k x6 (!t399) x1000 x1001 x1002 x1003 x1004 x1005 x1006)) else (impl_Sparse_numbers.j2 k x6 true x1000 x1001 x1002 x1003 x1004 x1005 x1006))) (fun k => by first | rfl | simp only [impl_Sparse_numbers.l0]) ?_))
  repeat' first
    | (with_reducible exact impl_Sparse_numbers.J0_sup _ _ _ _ _ _ _ _ _)
    | (with_reducible exact impl_Sparse_numbers.L0_sup _ _ _ _ _ _ _ _ _ _ _)
    | (with_reducible exact impl_Sparse_numbers.J2_sup _ _ _ _ _ _ _ _ _)
    | (with_reducible exact impl_sortedOk.F_sup _ _)
    | (with_reducible exact impl_sparse.F_sup _ _)
    | (with_reducible exact impl_WidthFor.F_sup _ _)
    | (with_reducible exact impl_IsBits.F_sup _ _)
    | (with_reducible exact impl_sameBits.F_sup _ _ _ _)
    | (with_reducible exact impl_Bits_field_in_26_3.F_sup _ _ _ _ _ _ _ _ _)
    | (with_reducible refine Sup.ite ?_ ?_)
    | (with_reducible refine Sup.bind ?_ (fun _ => ?_))
    | (with_reducible exact Sup.const _)
    | exact impl_Sparse_numbers.J0_sup _ _ _ _ _ _ _ _ _
    | exact impl_Sparse_numbers.L0_sup _ _ _ _ _ _ _ _ _ _ _
    | exact impl_Sparse_numbers.J2_sup _ _ _ _ _ _ _ _ _
    | exact impl_sortedOk.F_sup _ _
    | exact impl_sparse.F_sup _ _
    | exact impl_WidthFor.F_sup _ _
    | exact impl_IsBits.F_sup _ _
    | exact impl_sameBits.F_sup _ _ _ _
    | exact impl_Bits_field_in_26_3.F_sup _ _ _ _ _ _ _ _ _
    | exact Sup.const _
theorem impl_Sparse_numbers.J2_eq (x6 : List Int) (x119 : Bool) (x1000 : Int) (x1001 : Int) (x1002 : Int) (x1003 : Int) (x1004 : List Int) (x1005 : Int) (x1006 : List Int) : impl_Sparse_numbers.J2 x6 x119 x1000 x1001 x1002 x1003 x1004 x1005 x1006 = if x119 = true then (some (([] : List Int), false)) else ((impl_sparse.F x6 x1001).bind fun bt400 => ((impl_sameBits.F bt400.2.2.2.1 bt400.2.2.2.2.1 x1003 x1004).bind fun t412 => (if t412 = true then ((impl_sameBits.F bt400.2.2.2.2.2.1 bt400.2.2.2.2.2.2 x1005 x1006).bind fun t413 => (some (x6, t413))) else (some (x6, false))))) := by
  refine Sup.unique (impl_Sparse_numbers.J2_sup x6 x119 x1000 x1001 x1002 x1003 x1004 x1005 x1006) (Sup.shift (fun k => (impl_Sparse_numbers.mono_l k).2.2 x6 x119 x1000 x1001 x1002 x1003 x1004 x1005 x1006) (Sup.congr (g' := fun k => if x119 = true then (some (([] : List Int), false)) else ((impl_sparse.f k x6 x1001).bind fun bt400 => ((impl_sameBits.f k bt400.2.2.2.1 bt400.2.2.2.2.1 x1003 x1004).bind fun t412 => (if t412 = true then ((impl_sameBits.f k bt400.2.2.2.2.2.1 bt400.2.2.2.2.2.2 x1005 x1006).bind fun t413 => (some (x6, t413))) else (some (x6, false)))))) (fun k => by first | rfl | simp only [impl_Sparse_numbers.j2]) ?_))
  repeat' first
    | (with_reducible exact impl_Sparse_numbers.J0_sup _ _ _ _ _ _ _ _ _)
    | (with_reducible exact impl_Sparse_numbers.L0_sup _ _ _ _ _ _ _ _ _ _ _)
    | (with_reducible exact impl_Sparse_numbers.J2_sup _ _ _ _ _ _ _ _ _)
    | (with_reducible exact impl_sortedOk.F_sup _ _)
    | (with_reducible exact impl_sparse.F_sup _ _)
    | (with_reducible exact impl_WidthFor.F_sup _ _)
    | (with_reducible exact impl_IsBits.F_sup _ _)
    | (with_reducible exact impl_sameBits.F_sup _ _ _ _)
    | (with_reducible exact impl_Bits_field_in_26_3.F_sup _ _ _ _ _ _ _ _ _)
    | (with_reducible refine Sup.ite ?_ ?_)
    | (with_reducible refine Sup.bind ?_ (fun _ => ?_))
    | (with_reducible exact Sup.const _)
    | exact impl_Sparse_numbers.J0_sup _ _ _ _ _ _ _ _ _
    | exact impl_Sparse_numbers.L0_sup _ _ _ _ _ _ _ _ _ _ _
    | exact impl_Sparse_numbers.J2_sup _ _ _ _ _ _ _ _ _
    | exact impl_sortedOk.F_sup _ _
    | exact impl_sparse.F_sup _ _
    | exact impl_WidthFor.F_sup _ _
    | exact impl_IsBits.F_sup _ _
    | exact impl_sameBits.F_sup _ _ _ _
    | exact impl_Bits_field_in_26_3.F_sup _ _ _ _ _ _ _ _ _
    | exact Sup.const _
theorem impl_Sparse_numbers.F_eq (a0_0 : Int) (a0_1 : Int) (a0_2 : Int) (a0_3 : Int) (l0_4 : List Int) (a0_5 : Int) (l0_6 : List Int) : impl_Sparse_numbers.F a0_0 a0_1 a0_2 a0_3 l0_4 a0_5 l0_6 = (impl_WidthFor.F a0_0 a0_1).bind fun bt387 => (if bt387.2 = true then (if bt387.1 = a0_2 then ((impl_IsBits.F a0_3 l0_4).bind fun t389 => (if t389 = true then ((impl_IsBits.F a0_5 l0_6).bind fun t390 => (if t390 = true then (impl_Sparse_numbers.J0 bt387.1 (a0_3 != (wrap64 (bt387.1 * a0_0))) a0_0 a0_1 a0_2 a0_3 l0_4 a0_5 l0_6) else (impl_Sparse_numbers.J0 bt387.1 true a0_0 a0_1 a0_2 a0_3 l0_4 a0_5 l0_6))) else (impl_Sparse_numbers.J0 bt387.1 true a0_0 a0_1 a0_2 a0_3 l0_4 a0_5 l0_6))) else (impl_Sparse_numbers.J0 bt387.1 true a0_0 a0_1 a0_2 a0_3 l0_4 a0_5 l0_6)) else (impl_Sparse_numbers.J0 bt387.1 true a0_0 a0_1 a0_2 a0_3 l0_4 a0_5 l0_6)) := by
  refine Sup.unique (impl_Sparse_numbers.F_sup a0_0 a0_1 a0_2 a0_3 l0_4 a0_5 l0_6) (Sup.congr (g' := fun k => (impl_WidthFor.f k a0_0 a0_1).bind fun bt387 => (if bt387.2 = true then (if bt387.1 = a0_2 then ((impl_IsBits.f k a0_3 l0_4).bind fun t389 => (if t389 = true then ((impl_IsBits.f k a0_5 l0_6).bind fun t390 => (if t390 = true then (impl_Sparse_numbers.j0 k bt387.1 (a0_3 != (wrap64 (bt387.1 * a0_0))) a0_0 a0_1 a0_2 a0_3 l0_4 a0_5 l0_6) else (impl_Sparse_numbers.j0 k bt387.1 true a0_0 a0_1 a0_2 a0_3 l0_4 a0_5 l0_6))) else (impl_Sparse_numbers.j0 k bt387.1 true a0_0 a0_1 a0_2 a0_3 l0_4 a0_5 l0_6))) else (impl_Sparse_numbers.j0 k bt387.1 true a0_0 a0_1 a0_2 a0_3 l0_4 a0_5 l0_6)) else (impl_Sparse_numbers.j0 k bt387.1 true a0_0 a0_1 a0_2 a0_3 l0_4 a0_5 l0_6))) (fun k => by first | rfl | simp only [impl_Sparse_numbers.f]) ?_)
  repeat' first
    | (with_reducible exact impl_Sparse_numbers.J0_sup _ _ _ _ _ _ _ _ _)
    | (with_reducible exact impl_Sparse_numbers.L0_sup _ _ _ _ _ _ _ _ _ _ _)
    | (with_reducible exact impl_Sparse_numbers.J2_sup _ _ _ _ _ _ _ _ _)
    | (with_reducible exact impl_sortedOk.F_sup _ _)
    | (with_reducible exact impl_sparse.F_sup _ _)
    | (with_reducible exact impl_WidthFor.F_sup _ _)
    | (with_reducible exact impl_IsBits.F_sup _ _)
    | (with_reducible exact impl_sameBits.F_sup _ _ _ _)
    | (with_reducible exact impl_Bits_field_in_26_3.F_sup _ _ _ _ _ _ _ _ _)
    | (with_reducible refine Sup.ite ?_ ?_)
    | (with_reducible refine Sup.bind ?_ (fun _ => ?_))
    | (with_reducible exact Sup.const _)
    | exact impl_Sparse_numbers.J0_sup _ _ _ _ _ _ _ _ _
    | exact impl_Sparse_numbers.L0_sup _ _ _ _ _ _ _ _ _ _ _
    | exact impl_Sparse_numbers.J2_sup _ _ _ _ _ _ _ _ _
    | exact impl_sortedOk.F_sup _ _
    | exact impl_sparse.F_sup _ _
    | exact impl_WidthFor.F_sup _ _
    | exact impl_IsBits.F_sup _ _
    | exact impl_sameBits.F_sup _ _ _ _
    | exact impl_Bits_field_in_26_3.F_sup _ _ _ _ _ _ _ _ _
    | exact Sup.const _
def impl_Sparse_numbers.T1 : Bool × List (List Nat × List Nat) := (true, [([], []), ([0], [0]), ([1], [1]), ([2], [2]), ([], []), ([4], [4]), ([5], [5]), ([6], [6]), ([3, 7], [3, 7]), ([8], [8]), ([9], [9]), ([9], [9]), ([10, 8, 0, 1, 2, 3, 4, 5, 6, 7, 8, 9, 10], [10]), ([11, 12, 0, 1, 2, 3, 4, 5, 6, 7, 8, 9, 10, 11, 12], [11])])
def impl_Sparse_numbers.B1 : List Nat := [0, 1, 3, 7, 0, 16, 48, 112, 255, 511, 1023, 1023, 2047, 8191]
theorem impl_Sparse_numbers.tab1 : rtab .any (opsOf Try.f63 1) = impl_Sparse_numbers.T1 := by kernel_rfl
theorem impl_Sparse_numbers.bits1 : waitsOk impl_Sparse_numbers.T1.2 impl_Sparse_numbers.B1 = true := by kernel_rfl
def impl_Sparse_numbers.T2 : Bool × List (List Nat × List Nat) := (true, [([], []), ([0], [0]), ([1], [1]), ([2], [2]), ([2], [2]), ([4, 2], [2, 4]), ([5, 2], [2, 5]), ([6, 2], [2, 6]), ([3, 7, 2], [2, 3, 7]), ([2, 8], [2, 8]), ([9, 2], [9]), ([10], [10]), ([11, 10], [10, 11]), ([12, 10], [10, 12]), ([13, 10], [10, 13]), ([14, 10, 10], [10, 14]), ([15, 10], [10, 15]), ([10, 16], [10, 16]), ([17, 15], [17]), ([18], [18]), ([19, 18], [18, 19]), ([20, 18], [18, 20]), ([21, 18], [18, 21]), ([22, 18, 18], [18, 22]), ([23, 18], [18, 23]), ([18, 24], [18, 24]), ([25, 23], [25]), ([26], [26]), ([27, 26], [26, 27]), ([28, 26], [26, 28]), ([29, 26], [26, 29]), ([30, 26], [26, 30]), ([26], [26]), ([26], [26]), ([33, 26], [26, 33]), ([34, 26], [26, 34]), ([35, 26], [26, 35]), ([32, 36, 26], [26, 32, 36]), ([31, 37, 26], [26, 31, 37]), ([26, 38], [26, 38])])
def impl_Sparse_numbers.B2 : List Nat := [0, 1, 3, 7, 7, 23, 55, 119, 255, 511, 1023, 2047, 4095, 8191, 16383, 32767, 65535, 131071, 262143, 524287, 1048575, 2097151, 4194303, 8388607, 16777215, 33554431, 67108863, 134217727, 268435455, 536870911, 1073741823, 2147483647, 134217727, 134217727, 8724152319, 25904021503, 60263759871, 133278203903, 274877906943, 549755813887]
theorem impl_Sparse_numbers.tab2 : rtab .any (opsOf Try.f63 2) = impl_Sparse_numbers.T2 := by kernel_rfl
theorem impl_Sparse_numbers.bits2 : waitsOk impl_Sparse_numbers.T2.2 impl_Sparse_numbers.B2 = true := by kernel_rfl
def impl_Sparse_numbers.T10 : Bool × List (List Nat × List Nat) := (true, [([], []), ([], []), ([], []), ([1, 2], [1, 2]), ([], []), ([3, 4], [3, 4]), ([], []), ([6], [6]), ([7], [7]), ([], []), ([], []), ([9, 10], [9, 10]), ([], []), ([8, 11, 12], [8, 11, 12]), ([5, 13], [5, 13]), ([14], [14]), ([0, 15, 13], [0, 15]), ([16, 16, 0, 1, 2, 3, 4, 5, 6, 7, 8, 9, 10, 11, 12, 13, 14, 15, 16], [0, 16])])
def impl_Sparse_numbers.B10 : List Nat := [0, 0, 0, 6, 0, 30, 0, 64, 192, 0, 0, 1536, 0, 8128, 16382, 32766, 65535, 131071]
theorem impl_Sparse_numbers.tab10 : rtab .any (opsOf Try.f63 10) = impl_Sparse_numbers.T10 := by kernel_rfl
theorem impl_Sparse_numbers.bits10 : waitsOk impl_Sparse_numbers.T10.2 impl_Sparse_numbers.B10 = true := by kernel_rfl
def impl_Sparse_numbers.T15 : Bool × List (List Nat × List Nat) := (true, [([], []), ([], []), ([1], [1]), ([], []), ([3], [3]), ([4], [4]), ([5], [5]), ([2, 6], [2, 6]), ([7, 7], [7]), ([8], [8]), ([9, 8], [8, 9]), ([8], [8]), ([11, 8], [8, 11]), ([12, 8], [8, 12]), ([13, 8], [8, 13]), ([10, 14, 8, 8], [8, 10, 14]), ([8, 15], [8, 15]), ([0, 15, 0], [0]), ([16, 17, 0, 1, 2, 3, 4, 5, 6, 7, 8, 9, 10, 11, 12, 13, 14, 15, 16, 17], [16])])
def impl_Sparse_numbers.B15 : List Nat := [0, 0, 2, 0, 8, 24, 56, 126, 254, 510, 1022, 510, 2558, 6654, 14846, 32766, 65534, 65535, 262143]
theorem impl_Sparse_numbers.tab15 : rtab .any (opsOf Try.f63 15) = impl_Sparse_numbers.T15 := by kernel_rfl
theorem impl_Sparse_numbers.bits15 : waitsOk impl_Sparse_numbers.T15.2 impl_Sparse_numbers.B15 = true := by kernel_rfl
set_option maxHeartbeats 8000000 in
set_option maxRecDepth 100000 in
theorem impl_Sparse_numbers.calls (k : Nat) (gb0_ : Nat) (a0_0 : Int) (a0_1 : Int) (a0_2 : Int) (a0_3 : Int) (A0_4 : Option Addr) (c0_4 : Nat) (l0_4 : List Int) (a0_5 : Int) (A0_6 : Option Addr) (c0_6 : Nat) (l0_6 : List Int) (r1 : List Int) (r2 : Bool) (w : World) (hr0_4 : Kd.C (Kd.int .i64) w A0_4 l0_4.length l0_4) (hc0_4 : l0_4.length ≤ c0_4) (hr0_6 : Kd.C (Kd.int .i64) w A0_6 l0_6.length l0_6) (hc0_6 : l0_6.length ≤ c0_6) (hb0_ : w.heap[gb0_]? = some (.cells #[.int .i64 a0_0, .int .i64 a0_1, .int .i64 a0_2, .int .i64 a0_3, .slice A0_4 l0_4.length c0_4, .int .i64 a0_5, .slice A0_6 l0_6.length c0_6] 26 (0, 0))) (h : impl_Sparse_numbers.f k a0_0 a0_1 a0_2 a0_3 l0_4 a0_5 l0_6 = some (r1, r2)) :
    Calls Try.prog 63 #[.pointer (some ⟨gb0_, 0, none⟩)] w fun e w' => ∃ v0_ : Value, e = .returned (.tuple #[v0_, .bool r2]) ∧ Kd.R (Kd.int .i64) 3 w' w.heap.size (fun _ => True) v0_ r1 ∧ Below w.heap.size w w' := by
  have hu24 := Try.underlying24; have hu26 := Try.underlying26; have HR0_4 := Qx hr0_4; have HC0_4 := Qx hc0_4; clear hr0_4 hc0_4; have HR0_6 := Qx hr0_6; have HC0_6 := Qx hc0_6; clear hr0_6 hc0_6; have BK0 := Qx hb0_; clear hb0_
  have HB := Qx (Below.refl w.heap.size w)
  have H : ((impl_WidthFor.f k a0_0 a0_1).bind fun bt387 => (if bt387.2 = true then (if bt387.1 = a0_2 then ((impl_IsBits.f k a0_3 l0_4).bind fun t389 => (if t389 = true then ((impl_IsBits.f k a0_5 l0_6).bind fun t390 => (if t390 = true then (impl_Sparse_numbers.j0 k bt387.1 (a0_3 != (wrap64 (bt387.1 * a0_0))) a0_0 a0_1 a0_2 a0_3 l0_4 a0_5 l0_6) else (impl_Sparse_numbers.j0 k bt387.1 true a0_0 a0_1 a0_2 a0_3 l0_4 a0_5 l0_6))) else (impl_Sparse_numbers.j0 k bt387.1 true a0_0 a0_1 a0_2 a0_3 l0_4 a0_5 l0_6))) else (impl_Sparse_numbers.j0 k bt387.1 true a0_0 a0_1 a0_2 a0_3 l0_4 a0_5 l0_6)) else (impl_Sparse_numbers.j0 k bt387.1 true a0_0 a0_1 a0_2 a0_3 l0_4 a0_5 l0_6))) = some (r1, r2) := h
  clear h; replace H := Option.bind_eq_some_iff.mp H; obtain ⟨⟨t387, t388⟩, A20, H⟩ := H
  have A2 := Qx A20; clear A20; have HC3 := Qx H; clear H
  go_enter Try.func63, Try.ntmps63
  try go_wp2
  have n0_ := Qx (Qw BK0.out)
  have n1_ := Qx (Qd HB.out)
  clear BK0 HB; have BK0 := n0_; have HB := n1_; clear n0_ n1_
  refine start_ (n := 14) (S := fun w' => w'.cell? ⟨gb0_, 0, none⟩ = some (.int .i64 a0_0) ∧ w'.cell? ⟨gb0_, 1, none⟩ = some (.int .i64 a0_1) ∧ w'.cell? ⟨gb0_, 2, none⟩ = some (.int .i64 a0_2) ∧ w'.cell? ⟨gb0_, 3, none⟩ = some (.int .i64 a0_3) ∧ w'.cell? ⟨gb0_, 4, none⟩ = some (.slice A0_4 l0_4.length c0_4) ∧ w'.cell? ⟨gb0_, 5, none⟩ = some (.int .i64 a0_5) ∧ w'.cell? ⟨gb0_, 6, none⟩ = some (.slice A0_6 l0_6.length c0_6)) (ds := []) #[false, false, false, false, false, false, false, false, false, false, false, false, false, false] (by kernel_rfl) rfl rfl ⟨(Qc BK0.out 0).trans rfl, (Qc BK0.out 1).trans rfl, (Qc BK0.out 2).trans rfl, (Qc BK0.out 3).trans rfl, (Qc BK0.out 4).trans rfl, (Qc BK0.out 5).trans rfl, (Qc BK0.out 6).trans rfl⟩ (fun hHeld => ?_); refine with_tabW impl_Sparse_numbers.tab1 impl_Sparse_numbers.bits1 (fun HT_ HW_ => ?_)
  generalize w.drew = w4 at BK0 HB hHeld ⊢
  refine pq_ 0 11 14 1 HT_.out (by kernel_rfl) ?_
  refine pq_ 1 12 14 3 HT_.out (by kernel_rfl) ?_
  refine pq_ 2 13 14 7 HT_.out (by kernel_rfl) ?_
  refine pq_ 4 15 14 23 HT_.out (by kernel_rfl) ?_
  refine pq_ 5 16 14 55 HT_.out (by kernel_rfl) ?_
  refine pq_ 6 17 14 119 HT_.out (by kernel_rfl) ?_
  refine tq_ 3 14 14 127 HT_.out HW_.out (by kernel_rfl) hHeld ?_ rfl (by rintro w' ⟨s0, s1, s2, s3, s4, s5, s6⟩; go_simp; with_reducible rfl)
  refine tq_ 7 18 14 255 HT_.out HW_.out (by kernel_rfl) hHeld ?_ rfl (by rintro w' ⟨s0, s1, s2, s3, s4, s5, s6⟩; go_simp; with_reducible rfl)
  refine one_ (i := 8) (N := some 19) (bsA 14 511) rfl rfl (one_of HT_.out (by kernel_rfl)) (by decide) (fun K hK => ?_)
  refine goes_ Try.func90 (by kernel_rfl) rfl #[.int .i64 a0_0, .int .i64 a0_1] (by rfl) rfl rfl (by (try simp only [List.map_toArray, List.map_cons, List.map_nil]); first | done | rfl | (simp only [List.length_drop, List.length_take]; rfl)) ?_
  with_reducible refine (impl_WidthFor.calls k a0_0 a0_1 t387 t388 _ A2.out).mono ?_
  rintro e w5 ⟨rfl, hb⟩
  refine ⟨_, rfl, ?_⟩
  have n0_ := Qx (Qb (g := gb0_) (by (with_reducible repeat (first | refine Qm ?_ _ | refine Qw ?_ | refine Qk ?_ _)); exact BK0.out) hb)
  have n1_ := Qx (Qp (by repeat (first | (with_reducible first | exact HB.out | apply Qa | apply Qn | apply Qd | refine Qs ?_ GE0.out) | exact HB.out)) hb)
  clear BK0 HB; have BK0 := n0_; have HB := n1_; clear n0_ n1_; (try clear hb); (try clear hb2); (try clear hk); (try clear hi)
  refine hK.out _ _ ⟨(Qc BK0.out 0).trans rfl, (Qc BK0.out 1).trans rfl, (Qc BK0.out 2).trans rfl, (Qc BK0.out 3).trans rfl, (Qc BK0.out 4).trans rfl, (Qc BK0.out 5).trans rfl, (Qc BK0.out 6).trans rfl⟩ (fun hHeld => ?_)
  clear hK K
  refine norm_ (a' := ?_) ?_ ?_
  rotate_left
  ·show Act.put _ (some 19) _ = _
   simp only [Act.put, List.setIfInBounds_toArray, List.set_cons_zero, List.set_cons_succ, i64_w]
   rfl
  refine pq_ 9 10 14 1023 HT_.out (by kernel_rfl) ?_
  refine pq_ 10 20 14 2047 HT_.out (by kernel_rfl) ?_
  refine pq_ 11 21 14 4095 HT_.out (by kernel_rfl) ?_
  refine pq_ 12 4 14 8191 HT_.out (by kernel_rfl) ?_
  refine pq_ 13 5 14 16383 HT_.out (by kernel_rfl) ?_
  refine done_ (done_of HT_.out (by kernel_rfl)) ?_
  go_upto_region 2 with (fail)
  go_cut [61] (fun v61 wc => ∃ (kq : Nat) (x61_2 : Bool), v61 = .bool x61_2 ∧ Aside0 (impl_Sparse_numbers.j0 kq t387 x61_2 a0_0 a0_1 a0_2 a0_3 l0_4 a0_5 l0_6 = some (r1, r2)) ∧ Aside0 (kq ≤ k) ∧ Aside0 (wc.heap[gb0_]? = some (.cells #[.int .i64 a0_0, .int .i64 a0_1, .int .i64 a0_2, .int .i64 a0_3, (.slice A0_4 l0_4.length c0_4), .int .i64 a0_5, (.slice A0_6 l0_6.length c0_6)] 26 (0, 0))) ∧ Aside0 (Below w.heap.size w wc))
  case first =>
   have H := HC3.out; clear HC3
   by_cases c6 : t388 = true
   ·subst c6
    have H1 : (if t387 = a0_2 then ((impl_IsBits.f k a0_3 l0_4).bind fun t389 => (if t389 = true then ((impl_IsBits.f k a0_5 l0_6).bind fun t390 => (if t390 = true then (impl_Sparse_numbers.j0 k t387 (a0_3 != (wrap64 (t387 * a0_0))) a0_0 a0_1 a0_2 a0_3 l0_4 a0_5 l0_6) else (impl_Sparse_numbers.j0 k t387 true a0_0 a0_1 a0_2 a0_3 l0_4 a0_5 l0_6))) else (impl_Sparse_numbers.j0 k t387 true a0_0 a0_1 a0_2 a0_3 l0_4 a0_5 l0_6))) else (impl_Sparse_numbers.j0 k t387 true a0_0 a0_1 a0_2 a0_3 l0_4 a0_5 l0_6)) = some (r1, r2) := by rw [if_pos rfl] at H; exact H
    clear H; have H := H1; clear H1
    by_cases c7 : t387 = a0_2
    ·rw [if_pos c7] at H
     have c7b0 : (t387 == a0_2) = true := beq_iff_eq.mpr c7
     have c7b1 : (t387 != a0_2) = false := bne_eq_false_iff_eq.mpr c7
     clear c7
     (first | rw [c7b0] | (simp only [i64_w, i32_w]; rw [c7b0]) | skip)
     replace H := Option.bind_eq_some_iff.mp H; obtain ⟨t389, A80, H⟩ := H
     have A8 := Qx A80; clear A80
     by_cases c9 : t389 = true
     ·subst c9
      have H1 : ((impl_IsBits.f k a0_5 l0_6).bind fun t390 => (if t390 = true then (impl_Sparse_numbers.j0 k t387 (a0_3 != (wrap64 (t387 * a0_0))) a0_0 a0_1 a0_2 a0_3 l0_4 a0_5 l0_6) else (impl_Sparse_numbers.j0 k t387 true a0_0 a0_1 a0_2 a0_3 l0_4 a0_5 l0_6))) = some (r1, r2) := by rw [if_pos rfl] at H; exact H
      clear H; have H := H1; clear H1; replace H := Option.bind_eq_some_iff.mp H; obtain ⟨t390, A100, H⟩ := H
      have A10 := Qx A100; clear A100
      by_cases c11 : t390 = true
      ·subst c11
       have H1 : (impl_Sparse_numbers.j0 k t387 (a0_3 != (wrap64 (t387 * a0_0))) a0_0 a0_1 a0_2 a0_3 l0_4 a0_5 l0_6) = some (r1, r2) := by rw [if_pos rfl] at H; exact H
       clear H; have H := H1; clear H1; have H' := Qx H; clear H
       try go_wp2
       have n0_ := Qx (Qw BK0.out)
       have n1_ := Qx (Qd HB.out)
       clear BK0 HB; have BK0 := n0_; have HB := n1_; clear n0_ n1_
       refine start_ (n := 40) (S := fun w' => w'.cell? ⟨gb0_, 0, none⟩ = some (.int .i64 a0_0) ∧ w'.cell? ⟨gb0_, 1, none⟩ = some (.int .i64 a0_1) ∧ w'.cell? ⟨gb0_, 2, none⟩ = some (.int .i64 a0_2) ∧ w'.cell? ⟨gb0_, 3, none⟩ = some (.int .i64 a0_3) ∧ w'.cell? ⟨gb0_, 4, none⟩ = some (.slice A0_4 l0_4.length c0_4) ∧ w'.cell? ⟨gb0_, 5, none⟩ = some (.int .i64 a0_5) ∧ w'.cell? ⟨gb0_, 6, none⟩ = some (.slice A0_6 l0_6.length c0_6)) (ds := []) #[false, false, false, false, false, false, false, false, false, false, false, false, false, false, false, false, false, false, false, false, false, false, false, false, false, false, false, false, false, false, false, false, false, false, false, false, false, false, false, false] (by kernel_rfl) rfl rfl ⟨(Qc BK0.out 0).trans rfl, (Qc BK0.out 1).trans rfl, (Qc BK0.out 2).trans rfl, (Qc BK0.out 3).trans rfl, (Qc BK0.out 4).trans rfl, (Qc BK0.out 5).trans rfl, (Qc BK0.out 6).trans rfl⟩ (fun hHeld => ?_); refine with_tabW impl_Sparse_numbers.tab2 impl_Sparse_numbers.bits2 (fun HT_ HW_ => ?_)
       generalize w5.drew = w12 at BK0 HB hHeld ⊢
       refine pq_ 0 22 40 1 HT_.out (by kernel_rfl) ?_
       refine pq_ 1 23 40 3 HT_.out (by kernel_rfl) ?_
       refine pq_ 2 24 40 7 HT_.out (by kernel_rfl) ?_
       refine pq_ 3 25 40 15 HT_.out (by kernel_rfl) ?_
       refine pq_ 4 26 40 31 HT_.out (by kernel_rfl) ?_
       refine pq_ 5 27 40 63 HT_.out (by kernel_rfl) ?_
       refine pq_ 6 28 40 127 HT_.out (by kernel_rfl) ?_
       refine tq_ 7 29 40 255 HT_.out HW_.out (by kernel_rfl) hHeld ?_ rfl (by rintro w' ⟨s0, s1, s2, s3, s4, s5, s6⟩; go_simp; with_reducible rfl)
       refine pq_ 8 30 40 511 HT_.out (by kernel_rfl) ?_
       refine pq_ 9 31 40 1023 HT_.out (by kernel_rfl) ?_
       refine pq_ 10 32 40 2047 HT_.out (by kernel_rfl) ?_
       refine pq_ 11 33 40 4095 HT_.out (by kernel_rfl) ?_
       refine pq_ 12 34 40 8191 HT_.out (by kernel_rfl) ?_
       refine pq_ 13 35 40 16383 HT_.out (by kernel_rfl) ?_
       refine tq_ 14 36 40 32767 HT_.out HW_.out (by kernel_rfl) hHeld ?_ rfl (by rintro w' ⟨s0, s1, s2, s3, s4, s5, s6⟩; go_simp; with_reducible rfl)
       refine one_ (i := 15) (N := some 37) (bsA 40 65535) rfl rfl (one_of HT_.out (by kernel_rfl)) (by decide) (fun K hK => ?_)
       refine goes_ Try.func97 (by kernel_rfl) rfl #[.agg #[.int .i64 a0_3, .slice A0_4 l0_4.length c0_4]] (by rfl) rfl rfl (by (try simp only [List.map_toArray, List.map_cons, List.map_nil]); first | done | rfl | (simp only [List.length_drop, List.length_take]; rfl)) ?_
       with_reducible refine (impl_IsBits.calls k a0_3 _ _ l0_4 true _ ?side1 ?side2 A8.out).mono ?_
       (case side1 => repeat (first | exact (Kd.C_below HR0_4.out HB.out) | (with_reducible refine Kd.C_alloc ?_ _) | (with_reducible refine Kd.C_drewN ?_ _) | (with_reducible refine Kd.C_drew ?_)))
       (case side2 => exact HC0_4.out)
       rintro e w13 ⟨rfl, hb⟩
       refine ⟨_, rfl, ?_⟩
       have n0_ := Qx (Qb (g := gb0_) (by (with_reducible repeat (first | refine Qm ?_ _ | refine Qw ?_ | refine Qk ?_ _)); exact BK0.out) hb)
       have n1_ := Qx (Qp (by repeat (first | (with_reducible first | exact HB.out | apply Qa | apply Qn | apply Qd | refine Qs ?_ GE0.out) | exact HB.out)) hb)
       clear BK0 HB; have BK0 := n0_; have HB := n1_; clear n0_ n1_; (try clear hb); (try clear hb2); (try clear hk); (try clear hi)
       refine hK.out _ _ ⟨(Qc BK0.out 0).trans rfl, (Qc BK0.out 1).trans rfl, (Qc BK0.out 2).trans rfl, (Qc BK0.out 3).trans rfl, (Qc BK0.out 4).trans rfl, (Qc BK0.out 5).trans rfl, (Qc BK0.out 6).trans rfl⟩ (fun hHeld => ?_)
       clear hK K
       refine norm_ (a' := ?_) ?_ ?_
       rotate_left
       ·show Act.put _ (some 37) _ = _
        simp only [Act.put, List.setIfInBounds_toArray, List.set_cons_zero, List.set_cons_succ, i64_w]
        rfl
       refine pq_ 16 38 40 131071 HT_.out (by kernel_rfl) ?_
       refine pq_ 17 39 40 262143 HT_.out (by kernel_rfl) ?_
       refine pq_ 18 40 40 524287 HT_.out (by kernel_rfl) ?_
       refine pq_ 19 41 40 1048575 HT_.out (by kernel_rfl) ?_
       refine pq_ 20 42 40 2097151 HT_.out (by kernel_rfl) ?_
       refine pq_ 21 43 40 4194303 HT_.out (by kernel_rfl) ?_
       refine tq_ 22 44 40 8388607 HT_.out HW_.out (by kernel_rfl) hHeld ?_ rfl (by rintro w' ⟨s0, s1, s2, s3, s4, s5, s6⟩; go_simp; with_reducible rfl)
       refine one_ (i := 23) (N := some 45) (bsA 40 16777215) rfl rfl (one_of HT_.out (by kernel_rfl)) (by decide) (fun K hK => ?_)
       refine goes_ Try.func97 (by kernel_rfl) rfl #[.agg #[.int .i64 a0_5, .slice A0_6 l0_6.length c0_6]] (by rfl) rfl rfl (by (try simp only [List.map_toArray, List.map_cons, List.map_nil]); first | done | rfl | (simp only [List.length_drop, List.length_take]; rfl)) ?_
       with_reducible refine (impl_IsBits.calls k a0_5 _ _ l0_6 true _ ?side1 ?side2 A10.out).mono ?_
       (case side1 => repeat (first | exact (Kd.C_below HR0_6.out HB.out) | (with_reducible refine Kd.C_alloc ?_ _) | (with_reducible refine Kd.C_drewN ?_ _) | (with_reducible refine Kd.C_drew ?_)))
       (case side2 => exact HC0_6.out)
       rintro e w14 ⟨rfl, hb⟩
       refine ⟨_, rfl, ?_⟩
       have n0_ := Qx (Qb (g := gb0_) (by (with_reducible repeat (first | refine Qm ?_ _ | refine Qw ?_ | refine Qk ?_ _)); exact BK0.out) hb)
       have n1_ := Qx (Qp (by repeat (first | (with_reducible first | exact HB.out | apply Qa | apply Qn | apply Qd | refine Qs ?_ GE0.out) | exact HB.out)) hb)
       clear BK0 HB; have BK0 := n0_; have HB := n1_; clear n0_ n1_; (try clear hb); (try clear hb2); (try clear hk); (try clear hi)
       refine hK.out _ _ ⟨(Qc BK0.out 0).trans rfl, (Qc BK0.out 1).trans rfl, (Qc BK0.out 2).trans rfl, (Qc BK0.out 3).trans rfl, (Qc BK0.out 4).trans rfl, (Qc BK0.out 5).trans rfl, (Qc BK0.out 6).trans rfl⟩ (fun hHeld => ?_)
       clear hK K
       refine norm_ (a' := ?_) ?_ ?_
       rotate_left
       ·show Act.put _ (some 45) _ = _
        simp only [Act.put, List.setIfInBounds_toArray, List.set_cons_zero, List.set_cons_succ, i64_w]
        rfl
       refine pq_ 24 46 40 33554431 HT_.out (by kernel_rfl) ?_
       refine pq_ 25 47 40 67108863 HT_.out (by kernel_rfl) ?_
       refine pq_ 26 48 40 134217727 HT_.out (by kernel_rfl) ?_
       refine pq_ 27 49 40 268435455 HT_.out (by kernel_rfl) ?_
       refine pq_ 28 50 40 536870911 HT_.out (by kernel_rfl) ?_
       refine pq_ 29 51 40 1073741823 HT_.out (by kernel_rfl) ?_
       refine pq_ 30 52 40 2147483647 HT_.out (by kernel_rfl) ?_
       refine pq_ 32 54 40 6442450943 HT_.out (by kernel_rfl) ?_
       refine pq_ 33 55 40 15032385535 HT_.out (by kernel_rfl) ?_
       refine pq_ 34 56 40 32212254719 HT_.out (by kernel_rfl) ?_
       refine pq_ 35 57 40 66571993087 HT_.out (by kernel_rfl) ?_
       refine tq_ 31 53 40 68719476735 HT_.out HW_.out (by kernel_rfl) hHeld ?_ rfl (by rintro w' ⟨s0, s1, s2, s3, s4, s5, s6⟩; go_simp; with_reducible rfl)
       refine tq_ 36 58 40 137438953471 HT_.out HW_.out (by kernel_rfl) hHeld ?_ rfl (by rintro w' ⟨s0, s1, s2, s3, s4, s5, s6⟩; go_simp; with_reducible rfl)
       refine pq_ 37 59 40 274877906943 HT_.out (by kernel_rfl) ?_
       refine pq_ 38 60 40 549755813887 HT_.out (by kernel_rfl) ?_
       refine pq_ 39 61 40 1099511627775 HT_.out (by kernel_rfl) ?_
       refine done_ (done_of HT_.out (by kernel_rfl)) ?_
       try go_wp2
       go_meet
       case rel => exact ⟨_, ((a0_3 != (wrap64 (t387 * a0_0)))), (by first | rfl | (simp; done) | (simp [*]; done)), H', ⟨by first | omega | exact Nat.le_refl _⟩, ⟨by (with_reducible repeat (first | refine Qm ?_ _ | refine Qw ?_ | refine Qk ?_ _)); exact BK0.out⟩, ⟨by repeat (first | (with_reducible first | exact HB.out | apply Qa | apply Qn | apply Qd | refine Qs ?_ GE0.out) | exact HB.out)⟩⟩
      ·replace c11 := Bool.eq_false_iff.mpr c11; subst c11
       have H1 : (impl_Sparse_numbers.j0 k t387 true a0_0 a0_1 a0_2 a0_3 l0_4 a0_5 l0_6) = some (r1, r2) := by rw [if_neg (show ¬ (false = true) by decide)] at H; exact H
       clear H; have H := H1; clear H1; have H' := Qx H; clear H
       try go_wp2
       have n0_ := Qx (Qw BK0.out)
       have n1_ := Qx (Qd HB.out)
       clear BK0 HB; have BK0 := n0_; have HB := n1_; clear n0_ n1_
       refine start_ (n := 40) (S := fun w' => w'.cell? ⟨gb0_, 0, none⟩ = some (.int .i64 a0_0) ∧ w'.cell? ⟨gb0_, 1, none⟩ = some (.int .i64 a0_1) ∧ w'.cell? ⟨gb0_, 2, none⟩ = some (.int .i64 a0_2) ∧ w'.cell? ⟨gb0_, 3, none⟩ = some (.int .i64 a0_3) ∧ w'.cell? ⟨gb0_, 4, none⟩ = some (.slice A0_4 l0_4.length c0_4) ∧ w'.cell? ⟨gb0_, 5, none⟩ = some (.int .i64 a0_5) ∧ w'.cell? ⟨gb0_, 6, none⟩ = some (.slice A0_6 l0_6.length c0_6)) (ds := []) #[false, false, false, false, false, false, false, false, false, false, false, false, false, false, false, false, false, false, false, false, false, false, false, false, false, false, false, false, false, false, false, false, false, false, false, false, false, false, false, false] (by kernel_rfl) rfl rfl ⟨(Qc BK0.out 0).trans rfl, (Qc BK0.out 1).trans rfl, (Qc BK0.out 2).trans rfl, (Qc BK0.out 3).trans rfl, (Qc BK0.out 4).trans rfl, (Qc BK0.out 5).trans rfl, (Qc BK0.out 6).trans rfl⟩ (fun hHeld => ?_); refine with_tabW impl_Sparse_numbers.tab2 impl_Sparse_numbers.bits2 (fun HT_ HW_ => ?_)
       generalize w5.drew = w15 at BK0 HB hHeld ⊢
       refine pq_ 0 22 40 1 HT_.out (by kernel_rfl) ?_
       refine pq_ 1 23 40 3 HT_.out (by kernel_rfl) ?_
       refine pq_ 2 24 40 7 HT_.out (by kernel_rfl) ?_
       refine pq_ 3 25 40 15 HT_.out (by kernel_rfl) ?_
       refine pq_ 4 26 40 31 HT_.out (by kernel_rfl) ?_
       refine pq_ 5 27 40 63 HT_.out (by kernel_rfl) ?_
       refine pq_ 6 28 40 127 HT_.out (by kernel_rfl) ?_
       refine tq_ 7 29 40 255 HT_.out HW_.out (by kernel_rfl) hHeld ?_ rfl (by rintro w' ⟨s0, s1, s2, s3, s4, s5, s6⟩; go_simp; with_reducible rfl)
       refine pq_ 8 30 40 511 HT_.out (by kernel_rfl) ?_
       refine pq_ 9 31 40 1023 HT_.out (by kernel_rfl) ?_
       refine pq_ 10 32 40 2047 HT_.out (by kernel_rfl) ?_
       refine pq_ 11 33 40 4095 HT_.out (by kernel_rfl) ?_
       refine pq_ 12 34 40 8191 HT_.out (by kernel_rfl) ?_
       refine pq_ 13 35 40 16383 HT_.out (by kernel_rfl) ?_
       refine tq_ 14 36 40 32767 HT_.out HW_.out (by kernel_rfl) hHeld ?_ rfl (by rintro w' ⟨s0, s1, s2, s3, s4, s5, s6⟩; go_simp; with_reducible rfl)
       refine one_ (i := 15) (N := some 37) (bsA 40 65535) rfl rfl (one_of HT_.out (by kernel_rfl)) (by decide) (fun K hK => ?_)
       refine goes_ Try.func97 (by kernel_rfl) rfl #[.agg #[.int .i64 a0_3, .slice A0_4 l0_4.length c0_4]] (by rfl) rfl rfl (by (try simp only [List.map_toArray, List.map_cons, List.map_nil]); first | done | rfl | (simp only [List.length_drop, List.length_take]; rfl)) ?_
       with_reducible refine (impl_IsBits.calls k a0_3 _ _ l0_4 true _ ?side1 ?side2 A8.out).mono ?_
       (case side1 => repeat (first | exact (Kd.C_below HR0_4.out HB.out) | (with_reducible refine Kd.C_alloc ?_ _) | (with_reducible refine Kd.C_drewN ?_ _) | (with_reducible refine Kd.C_drew ?_)))
       (case side2 => exact HC0_4.out)
       rintro e w16 ⟨rfl, hb⟩
       refine ⟨_, rfl, ?_⟩
       have n0_ := Qx (Qb (g := gb0_) (by (with_reducible repeat (first | refine Qm ?_ _ | refine Qw ?_ | refine Qk ?_ _)); exact BK0.out) hb)
       have n1_ := Qx (Qp (by repeat (first | (with_reducible first | exact HB.out | apply Qa | apply Qn | apply Qd | refine Qs ?_ GE0.out) | exact HB.out)) hb)
       clear BK0 HB; have BK0 := n0_; have HB := n1_; clear n0_ n1_; (try clear hb); (try clear hb2); (try clear hk); (try clear hi)
       refine hK.out _ _ ⟨(Qc BK0.out 0).trans rfl, (Qc BK0.out 1).trans rfl, (Qc BK0.out 2).trans rfl, (Qc BK0.out 3).trans rfl, (Qc BK0.out 4).trans rfl, (Qc BK0.out 5).trans rfl, (Qc BK0.out 6).trans rfl⟩ (fun hHeld => ?_)
       clear hK K
       refine norm_ (a' := ?_) ?_ ?_
       rotate_left
       ·show Act.put _ (some 37) _ = _
        simp only [Act.put, List.setIfInBounds_toArray, List.set_cons_zero, List.set_cons_succ, i64_w]
        rfl
       refine pq_ 16 38 40 131071 HT_.out (by kernel_rfl) ?_
       refine pq_ 17 39 40 262143 HT_.out (by kernel_rfl) ?_
       refine pq_ 18 40 40 524287 HT_.out (by kernel_rfl) ?_
       refine pq_ 19 41 40 1048575 HT_.out (by kernel_rfl) ?_
       refine pq_ 20 42 40 2097151 HT_.out (by kernel_rfl) ?_
       refine pq_ 21 43 40 4194303 HT_.out (by kernel_rfl) ?_
       refine tq_ 22 44 40 8388607 HT_.out HW_.out (by kernel_rfl) hHeld ?_ rfl (by rintro w' ⟨s0, s1, s2, s3, s4, s5, s6⟩; go_simp; with_reducible rfl)
       refine one_ (i := 23) (N := some 45) (bsA 40 16777215) rfl rfl (one_of HT_.out (by kernel_rfl)) (by decide) (fun K hK => ?_)
       refine goes_ Try.func97 (by kernel_rfl) rfl #[.agg #[.int .i64 a0_5, .slice A0_6 l0_6.length c0_6]] (by rfl) rfl rfl (by (try simp only [List.map_toArray, List.map_cons, List.map_nil]); first | done | rfl | (simp only [List.length_drop, List.length_take]; rfl)) ?_
       with_reducible refine (impl_IsBits.calls k a0_5 _ _ l0_6 false _ ?side1 ?side2 A10.out).mono ?_
       (case side1 => repeat (first | exact (Kd.C_below HR0_6.out HB.out) | (with_reducible refine Kd.C_alloc ?_ _) | (with_reducible refine Kd.C_drewN ?_ _) | (with_reducible refine Kd.C_drew ?_)))
       (case side2 => exact HC0_6.out)
       rintro e w17 ⟨rfl, hb⟩
       refine ⟨_, rfl, ?_⟩
       have n0_ := Qx (Qb (g := gb0_) (by (with_reducible repeat (first | refine Qm ?_ _ | refine Qw ?_ | refine Qk ?_ _)); exact BK0.out) hb)
       have n1_ := Qx (Qp (by repeat (first | (with_reducible first | exact HB.out | apply Qa | apply Qn | apply Qd | refine Qs ?_ GE0.out) | exact HB.out)) hb)
       clear BK0 HB; have BK0 := n0_; have HB := n1_; clear n0_ n1_; (try clear hb); (try clear hb2); (try clear hk); (try clear hi)
       refine hK.out _ _ ⟨(Qc BK0.out 0).trans rfl, (Qc BK0.out 1).trans rfl, (Qc BK0.out 2).trans rfl, (Qc BK0.out 3).trans rfl, (Qc BK0.out 4).trans rfl, (Qc BK0.out 5).trans rfl, (Qc BK0.out 6).trans rfl⟩ (fun hHeld => ?_)
       clear hK K
       refine norm_ (a' := ?_) ?_ ?_
       rotate_left
       ·show Act.put _ (some 45) _ = _
        simp only [Act.put, List.setIfInBounds_toArray, List.set_cons_zero, List.set_cons_succ, i64_w]
        rfl
       refine pq_ 24 46 40 33554431 HT_.out (by kernel_rfl) ?_
       refine pq_ 25 47 40 67108863 HT_.out (by kernel_rfl) ?_
       refine pq_ 26 48 40 134217727 HT_.out (by kernel_rfl) ?_
       refine uq_ 27 49 40 268435455 HT_.out (by kernel_rfl) ?_
       refine uq_ 28 50 40 536870911 HT_.out (by kernel_rfl) ?_
       refine uq_ 29 51 40 1073741823 HT_.out (by kernel_rfl) ?_
       refine uq_ 30 52 40 2147483647 HT_.out (by kernel_rfl) ?_
       refine uq_ 31 53 40 4294967295 HT_.out (by kernel_rfl) ?_
       refine uq_ 32 54 40 8589934591 HT_.out (by kernel_rfl) ?_
       refine uq_ 33 55 40 17179869183 HT_.out (by kernel_rfl) ?_
       refine uq_ 34 56 40 34359738367 HT_.out (by kernel_rfl) ?_
       refine uq_ 35 57 40 68719476735 HT_.out (by kernel_rfl) ?_
       refine uq_ 36 58 40 137438953471 HT_.out (by kernel_rfl) ?_
       refine uq_ 37 59 40 274877906943 HT_.out (by kernel_rfl) ?_
       refine uq_ 38 60 40 549755813887 HT_.out (by kernel_rfl) ?_
       refine pq_ 39 61 40 1099511627775 HT_.out (by kernel_rfl) ?_
       refine done_ (done_of HT_.out (by kernel_rfl)) ?_
       try go_wp2
       go_meet
       case rel => exact ⟨_, (true), (by first | rfl | (simp; done) | (simp [*]; done)), H', ⟨by first | omega | exact Nat.le_refl _⟩, ⟨by (with_reducible repeat (first | refine Qm ?_ _ | refine Qw ?_ | refine Qk ?_ _)); exact BK0.out⟩, ⟨by repeat (first | (with_reducible first | exact HB.out | apply Qa | apply Qn | apply Qd | refine Qs ?_ GE0.out) | exact HB.out)⟩⟩
     ·replace c9 := Bool.eq_false_iff.mpr c9; subst c9
      have H1 : (impl_Sparse_numbers.j0 k t387 true a0_0 a0_1 a0_2 a0_3 l0_4 a0_5 l0_6) = some (r1, r2) := by rw [if_neg (show ¬ (false = true) by decide)] at H; exact H
      clear H; have H := H1; clear H1; have H' := Qx H; clear H
      try go_wp2
      have n0_ := Qx (Qw BK0.out)
      have n1_ := Qx (Qd HB.out)
      clear BK0 HB; have BK0 := n0_; have HB := n1_; clear n0_ n1_
      refine start_ (n := 40) (S := fun w' => w'.cell? ⟨gb0_, 0, none⟩ = some (.int .i64 a0_0) ∧ w'.cell? ⟨gb0_, 1, none⟩ = some (.int .i64 a0_1) ∧ w'.cell? ⟨gb0_, 2, none⟩ = some (.int .i64 a0_2) ∧ w'.cell? ⟨gb0_, 3, none⟩ = some (.int .i64 a0_3) ∧ w'.cell? ⟨gb0_, 4, none⟩ = some (.slice A0_4 l0_4.length c0_4) ∧ w'.cell? ⟨gb0_, 5, none⟩ = some (.int .i64 a0_5) ∧ w'.cell? ⟨gb0_, 6, none⟩ = some (.slice A0_6 l0_6.length c0_6)) (ds := []) #[false, false, false, false, false, false, false, false, false, false, false, false, false, false, false, false, false, false, false, false, false, false, false, false, false, false, false, false, false, false, false, false, false, false, false, false, false, false, false, false] (by kernel_rfl) rfl rfl ⟨(Qc BK0.out 0).trans rfl, (Qc BK0.out 1).trans rfl, (Qc BK0.out 2).trans rfl, (Qc BK0.out 3).trans rfl, (Qc BK0.out 4).trans rfl, (Qc BK0.out 5).trans rfl, (Qc BK0.out 6).trans rfl⟩ (fun hHeld => ?_); refine with_tabW impl_Sparse_numbers.tab2 impl_Sparse_numbers.bits2 (fun HT_ HW_ => ?_)
      generalize w5.drew = w18 at BK0 HB hHeld ⊢
      refine pq_ 0 22 40 1 HT_.out (by kernel_rfl) ?_
      refine pq_ 1 23 40 3 HT_.out (by kernel_rfl) ?_
      refine pq_ 2 24 40 7 HT_.out (by kernel_rfl) ?_
      refine pq_ 3 25 40 15 HT_.out (by kernel_rfl) ?_
      refine pq_ 4 26 40 31 HT_.out (by kernel_rfl) ?_
      refine pq_ 5 27 40 63 HT_.out (by kernel_rfl) ?_
      refine pq_ 6 28 40 127 HT_.out (by kernel_rfl) ?_
      refine tq_ 7 29 40 255 HT_.out HW_.out (by kernel_rfl) hHeld ?_ rfl (by rintro w' ⟨s0, s1, s2, s3, s4, s5, s6⟩; go_simp; with_reducible rfl)
      refine pq_ 8 30 40 511 HT_.out (by kernel_rfl) ?_
      refine pq_ 9 31 40 1023 HT_.out (by kernel_rfl) ?_
      refine pq_ 10 32 40 2047 HT_.out (by kernel_rfl) ?_
      refine pq_ 11 33 40 4095 HT_.out (by kernel_rfl) ?_
      refine pq_ 12 34 40 8191 HT_.out (by kernel_rfl) ?_
      refine pq_ 13 35 40 16383 HT_.out (by kernel_rfl) ?_
      refine tq_ 14 36 40 32767 HT_.out HW_.out (by kernel_rfl) hHeld ?_ rfl (by rintro w' ⟨s0, s1, s2, s3, s4, s5, s6⟩; go_simp; with_reducible rfl)
      refine one_ (i := 15) (N := some 37) (bsA 40 65535) rfl rfl (one_of HT_.out (by kernel_rfl)) (by decide) (fun K hK => ?_)
      refine goes_ Try.func97 (by kernel_rfl) rfl #[.agg #[.int .i64 a0_3, .slice A0_4 l0_4.length c0_4]] (by rfl) rfl rfl (by (try simp only [List.map_toArray, List.map_cons, List.map_nil]); first | done | rfl | (simp only [List.length_drop, List.length_take]; rfl)) ?_
      with_reducible refine (impl_IsBits.calls k a0_3 _ _ l0_4 false _ ?side1 ?side2 A8.out).mono ?_
      (case side1 => repeat (first | exact (Kd.C_below HR0_4.out HB.out) | (with_reducible refine Kd.C_alloc ?_ _) | (with_reducible refine Kd.C_drewN ?_ _) | (with_reducible refine Kd.C_drew ?_)))
      (case side2 => exact HC0_4.out)
      rintro e w19 ⟨rfl, hb⟩
      refine ⟨_, rfl, ?_⟩
      have n0_ := Qx (Qb (g := gb0_) (by (with_reducible repeat (first | refine Qm ?_ _ | refine Qw ?_ | refine Qk ?_ _)); exact BK0.out) hb)
      have n1_ := Qx (Qp (by repeat (first | (with_reducible first | exact HB.out | apply Qa | apply Qn | apply Qd | refine Qs ?_ GE0.out) | exact HB.out)) hb)
      clear BK0 HB; have BK0 := n0_; have HB := n1_; clear n0_ n1_; (try clear hb); (try clear hb2); (try clear hk); (try clear hi)
      refine hK.out _ _ ⟨(Qc BK0.out 0).trans rfl, (Qc BK0.out 1).trans rfl, (Qc BK0.out 2).trans rfl, (Qc BK0.out 3).trans rfl, (Qc BK0.out 4).trans rfl, (Qc BK0.out 5).trans rfl, (Qc BK0.out 6).trans rfl⟩ (fun hHeld => ?_)
      clear hK K
      refine norm_ (a' := ?_) ?_ ?_
      rotate_left
      ·show Act.put _ (some 37) _ = _
       simp only [Act.put, List.setIfInBounds_toArray, List.set_cons_zero, List.set_cons_succ, i64_w]
       rfl
      refine pq_ 16 38 40 131071 HT_.out (by kernel_rfl) ?_
      refine pq_ 17 39 40 262143 HT_.out (by kernel_rfl) ?_
      refine pq_ 18 40 40 524287 HT_.out (by kernel_rfl) ?_
      refine uq_ 19 41 40 1048575 HT_.out (by kernel_rfl) ?_
      refine uq_ 20 42 40 2097151 HT_.out (by kernel_rfl) ?_
      refine uq_ 21 43 40 4194303 HT_.out (by kernel_rfl) ?_
      refine uq_ 22 44 40 8388607 HT_.out (by kernel_rfl) ?_
      refine uq_ 23 45 40 16777215 HT_.out (by kernel_rfl) ?_
      refine uq_ 24 46 40 33554431 HT_.out (by kernel_rfl) ?_
      refine pq_ 25 47 40 67108863 HT_.out (by kernel_rfl) ?_
      refine pq_ 26 48 40 134217727 HT_.out (by kernel_rfl) ?_
      refine uq_ 27 49 40 268435455 HT_.out (by kernel_rfl) ?_
      refine uq_ 28 50 40 536870911 HT_.out (by kernel_rfl) ?_
      refine uq_ 29 51 40 1073741823 HT_.out (by kernel_rfl) ?_
      refine uq_ 30 52 40 2147483647 HT_.out (by kernel_rfl) ?_
      refine uq_ 31 53 40 4294967295 HT_.out (by kernel_rfl) ?_
      refine uq_ 32 54 40 8589934591 HT_.out (by kernel_rfl) ?_
      refine uq_ 33 55 40 17179869183 HT_.out (by kernel_rfl) ?_
      refine uq_ 34 56 40 34359738367 HT_.out (by kernel_rfl) ?_
      refine uq_ 35 57 40 68719476735 HT_.out (by kernel_rfl) ?_
      refine uq_ 36 58 40 137438953471 HT_.out (by kernel_rfl) ?_
      refine uq_ 37 59 40 274877906943 HT_.out (by kernel_rfl) ?_
      refine uq_ 38 60 40 549755813887 HT_.out (by kernel_rfl) ?_
      refine pq_ 39 61 40 1099511627775 HT_.out (by kernel_rfl) ?_
      refine done_ (done_of HT_.out (by kernel_rfl)) ?_
      try go_wp2
      go_meet
      case rel => exact ⟨_, (true), (by first | rfl | (simp; done) | (simp [*]; done)), H', ⟨by first | omega | exact Nat.le_refl _⟩, ⟨by (with_reducible repeat (first | refine Qm ?_ _ | refine Qw ?_ | refine Qk ?_ _)); exact BK0.out⟩, ⟨by repeat (first | (with_reducible first | exact HB.out | apply Qa | apply Qn | apply Qd | refine Qs ?_ GE0.out) | exact HB.out)⟩⟩
    ·rw [if_neg c7] at H
     have c7b0 : (t387 == a0_2) = false := beq_eq_false_iff_ne.mpr c7
     have c7b1 : (t387 != a0_2) = true := bne_iff_ne.mpr c7
     (first | rw [c7b0] | (simp only [i64_w, i32_w]; rw [c7b0]) | skip)
     have H' := Qx H; clear H
     try go_wp2
     have n0_ := Qx (Qw BK0.out)
     have n1_ := Qx (Qd HB.out)
     clear BK0 HB; have BK0 := n0_; have HB := n1_; clear n0_ n1_
     refine start_ (n := 40) (S := fun w' => w'.cell? ⟨gb0_, 0, none⟩ = some (.int .i64 a0_0) ∧ w'.cell? ⟨gb0_, 1, none⟩ = some (.int .i64 a0_1) ∧ w'.cell? ⟨gb0_, 2, none⟩ = some (.int .i64 a0_2) ∧ w'.cell? ⟨gb0_, 3, none⟩ = some (.int .i64 a0_3) ∧ w'.cell? ⟨gb0_, 4, none⟩ = some (.slice A0_4 l0_4.length c0_4) ∧ w'.cell? ⟨gb0_, 5, none⟩ = some (.int .i64 a0_5) ∧ w'.cell? ⟨gb0_, 6, none⟩ = some (.slice A0_6 l0_6.length c0_6)) (ds := []) #[false, false, false, false, false, false, false, false, false, false, false, false, false, false, false, false, false, false, false, false, false, false, false, false, false, false, false, false, false, false, false, false, false, false, false, false, false, false, false, false] (by kernel_rfl) rfl rfl ⟨(Qc BK0.out 0).trans rfl, (Qc BK0.out 1).trans rfl, (Qc BK0.out 2).trans rfl, (Qc BK0.out 3).trans rfl, (Qc BK0.out 4).trans rfl, (Qc BK0.out 5).trans rfl, (Qc BK0.out 6).trans rfl⟩ (fun hHeld => ?_); refine with_tabW impl_Sparse_numbers.tab2 impl_Sparse_numbers.bits2 (fun HT_ HW_ => ?_)
     generalize w5.drew = w20 at BK0 HB hHeld ⊢
     refine pq_ 0 22 40 1 HT_.out (by kernel_rfl) ?_
     refine pq_ 1 23 40 3 HT_.out (by kernel_rfl) ?_
     refine pq_ 2 24 40 7 HT_.out (by kernel_rfl) ?_
     refine pq_ 3 25 40 15 HT_.out (by kernel_rfl) ?_
     refine pq_ 4 26 40 31 HT_.out (by kernel_rfl) ?_
     refine pq_ 5 27 40 63 HT_.out (by kernel_rfl) ?_
     refine pq_ 6 28 40 127 HT_.out (by kernel_rfl) ?_
     refine tq_ 7 29 40 255 HT_.out HW_.out (by kernel_rfl) hHeld ?_ rfl (by rintro w' ⟨s0, s1, s2, s3, s4, s5, s6⟩; go_simp; with_reducible rfl)
     refine pq_ 8 30 40 511 HT_.out (by kernel_rfl) ?_
     refine pq_ 9 31 40 1023 HT_.out (by kernel_rfl) ?_
     refine pq_ 10 32 40 2047 HT_.out (by kernel_rfl) ?_
     refine uq_ 11 33 40 4095 HT_.out (by kernel_rfl) ?_
     refine uq_ 12 34 40 8191 HT_.out (by kernel_rfl) ?_
     refine uq_ 13 35 40 16383 HT_.out (by kernel_rfl) ?_
     refine uq_ 14 36 40 32767 HT_.out (by kernel_rfl) ?_
     refine uq_ 15 37 40 65535 HT_.out (by kernel_rfl) ?_
     refine uq_ 16 38 40 131071 HT_.out (by kernel_rfl) ?_
     refine pq_ 17 39 40 262143 HT_.out (by kernel_rfl) ?_
     refine pq_ 18 40 40 524287 HT_.out (by kernel_rfl) ?_
     refine uq_ 19 41 40 1048575 HT_.out (by kernel_rfl) ?_
     refine uq_ 20 42 40 2097151 HT_.out (by kernel_rfl) ?_
     refine uq_ 21 43 40 4194303 HT_.out (by kernel_rfl) ?_
     refine uq_ 22 44 40 8388607 HT_.out (by kernel_rfl) ?_
     refine uq_ 23 45 40 16777215 HT_.out (by kernel_rfl) ?_
     refine uq_ 24 46 40 33554431 HT_.out (by kernel_rfl) ?_
     refine pq_ 25 47 40 67108863 HT_.out (by kernel_rfl) ?_
     refine pq_ 26 48 40 134217727 HT_.out (by kernel_rfl) ?_
     refine uq_ 27 49 40 268435455 HT_.out (by kernel_rfl) ?_
     refine uq_ 28 50 40 536870911 HT_.out (by kernel_rfl) ?_
     refine uq_ 29 51 40 1073741823 HT_.out (by kernel_rfl) ?_
     refine uq_ 30 52 40 2147483647 HT_.out (by kernel_rfl) ?_
     refine uq_ 31 53 40 4294967295 HT_.out (by kernel_rfl) ?_
     refine uq_ 32 54 40 8589934591 HT_.out (by kernel_rfl) ?_
     refine uq_ 33 55 40 17179869183 HT_.out (by kernel_rfl) ?_
     refine uq_ 34 56 40 34359738367 HT_.out (by kernel_rfl) ?_
     refine uq_ 35 57 40 68719476735 HT_.out (by kernel_rfl) ?_
     refine uq_ 36 58 40 137438953471 HT_.out (by kernel_rfl) ?_
     refine uq_ 37 59 40 274877906943 HT_.out (by kernel_rfl) ?_
     refine uq_ 38 60 40 549755813887 HT_.out (by kernel_rfl) ?_
     refine pq_ 39 61 40 1099511627775 HT_.out (by kernel_rfl) ?_
     refine done_ (done_of HT_.out (by kernel_rfl)) ?_
     try go_wp2
     go_meet
     case rel => exact ⟨_, (true), (by first | rfl | (simp; done) | (simp [*]; done)), H', ⟨by first | omega | exact Nat.le_refl _⟩, ⟨by (with_reducible repeat (first | refine Qm ?_ _ | refine Qw ?_ | refine Qk ?_ _)); exact BK0.out⟩, ⟨by repeat (first | (with_reducible first | exact HB.out | apply Qa | apply Qn | apply Qd | refine Qs ?_ GE0.out) | exact HB.out)⟩⟩
   ·replace c6 := Bool.eq_false_iff.mpr c6; subst c6
    have H1 : (impl_Sparse_numbers.j0 k t387 true a0_0 a0_1 a0_2 a0_3 l0_4 a0_5 l0_6) = some (r1, r2) := by rw [if_neg (show ¬ (false = true) by decide)] at H; exact H
    clear H; have H := H1; clear H1; have H' := Qx H; clear H
    try go_wp2
    have n0_ := Qx (Qw BK0.out)
    have n1_ := Qx (Qd HB.out)
    clear BK0 HB; have BK0 := n0_; have HB := n1_; clear n0_ n1_
    refine start_ (n := 40) (S := fun w' => True) (ds := []) #[false, false, false, false, false, false, false, false, false, false, false, false, false, false, false, false, false, false, false, false, false, false, false, false, false, false, false, false, false, false, false, false, false, false, false, false, false, false, false, false] (by kernel_rfl) rfl rfl trivial (fun hHeld => ?_); refine with_tabW impl_Sparse_numbers.tab2 impl_Sparse_numbers.bits2 (fun HT_ HW_ => ?_)
    generalize w5.drew = w21 at BK0 HB hHeld ⊢
    refine pq_ 0 22 40 1 HT_.out (by kernel_rfl) ?_
    refine pq_ 1 23 40 3 HT_.out (by kernel_rfl) ?_
    refine pq_ 2 24 40 7 HT_.out (by kernel_rfl) ?_
    refine uq_ 3 25 40 15 HT_.out (by kernel_rfl) ?_
    refine uq_ 4 26 40 31 HT_.out (by kernel_rfl) ?_
    refine uq_ 5 27 40 63 HT_.out (by kernel_rfl) ?_
    refine uq_ 6 28 40 127 HT_.out (by kernel_rfl) ?_
    refine uq_ 7 29 40 255 HT_.out (by kernel_rfl) ?_
    refine uq_ 8 30 40 511 HT_.out (by kernel_rfl) ?_
    refine pq_ 9 31 40 1023 HT_.out (by kernel_rfl) ?_
    refine pq_ 10 32 40 2047 HT_.out (by kernel_rfl) ?_
    refine uq_ 11 33 40 4095 HT_.out (by kernel_rfl) ?_
    refine uq_ 12 34 40 8191 HT_.out (by kernel_rfl) ?_
    refine uq_ 13 35 40 16383 HT_.out (by kernel_rfl) ?_
    refine uq_ 14 36 40 32767 HT_.out (by kernel_rfl) ?_
    refine uq_ 15 37 40 65535 HT_.out (by kernel_rfl) ?_
    refine uq_ 16 38 40 131071 HT_.out (by kernel_rfl) ?_
    refine pq_ 17 39 40 262143 HT_.out (by kernel_rfl) ?_
    refine pq_ 18 40 40 524287 HT_.out (by kernel_rfl) ?_
    refine uq_ 19 41 40 1048575 HT_.out (by kernel_rfl) ?_
    refine uq_ 20 42 40 2097151 HT_.out (by kernel_rfl) ?_
    refine uq_ 21 43 40 4194303 HT_.out (by kernel_rfl) ?_
    refine uq_ 22 44 40 8388607 HT_.out (by kernel_rfl) ?_
    refine uq_ 23 45 40 16777215 HT_.out (by kernel_rfl) ?_
    refine uq_ 24 46 40 33554431 HT_.out (by kernel_rfl) ?_
    refine pq_ 25 47 40 67108863 HT_.out (by kernel_rfl) ?_
    refine pq_ 26 48 40 134217727 HT_.out (by kernel_rfl) ?_
    refine uq_ 27 49 40 268435455 HT_.out (by kernel_rfl) ?_
    refine uq_ 28 50 40 536870911 HT_.out (by kernel_rfl) ?_
    refine uq_ 29 51 40 1073741823 HT_.out (by kernel_rfl) ?_
    refine uq_ 30 52 40 2147483647 HT_.out (by kernel_rfl) ?_
    refine uq_ 31 53 40 4294967295 HT_.out (by kernel_rfl) ?_
    refine uq_ 32 54 40 8589934591 HT_.out (by kernel_rfl) ?_
    refine uq_ 33 55 40 17179869183 HT_.out (by kernel_rfl) ?_
    refine uq_ 34 56 40 34359738367 HT_.out (by kernel_rfl) ?_
    refine uq_ 35 57 40 68719476735 HT_.out (by kernel_rfl) ?_
    refine uq_ 36 58 40 137438953471 HT_.out (by kernel_rfl) ?_
    refine uq_ 37 59 40 274877906943 HT_.out (by kernel_rfl) ?_
    refine uq_ 38 60 40 549755813887 HT_.out (by kernel_rfl) ?_
    refine pq_ 39 61 40 1099511627775 HT_.out (by kernel_rfl) ?_
    refine done_ (done_of HT_.out (by kernel_rfl)) ?_
    try go_wp2
    go_meet
    case rel => exact ⟨_, (true), (by first | rfl | (simp; done) | (simp [*]; done)), H', ⟨by first | omega | exact Nat.le_refl _⟩, ⟨by (with_reducible repeat (first | refine Qm ?_ _ | refine Qw ?_ | refine Qk ?_ _)); exact BK0.out⟩, ⟨by repeat (first | (with_reducible first | exact HB.out | apply Qa | apply Qn | apply Qd | refine Qs ?_ GE0.out) | exact HB.out)⟩⟩
  case rest =>
   clear HC3
   try clear p2
   try clear c6
   try clear c7
   try clear c7b0
   try clear c7b1
   obtain ⟨kq, x61_2, rfl, HA, HJ2, BK0, HB⟩ := hcut
   cases kq with
   | zero => exact absurd HA.out (by simp [impl_Sparse_numbers.j0])
   | succ kj2 =>
    have H := HA.out; clear HA; simp only [impl_Sparse_numbers.j0] at H
    by_cases c22 : x61_2 = true
    ·subst c22
     have H1 : (some (([] : List Int), false)) = some (r1, r2) := by rw [if_pos rfl] at H; exact H
     clear H; have H := H1; clear H1; simp only [Option.some.injEq, Prod.mk.injEq] at H; obtain ⟨rfl, rfl⟩ := H
     go_wp2
     go_ret2
     exact ⟨_, by first | rfl | (simp [errW_none, errW_some] <;> rfl) | (simp [*, errW_none, errW_some] <;> rfl), by first | exact Kd.R_nil _ _ _ _ _ | exact Kd.N_nil _ _ _ _ _ | exact Kd.V_nil _ _ _ _ _ | exact Kd.Q_nil _ _ _ _ _ | exact Kd.S_nil _ _ _ _ _, by repeat (first | (with_reducible first | exact HB.out | apply Qa | apply Qn | apply Qd | refine Qs ?_ GE0.out) | exact HB.out)⟩
    ·replace c22 := Bool.eq_false_iff.mpr c22; subst c22
     have H1 : (impl_Sparse_numbers.l0 kj2 t387 (([] : List Int)) a0_5 0 a0_0 a0_1 a0_2 a0_3 l0_4 a0_5 l0_6) = some (r1, r2) := by rw [if_neg (show ¬ (false = true) by decide)] at H; exact H
     clear H; have H := H1; clear H1
     obtain ⟨y391, hy391⟩ : ∃ y_ : List Int, y_ = (([] : List Int)) := ⟨_, rfl⟩
     replace H : (impl_Sparse_numbers.l0 kj2 t387 y391 a0_5 0 a0_0 a0_1 a0_2 a0_3 l0_4 a0_5 l0_6) = some (r1, r2) := by first | (rw [hy391]; with_reducible exact H) | (have H2_ := (Option.bind_some _ _).symm.trans H; rw [hy391]; with_reducible exact H2_) | (have H2_ := (Option.bind_some _ _).symm.trans H; with_reducible exact H2_) | with_reducible exact H | (rw [hy391]; exact H) | exact H
     have Ny391 := Qx hy391; clear hy391; have H' := Qx H; clear H
     go_wp2_with (first | ((with_reducible refine gate_dst (N := 62) rfl ?_); refine Kd.R_lit (Kd.int .i64) _ 3 ?hg (N := 62) ?hd (xs := ([] : List Int)) (inner := []) (ok := fun _ => True) (okp := fun _ => True) ?hr ?hp (fun _ hk => hk) trivial (Below.refl _ _) (Nat.le_refl _) (by simp) ?_; (case hd => rfl); (case hg => rfl); (case hr => first | (go_simp; done) | (go_simp; rfl)); (case hp => exact (Reps.none _ _)); intro v392 w23 ho24 hb hg_ hnew_; clear hg_ hnew_; (first | rw [← Ny391.out] at ho24 | (simp only [Int.reduceToNat] at ho24; rw [← Ny391.out] at ho24)); have n0_ := Qx (Kd.R_lower ho24 (Qz (by repeat (first | (with_reducible first | exact HB.out | apply Qa | apply Qn | apply Qd | refine Qs ?_ GE0.out) | exact HB.out)))); have n1_ := Qx (Qb (g := gb0_) (by (with_reducible repeat (first | refine Qm ?_ _ | refine Qw ?_ | refine Qk ?_ _)); exact BK0.out) hb); have n2_ := Qx (Qp (by repeat (first | (with_reducible first | exact HB.out | apply Qa | apply Qn | apply Qd | refine Qs ?_ GE0.out) | exact HB.out)) hb); clear BK0 HB; have HO393 := n0_; have BK0 := n1_; have HB := n2_; clear n0_ n1_ n2_ hb ho24; obtain ⟨hcz25_0, hcz25_1, hcz25_2, hcz25_3, hcz25_4, hcz25_5, hcz25_6, hfz25_0, hfz25_1, hfz25_2, hfz25_3, hfz25_4, hfz25_5, hfz25_6⟩ := cellsQ7_g3fec (w := w23) BK0.out))
     go_loopg [6, 68] kj2 (fun kq v6 v68 w' => ∃ (x6_2 : List Int) (x68_2 : Int), v68 = .int .i64 x68_2 ∧ Aside0 (impl_Sparse_numbers.l0 kq t387 x6_2 a0_5 x68_2 a0_0 a0_1 a0_2 a0_3 l0_4 a0_5 l0_6 = some (r1, r2)) ∧ Aside0 (kq ≤ kj2) ∧ Aside0 (Kd.R (Kd.int .i64) 3 w' w.heap.size (fun _ => True) v6 x6_2) ∧ Aside0 (w'.heap[gb0_]? = some (.cells #[.int .i64 a0_0, .int .i64 a0_1, .int .i64 a0_2, .int .i64 a0_3, (.slice A0_4 l0_4.length c0_4), .int .i64 a0_5, (.slice A0_6 l0_6.length c0_6)] 26 (0, 0))) ∧ Aside0 (Below w.heap.size w w'))
     case atStart => exact ⟨(y391), (0), (by first | rfl | (simp; done) | (simp [*]; done)), H', ⟨Nat.le_refl _⟩, ⟨by (with_reducible repeat (first | apply Qra | apply Qrn | apply Qrd)); exact HO393.out⟩, ⟨by (with_reducible repeat (first | refine Qm ?_ _ | refine Qw ?_ | refine Qk ?_ _)); exact BK0.out⟩, ⟨by repeat (first | (with_reducible first | exact HB.out | apply Qa | apply Qn | apply Qd | refine Qs ?_ GE0.out) | exact HB.out)⟩⟩
     case round =>
      clear H'
      try clear c2
      try clear p2
      try clear c6
      try clear c7
      try clear c7b0
      try clear c7b1
      try clear c22
      try clear hcz25_0
      try clear hcz25_1
      try clear hcz25_2
      try clear hcz25_3
      try clear hcz25_4
      try clear hcz25_5
      try clear hcz25_6
      try clear hfz25_0
      try clear hfz25_1
      try clear hfz25_2
      try clear hfz25_3
      try clear hfz25_4
      try clear hfz25_5
      try clear hfz25_6
      try clear p2
      obtain ⟨x6_2, x68_2, rfl, HA, HK2, HO_6, BK0, HB⟩ := hrel
      cases gk with
      | zero => exact absurd HA.out (by simp [impl_Sparse_numbers.l0])
      | succ k2 =>
       have H := HA.out; clear HA; simp only [impl_Sparse_numbers.l0] at H
       by_cases c26 : x68_2 < a0_5
       ·rw [if_pos c26] at H
        have c26b0 : decide (x68_2 < a0_5) = true := decide_eq_true c26
        clear c26; replace H := Option.bind_eq_some_iff.mp H; obtain ⟨t394, A270, H⟩ := H
        have A27 := Qx A270; clear A270
        by_cases c28 : t394 = true
        ·subst c28
         have H1 : (if (x6_2.length : Int) < a0_0 then (if 0 ≤ t387 then ((impl_Bits_field_in_26_3.f k2 a0_0 a0_1 a0_2 a0_3 l0_4 a0_5 l0_6 (wrap64 ((x6_2.length : Int) * t387)) t387).bind fun t395 => (if x6_2.length < 17592186044416 then (impl_Sparse_numbers.l0 k2 t387 (x6_2 ++ [Go.bits .or .i64 (shl .i64 (wrap64 (x68_2 - (x6_2.length : Int))) t387) t395]) a0_5 (wrap64 (x68_2 + 1)) a0_0 a0_1 a0_2 a0_3 l0_4 a0_5 l0_6) else (none))) else (none)) else (impl_Sparse_numbers.l0 k2 t387 x6_2 a0_5 (wrap64 (x68_2 + 1)) a0_0 a0_1 a0_2 a0_3 l0_4 a0_5 l0_6)) = some (r1, r2) := by rw [if_pos rfl] at H; exact H
         clear H; have H := H1; clear H1
         by_cases c29 : (x6_2.length : Int) < a0_0
         ·rw [if_pos c29] at H
          have c29b0 : decide ((x6_2.length : Int) < a0_0) = true := decide_eq_true c29
          clear c29
          by_cases c30 : 0 ≤ t387
          ·rw [if_pos c30] at H; have c30b0 := eq_true c30
           have c30b1 : decide (0 ≤ t387) = true := decide_eq_true c30
           clear c30
           obtain ⟨ji31, hji31⟩ : ∃ j_ : Int, (shl .i64 (wrap64 (x68_2 - (x6_2.length : Int))) t387) = j_ := ⟨_, rfl⟩
           replace H : ((impl_Bits_field_in_26_3.f k2 a0_0 a0_1 a0_2 a0_3 l0_4 a0_5 l0_6 (wrap64 ((x6_2.length : Int) * t387)) t387).bind fun t395 => (if x6_2.length < 17592186044416 then (impl_Sparse_numbers.l0 k2 t387 (x6_2 ++ [Go.bits .or .i64 (ji31) t395]) a0_5 (wrap64 (x68_2 + 1)) a0_0 a0_1 a0_2 a0_3 l0_4 a0_5 l0_6) else (none))) = some (r1, r2) := by first | (rw [hji31] at H; exact H) | (simp only [hji31] at H ⊢; exact H)
           (try rw [hji31] at A27)
           have hji31_ : (IntKind.i64.wrap ((wrap64 (x68_2 - (x6_2.length : Int))) * 2 ^ min t387.toNat 64)) = ji31 := hji31
           have hji31z : t387 ≤ 64 → (IntKind.i64.wrap ((wrap64 (x68_2 - (x6_2.length : Int))) * 2 ^ t387.toNat)) = ji31 := shl_small hji31
           have hji31y : (wrap64 ((wrap64 (x68_2 - (x6_2.length : Int))) * 2 ^ min t387.toNat 64)) = ji31 := (i64_w _).symm.trans hji31_
           have hji31x : t387 ≤ 64 → (wrap64 ((wrap64 (x68_2 - (x6_2.length : Int))) * 2 ^ t387.toNat)) = ji31 := fun h_ => (i64_w _).symm.trans (hji31z h_)
           replace H := Option.bind_eq_some_iff.mp H; obtain ⟨t395, A320, H⟩ := H
           have A32 := Qx A320; clear A320
           by_cases c33 : x6_2.length < 17592186044416
           ·rw [if_pos c33] at H; have LMc33 := Qx c33; clear c33
            obtain ⟨y396, hy396⟩ : ∃ y_ : List Int, y_ = (x6_2 ++ [Go.bits .or .i64 (ji31) t395]) := ⟨_, rfl⟩
            replace H : (impl_Sparse_numbers.l0 k2 t387 y396 a0_5 (wrap64 (x68_2 + 1)) a0_0 a0_1 a0_2 a0_3 l0_4 a0_5 l0_6) = some (r1, r2) := by first | (rw [hy396]; with_reducible exact H) | (have H2_ := (Option.bind_some _ _).symm.trans H; rw [hy396]; with_reducible exact H2_) | (have H2_ := (Option.bind_some _ _).symm.trans H; with_reducible exact H2_) | with_reducible exact H | (rw [hy396]; exact H) | exact H
            have Ny396 := Qx hy396; clear hy396; have H' := Qx H; clear H; obtain ⟨Ao34, co34, eo34⟩ := Kd.R_slice HO_6.out; subst eo34
            try go_wp2_with (first | ((with_reducible refine gate_callee (f := 98) rfl ?_); refine goesL_ (some 77) rfl rfl Try.func98 (by kernel_rfl) rfl #[.pointer (some ⟨gb0_, 5, none⟩), .int .i64 x68_2] rfl (by (try simp only [List.map_toArray, List.map_cons, List.map_nil]); first | done | rfl | (simp only [List.length_drop, List.length_take]; rfl)) ?_; (with_reducible refine (impl_Bits_at_in_26_5.calls gb0_ a0_0 a0_1 a0_2 a0_3 A0_4 c0_4 l0_4 a0_5 A0_6 c0_6 l0_6 x68_2 true _ ?side1 ?side2 ?side3 ?side4 ?side5 A27.out).mono ?_); (case side1 => repeat (first | exact (Kd.C_below HR0_4.out HB.out) | (with_reducible refine Kd.C_alloc ?_ _) | (with_reducible refine Kd.C_drewN ?_ _) | (with_reducible refine Kd.C_drew ?_))); (case side2 => exact HC0_4.out); (case side3 => repeat (first | exact (Kd.C_below HR0_6.out HB.out) | (with_reducible refine Kd.C_alloc ?_ _) | (with_reducible refine Kd.C_drewN ?_ _) | (with_reducible refine Kd.C_drew ?_))); (case side4 => exact HC0_6.out); (case side5 => exact (by (with_reducible repeat (first | refine Qm ?_ _ | refine Qw ?_ | refine Qk ?_ _)); exact BK0.out)); rintro e w' ⟨rfl, ⟨nd, rfl⟩⟩; refine ⟨_, rfl, ?_⟩; obtain ⟨hcz35_0, hcz35_1, hcz35_2, hcz35_3, hcz35_4, hcz35_5, hcz35_6, hfz35_0, hfz35_1, hfz35_2, hfz35_3, hfz35_4, hfz35_5, hfz35_6⟩ := cellsQ7_g3fec (w := wr) BK0.out))
            (try (rw [drewN_self wr]; generalize hq_ : World.drewN wr _ = wr; have n0_ : Aside0 (Kd.R (Kd.int .i64) 3 wr w.heap.size (fun k_ => True) (.slice Ao34 x6_2.length co34) x6_2) := ⟨by rw [← hq_]; exact (by (with_reducible repeat (first | apply Qra | apply Qrn | apply Qrd)); exact HO_6.out)⟩; have n1_ : Aside0 (wr.heap[gb0_]? = some (.cells #[.int .i64 a0_0, .int .i64 a0_1, .int .i64 a0_2, .int .i64 a0_3, .slice A0_4 l0_4.length c0_4, .int .i64 a0_5, .slice A0_6 l0_6.length c0_6] 26 (0, 0))) := ⟨by rw [← hq_]; exact (by (with_reducible repeat (first | refine Qm ?_ _ | refine Qw ?_ | refine Qk ?_ _)); exact BK0.out)⟩; have n2_ : Aside0 (Below w.heap.size w wr) := ⟨by rw [← hq_]; exact (by repeat (first | (with_reducible first | exact HB.out | apply Qa | apply Qn | apply Qd | refine Qs ?_ GE0.out) | exact HB.out))⟩; clear HO_6 BK0 HB hq_; have HO_6 := n0_; have BK0 := n1_; have HB := n2_; clear n0_ n1_ n2_))
            have n0_ := Qx (Qrd HO_6.out)
            have n1_ := Qx (Qw BK0.out)
            have n2_ := Qx (Qd HB.out)
            clear HO_6 BK0 HB; have HO_6 := n0_; have BK0 := n1_; have HB := n2_; clear n0_ n1_ n2_
            refine start_ (n := 18) (S := fun w' => True) (ds := []) #[false, false, false, false, false, false, false, false, false, false, false, false, false, false, false, false, false, false] (by kernel_rfl) rfl rfl trivial (fun hHeld => ?_); refine with_tabW impl_Sparse_numbers.tab10 impl_Sparse_numbers.bits10 (fun HT_ HW_ => ?_)
            generalize wr.drew = w36 at HO_6 BK0 HB hHeld ⊢
            refine pq_ 0 86 18 1 HT_.out (by kernel_rfl) ?_
            refine pq_ 1 87 18 3 HT_.out (by kernel_rfl) ?_
            refine pq_ 2 88 18 7 HT_.out (by kernel_rfl) ?_
            refine pq_ 3 89 18 15 HT_.out (by kernel_rfl) ?_
            refine pq_ 4 90 18 31 HT_.out (by kernel_rfl) ?_
            refine pq_ 5 91 18 63 HT_.out (by kernel_rfl) ?_
            refine pq_ 6 92 18 127 HT_.out (by kernel_rfl) ?_
            refine pq_ 7 93 18 255 HT_.out (by kernel_rfl) ?_
            refine pq_ 8 94 18 511 HT_.out (by kernel_rfl) ?_
            refine pq_ 9 95 18 1023 HT_.out (by kernel_rfl) ?_
            refine pq_ 10 96 18 2047 HT_.out (by kernel_rfl) ?_
            refine pq_ 11 97 18 4095 HT_.out (by kernel_rfl) ?_
            refine pq_ 12 98 18 8191 HT_.out (by kernel_rfl) ?_
            refine one_ (i := 13) (N := some 99) (bsA 18 16383) rfl rfl (one_of HT_.out (by kernel_rfl)) (by decide) (fun K hK => ?_)
            refine goes_ Try.func99 (by kernel_rfl) rfl #[.pointer (some ⟨gb0_, 3, none⟩), .int .i64 (wrap64 ((x6_2.length : Int) * t387)), .int .i64 t387] (by rfl) rfl rfl (by (try simp only [List.map_toArray, List.map_cons, List.map_nil]); first | done | rfl | (simp only [List.length_drop, List.length_take]; rfl)) ?_
            with_reducible refine (impl_Bits_field_in_26_3.calls k2 gb0_ a0_0 a0_1 a0_2 a0_3 A0_4 c0_4 l0_4 a0_5 A0_6 c0_6 l0_6 (wrap64 ((x6_2.length : Int) * t387)) t387 t395 _ ?side1 ?side2 ?side3 ?side4 ?side5 A32.out).mono ?_
            (case side1 => repeat (first | exact (Kd.C_below HR0_4.out HB.out) | (with_reducible refine Kd.C_alloc ?_ _) | (with_reducible refine Kd.C_drewN ?_ _) | (with_reducible refine Kd.C_drew ?_)))
            (case side2 => exact HC0_4.out)
            (case side3 => repeat (first | exact (Kd.C_below HR0_6.out HB.out) | (with_reducible refine Kd.C_alloc ?_ _) | (with_reducible refine Kd.C_drewN ?_ _) | (with_reducible refine Kd.C_drew ?_)))
            (case side4 => exact HC0_6.out)
            (case side5 => exact (by (with_reducible repeat (first | refine Qm ?_ _ | refine Qw ?_ | refine Qk ?_ _)); exact BK0.out))
            rintro e w' ⟨rfl, ⟨nd, rfl⟩⟩
            refine ⟨_, rfl, ?_⟩
            refine hK.out _ _ trivial (fun hHeld => ?_)
            clear hK K
            refine norm_ (a' := ?_) ?_ ?_
            rotate_left
            ·show Act.put _ (some 99) _ = _
             simp only [Act.put, List.setIfInBounds_toArray, List.set_cons_zero, List.set_cons_succ, i64_w]
             rfl
            refine pq_ 14 100 18 32767 HT_.out (by kernel_rfl) ?_
            refine one_ (i := 15) (N := some 101) (bsA 18 65535) rfl rfl (one_of HT_.out (by kernel_rfl)) (by decide) (fun K hK => ?_)
            refine value_ (w1 := ?_) (v := ?_) (by rfl) rfl ?_ ?_
            rotate_left 2
            ·go_simp
             constructor
             ·rfl
             ·rfl
            refine hK.out _ _ trivial (fun hHeld => ?_)
            clear hK K
            refine norm_ (a' := ?_) ?_ ?_
            rotate_left
            ·show Act.put _ (some 101) _ = _
             simp only [Act.put, List.setIfInBounds_toArray, List.set_cons_zero, List.set_cons_succ, i64_w]
             rfl
            refine one_ (i := 16) (N := some 102) (bsA 18 131071) rfl rfl (one_of HT_.out (by kernel_rfl)) (by decide) (fun K hK => ?_)
            refine Kd.R_append_step (Kd.int .i64) (w0 := w) w.heap.size (by rfl) (.tmp 86) (.tmp 101) 22 3 (.int .i64 0) 8 rfl Try.underlying22 info3 rfl (by decide) (by omega) (.slice Ao34 x6_2.length co34) x6_2 (Go.bits .or .i64 (ji31) t395) [.int .i64 (Go.bits .or .i64 (ji31) t395)] (fun _ => True) (fun _ => False) rfl rfl ?aP (fun _ hk => hk.elim) ?aF ?aO ?aB ?aS ?aL ?_
            (case aP => exact rfl)
            (case aB => exact (by repeat (first | (with_reducible first | exact HB.out | apply Qa | apply Qn | apply Qd | refine Qs ?_ GE0.out) | exact HB.out)))
            (case aF => exact (fun _ _ => trivial))
            (case aO => exact (by (with_reducible repeat (first | apply Qra | apply Qrn | apply Qrd)); exact HO_6.out))
            (case aS => exact (Qz (by repeat (first | (with_reducible first | exact HB.out | apply Qa | apply Qn | apply Qd | refine Qs ?_ GE0.out) | exact HB.out))))
            (case aL => have := LMc33.out; omega)
            intro v397 w37 ho hb hg hat
            rw [← Ny396.out] at ho
            have n0_ := Qx (blk_grown (g := gb0_) (o := .cells #[.int .i64 a0_0, .int .i64 a0_1, .int .i64 a0_2, .int .i64 a0_3, .slice A0_4 l0_4.length c0_4, .int .i64 a0_5, .slice A0_6 l0_6.length c0_6] 26 (0, 0)) (by (with_reducible repeat (first | refine Qm ?_ _ | refine Qw ?_ | refine Qk ?_ _)); exact BK0.out) hg (Kd.R_ne HO_6.out BK0.out (by decide)))
            have n1_ := Qx (hb)
            have n2_ := Qx (ho)
            clear BK0 HB HO_6; have BK0 := n0_; have HB := n1_; have HO398 := n2_; clear n0_ n1_ n2_ ho hb hg hat
            refine hK.out _ _ trivial (fun hHeld => ?_)
            clear hK K
            refine norm_ (a' := ?_) ?_ ?_
            rotate_left
            ·show Act.put _ (some 102) _ = _
             simp only [Act.put, List.setIfInBounds_toArray, List.set_cons_zero, List.set_cons_succ, i64_w]
             rfl
            refine pq_ 17 6 18 262143 HT_.out (by kernel_rfl) ?_
            refine done_ (done_of HT_.out (by kernel_rfl)) ?_
            try go_wp2
            go_roundg k2
            case measure => have := HJ2.out; have := HK2.out; omega
            case rel => exact ⟨(y396), (wrap64 (x68_2 + 1)), (by first | rfl | (simp; done) | (simp [*]; done)), H', ⟨by have := HJ2.out; have := HK2.out; omega⟩, ⟨by (with_reducible repeat (first | apply Qra | apply Qrn | apply Qrd)); exact HO398.out⟩, ⟨by (with_reducible repeat (first | refine Qm ?_ _ | refine Qw ?_ | refine Qk ?_ _)); exact BK0.out⟩, ⟨by repeat (first | (with_reducible first | exact HB.out | apply Qa | apply Qn | apply Qd | refine Qs ?_ GE0.out) | exact HB.out)⟩⟩
           ·rw [if_neg c33] at H
            exact absurd H (by simp)
          ·rw [if_neg c30] at H
           exact absurd H (by simp)
         ·rw [if_neg c29] at H
          have c29b0 : decide ((x6_2.length : Int) < a0_0) = false := decide_eq_false c29
          clear c29; have H' := Qx H; clear H; obtain ⟨Ao38, co38, eo38⟩ := Kd.R_slice HO_6.out; subst eo38
          go_wp2_with (first | ((with_reducible refine gate_callee (f := 98) rfl ?_); refine goesL_ (some 77) rfl rfl Try.func98 (by kernel_rfl) rfl #[.pointer (some ⟨gb0_, 5, none⟩), .int .i64 x68_2] rfl (by (try simp only [List.map_toArray, List.map_cons, List.map_nil]); first | done | rfl | (simp only [List.length_drop, List.length_take]; rfl)) ?_; (with_reducible refine (impl_Bits_at_in_26_5.calls gb0_ a0_0 a0_1 a0_2 a0_3 A0_4 c0_4 l0_4 a0_5 A0_6 c0_6 l0_6 x68_2 true _ ?side1 ?side2 ?side3 ?side4 ?side5 A27.out).mono ?_); (case side1 => repeat (first | exact (Kd.C_below HR0_4.out HB.out) | (with_reducible refine Kd.C_alloc ?_ _) | (with_reducible refine Kd.C_drewN ?_ _) | (with_reducible refine Kd.C_drew ?_))); (case side2 => exact HC0_4.out); (case side3 => repeat (first | exact (Kd.C_below HR0_6.out HB.out) | (with_reducible refine Kd.C_alloc ?_ _) | (with_reducible refine Kd.C_drewN ?_ _) | (with_reducible refine Kd.C_drew ?_))); (case side4 => exact HC0_6.out); (case side5 => exact (by (with_reducible repeat (first | refine Qm ?_ _ | refine Qw ?_ | refine Qk ?_ _)); exact BK0.out)); rintro e w' ⟨rfl, ⟨nd, rfl⟩⟩; refine ⟨_, rfl, ?_⟩; obtain ⟨hcz39_0, hcz39_1, hcz39_2, hcz39_3, hcz39_4, hcz39_5, hcz39_6, hfz39_0, hfz39_1, hfz39_2, hfz39_3, hfz39_4, hfz39_5, hfz39_6⟩ := cellsQ7_g3fec (w := wr) BK0.out))
          go_roundg k2
          case measure => have := HJ2.out; have := HK2.out; omega
          case rel => exact ⟨(x6_2), (wrap64 (x68_2 + 1)), (by first | rfl | (simp; done) | (simp [*]; done)), H', ⟨by have := HJ2.out; have := HK2.out; omega⟩, ⟨by (with_reducible repeat (first | apply Qra | apply Qrn | apply Qrd)); exact HO_6.out⟩, ⟨by (with_reducible repeat (first | refine Qm ?_ _ | refine Qw ?_ | refine Qk ?_ _)); exact BK0.out⟩, ⟨by repeat (first | (with_reducible first | exact HB.out | apply Qa | apply Qn | apply Qd | refine Qs ?_ GE0.out) | exact HB.out)⟩⟩
        ·replace c28 := Bool.eq_false_iff.mpr c28; subst c28
         have H1 : (impl_Sparse_numbers.l0 k2 t387 x6_2 a0_5 (wrap64 (x68_2 + 1)) a0_0 a0_1 a0_2 a0_3 l0_4 a0_5 l0_6) = some (r1, r2) := by rw [if_neg (show ¬ (false = true) by decide)] at H; exact H
         clear H; have H := H1; clear H1; have H' := Qx H; clear H; obtain ⟨Ao40, co40, eo40⟩ := Kd.R_slice HO_6.out; subst eo40
         go_wp2_with (first | ((with_reducible refine gate_callee (f := 98) rfl ?_); refine goesL_ (some 77) rfl rfl Try.func98 (by kernel_rfl) rfl #[.pointer (some ⟨gb0_, 5, none⟩), .int .i64 x68_2] rfl (by (try simp only [List.map_toArray, List.map_cons, List.map_nil]); first | done | rfl | (simp only [List.length_drop, List.length_take]; rfl)) ?_; (with_reducible refine (impl_Bits_at_in_26_5.calls gb0_ a0_0 a0_1 a0_2 a0_3 A0_4 c0_4 l0_4 a0_5 A0_6 c0_6 l0_6 x68_2 false _ ?side1 ?side2 ?side3 ?side4 ?side5 A27.out).mono ?_); (case side1 => repeat (first | exact (Kd.C_below HR0_4.out HB.out) | (with_reducible refine Kd.C_alloc ?_ _) | (with_reducible refine Kd.C_drewN ?_ _) | (with_reducible refine Kd.C_drew ?_))); (case side2 => exact HC0_4.out); (case side3 => repeat (first | exact (Kd.C_below HR0_6.out HB.out) | (with_reducible refine Kd.C_alloc ?_ _) | (with_reducible refine Kd.C_drewN ?_ _) | (with_reducible refine Kd.C_drew ?_))); (case side4 => exact HC0_6.out); (case side5 => exact (by (with_reducible repeat (first | refine Qm ?_ _ | refine Qw ?_ | refine Qk ?_ _)); exact BK0.out)); rintro e w' ⟨rfl, ⟨nd, rfl⟩⟩; refine ⟨_, rfl, ?_⟩))
         go_roundg k2
         case measure => have := HJ2.out; have := HK2.out; omega
         case rel => exact ⟨(x6_2), (wrap64 (x68_2 + 1)), (by first | rfl | (simp; done) | (simp [*]; done)), H', ⟨by have := HJ2.out; have := HK2.out; omega⟩, ⟨by (with_reducible repeat (first | apply Qra | apply Qrn | apply Qrd)); exact HO_6.out⟩, ⟨by (with_reducible repeat (first | refine Qm ?_ _ | refine Qw ?_ | refine Qk ?_ _)); exact BK0.out⟩, ⟨by repeat (first | (with_reducible first | exact HB.out | apply Qa | apply Qn | apply Qd | refine Qs ?_ GE0.out) | exact HB.out)⟩⟩
       ·rw [if_neg c26] at H
        have c26b0 : decide (x68_2 < a0_5) = false := decide_eq_false c26
        clear c26; have HC41 := Qx H; clear H
        go_upto_region 12 with (fail)
        go_cut [119] (fun v119 wc => ∃ (kq : Nat) (x119_40 : Bool), v119 = .bool x119_40 ∧ Aside0 (impl_Sparse_numbers.j2 kq x6_2 x119_40 a0_0 a0_1 a0_2 a0_3 l0_4 a0_5 l0_6 = some (r1, r2)) ∧ Aside0 (kq ≤ k2) ∧ Aside0 (Kd.R (Kd.int .i64) 3 wc w.heap.size (fun _ => True) u6 x6_2) ∧ Aside0 (wc.heap[gb0_]? = some (.cells #[.int .i64 a0_0, .int .i64 a0_1, .int .i64 a0_2, .int .i64 a0_3, (.slice A0_4 l0_4.length c0_4), .int .i64 a0_5, (.slice A0_6 l0_6.length c0_6)] 26 (0, 0))) ∧ Aside0 (Below w.heap.size w wc))
        case first =>
         have H := HC41.out; clear HC41
         by_cases c42 : (x6_2.length : Int) = a0_0
         ·rw [if_pos c42] at H
          have c42b0 : ((x6_2.length : Int) == a0_0) = true := beq_iff_eq.mpr c42
          have c42b1 : ((x6_2.length : Int) != a0_0) = false := bne_eq_false_iff_eq.mpr c42
          clear c42
          (first | rw [c42b0] | (simp only [i64_w, i32_w]; rw [c42b0]) | skip)
          replace H := Option.bind_eq_some_iff.mp H; obtain ⟨t399, A430, H⟩ := H
          have A43 := Qx A430; clear A430; have H' := Qx H; clear H; obtain ⟨Ao44, co44, eo44⟩ := Kd.R_slice HO_6.out; subst eo44
          obtain ⟨hcz45_0, hcz45_1, hcz45_2, hcz45_3, hcz45_4, hcz45_5, hcz45_6, hfz45_0, hfz45_1, hfz45_2, hfz45_3, hfz45_4, hfz45_5, hfz45_6⟩ := cellsQ7_g3fec (w := wr) BK0.out
          go_wp2_with (first | (go_at_call 55; (with_reducible refine (impl_sortedOk.calls k2 _ _ x6_2 a0_1 t399 _ ?side1 ?side2 A43.out).mono ?_); (case side1 => repeat (first | exact (Kd.R_reads' HO_6.out).2.2 | (with_reducible refine Kd.C_alloc ?_ _) | (with_reducible refine Kd.C_drewN ?_ _) | (with_reducible refine Kd.C_drew ?_))); (case side2 => exact (Kd.R_reads' HO_6.out).2.1); rintro e w' ⟨rfl, ⟨nd, rfl⟩⟩))
          go_meet
          case rel => exact ⟨_, (!t399), (by first | rfl | (simp; done) | (simp [*]; done)), H', ⟨by have := HJ2.out; have := HK2.out; first | omega | exact Nat.le_refl _⟩, ⟨by (with_reducible repeat (first | apply Qra | apply Qrn | apply Qrd)); exact HO_6.out⟩, ⟨by (with_reducible repeat (first | refine Qm ?_ _ | refine Qw ?_ | refine Qk ?_ _)); exact BK0.out⟩, ⟨by repeat (first | (with_reducible first | exact HB.out | apply Qa | apply Qn | apply Qd | refine Qs ?_ GE0.out) | exact HB.out)⟩⟩
         ·rw [if_neg c42] at H
          have c42b0 : ((x6_2.length : Int) == a0_0) = false := beq_eq_false_iff_ne.mpr c42
          have c42b1 : ((x6_2.length : Int) != a0_0) = true := bne_iff_ne.mpr c42
          (first | rw [c42b0] | (simp only [i64_w, i32_w]; rw [c42b0]) | skip)
          have H' := Qx H; clear H; obtain ⟨Ao46, co46, eo46⟩ := Kd.R_slice HO_6.out; subst eo46
          obtain ⟨hcz47_0, hcz47_1, hcz47_2, hcz47_3, hcz47_4, hcz47_5, hcz47_6, hfz47_0, hfz47_1, hfz47_2, hfz47_3, hfz47_4, hfz47_5, hfz47_6⟩ := cellsQ7_g3fec (w := wr) BK0.out
          go_wp2
          go_meet
          case rel => exact ⟨_, (true), (by first | rfl | (simp; done) | (simp [*]; done)), H', ⟨by have := HJ2.out; have := HK2.out; first | omega | exact Nat.le_refl _⟩, ⟨by (with_reducible repeat (first | apply Qra | apply Qrn | apply Qrd)); exact HO_6.out⟩, ⟨by (with_reducible repeat (first | refine Qm ?_ _ | refine Qw ?_ | refine Qk ?_ _)); exact BK0.out⟩, ⟨by repeat (first | (with_reducible first | exact HB.out | apply Qa | apply Qn | apply Qd | refine Qs ?_ GE0.out) | exact HB.out)⟩⟩
        case rest =>
         clear HC41
         try clear c2
         try clear p2
         try clear c3
         try clear c4
         try clear c6
         try clear p6
         try clear c7
         try clear c7b0
         try clear c7b1
         try clear c9
         try clear c22
         try clear c26
         try clear c26b0
         try clear c28
         try clear c29
         try clear c29b0
         try clear c30
         try clear c30b0
         try clear c30b1
         try clear c33
         try clear c42
         try clear c42b0
         try clear c42b1
         try clear hcz25_0
         try clear hcz25_1
         try clear hcz25_2
         try clear hcz25_3
         try clear hcz25_4
         try clear hcz25_5
         try clear hcz25_6
         try clear hcz35_0
         try clear hcz35_1
         try clear hcz35_2
         try clear hcz35_3
         try clear hcz35_4
         try clear hcz35_5
         try clear hcz35_6
         try clear hcz39_0
         try clear hcz39_1
         try clear hcz39_2
         try clear hcz39_3
         try clear hcz39_4
         try clear hcz39_5
         try clear hcz39_6
         try clear hcz45_0
         try clear hcz45_1
         try clear hcz45_2
         try clear hcz45_3
         try clear hcz45_4
         try clear hcz45_5
         try clear hcz45_6
         try clear hcz47_0
         try clear hcz47_1
         try clear hcz47_2
         try clear hcz47_3
         try clear hcz47_4
         try clear hcz47_5
         try clear hcz47_6
         try clear hfz25_0
         try clear hfz25_1
         try clear hfz25_2
         try clear hfz25_3
         try clear hfz25_4
         try clear hfz25_5
         try clear hfz25_6
         try clear hfz35_0
         try clear hfz35_1
         try clear hfz35_2
         try clear hfz35_3
         try clear hfz35_4
         try clear hfz35_5
         try clear hfz35_6
         try clear hfz39_0
         try clear hfz39_1
         try clear hfz39_2
         try clear hfz39_3
         try clear hfz39_4
         try clear hfz39_5
         try clear hfz39_6
         try clear hfz45_0
         try clear hfz45_1
         try clear hfz45_2
         try clear hfz45_3
         try clear hfz45_4
         try clear hfz45_5
         try clear hfz45_6
         try clear hfz47_0
         try clear hfz47_1
         try clear hfz47_2
         try clear hfz47_3
         try clear hfz47_4
         try clear hfz47_5
         try clear hfz47_6
         try clear p2
         obtain ⟨kq, x119_40, rfl, HA, HJ40, HO_6, BK0, HB⟩ := hcut
         cases kq with
         | zero => exact absurd HA.out (by simp [impl_Sparse_numbers.j2])
         | succ kj40 =>
          have H := HA.out; clear HA; simp only [impl_Sparse_numbers.j2] at H
          by_cases c48 : x119_40 = true
          ·subst c48
           have H1 : (some (([] : List Int), false)) = some (r1, r2) := by rw [if_pos rfl] at H; exact H
           clear H; have H := H1; clear H1; simp only [Option.some.injEq, Prod.mk.injEq] at H; obtain ⟨rfl, rfl⟩ := H
           go_wp2
           go_ret2
           exact ⟨_, by first | rfl | (simp [errW_none, errW_some] <;> rfl) | (simp [*, errW_none, errW_some] <;> rfl), by first | exact Kd.R_nil _ _ _ _ _ | exact Kd.N_nil _ _ _ _ _ | exact Kd.V_nil _ _ _ _ _ | exact Kd.Q_nil _ _ _ _ _ | exact Kd.S_nil _ _ _ _ _, by repeat (first | (with_reducible first | exact HB.out | apply Qa | apply Qn | apply Qd | refine Qs ?_ GE0.out) | exact HB.out)⟩
          ·replace c48 := Bool.eq_false_iff.mpr c48; subst c48
           have H1 : ((impl_sparse.f kj40 x6_2 a0_1).bind fun bt400 => ((impl_sameBits.f kj40 bt400.2.2.2.1 bt400.2.2.2.2.1 a0_3 l0_4).bind fun t412 => (if t412 = true then ((impl_sameBits.f kj40 bt400.2.2.2.2.2.1 bt400.2.2.2.2.2.2 a0_5 l0_6).bind fun t413 => (some (x6_2, t413))) else (some (x6_2, false))))) = some (r1, r2) := by rw [if_neg (show ¬ (false = true) by decide)] at H; exact H
           clear H; have H := H1; clear H1; replace H := Option.bind_eq_some_iff.mp H; obtain ⟨⟨t400, t401, t402, t403, t404, t407, t408⟩, A490, H⟩ := H
           have A49 := Qx A490; clear A490; replace H := Option.bind_eq_some_iff.mp H; obtain ⟨t412, A500, H⟩ := H
           have A50 := Qx A500; clear A500
           by_cases c51 : t412 = true
           ·subst c51
            have H1 : ((impl_sameBits.f kj40 t407 t408 a0_5 l0_6).bind fun t413 => (some (x6_2, t413))) = some (r1, r2) := by rw [if_pos rfl] at H; exact H
            clear H; have H := H1; clear H1; replace H := Option.bind_eq_some_iff.mp H; obtain ⟨t413, A520, H⟩ := H
            have A52 := Qx A520; clear A520; simp only [Option.some.injEq, Prod.mk.injEq] at H; obtain ⟨rfl, rfl⟩ := H
            obtain ⟨hcz53_0, hcz53_1, hcz53_2, hcz53_3, hcz53_4, hcz53_5, hcz53_6, hfz53_0, hfz53_1, hfz53_2, hfz53_3, hfz53_4, hfz53_5, hfz53_6⟩ := cellsQ7_g3fec (w := wc) BK0.out
            obtain ⟨Ao54, co54, eo54⟩ := Kd.R_slice HO_6.out; subst eo54
            try go_wp2_with (first | ((with_reducible refine gate_callee (f := 56) rfl ?_); refine goesL_ (some 125) rfl rfl Try.func56 (by kernel_rfl) rfl #[.slice Ao54 x6_2.length co54, .int .i64 a0_1] rfl (by (try simp only [List.map_toArray, List.map_cons, List.map_nil]); first | done | rfl | (simp only [List.length_drop, List.length_take]; rfl)) ?_; (with_reducible refine (impl_sparse.calls kj40 _ _ x6_2 a0_1 t400 t401 t402 t403 t404 t407 t408 _ ?side1 ?side2 A49.out).mono ?_); (case side1 => repeat (first | exact (Kd.R_reads' HO_6.out).2.2 | (with_reducible refine Kd.C_alloc ?_ _) | (with_reducible refine Kd.C_drewN ?_ _) | (with_reducible refine Kd.C_drew ?_))); (case side2 => exact (Kd.R_reads' HO_6.out).2.1); rintro e w55 ⟨v405, v409, rfl, ho0, ho1, hb⟩; refine ⟨_, rfl, ?_⟩; have n0_ := Qx (Qrm (Kd.R_told (Kd.R_told (Kd.R_old (by (with_reducible repeat (first | apply Qra | apply Qrn | apply Qrd)); exact HO_6.out) hb) (Kd.R_base ho0)) (Kd.R_base ho1)) (fun _ h_ => h_.1)); have n1_ := Qx (Kd.R_lower (Kd.R_new' ho0 (Kd.R_lt (by (with_reducible repeat (first | apply Qra | apply Qrn | apply Qrd)); exact HO_6.out))) (Qz (by repeat (first | (with_reducible first | exact HB.out | apply Qa | apply Qn | apply Qd | refine Qs ?_ GE0.out) | exact HB.out)))); have n2_ := Qx (Kd.R_lower (Kd.R_new' ho1 (Kd.R_lt (by (with_reducible repeat (first | apply Qra | apply Qrn | apply Qrd)); exact HO_6.out))) (Qz (by repeat (first | (with_reducible first | exact HB.out | apply Qa | apply Qn | apply Qd | refine Qs ?_ GE0.out) | exact HB.out)))); have n3_ := Qx (Qb (g := gb0_) (by (with_reducible repeat (first | refine Qm ?_ _ | refine Qw ?_ | refine Qk ?_ _)); exact BK0.out) hb); have n4_ := Qx (Qp (by repeat (first | (with_reducible first | exact HB.out | apply Qa | apply Qn | apply Qd | refine Qs ?_ GE0.out) | exact HB.out)) hb); clear HO_6 BK0 HB; have HO_6 := n0_; have HO406 := n1_; have HO410 := n2_; have BK0 := n3_; have HB := n4_; clear n0_ n1_ n2_ n3_ n4_; (try clear hb); (try clear hb2); (try clear hk); (try clear hi); (try clear ho0); (try clear ho1)) | ((with_reducible refine gate_dst (N := 9) rfl ?_); refine box_event ?hg (N := 9) ?hd (cs := #[.int .i64 0, .int .i64 0, .int .i64 0, .int .i64 0, .slice none 0 0, .int .i64 0, .slice none 0 0]) (t := 26) ?hr ?_; (case hd => rfl); (case hg => rfl); (case hr => first | (go_simp; done) | (go_simp; rfl)); intro gb411 hg w56 hbox hb; have n0_ := Qx (Qrb (by (with_reducible repeat (first | apply Qra | apply Qrn | apply Qrd)); exact HO_6.out) hb); have n1_ := Qx (Qrb (by (with_reducible repeat (first | apply Qra | apply Qrn | apply Qrd)); exact HO406.out) hb); have n2_ := Qx (Qrb (by (with_reducible repeat (first | apply Qra | apply Qrn | apply Qrd)); exact HO410.out) hb); have n3_ := Qx (Qb (g := gb0_) (by (with_reducible repeat (first | refine Qm ?_ _ | refine Qw ?_ | refine Qk ?_ _)); exact BK0.out) hb); have n4_ := Qx (Qp (by repeat (first | (with_reducible first | exact HB.out | apply Qa | apply Qn | apply Qd | refine Qs ?_ GE0.out) | exact HB.out)) hb); have n5_ := Qx (hbox); have n6_ := Qx ((by rw [hg]; exact (Qz (by repeat (first | (with_reducible first | exact HB.out | apply Qa | apply Qn | apply Qd | refine Qs ?_ GE0.out) | exact HB.out))) : w.heap.size ≤ gb411)); have n7_ := n6_; have n8_ := Qx ((by rw [hg]; exact Nat.ne_of_lt (blk_lt (g := gb0_) (o := .cells #[.int .i64 a0_0, .int .i64 a0_1, .int .i64 a0_2, .int .i64 a0_3, .slice A0_4 l0_4.length c0_4, .int .i64 a0_5, .slice A0_6 l0_6.length c0_6] 26 (0, 0)) (by (with_reducible repeat (first | refine Qm ?_ _ | refine Qw ?_ | refine Qk ?_ _)); exact BK0.out)) : gb0_ ≠ gb411)); have n9_ := Qx ((by rw [hg]; exact Nat.ne_of_gt (blk_lt (g := gb0_) (o := .cells #[.int .i64 a0_0, .int .i64 a0_1, .int .i64 a0_2, .int .i64 a0_3, .slice A0_4 l0_4.length c0_4, .int .i64 a0_5, .slice A0_6 l0_6.length c0_6] 26 (0, 0)) (by (with_reducible repeat (first | refine Qm ?_ _ | refine Qw ?_ | refine Qk ?_ _)); exact BK0.out)) : gb411 ≠ gb0_)); clear HO_6 HO406 HO410 BK0 HB; have HO_6 := n0_; have HO406 := n1_; have HO410 := n2_; have BK0 := n3_; have HB := n4_; have BK411 := n5_; have GW411 := n6_; have GE411 := n7_; have NB0_411 := n8_; have NB411_0 := n9_; clear n0_ n1_ n2_ n3_ n4_ n5_ n6_ n7_ n8_ n9_ hb hbox hg; have hnb57 := NB411_0.out; have hnc57 := NB0_411.out; obtain ⟨hcz58_0, hcz58_1, hcz58_2, hcz58_3, hcz58_4, hcz58_5, hcz58_6, hfz58_0, hfz58_1, hfz58_2, hfz58_3, hfz58_4, hfz58_5, hfz58_6⟩ := cellsQ7_g3fec (w := w56) BK411.out; obtain ⟨Ao59, co59, eo59⟩ := Kd.R_slice HO406.out; subst eo59; obtain ⟨Ao60, co60, eo60⟩ := Kd.R_slice HO410.out; subst eo60))
            have n0_ : Aside0 (Kd.R (Kd.int .i64) 3 (((((((w56.setCell ⟨gb411, 0, none⟩ (.int .i64 t400)).setCell ⟨gb411, 1, none⟩ (.int .i64 t401)).setCell ⟨gb411, 2, none⟩ (.int .i64 t402)).setCell ⟨gb411, 3, none⟩ (.int .i64 t403)).setCell ⟨gb411, 4, none⟩ (.slice Ao59 t404.length co59)).setCell ⟨gb411, 5, none⟩ (.int .i64 t407)).setCell ⟨gb411, 6, none⟩ (.slice Ao60 t408.length co60)) w.heap.size (fun k_ => some k_ ≠ (.slice Ao59 t404.length co59 : Value).ownBlock ∧ some k_ ≠ (.slice Ao60 t408.length co60 : Value).ownBlock) (.slice Ao54 x6_2.length co54) x6_2) := ⟨by (with_reducible repeat (first | apply Qra | apply Qrn | apply Qrd)); exact Qrm (farsQ7_g3fec (Kd.R_types HO_6.out BK411.out (by decide)) (fun _ hk => hk.2) (.int .i64 t400) (.int .i64 t401) (.int .i64 t402) (.int .i64 t403) (.slice Ao59 t404.length co59) (.int .i64 t407) (.slice Ao60 t408.length co60)) (fun _ hk => ⟨hk.1.1.2, hk.1.2⟩)⟩
            have n1_ : Aside0 (Kd.R (Kd.int .i64) 3 (((((((w56.setCell ⟨gb411, 0, none⟩ (.int .i64 t400)).setCell ⟨gb411, 1, none⟩ (.int .i64 t401)).setCell ⟨gb411, 2, none⟩ (.int .i64 t402)).setCell ⟨gb411, 3, none⟩ (.int .i64 t403)).setCell ⟨gb411, 4, none⟩ (.slice Ao59 t404.length co59)).setCell ⟨gb411, 5, none⟩ (.int .i64 t407)).setCell ⟨gb411, 6, none⟩ (.slice Ao60 t408.length co60)) w.heap.size (fun k_ => some k_ ≠ (.slice Ao54 x6_2.length co54 : Value).ownBlock ∧ some k_ ≠ (.slice Ao60 t408.length co60 : Value).ownBlock) (.slice Ao59 t404.length co59) t404) := ⟨by (with_reducible repeat (first | apply Qra | apply Qrn | apply Qrd)); exact Qrm (farsQ7_g3fec (Kd.R_types HO406.out BK411.out (by decide)) (fun _ hk => hk.2) (.int .i64 t400) (.int .i64 t401) (.int .i64 t402) (.int .i64 t403) (.slice Ao59 t404.length co59) (.int .i64 t407) (.slice Ao60 t408.length co60)) (fun _ hk => ⟨hk.1.2, hk.1.1⟩)⟩
            have n2_ : Aside0 (Kd.R (Kd.int .i64) 3 (((((((w56.setCell ⟨gb411, 0, none⟩ (.int .i64 t400)).setCell ⟨gb411, 1, none⟩ (.int .i64 t401)).setCell ⟨gb411, 2, none⟩ (.int .i64 t402)).setCell ⟨gb411, 3, none⟩ (.int .i64 t403)).setCell ⟨gb411, 4, none⟩ (.slice Ao59 t404.length co59)).setCell ⟨gb411, 5, none⟩ (.int .i64 t407)).setCell ⟨gb411, 6, none⟩ (.slice Ao60 t408.length co60)) w.heap.size (fun k_ => some k_ ≠ (.slice Ao54 x6_2.length co54 : Value).ownBlock ∧ some k_ ≠ (.slice Ao59 t404.length co59 : Value).ownBlock) (.slice Ao60 t408.length co60) t408) := ⟨by (with_reducible repeat (first | apply Qra | apply Qrn | apply Qrd)); exact Qrm (farsQ7_g3fec (Kd.R_types HO410.out BK411.out (by decide)) (fun _ hk => hk.2) (.int .i64 t400) (.int .i64 t401) (.int .i64 t402) (.int .i64 t403) (.slice Ao59 t404.length co59) (.int .i64 t407) (.slice Ao60 t408.length co60)) (fun _ hk => ⟨hk.1.2, hk.1.1⟩)⟩
            have n3_ : Aside0 ((((((((w56.setCell ⟨gb411, 0, none⟩ (.int .i64 t400)).setCell ⟨gb411, 1, none⟩ (.int .i64 t401)).setCell ⟨gb411, 2, none⟩ (.int .i64 t402)).setCell ⟨gb411, 3, none⟩ (.int .i64 t403)).setCell ⟨gb411, 4, none⟩ (.slice Ao59 t404.length co59)).setCell ⟨gb411, 5, none⟩ (.int .i64 t407)).setCell ⟨gb411, 6, none⟩ (.slice Ao60 t408.length co60)).heap[gb0_]? = some (.cells #[.int .i64 a0_0, .int .i64 a0_1, .int .i64 a0_2, .int .i64 a0_3, .slice A0_4 l0_4.length c0_4, .int .i64 a0_5, .slice A0_6 l0_6.length c0_6] 26 (0, 0))) := ⟨by (with_reducible repeat (first | refine Qm ?_ _ | refine Qw ?_ | refine Qk ?_ _)); refine Qr ?_ NB0_411.out _; (with_reducible repeat (first | refine Qm ?_ _ | refine Qw ?_ | refine Qk ?_ _)); refine Qr ?_ NB0_411.out _; (with_reducible repeat (first | refine Qm ?_ _ | refine Qw ?_ | refine Qk ?_ _)); refine Qr ?_ NB0_411.out _; (with_reducible repeat (first | refine Qm ?_ _ | refine Qw ?_ | refine Qk ?_ _)); refine Qr ?_ NB0_411.out _; (with_reducible repeat (first | refine Qm ?_ _ | refine Qw ?_ | refine Qk ?_ _)); refine Qr ?_ NB0_411.out _; (with_reducible repeat (first | refine Qm ?_ _ | refine Qw ?_ | refine Qk ?_ _)); refine Qr ?_ NB0_411.out _; (with_reducible repeat (first | refine Qm ?_ _ | refine Qw ?_ | refine Qk ?_ _)); refine Qr ?_ NB0_411.out _; (with_reducible repeat (first | refine Qm ?_ _ | refine Qw ?_ | refine Qk ?_ _)); exact BK0.out⟩
            have n4_ : Aside0 ((((((((w56.setCell ⟨gb411, 0, none⟩ (.int .i64 t400)).setCell ⟨gb411, 1, none⟩ (.int .i64 t401)).setCell ⟨gb411, 2, none⟩ (.int .i64 t402)).setCell ⟨gb411, 3, none⟩ (.int .i64 t403)).setCell ⟨gb411, 4, none⟩ (.slice Ao59 t404.length co59)).setCell ⟨gb411, 5, none⟩ (.int .i64 t407)).setCell ⟨gb411, 6, none⟩ (.slice Ao60 t408.length co60)).heap[gb411]? = some (.cells #[.int .i64 t400, .int .i64 t401, .int .i64 t402, .int .i64 t403, .slice Ao59 t404.length co59, .int .i64 t407, .slice Ao60 t408.length co60] 26 (0, 0))) := ⟨by (with_reducible repeat (first | refine Qm ?_ _ | refine Qw ?_ | refine Qk ?_ _)); refine Qu (cs := #[.int .i64 t400, .int .i64 t401, .int .i64 t402, .int .i64 t403, .slice Ao59 t404.length co59, .int .i64 t407, .slice none 0 0]) ?_ 6 _ rfl; (with_reducible repeat (first | refine Qm ?_ _ | refine Qw ?_ | refine Qk ?_ _)); refine Qu (cs := #[.int .i64 t400, .int .i64 t401, .int .i64 t402, .int .i64 t403, .slice Ao59 t404.length co59, .int .i64 0, .slice none 0 0]) ?_ 5 _ rfl; (with_reducible repeat (first | refine Qm ?_ _ | refine Qw ?_ | refine Qk ?_ _)); refine Qu (cs := #[.int .i64 t400, .int .i64 t401, .int .i64 t402, .int .i64 t403, .slice none 0 0, .int .i64 0, .slice none 0 0]) ?_ 4 _ rfl; (with_reducible repeat (first | refine Qm ?_ _ | refine Qw ?_ | refine Qk ?_ _)); refine Qu (cs := #[.int .i64 t400, .int .i64 t401, .int .i64 t402, .int .i64 0, .slice none 0 0, .int .i64 0, .slice none 0 0]) ?_ 3 _ rfl; (with_reducible repeat (first | refine Qm ?_ _ | refine Qw ?_ | refine Qk ?_ _)); refine Qu (cs := #[.int .i64 t400, .int .i64 t401, .int .i64 0, .int .i64 0, .slice none 0 0, .int .i64 0, .slice none 0 0]) ?_ 2 _ rfl; (with_reducible repeat (first | refine Qm ?_ _ | refine Qw ?_ | refine Qk ?_ _)); refine Qu (cs := #[.int .i64 t400, .int .i64 0, .int .i64 0, .int .i64 0, .slice none 0 0, .int .i64 0, .slice none 0 0]) ?_ 1 _ rfl; (with_reducible repeat (first | refine Qm ?_ _ | refine Qw ?_ | refine Qk ?_ _)); refine Qu (cs := #[.int .i64 0, .int .i64 0, .int .i64 0, .int .i64 0, .slice none 0 0, .int .i64 0, .slice none 0 0]) ?_ 0 _ rfl; (with_reducible repeat (first | refine Qm ?_ _ | refine Qw ?_ | refine Qk ?_ _)); exact BK411.out⟩
            have n5_ : Aside0 (Below w.heap.size w (((((((w56.setCell ⟨gb411, 0, none⟩ (.int .i64 t400)).setCell ⟨gb411, 1, none⟩ (.int .i64 t401)).setCell ⟨gb411, 2, none⟩ (.int .i64 t402)).setCell ⟨gb411, 3, none⟩ (.int .i64 t403)).setCell ⟨gb411, 4, none⟩ (.slice Ao59 t404.length co59)).setCell ⟨gb411, 5, none⟩ (.int .i64 t407)).setCell ⟨gb411, 6, none⟩ (.slice Ao60 t408.length co60))) := ⟨by repeat (first | (with_reducible first | exact HB.out | apply Qa | apply Qn | apply Qd | refine Qs ?_ GE0.out | refine Qs ?_ GE411.out) | exact HB.out)⟩
            (try clear HO_6); (try clear HO406); (try clear HO410); (try clear BK0); (try clear BK411); (try clear HB)
            generalize (((((((w56.setCell ⟨gb411, 0, none⟩ (.int .i64 t400)).setCell ⟨gb411, 1, none⟩ (.int .i64 t401)).setCell ⟨gb411, 2, none⟩ (.int .i64 t402)).setCell ⟨gb411, 3, none⟩ (.int .i64 t403)).setCell ⟨gb411, 4, none⟩ (.slice Ao59 t404.length co59)).setCell ⟨gb411, 5, none⟩ (.int .i64 t407)).setCell ⟨gb411, 6, none⟩ (.slice Ao60 t408.length co60)) = w61 at n0_ n1_ n2_ n3_ n4_ n5_ ⊢
            have HO_6 := n0_; have HO406 := n1_; have HO410 := n2_; have BK0 := n3_; have BK411 := n4_; have HB := n5_; clear n0_ n1_ n2_ n3_ n4_ n5_
            have n0_ := Qx (Qrd HO_6.out)
            have n1_ := Qx (Qrd HO406.out)
            have n2_ := Qx (Qrd HO410.out)
            have n3_ := Qx (Qw BK0.out)
            have n4_ := Qx (Qw BK411.out)
            have n5_ := Qx (Qd HB.out)
            clear HO_6 HO406 HO410 BK0 BK411 HB; have HO_6 := n0_; have HO406 := n1_; have HO410 := n2_; have BK0 := n3_; have BK411 := n4_; have HB := n5_; clear n0_ n1_ n2_ n3_ n4_ n5_
            refine start_ (n := 19) (S := fun w' => w'.cell? ⟨gb411, 0, none⟩ = some (.int .i64 t400) ∧ w'.cell? ⟨gb411, 1, none⟩ = some (.int .i64 t401) ∧ w'.cell? ⟨gb411, 2, none⟩ = some (.int .i64 t402) ∧ w'.cell? ⟨gb411, 3, none⟩ = some (.int .i64 t403) ∧ w'.cell? ⟨gb411, 4, none⟩ = some (.slice Ao59 t404.length co59) ∧ w'.cell? ⟨gb411, 5, none⟩ = some (.int .i64 t407) ∧ w'.cell? ⟨gb411, 6, none⟩ = some (.slice Ao60 t408.length co60) ∧ w'.cell? ⟨gb0_, 0, none⟩ = some (.int .i64 a0_0) ∧ w'.cell? ⟨gb0_, 1, none⟩ = some (.int .i64 a0_1) ∧ w'.cell? ⟨gb0_, 2, none⟩ = some (.int .i64 a0_2) ∧ w'.cell? ⟨gb0_, 3, none⟩ = some (.int .i64 a0_3) ∧ w'.cell? ⟨gb0_, 4, none⟩ = some (.slice A0_4 l0_4.length c0_4) ∧ w'.cell? ⟨gb0_, 5, none⟩ = some (.int .i64 a0_5) ∧ w'.cell? ⟨gb0_, 6, none⟩ = some (.slice A0_6 l0_6.length c0_6)) (ds := []) #[false, false, false, false, false, false, false, false, false, false, false, false, false, false, false, false, false, false, false] (by kernel_rfl) rfl rfl ⟨(Qc BK411.out 0).trans rfl, (Qc BK411.out 1).trans rfl, (Qc BK411.out 2).trans rfl, (Qc BK411.out 3).trans rfl, (Qc BK411.out 4).trans rfl, (Qc BK411.out 5).trans rfl, (Qc BK411.out 6).trans rfl, (Qc BK0.out 0).trans rfl, (Qc BK0.out 1).trans rfl, (Qc BK0.out 2).trans rfl, (Qc BK0.out 3).trans rfl, (Qc BK0.out 4).trans rfl, (Qc BK0.out 5).trans rfl, (Qc BK0.out 6).trans rfl⟩ (fun hHeld => ?_); refine with_tabW impl_Sparse_numbers.tab15 impl_Sparse_numbers.bits15 (fun HT_ HW_ => ?_)
            generalize w61.drew = w62 at HO_6 HO406 HO410 BK0 BK411 HB hHeld ⊢
            refine pq_ 0 126 19 1 HT_.out (by kernel_rfl) ?_
            refine pq_ 1 127 19 3 HT_.out (by kernel_rfl) ?_
            refine pq_ 3 129 19 11 HT_.out (by kernel_rfl) ?_
            refine pq_ 4 130 19 27 HT_.out (by kernel_rfl) ?_
            refine pq_ 5 131 19 59 HT_.out (by kernel_rfl) ?_
            refine tq_ 2 128 19 63 HT_.out HW_.out (by kernel_rfl) hHeld ?_ rfl (by rintro w' ⟨s0, s1, s2, s3, s4, s5, s6, s7, s8, s9, s10, s11, s12, s13⟩; go_simp; with_reducible rfl)
            refine tq_ 6 132 19 127 HT_.out HW_.out (by kernel_rfl) hHeld ?_ rfl (by rintro w' ⟨s0, s1, s2, s3, s4, s5, s6, s7, s8, s9, s10, s11, s12, s13⟩; go_simp; with_reducible rfl)
            refine one_ (i := 7) (N := some 133) (bsA 19 255) rfl rfl (one_of HT_.out (by kernel_rfl)) (by decide) (fun K hK => ?_)
            refine goes_ Try.func100 (by kernel_rfl) rfl #[.agg #[.int .i64 t403, .slice Ao59 t404.length co59], .agg #[.int .i64 a0_3, .slice A0_4 l0_4.length c0_4]] (by rfl) rfl rfl (by (try simp only [List.map_toArray, List.map_cons, List.map_nil]); first | done | rfl | (simp only [List.length_drop, List.length_take]; rfl)) ?_
            with_reducible refine (impl_sameBits.calls kj40 t403 _ _ t404 a0_3 _ _ l0_4 true _ ?side1 ?side2 ?side3 ?side4 A50.out).mono ?_
            (case side1 => repeat (first | exact (Kd.R_reads' HO406.out).2.2 | (with_reducible refine Kd.C_alloc ?_ _) | (with_reducible refine Kd.C_drewN ?_ _) | (with_reducible refine Kd.C_drew ?_)))
            (case side2 => exact (Kd.R_reads' HO406.out).2.1)
            (case side3 => repeat (first | exact (Kd.C_below HR0_4.out HB.out) | (with_reducible refine Kd.C_alloc ?_ _) | (with_reducible refine Kd.C_drewN ?_ _) | (with_reducible refine Kd.C_drew ?_)))
            (case side4 => exact HC0_4.out)
            rintro e w63 ⟨rfl, hb⟩
            refine ⟨_, rfl, ?_⟩
            have n0_ := Qx (Qrb (by (with_reducible repeat (first | apply Qra | apply Qrn | apply Qrd)); exact HO_6.out) hb)
            have n1_ := Qx (Qrb (by (with_reducible repeat (first | apply Qra | apply Qrn | apply Qrd)); exact HO406.out) hb)
            have n2_ := Qx (Qrb (by (with_reducible repeat (first | apply Qra | apply Qrn | apply Qrd)); exact HO410.out) hb)
            have n3_ := Qx (Qb (g := gb0_) (by (with_reducible repeat (first | refine Qm ?_ _ | refine Qw ?_ | refine Qk ?_ _)); exact BK0.out) hb)
            have n4_ := Qx (Qb (g := gb411) (by (with_reducible repeat (first | refine Qm ?_ _ | refine Qw ?_ | refine Qk ?_ _)); exact BK411.out) hb)
            have n5_ := Qx (Qp (by repeat (first | (with_reducible first | exact HB.out | apply Qa | apply Qn | apply Qd | refine Qs ?_ GE0.out | refine Qs ?_ GE411.out) | exact HB.out)) hb)
            clear HO_6 HO406 HO410 BK0 BK411 HB; have HO_6 := n0_; have HO406 := n1_; have HO410 := n2_; have BK0 := n3_; have BK411 := n4_; have HB := n5_; clear n0_ n1_ n2_ n3_ n4_ n5_; (try clear hb); (try clear hb2); (try clear hk); (try clear hi)
            refine hK.out _ _ ⟨(Qc BK411.out 0).trans rfl, (Qc BK411.out 1).trans rfl, (Qc BK411.out 2).trans rfl, (Qc BK411.out 3).trans rfl, (Qc BK411.out 4).trans rfl, (Qc BK411.out 5).trans rfl, (Qc BK411.out 6).trans rfl, (Qc BK0.out 0).trans rfl, (Qc BK0.out 1).trans rfl, (Qc BK0.out 2).trans rfl, (Qc BK0.out 3).trans rfl, (Qc BK0.out 4).trans rfl, (Qc BK0.out 5).trans rfl, (Qc BK0.out 6).trans rfl⟩ (fun hHeld => ?_)
            clear hK K
            refine norm_ (a' := ?_) ?_ ?_
            rotate_left
            ·show Act.put _ (some 133) _ = _
             simp only [Act.put, List.setIfInBounds_toArray, List.set_cons_zero, List.set_cons_succ, i64_w]
             rfl
            refine pq_ 8 134 19 511 HT_.out (by kernel_rfl) ?_
            refine pq_ 9 135 19 1023 HT_.out (by kernel_rfl) ?_
            refine pq_ 11 137 19 3071 HT_.out (by kernel_rfl) ?_
            refine pq_ 12 138 19 7167 HT_.out (by kernel_rfl) ?_
            refine pq_ 13 139 19 15359 HT_.out (by kernel_rfl) ?_
            refine tq_ 10 136 19 16383 HT_.out HW_.out (by kernel_rfl) hHeld ?_ rfl (by rintro w' ⟨s0, s1, s2, s3, s4, s5, s6, s7, s8, s9, s10, s11, s12, s13⟩; go_simp; with_reducible rfl)
            refine tq_ 14 140 19 32767 HT_.out HW_.out (by kernel_rfl) hHeld ?_ rfl (by rintro w' ⟨s0, s1, s2, s3, s4, s5, s6, s7, s8, s9, s10, s11, s12, s13⟩; go_simp; with_reducible rfl)
            refine one_ (i := 15) (N := some 141) (bsA 19 65535) rfl rfl (one_of HT_.out (by kernel_rfl)) (by decide) (fun K hK => ?_)
            refine goes_ Try.func100 (by kernel_rfl) rfl #[.agg #[.int .i64 t407, .slice Ao60 t408.length co60], .agg #[.int .i64 a0_5, .slice A0_6 l0_6.length c0_6]] (by rfl) rfl rfl (by (try simp only [List.map_toArray, List.map_cons, List.map_nil]); first | done | rfl | (simp only [List.length_drop, List.length_take]; rfl)) ?_
            with_reducible refine (impl_sameBits.calls kj40 t407 _ _ t408 a0_5 _ _ l0_6 t413 _ ?side1 ?side2 ?side3 ?side4 A52.out).mono ?_
            (case side1 => repeat (first | exact (Kd.R_reads' HO410.out).2.2 | (with_reducible refine Kd.C_alloc ?_ _) | (with_reducible refine Kd.C_drewN ?_ _) | (with_reducible refine Kd.C_drew ?_)))
            (case side2 => exact (Kd.R_reads' HO410.out).2.1)
            (case side3 => repeat (first | exact (Kd.C_below HR0_6.out HB.out) | (with_reducible refine Kd.C_alloc ?_ _) | (with_reducible refine Kd.C_drewN ?_ _) | (with_reducible refine Kd.C_drew ?_)))
            (case side4 => exact HC0_6.out)
            rintro e w64 ⟨rfl, hb⟩
            refine ⟨_, rfl, ?_⟩
            have n0_ := Qx (Qrb (by (with_reducible repeat (first | apply Qra | apply Qrn | apply Qrd)); exact HO_6.out) hb)
            have n1_ := Qx (Qrb (by (with_reducible repeat (first | apply Qra | apply Qrn | apply Qrd)); exact HO406.out) hb)
            have n2_ := Qx (Qrb (by (with_reducible repeat (first | apply Qra | apply Qrn | apply Qrd)); exact HO410.out) hb)
            have n3_ := Qx (Qb (g := gb0_) (by (with_reducible repeat (first | refine Qm ?_ _ | refine Qw ?_ | refine Qk ?_ _)); exact BK0.out) hb)
            have n4_ := Qx (Qb (g := gb411) (by (with_reducible repeat (first | refine Qm ?_ _ | refine Qw ?_ | refine Qk ?_ _)); exact BK411.out) hb)
            have n5_ := Qx (Qp (by repeat (first | (with_reducible first | exact HB.out | apply Qa | apply Qn | apply Qd | refine Qs ?_ GE0.out | refine Qs ?_ GE411.out) | exact HB.out)) hb)
            clear HO_6 HO406 HO410 BK0 BK411 HB; have HO_6 := n0_; have HO406 := n1_; have HO410 := n2_; have BK0 := n3_; have BK411 := n4_; have HB := n5_; clear n0_ n1_ n2_ n3_ n4_ n5_; (try clear hb); (try clear hb2); (try clear hk); (try clear hi)
            refine hK.out _ _ ⟨(Qc BK411.out 0).trans rfl, (Qc BK411.out 1).trans rfl, (Qc BK411.out 2).trans rfl, (Qc BK411.out 3).trans rfl, (Qc BK411.out 4).trans rfl, (Qc BK411.out 5).trans rfl, (Qc BK411.out 6).trans rfl, (Qc BK0.out 0).trans rfl, (Qc BK0.out 1).trans rfl, (Qc BK0.out 2).trans rfl, (Qc BK0.out 3).trans rfl, (Qc BK0.out 4).trans rfl, (Qc BK0.out 5).trans rfl, (Qc BK0.out 6).trans rfl⟩ (fun hHeld => ?_)
            clear hK K
            refine norm_ (a' := ?_) ?_ ?_
            rotate_left
            ·show Act.put _ (some 141) _ = _
             simp only [Act.put, List.setIfInBounds_toArray, List.set_cons_zero, List.set_cons_succ, i64_w]
             rfl
            refine pq_ 16 142 19 131071 HT_.out (by kernel_rfl) ?_
            refine pq_ 17 2 19 262143 HT_.out (by kernel_rfl) ?_
            refine pq_ 18 3 19 524287 HT_.out (by kernel_rfl) ?_
            refine done_ (done_of HT_.out (by kernel_rfl)) ?_
            try go_wp2
            go_ret2
            exact ⟨_, by first | rfl | (simp [errW_none, errW_some] <;> rfl) | (simp [*, errW_none, errW_some] <;> rfl), by (with_reducible repeat (first | apply Qra | apply Qrn | apply Qrd)); exact Qrm HO_6.out (fun _ hk => trivial), by repeat (first | (with_reducible first | exact HB.out | apply Qa | apply Qn | apply Qd | refine Qs ?_ GE0.out | refine Qs ?_ GE411.out) | exact HB.out)⟩
           ·replace c51 := Bool.eq_false_iff.mpr c51; subst c51
            have H1 : (some (x6_2, false)) = some (r1, r2) := by rw [if_neg (show ¬ (false = true) by decide)] at H; exact H
            clear H; have H := H1; clear H1; simp only [Option.some.injEq, Prod.mk.injEq] at H; obtain ⟨rfl, rfl⟩ := H
            obtain ⟨hcz65_0, hcz65_1, hcz65_2, hcz65_3, hcz65_4, hcz65_5, hcz65_6, hfz65_0, hfz65_1, hfz65_2, hfz65_3, hfz65_4, hfz65_5, hfz65_6⟩ := cellsQ7_g3fec (w := wc) BK0.out
            obtain ⟨Ao66, co66, eo66⟩ := Kd.R_slice HO_6.out; subst eo66
            try go_wp2_with (first | ((with_reducible refine gate_callee (f := 56) rfl ?_); refine goesL_ (some 125) rfl rfl Try.func56 (by kernel_rfl) rfl #[.slice Ao66 x6_2.length co66, .int .i64 a0_1] rfl (by (try simp only [List.map_toArray, List.map_cons, List.map_nil]); first | done | rfl | (simp only [List.length_drop, List.length_take]; rfl)) ?_; (with_reducible refine (impl_sparse.calls kj40 _ _ x6_2 a0_1 t400 t401 t402 t403 t404 t407 t408 _ ?side1 ?side2 A49.out).mono ?_); (case side1 => repeat (first | exact (Kd.R_reads' HO_6.out).2.2 | (with_reducible refine Kd.C_alloc ?_ _) | (with_reducible refine Kd.C_drewN ?_ _) | (with_reducible refine Kd.C_drew ?_))); (case side2 => exact (Kd.R_reads' HO_6.out).2.1); rintro e w67 ⟨v405, v409, rfl, ho0, ho1, hb⟩; refine ⟨_, rfl, ?_⟩; have n0_ := Qx (Qrm (Kd.R_told (Kd.R_told (Kd.R_old (by (with_reducible repeat (first | apply Qra | apply Qrn | apply Qrd)); exact HO_6.out) hb) (Kd.R_base ho0)) (Kd.R_base ho1)) (fun _ h_ => h_.1)); have n1_ := Qx (Kd.R_lower (Kd.R_new' ho0 (Kd.R_lt (by (with_reducible repeat (first | apply Qra | apply Qrn | apply Qrd)); exact HO_6.out))) (Qz (by repeat (first | (with_reducible first | exact HB.out | apply Qa | apply Qn | apply Qd | refine Qs ?_ GE0.out) | exact HB.out)))); have n2_ := Qx (Kd.R_lower (Kd.R_new' ho1 (Kd.R_lt (by (with_reducible repeat (first | apply Qra | apply Qrn | apply Qrd)); exact HO_6.out))) (Qz (by repeat (first | (with_reducible first | exact HB.out | apply Qa | apply Qn | apply Qd | refine Qs ?_ GE0.out) | exact HB.out)))); have n3_ := Qx (Qb (g := gb0_) (by (with_reducible repeat (first | refine Qm ?_ _ | refine Qw ?_ | refine Qk ?_ _)); exact BK0.out) hb); have n4_ := Qx (Qp (by repeat (first | (with_reducible first | exact HB.out | apply Qa | apply Qn | apply Qd | refine Qs ?_ GE0.out) | exact HB.out)) hb); clear HO_6 BK0 HB; have HO_6 := n0_; have HO406 := n1_; have HO410 := n2_; have BK0 := n3_; have HB := n4_; clear n0_ n1_ n2_ n3_ n4_; (try clear hb); (try clear hb2); (try clear hk); (try clear hi); (try clear ho0); (try clear ho1)) | ((with_reducible refine gate_dst (N := 9) rfl ?_); refine box_event ?hg (N := 9) ?hd (cs := #[.int .i64 0, .int .i64 0, .int .i64 0, .int .i64 0, .slice none 0 0, .int .i64 0, .slice none 0 0]) (t := 26) ?hr ?_; (case hd => rfl); (case hg => rfl); (case hr => first | (go_simp; done) | (go_simp; rfl)); intro gb411 hg w68 hbox hb; have n0_ := Qx (Qrb (by (with_reducible repeat (first | apply Qra | apply Qrn | apply Qrd)); exact HO_6.out) hb); have n1_ := Qx (Qrb (by (with_reducible repeat (first | apply Qra | apply Qrn | apply Qrd)); exact HO406.out) hb); have n2_ := Qx (Qrb (by (with_reducible repeat (first | apply Qra | apply Qrn | apply Qrd)); exact HO410.out) hb); have n3_ := Qx (Qb (g := gb0_) (by (with_reducible repeat (first | refine Qm ?_ _ | refine Qw ?_ | refine Qk ?_ _)); exact BK0.out) hb); have n4_ := Qx (Qp (by repeat (first | (with_reducible first | exact HB.out | apply Qa | apply Qn | apply Qd | refine Qs ?_ GE0.out) | exact HB.out)) hb); have n5_ := Qx (hbox); have n6_ := Qx ((by rw [hg]; exact (Qz (by repeat (first | (with_reducible first | exact HB.out | apply Qa | apply Qn | apply Qd | refine Qs ?_ GE0.out) | exact HB.out))) : w.heap.size ≤ gb411)); have n7_ := n6_; have n8_ := Qx ((by rw [hg]; exact Nat.ne_of_lt (blk_lt (g := gb0_) (o := .cells #[.int .i64 a0_0, .int .i64 a0_1, .int .i64 a0_2, .int .i64 a0_3, .slice A0_4 l0_4.length c0_4, .int .i64 a0_5, .slice A0_6 l0_6.length c0_6] 26 (0, 0)) (by (with_reducible repeat (first | refine Qm ?_ _ | refine Qw ?_ | refine Qk ?_ _)); exact BK0.out)) : gb0_ ≠ gb411)); have n9_ := Qx ((by rw [hg]; exact Nat.ne_of_gt (blk_lt (g := gb0_) (o := .cells #[.int .i64 a0_0, .int .i64 a0_1, .int .i64 a0_2, .int .i64 a0_3, .slice A0_4 l0_4.length c0_4, .int .i64 a0_5, .slice A0_6 l0_6.length c0_6] 26 (0, 0)) (by (with_reducible repeat (first | refine Qm ?_ _ | refine Qw ?_ | refine Qk ?_ _)); exact BK0.out)) : gb411 ≠ gb0_)); clear HO_6 HO406 HO410 BK0 HB; have HO_6 := n0_; have HO406 := n1_; have HO410 := n2_; have BK0 := n3_; have HB := n4_; have BK411 := n5_; have GW411 := n6_; have GE411 := n7_; have NB0_411 := n8_; have NB411_0 := n9_; clear n0_ n1_ n2_ n3_ n4_ n5_ n6_ n7_ n8_ n9_ hb hbox hg; have hnb69 := NB411_0.out; have hnc69 := NB0_411.out; obtain ⟨hcz70_0, hcz70_1, hcz70_2, hcz70_3, hcz70_4, hcz70_5, hcz70_6, hfz70_0, hfz70_1, hfz70_2, hfz70_3, hfz70_4, hfz70_5, hfz70_6⟩ := cellsQ7_g3fec (w := w68) BK411.out; obtain ⟨Ao71, co71, eo71⟩ := Kd.R_slice HO406.out; subst eo71; obtain ⟨Ao72, co72, eo72⟩ := Kd.R_slice HO410.out; subst eo72))
            have n0_ : Aside0 (Kd.R (Kd.int .i64) 3 (((((((w68.setCell ⟨gb411, 0, none⟩ (.int .i64 t400)).setCell ⟨gb411, 1, none⟩ (.int .i64 t401)).setCell ⟨gb411, 2, none⟩ (.int .i64 t402)).setCell ⟨gb411, 3, none⟩ (.int .i64 t403)).setCell ⟨gb411, 4, none⟩ (.slice Ao71 t404.length co71)).setCell ⟨gb411, 5, none⟩ (.int .i64 t407)).setCell ⟨gb411, 6, none⟩ (.slice Ao72 t408.length co72)) w.heap.size (fun k_ => some k_ ≠ (.slice Ao71 t404.length co71 : Value).ownBlock ∧ some k_ ≠ (.slice Ao72 t408.length co72 : Value).ownBlock) (.slice Ao66 x6_2.length co66) x6_2) := ⟨by (with_reducible repeat (first | apply Qra | apply Qrn | apply Qrd)); exact Qrm (farsQ7_g3fec (Kd.R_types HO_6.out BK411.out (by decide)) (fun _ hk => hk.2) (.int .i64 t400) (.int .i64 t401) (.int .i64 t402) (.int .i64 t403) (.slice Ao71 t404.length co71) (.int .i64 t407) (.slice Ao72 t408.length co72)) (fun _ hk => ⟨hk.1.1.2, hk.1.2⟩)⟩
            have n1_ : Aside0 (Kd.R (Kd.int .i64) 3 (((((((w68.setCell ⟨gb411, 0, none⟩ (.int .i64 t400)).setCell ⟨gb411, 1, none⟩ (.int .i64 t401)).setCell ⟨gb411, 2, none⟩ (.int .i64 t402)).setCell ⟨gb411, 3, none⟩ (.int .i64 t403)).setCell ⟨gb411, 4, none⟩ (.slice Ao71 t404.length co71)).setCell ⟨gb411, 5, none⟩ (.int .i64 t407)).setCell ⟨gb411, 6, none⟩ (.slice Ao72 t408.length co72)) w.heap.size (fun k_ => some k_ ≠ (.slice Ao66 x6_2.length co66 : Value).ownBlock ∧ some k_ ≠ (.slice Ao72 t408.length co72 : Value).ownBlock) (.slice Ao71 t404.length co71) t404) := ⟨by (with_reducible repeat (first | apply Qra | apply Qrn | apply Qrd)); exact Qrm (farsQ7_g3fec (Kd.R_types HO406.out BK411.out (by decide)) (fun _ hk => hk.2) (.int .i64 t400) (.int .i64 t401) (.int .i64 t402) (.int .i64 t403) (.slice Ao71 t404.length co71) (.int .i64 t407) (.slice Ao72 t408.length co72)) (fun _ hk => ⟨hk.1.2, hk.1.1⟩)⟩
            have n2_ : Aside0 (Kd.R (Kd.int .i64) 3 (((((((w68.setCell ⟨gb411, 0, none⟩ (.int .i64 t400)).setCell ⟨gb411, 1, none⟩ (.int .i64 t401)).setCell ⟨gb411, 2, none⟩ (.int .i64 t402)).setCell ⟨gb411, 3, none⟩ (.int .i64 t403)).setCell ⟨gb411, 4, none⟩ (.slice Ao71 t404.length co71)).setCell ⟨gb411, 5, none⟩ (.int .i64 t407)).setCell ⟨gb411, 6, none⟩ (.slice Ao72 t408.length co72)) w.heap.size (fun k_ => some k_ ≠ (.slice Ao66 x6_2.length co66 : Value).ownBlock ∧ some k_ ≠ (.slice Ao71 t404.length co71 : Value).ownBlock) (.slice Ao72 t408.length co72) t408) := ⟨by (with_reducible repeat (first | apply Qra | apply Qrn | apply Qrd)); exact Qrm (farsQ7_g3fec (Kd.R_types HO410.out BK411.out (by decide)) (fun _ hk => hk.2) (.int .i64 t400) (.int .i64 t401) (.int .i64 t402) (.int .i64 t403) (.slice Ao71 t404.length co71) (.int .i64 t407) (.slice Ao72 t408.length co72)) (fun _ hk => ⟨hk.1.2, hk.1.1⟩)⟩
            have n3_ : Aside0 ((((((((w68.setCell ⟨gb411, 0, none⟩ (.int .i64 t400)).setCell ⟨gb411, 1, none⟩ (.int .i64 t401)).setCell ⟨gb411, 2, none⟩ (.int .i64 t402)).setCell ⟨gb411, 3, none⟩ (.int .i64 t403)).setCell ⟨gb411, 4, none⟩ (.slice Ao71 t404.length co71)).setCell ⟨gb411, 5, none⟩ (.int .i64 t407)).setCell ⟨gb411, 6, none⟩ (.slice Ao72 t408.length co72)).heap[gb0_]? = some (.cells #[.int .i64 a0_0, .int .i64 a0_1, .int .i64 a0_2, .int .i64 a0_3, .slice A0_4 l0_4.length c0_4, .int .i64 a0_5, .slice A0_6 l0_6.length c0_6] 26 (0, 0))) := ⟨by (with_reducible repeat (first | refine Qm ?_ _ | refine Qw ?_ | refine Qk ?_ _)); refine Qr ?_ NB0_411.out _; (with_reducible repeat (first | refine Qm ?_ _ | refine Qw ?_ | refine Qk ?_ _)); refine Qr ?_ NB0_411.out _; (with_reducible repeat (first | refine Qm ?_ _ | refine Qw ?_ | refine Qk ?_ _)); refine Qr ?_ NB0_411.out _; (with_reducible repeat (first | refine Qm ?_ _ | refine Qw ?_ | refine Qk ?_ _)); refine Qr ?_ NB0_411.out _; (with_reducible repeat (first | refine Qm ?_ _ | refine Qw ?_ | refine Qk ?_ _)); refine Qr ?_ NB0_411.out _; (with_reducible repeat (first | refine Qm ?_ _ | refine Qw ?_ | refine Qk ?_ _)); refine Qr ?_ NB0_411.out _; (with_reducible repeat (first | refine Qm ?_ _ | refine Qw ?_ | refine Qk ?_ _)); refine Qr ?_ NB0_411.out _; (with_reducible repeat (first | refine Qm ?_ _ | refine Qw ?_ | refine Qk ?_ _)); exact BK0.out⟩
            have n4_ : Aside0 ((((((((w68.setCell ⟨gb411, 0, none⟩ (.int .i64 t400)).setCell ⟨gb411, 1, none⟩ (.int .i64 t401)).setCell ⟨gb411, 2, none⟩ (.int .i64 t402)).setCell ⟨gb411, 3, none⟩ (.int .i64 t403)).setCell ⟨gb411, 4, none⟩ (.slice Ao71 t404.length co71)).setCell ⟨gb411, 5, none⟩ (.int .i64 t407)).setCell ⟨gb411, 6, none⟩ (.slice Ao72 t408.length co72)).heap[gb411]? = some (.cells #[.int .i64 t400, .int .i64 t401, .int .i64 t402, .int .i64 t403, .slice Ao71 t404.length co71, .int .i64 t407, .slice Ao72 t408.length co72] 26 (0, 0))) := ⟨by (with_reducible repeat (first | refine Qm ?_ _ | refine Qw ?_ | refine Qk ?_ _)); refine Qu (cs := #[.int .i64 t400, .int .i64 t401, .int .i64 t402, .int .i64 t403, .slice Ao71 t404.length co71, .int .i64 t407, .slice none 0 0]) ?_ 6 _ rfl; (with_reducible repeat (first | refine Qm ?_ _ | refine Qw ?_ | refine Qk ?_ _)); refine Qu (cs := #[.int .i64 t400, .int .i64 t401, .int .i64 t402, .int .i64 t403, .slice Ao71 t404.length co71, .int .i64 0, .slice none 0 0]) ?_ 5 _ rfl; (with_reducible repeat (first | refine Qm ?_ _ | refine Qw ?_ | refine Qk ?_ _)); refine Qu (cs := #[.int .i64 t400, .int .i64 t401, .int .i64 t402, .int .i64 t403, .slice none 0 0, .int .i64 0, .slice none 0 0]) ?_ 4 _ rfl; (with_reducible repeat (first | refine Qm ?_ _ | refine Qw ?_ | refine Qk ?_ _)); refine Qu (cs := #[.int .i64 t400, .int .i64 t401, .int .i64 t402, .int .i64 0, .slice none 0 0, .int .i64 0, .slice none 0 0]) ?_ 3 _ rfl; (with_reducible repeat (first | refine Qm ?_ _ | refine Qw ?_ | refine Qk ?_ _)); refine Qu (cs := #[.int .i64 t400, .int .i64 t401, .int .i64 0, .int .i64 0, .slice none 0 0, .int .i64 0, .slice none 0 0]) ?_ 2 _ rfl; (with_reducible repeat (first | refine Qm ?_ _ | refine Qw ?_ | refine Qk ?_ _)); refine Qu (cs := #[.int .i64 t400, .int .i64 0, .int .i64 0, .int .i64 0, .slice none 0 0, .int .i64 0, .slice none 0 0]) ?_ 1 _ rfl; (with_reducible repeat (first | refine Qm ?_ _ | refine Qw ?_ | refine Qk ?_ _)); refine Qu (cs := #[.int .i64 0, .int .i64 0, .int .i64 0, .int .i64 0, .slice none 0 0, .int .i64 0, .slice none 0 0]) ?_ 0 _ rfl; (with_reducible repeat (first | refine Qm ?_ _ | refine Qw ?_ | refine Qk ?_ _)); exact BK411.out⟩
            have n5_ : Aside0 (Below w.heap.size w (((((((w68.setCell ⟨gb411, 0, none⟩ (.int .i64 t400)).setCell ⟨gb411, 1, none⟩ (.int .i64 t401)).setCell ⟨gb411, 2, none⟩ (.int .i64 t402)).setCell ⟨gb411, 3, none⟩ (.int .i64 t403)).setCell ⟨gb411, 4, none⟩ (.slice Ao71 t404.length co71)).setCell ⟨gb411, 5, none⟩ (.int .i64 t407)).setCell ⟨gb411, 6, none⟩ (.slice Ao72 t408.length co72))) := ⟨by repeat (first | (with_reducible first | exact HB.out | apply Qa | apply Qn | apply Qd | refine Qs ?_ GE0.out | refine Qs ?_ GE411.out) | exact HB.out)⟩
            (try clear HO_6); (try clear HO406); (try clear HO410); (try clear BK0); (try clear BK411); (try clear HB)
            generalize (((((((w68.setCell ⟨gb411, 0, none⟩ (.int .i64 t400)).setCell ⟨gb411, 1, none⟩ (.int .i64 t401)).setCell ⟨gb411, 2, none⟩ (.int .i64 t402)).setCell ⟨gb411, 3, none⟩ (.int .i64 t403)).setCell ⟨gb411, 4, none⟩ (.slice Ao71 t404.length co71)).setCell ⟨gb411, 5, none⟩ (.int .i64 t407)).setCell ⟨gb411, 6, none⟩ (.slice Ao72 t408.length co72)) = w73 at n0_ n1_ n2_ n3_ n4_ n5_ ⊢
            have HO_6 := n0_; have HO406 := n1_; have HO410 := n2_; have BK0 := n3_; have BK411 := n4_; have HB := n5_; clear n0_ n1_ n2_ n3_ n4_ n5_
            have n0_ := Qx (Qrd HO_6.out)
            have n1_ := Qx (Qrd HO406.out)
            have n2_ := Qx (Qrd HO410.out)
            have n3_ := Qx (Qw BK0.out)
            have n4_ := Qx (Qw BK411.out)
            have n5_ := Qx (Qd HB.out)
            clear HO_6 HO406 HO410 BK0 BK411 HB; have HO_6 := n0_; have HO406 := n1_; have HO410 := n2_; have BK0 := n3_; have BK411 := n4_; have HB := n5_; clear n0_ n1_ n2_ n3_ n4_ n5_
            refine start_ (n := 19) (S := fun w' => w'.cell? ⟨gb411, 0, none⟩ = some (.int .i64 t400) ∧ w'.cell? ⟨gb411, 1, none⟩ = some (.int .i64 t401) ∧ w'.cell? ⟨gb411, 2, none⟩ = some (.int .i64 t402) ∧ w'.cell? ⟨gb411, 3, none⟩ = some (.int .i64 t403) ∧ w'.cell? ⟨gb411, 4, none⟩ = some (.slice Ao71 t404.length co71) ∧ w'.cell? ⟨gb411, 5, none⟩ = some (.int .i64 t407) ∧ w'.cell? ⟨gb411, 6, none⟩ = some (.slice Ao72 t408.length co72) ∧ w'.cell? ⟨gb0_, 0, none⟩ = some (.int .i64 a0_0) ∧ w'.cell? ⟨gb0_, 1, none⟩ = some (.int .i64 a0_1) ∧ w'.cell? ⟨gb0_, 2, none⟩ = some (.int .i64 a0_2) ∧ w'.cell? ⟨gb0_, 3, none⟩ = some (.int .i64 a0_3) ∧ w'.cell? ⟨gb0_, 4, none⟩ = some (.slice A0_4 l0_4.length c0_4) ∧ w'.cell? ⟨gb0_, 5, none⟩ = some (.int .i64 a0_5) ∧ w'.cell? ⟨gb0_, 6, none⟩ = some (.slice A0_6 l0_6.length c0_6)) (ds := []) #[false, false, false, false, false, false, false, false, false, false, false, false, false, false, false, false, false, false, false] (by kernel_rfl) rfl rfl ⟨(Qc BK411.out 0).trans rfl, (Qc BK411.out 1).trans rfl, (Qc BK411.out 2).trans rfl, (Qc BK411.out 3).trans rfl, (Qc BK411.out 4).trans rfl, (Qc BK411.out 5).trans rfl, (Qc BK411.out 6).trans rfl, (Qc BK0.out 0).trans rfl, (Qc BK0.out 1).trans rfl, (Qc BK0.out 2).trans rfl, (Qc BK0.out 3).trans rfl, (Qc BK0.out 4).trans rfl, (Qc BK0.out 5).trans rfl, (Qc BK0.out 6).trans rfl⟩ (fun hHeld => ?_); refine with_tabW impl_Sparse_numbers.tab15 impl_Sparse_numbers.bits15 (fun HT_ HW_ => ?_)
            generalize w73.drew = w74 at HO_6 HO406 HO410 BK0 BK411 HB hHeld ⊢
            refine pq_ 0 126 19 1 HT_.out (by kernel_rfl) ?_
            refine pq_ 1 127 19 3 HT_.out (by kernel_rfl) ?_
            refine pq_ 3 129 19 11 HT_.out (by kernel_rfl) ?_
            refine pq_ 4 130 19 27 HT_.out (by kernel_rfl) ?_
            refine pq_ 5 131 19 59 HT_.out (by kernel_rfl) ?_
            refine tq_ 2 128 19 63 HT_.out HW_.out (by kernel_rfl) hHeld ?_ rfl (by rintro w' ⟨s0, s1, s2, s3, s4, s5, s6, s7, s8, s9, s10, s11, s12, s13⟩; go_simp; with_reducible rfl)
            refine tq_ 6 132 19 127 HT_.out HW_.out (by kernel_rfl) hHeld ?_ rfl (by rintro w' ⟨s0, s1, s2, s3, s4, s5, s6, s7, s8, s9, s10, s11, s12, s13⟩; go_simp; with_reducible rfl)
            refine one_ (i := 7) (N := some 133) (bsA 19 255) rfl rfl (one_of HT_.out (by kernel_rfl)) (by decide) (fun K hK => ?_)
            refine goes_ Try.func100 (by kernel_rfl) rfl #[.agg #[.int .i64 t403, .slice Ao71 t404.length co71], .agg #[.int .i64 a0_3, .slice A0_4 l0_4.length c0_4]] (by rfl) rfl rfl (by (try simp only [List.map_toArray, List.map_cons, List.map_nil]); first | done | rfl | (simp only [List.length_drop, List.length_take]; rfl)) ?_
            with_reducible refine (impl_sameBits.calls kj40 t403 _ _ t404 a0_3 _ _ l0_4 false _ ?side1 ?side2 ?side3 ?side4 A50.out).mono ?_
            (case side1 => repeat (first | exact (Kd.R_reads' HO406.out).2.2 | (with_reducible refine Kd.C_alloc ?_ _) | (with_reducible refine Kd.C_drewN ?_ _) | (with_reducible refine Kd.C_drew ?_)))
            (case side2 => exact (Kd.R_reads' HO406.out).2.1)
            (case side3 => repeat (first | exact (Kd.C_below HR0_4.out HB.out) | (with_reducible refine Kd.C_alloc ?_ _) | (with_reducible refine Kd.C_drewN ?_ _) | (with_reducible refine Kd.C_drew ?_)))
            (case side4 => exact HC0_4.out)
            rintro e w75 ⟨rfl, hb⟩
            refine ⟨_, rfl, ?_⟩
            have n0_ := Qx (Qrb (by (with_reducible repeat (first | apply Qra | apply Qrn | apply Qrd)); exact HO_6.out) hb)
            have n1_ := Qx (Qrb (by (with_reducible repeat (first | apply Qra | apply Qrn | apply Qrd)); exact HO406.out) hb)
            have n2_ := Qx (Qrb (by (with_reducible repeat (first | apply Qra | apply Qrn | apply Qrd)); exact HO410.out) hb)
            have n3_ := Qx (Qb (g := gb0_) (by (with_reducible repeat (first | refine Qm ?_ _ | refine Qw ?_ | refine Qk ?_ _)); exact BK0.out) hb)
            have n4_ := Qx (Qb (g := gb411) (by (with_reducible repeat (first | refine Qm ?_ _ | refine Qw ?_ | refine Qk ?_ _)); exact BK411.out) hb)
            have n5_ := Qx (Qp (by repeat (first | (with_reducible first | exact HB.out | apply Qa | apply Qn | apply Qd | refine Qs ?_ GE0.out | refine Qs ?_ GE411.out) | exact HB.out)) hb)
            clear HO_6 HO406 HO410 BK0 BK411 HB; have HO_6 := n0_; have HO406 := n1_; have HO410 := n2_; have BK0 := n3_; have BK411 := n4_; have HB := n5_; clear n0_ n1_ n2_ n3_ n4_ n5_; (try clear hb); (try clear hb2); (try clear hk); (try clear hi)
            refine hK.out _ _ ⟨(Qc BK411.out 0).trans rfl, (Qc BK411.out 1).trans rfl, (Qc BK411.out 2).trans rfl, (Qc BK411.out 3).trans rfl, (Qc BK411.out 4).trans rfl, (Qc BK411.out 5).trans rfl, (Qc BK411.out 6).trans rfl, (Qc BK0.out 0).trans rfl, (Qc BK0.out 1).trans rfl, (Qc BK0.out 2).trans rfl, (Qc BK0.out 3).trans rfl, (Qc BK0.out 4).trans rfl, (Qc BK0.out 5).trans rfl, (Qc BK0.out 6).trans rfl⟩ (fun hHeld => ?_)
            clear hK K
            refine norm_ (a' := ?_) ?_ ?_
            rotate_left
            ·show Act.put _ (some 133) _ = _
             simp only [Act.put, List.setIfInBounds_toArray, List.set_cons_zero, List.set_cons_succ, i64_w]
             rfl
            refine pq_ 8 134 19 511 HT_.out (by kernel_rfl) ?_
            refine uq_ 9 135 19 1023 HT_.out (by kernel_rfl) ?_
            refine uq_ 10 136 19 2047 HT_.out (by kernel_rfl) ?_
            refine uq_ 11 137 19 4095 HT_.out (by kernel_rfl) ?_
            refine uq_ 12 138 19 8191 HT_.out (by kernel_rfl) ?_
            refine uq_ 13 139 19 16383 HT_.out (by kernel_rfl) ?_
            refine uq_ 14 140 19 32767 HT_.out (by kernel_rfl) ?_
            refine uq_ 15 141 19 65535 HT_.out (by kernel_rfl) ?_
            refine pq_ 16 142 19 131071 HT_.out (by kernel_rfl) ?_
            refine pq_ 17 2 19 262143 HT_.out (by kernel_rfl) ?_
            refine pq_ 18 3 19 524287 HT_.out (by kernel_rfl) ?_
            refine done_ (done_of HT_.out (by kernel_rfl)) ?_
            try go_wp2
            go_ret2
            exact ⟨_, by first | rfl | (simp [errW_none, errW_some] <;> rfl) | (simp [*, errW_none, errW_some] <;> rfl), by (with_reducible repeat (first | apply Qra | apply Qrn | apply Qrd)); exact Qrm HO_6.out (fun _ hk => trivial), by repeat (first | (with_reducible first | exact HB.out | apply Qa | apply Qn | apply Qd | refine Qs ?_ GE0.out | refine Qs ?_ GE411.out) | exact HB.out)⟩
end Go.Proofs.Ytdlbdocpofnfjaa.X
