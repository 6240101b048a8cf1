/- Written by a program of this session: what functions of the given program compute, and that their calls do so. -/
import Derived.Test.YtkechjheiakibaaXx0
import Derived.Test.YtkechjheiakibaaXg70a
import Derived.Test.YtkechjheiakibaaXs
namespace Go.Proofs.Ytkechjheiakibaa.X
open Go.RowKit Go.Proofs.YtkechjheiakibaaW.PrintWords Go.Proofs.YtkechjheiakibaaW.PrintLast Go.Proofs.YtkechjheiakibaaW.PrintMore
attribute [local go_sem] max2_int min2_int max_two min_two max_three min_three max_four min_four   -- for this text's walks alone
set_option linter.unusedVariables false
set_option linter.unusedSimpArgs false
/-! ### laws_pSameBits: function 35 -/
def laws_pSameBits.f (k : Nat) (a0_0 : Int) (l0_1 : List Int) (a1_0 : Int) (l1_1 : List Int) : Option (Bool) := if a0_0 = a1_0 then ((laws_pSameInts.f k l0_1 l1_1).bind fun t669 => (some t669)) else (some false)
theorem laws_pSameBits.mono : ∀ a0 a1 a2 a3 k, LeO (laws_pSameBits.f k a0 a1 a2 a3) (laws_pSameBits.f (k + 1) a0 a1 a2 a3) := by
  intro a0 a1 a2 a3 k
  unfold laws_pSameBits.f
  repeat' first
      | (with_reducible exact laws_pSameInts.mono _ _ _)
      | (with_reducible exact LeO.refl _)
      | (with_reducible exact LeO.none _)
      | (with_reducible refine LeO.ite ?_ ?_)
      | (with_reducible refine LeO.bind ?_ (fun _ => ?_))
      | exact laws_pSameInts.mono _ _ _
      | exact LeO.none _
      | refine LeO.ite ?_ ?_
      | refine LeO.bind ?_ (fun _ => ?_)
noncomputable def laws_pSameBits.F (a0_0 : Int) (l0_1 : List Int) (a1_0 : Int) (l1_1 : List Int) : Option (Bool) := lim fun k => laws_pSameBits.f k a0_0 l0_1 a1_0 l1_1
theorem laws_pSameBits.F_sup (a0_0 : Int) (l0_1 : List Int) (a1_0 : Int) (l1_1 : List Int) : Sup (fun k => laws_pSameBits.f k a0_0 l0_1 a1_0 l1_1) (laws_pSameBits.F a0_0 l0_1 a1_0 l1_1) := Sup.of_mono fun k => laws_pSameBits.mono a0_0 l0_1 a1_0 l1_1 k
theorem laws_pSameBits.F_eq (a0_0 : Int) (l0_1 : List Int) (a1_0 : Int) (l1_1 : List Int) : laws_pSameBits.F a0_0 l0_1 a1_0 l1_1 = if a0_0 = a1_0 then ((laws_pSameInts.F l0_1 l1_1).bind fun t669 => (some t669)) else (some false) := by
  refine Sup.unique (laws_pSameBits.F_sup a0_0 l0_1 a1_0 l1_1) (Sup.congr (g' := fun k => if a0_0 = a1_0 then ((laws_pSameInts.f k l0_1 l1_1).bind fun t669 => (some t669)) else (some false)) (fun k => by first | rfl | simp only [laws_pSameBits.f]) ?_)
  repeat' first
    | (with_reducible exact laws_pSameInts.F_sup _ _)
    | (with_reducible refine Sup.ite ?_ ?_)
    | (with_reducible refine Sup.bind ?_ (fun _ => ?_))
    | (with_reducible exact Sup.const _)
    | exact laws_pSameInts.F_sup _ _
    | exact Sup.const _
set_option maxHeartbeats 8000000 in
set_option maxRecDepth 100000 in
theorem laws_pSameBits.calls (k : Nat) (a0_0 : Int) (A0_1 : Option Addr) (c0_1 : Nat) (l0_1 : List Int) (a1_0 : Int) (A1_1 : Option Addr) (c1_1 : Nat) (l1_1 : List Int) (r : Bool) (w : World) (hr0_1 : Kd.C (Kd.int .i64) w A0_1 l0_1.length l0_1) (hc0_1 : l0_1.length ≤ c0_1) (hr1_1 : Kd.C (Kd.int .i64) w A1_1 l1_1.length l1_1) (hc1_1 : l1_1.length ≤ c1_1) (h : laws_pSameBits.f k a0_0 l0_1 a1_0 l1_1 = some r) :
    Calls Try.prog 35 #[.agg #[.int .i64 a0_0, .slice A0_1 l0_1.length c0_1], .agg #[.int .i64 a1_0, .slice A1_1 l1_1.length c1_1]] w fun e w' => e = .returned (.bool r) ∧ Below w.heap.size w w' := by
  have hu24 := Try.underlying24
  have hu22 := Try.underlying22
  have HR0_1 := Aside0.mk hr0_1
  have HC0_1 := Aside0.mk hc0_1
  clear hr0_1 hc0_1
  have HR1_1 := Aside0.mk hr1_1
  have HC1_1 := Aside0.mk hc1_1
  clear hr1_1 hc1_1
  have HB := Aside0.mk (Below.refl w.heap.size w)
  have H : (if a0_0 = a1_0 then ((laws_pSameInts.f k l0_1 l1_1).bind fun t669 => (some t669)) else (some false)) = some r := h
  clear h
  by_cases c3 : a0_0 = a1_0
  ·rw [if_pos c3] at H
   have c3b0 : (a0_0 == a1_0) = true := beq_iff_eq.mpr c3
   have c3b1 : (a0_0 != a1_0) = false := bne_eq_false_iff_eq.mpr c3
   clear c3
   replace H := Option.bind_eq_some_iff.mp H
   obtain ⟨t669, A40, H⟩ := H
   replace H : (some t669) = some r := H
   have A4 := Aside0.mk A40
   clear A40
   obtain rfl := Option.some.inj H
   go_enter Try.func35, Try.ntmps35
   go_wp2_with (first | ((with_reducible refine gate_dst (N := 2) rfl ?_); refine bx_ 2 #[.int .i64 a0_0, .slice A0_1 l0_1.length c0_1] 24 ?_; intro gb667 hg w5 hbox hb; have BK667 := Aside0.mk (hbox); have GW667 := Aside0.mk ((ge_ hg)); have GE667 := Aside0.mk ((ge_ hg)); replace HB := Aside0.mk (below_step hB_ hb); clear hb hbox hg) | ((with_reducible refine gate_dst (N := 3) rfl ?_); refine bx_ 3 #[.int .i64 a1_0, .slice A1_1 l1_1.length c1_1] 24 ?_; intro gb668 hg w6 hbox hb; have BK668 := Aside0.mk (hbox); have GW668 := Aside0.mk ((ge_ hg)); have GE668 := Aside0.mk ((ge_ hg)); replace HB := Aside0.mk (below_step hB_ hb); have NB667_668 := Aside0.mk ((ne_ hg BK667)); have NB668_667 := Aside0.mk ((nf_ hg BK667)); replace BK667 := Aside0.mk (blk_below (kB_ BK667) hb); clear hb hbox hg; have hnb7 := NB667_668.out; have hnc7 := NB668_667.out; have hcz8_0 : w6.cell? ⟨gb667, 0, none⟩ = some (.int .i64 a0_0) := (blk_cell BK667.out 0).trans rfl; have hcz8_1 : w6.cell? ⟨gb667, 1, none⟩ = some (.slice A0_1 l0_1.length c0_1) := (blk_cell BK667.out 1).trans rfl; have hfz8_0 := blk_frozen BK667.out 0; have hfz8_1 := blk_frozen BK667.out 1; have hcz9_0 : w6.cell? ⟨gb668, 0, none⟩ = some (.int .i64 a1_0) := (blk_cell BK668.out 0).trans rfl; have hcz9_1 : w6.cell? ⟨gb668, 1, none⟩ = some (.slice A1_1 l1_1.length c1_1) := (blk_cell BK668.out 1).trans rfl; have hfz9_0 := blk_frozen BK668.out 0; have hfz9_1 := blk_frozen BK668.out 1) | (go_at_call 31; (with_reducible refine (laws_pSameInts.calls k _ _ l0_1 _ _ l1_1 t669 _ ?side1 ?side2 ?side3 ?side4 A4.out).mono ?_); (case side1 => exact kC_ HR0_1); (case side2 => exact HC0_1.out); (case side3 => exact kC_ HR1_1); (case side4 => exact HC1_1.out); rintro e w' ⟨rfl, ⟨nd, rfl⟩⟩))
   go_ret
   exact ⟨rf_, hB_⟩
  ·rw [if_neg c3] at H
   have c3b0 : (a0_0 == a1_0) = false := beq_eq_false_iff_ne.mpr c3
   have c3b1 : (a0_0 != a1_0) = true := bne_iff_ne.mpr c3
   obtain rfl := Option.some.inj H
   go_enter Try.func35, Try.ntmps35
   go_wp2_with (first | ((with_reducible refine gate_dst (N := 2) rfl ?_); refine bx_ 2 #[.int .i64 a0_0, .slice A0_1 l0_1.length c0_1] 24 ?_; intro gb667 hg w10 hbox hb; have BK667 := Aside0.mk (hbox); have GW667 := Aside0.mk ((ge_ hg)); have GE667 := Aside0.mk ((ge_ hg)); replace HB := Aside0.mk (below_step hB_ hb); clear hb hbox hg) | ((with_reducible refine gate_dst (N := 3) rfl ?_); refine bx_ 3 #[.int .i64 a1_0, .slice A1_1 l1_1.length c1_1] 24 ?_; intro gb668 hg w11 hbox hb; have BK668 := Aside0.mk (hbox); have GW668 := Aside0.mk ((ge_ hg)); have GE668 := Aside0.mk ((ge_ hg)); replace HB := Aside0.mk (below_step hB_ hb); have NB667_668 := Aside0.mk ((ne_ hg BK667)); have NB668_667 := Aside0.mk ((nf_ hg BK667)); replace BK667 := Aside0.mk (blk_below (kB_ BK667) hb); clear hb hbox hg; have hnb12 := NB667_668.out; have hnc12 := NB668_667.out; have hcz13_0 : w11.cell? ⟨gb667, 0, none⟩ = some (.int .i64 a0_0) := (blk_cell BK667.out 0).trans rfl; have hcz13_1 : w11.cell? ⟨gb667, 1, none⟩ = some (.slice A0_1 l0_1.length c0_1) := (blk_cell BK667.out 1).trans rfl; have hfz13_0 := blk_frozen BK667.out 0; have hfz13_1 := blk_frozen BK667.out 1; have hcz14_0 : w11.cell? ⟨gb668, 0, none⟩ = some (.int .i64 a1_0) := (blk_cell BK668.out 0).trans rfl; have hcz14_1 : w11.cell? ⟨gb668, 1, none⟩ = some (.slice A1_1 l1_1.length c1_1) := (blk_cell BK668.out 1).trans rfl; have hfz14_0 := blk_frozen BK668.out 0; have hfz14_1 := blk_frozen BK668.out 1))
   go_ret
   exact ⟨rf_, hB_⟩
end Go.Proofs.Ytkechjheiakibaa.X
