/- Written by a program of this session: what functions of the given program compute, and that their calls do so. -/
import Derived.Test.YtcjhnpbehkfknaaXx0
import Derived.Test.YtcjhnpbehkfknaaXg1f
import Derived.Test.YtcjhnpbehkfknaaXs
namespace Go.Proofs.Ytcjhnpbehkfknaa.X
open Go.RowKit Go.Proofs.YtcjhnpbehkfknaaW.PrintWords Go.Proofs.YtcjhnpbehkfknaaW.PrintLast Go.Proofs.YtcjhnpbehkfknaaW.PrintMore
theorem cellsQ2_g1g {w : World} {g : Nat} {t : TypeId} {a0 a1 : Value} (k : w.heap[g]? = some (.cells #[a0, a1] t (0, 0))) : w.cell? ⟨g, 0, none⟩ = some a0 ∧ w.cell? ⟨g, 1, none⟩ = some a1 ∧ w.frozen? ⟨g, 0, none⟩ = false ∧ w.frozen? ⟨g, 1, none⟩ = false := ⟨(blk_cell k 0).trans rfl, (blk_cell k 1).trans rfl, blk_frozen k 0, blk_frozen k 1⟩
theorem cellsQ7_g1g {w : World} {g : Nat} {t : TypeId} {a0 a1 a2 a3 a4 a5 a6 : Value} (k : w.heap[g]? = some (.cells #[a0, a1, a2, a3, a4, a5, a6] t (0, 0))) : w.cell? ⟨g, 0, none⟩ = some a0 ∧ w.cell? ⟨g, 1, none⟩ = some a1 ∧ w.cell? ⟨g, 2, none⟩ = some a2 ∧ w.cell? ⟨g, 3, none⟩ = some a3 ∧ w.cell? ⟨g, 4, none⟩ = some a4 ∧ w.cell? ⟨g, 5, none⟩ = some a5 ∧ w.cell? ⟨g, 6, none⟩ = some a6 ∧ w.frozen? ⟨g, 0, none⟩ = false ∧ w.frozen? ⟨g, 1, none⟩ = false ∧ w.frozen? ⟨g, 2, none⟩ = false ∧ w.frozen? ⟨g, 3, none⟩ = false ∧ w.frozen? ⟨g, 4, none⟩ = false ∧ w.frozen? ⟨g, 5, none⟩ = false ∧ w.frozen? ⟨g, 6, none⟩ = false := ⟨(blk_cell k 0).trans rfl, (blk_cell k 1).trans rfl, (blk_cell k 2).trans rfl, (blk_cell k 3).trans rfl, (blk_cell k 4).trans rfl, (blk_cell k 5).trans rfl, (blk_cell k 6).trans rfl, blk_frozen k 0, blk_frozen k 1, blk_frozen k 2, blk_frozen k 3, blk_frozen k 4, blk_frozen k 5, blk_frozen k 6⟩
open Go.Proofs.YtcjhnpbehkfknaaW.PrintWords renaming below_step → Qp, blk_below → Qb
open Go.Proofs.YtcjhnpbehkfknaaW.PrintWords.Aside0 renaming mk → Qx
attribute [local go_sem] max2_int min2_int max_two min_two max_three min_three max_four min_four   -- for this text's walks alone
set_option linter.unusedVariables false
set_option linter.unusedSimpArgs false
/-! ### laws_eqSparse: function 9 -/
def laws_eqSparse.f (k : Nat) (a0_0 : Int) (a0_1 : Int) (a0_2 : Int) (a0_3 : Int) (l0_4 : List Int) (a0_5 : Int) (l0_6 : List Int) (a1_0 : Int) (a1_1 : Int) (a1_2 : Int) (a1_3 : Int) (l1_4 : List Int) (a1_5 : Int) (l1_6 : List Int) : Option (Bool) := if a0_0 = a1_0 then (if a0_1 = a1_1 then (if a0_2 = a1_2 then ((laws_eqBits.f k a0_3 l0_4 a1_3 l1_4).bind fun t429 => (if t429 = true then ((laws_eqBits.f k a0_5 l0_6 a1_5 l1_6).bind fun t430 => (if t430 = true then (some true) else (some false))) else (some false))) else (some false)) else (some false)) else (some false)
theorem laws_eqSparse.mono : ∀ a0 a1 a2 a3 a4 a5 a6 a7 a8 a9 a10 a11 a12 a13 k, LeO (laws_eqSparse.f k a0 a1 a2 a3 a4 a5 a6 a7 a8 a9 a10 a11 a12 a13) (laws_eqSparse.f (k + 1) a0 a1 a2 a3 a4 a5 a6 a7 a8 a9 a10 a11 a12 a13) := by
  intro a0 a1 a2 a3 a4 a5 a6 a7 a8 a9 a10 a11 a12 a13 k
  unfold laws_eqSparse.f
  repeat' first
      | (with_reducible exact laws_eqBits.mono _ _ _ _ _)
      | (with_reducible exact LeO.refl _)
      | (with_reducible exact LeO.none _)
      | (with_reducible refine LeO.ite ?_ ?_)
      | (with_reducible refine LeO.bind ?_ (fun _ => ?_))
      | exact laws_eqBits.mono _ _ _ _ _
      | exact LeO.none _
      | refine LeO.ite ?_ ?_
      | refine LeO.bind ?_ (fun _ => ?_)
noncomputable def laws_eqSparse.F (a0_0 : Int) (a0_1 : Int) (a0_2 : Int) (a0_3 : Int) (l0_4 : List Int) (a0_5 : Int) (l0_6 : List Int) (a1_0 : Int) (a1_1 : Int) (a1_2 : Int) (a1_3 : Int) (l1_4 : List Int) (a1_5 : Int) (l1_6 : List Int) : Option (Bool) := lim fun k => laws_eqSparse.f k a0_0 a0_1 a0_2 a0_3 l0_4 a0_5 l0_6 a1_0 a1_1 a1_2 a1_3 l1_4 a1_5 l1_6
theorem laws_eqSparse.F_sup (a0_0 : Int) (a0_1 : Int) (a0_2 : Int) (a0_3 : Int) (l0_4 : List Int) (a0_5 : Int) (l0_6 : List Int) (a1_0 : Int) (a1_1 : Int) (a1_2 : Int) (a1_3 : Int) (l1_4 : List Int) (a1_5 : Int) (l1_6 : List Int) : Sup (fun k => laws_eqSparse.f k a0_0 a0_1 a0_2 a0_3 l0_4 a0_5 l0_6 a1_0 a1_1 a1_2 a1_3 l1_4 a1_5 l1_6) (laws_eqSparse.F a0_0 a0_1 a0_2 a0_3 l0_4 a0_5 l0_6 a1_0 a1_1 a1_2 a1_3 l1_4 a1_5 l1_6) := Sup.of_mono fun k => laws_eqSparse.mono a0_0 a0_1 a0_2 a0_3 l0_4 a0_5 l0_6 a1_0 a1_1 a1_2 a1_3 l1_4 a1_5 l1_6 k
theorem laws_eqSparse.F_eq (a0_0 : Int) (a0_1 : Int) (a0_2 : Int) (a0_3 : Int) (l0_4 : List Int) (a0_5 : Int) (l0_6 : List Int) (a1_0 : Int) (a1_1 : Int) (a1_2 : Int) (a1_3 : Int) (l1_4 : List Int) (a1_5 : Int) (l1_6 : List Int) : laws_eqSparse.F a0_0 a0_1 a0_2 a0_3 l0_4 a0_5 l0_6 a1_0 a1_1 a1_2 a1_3 l1_4 a1_5 l1_6 = if a0_0 = a1_0 then (if a0_1 = a1_1 then (if a0_2 = a1_2 then ((laws_eqBits.F a0_3 l0_4 a1_3 l1_4).bind fun t429 => (if t429 = true then ((laws_eqBits.F a0_5 l0_6 a1_5 l1_6).bind fun t430 => (if t430 = true then (some true) else (some false))) else (some false))) else (some false)) else (some false)) else (some false) := by
  refine Sup.unique (laws_eqSparse.F_sup a0_0 a0_1 a0_2 a0_3 l0_4 a0_5 l0_6 a1_0 a1_1 a1_2 a1_3 l1_4 a1_5 l1_6) (Sup.congr (g' := fun k => if a0_0 = a1_0 then (if a0_1 = a1_1 then (if a0_2 = a1_2 then ((laws_eqBits.f k a0_3 l0_4 a1_3 l1_4).bind fun t429 => (if t429 = true then ((laws_eqBits.f k a0_5 l0_6 a1_5 l1_6).bind fun t430 => (if t430 = true then (some true) else (some false))) else (some false))) else (some false)) else (some false)) else (some false)) (fun k => by first | rfl | simp only [laws_eqSparse.f]) ?_)
  repeat' first
    | (with_reducible exact laws_eqBits.F_sup _ _ _ _)
    | (with_reducible refine Sup.ite ?_ ?_)
    | (with_reducible refine Sup.bind ?_ (fun _ => ?_))
    | (with_reducible exact Sup.const _)
    | exact laws_eqBits.F_sup _ _ _ _
    | exact Sup.const _
set_option maxHeartbeats 8000000 in
set_option maxRecDepth 100000 in
theorem laws_eqSparse.calls (k : Nat) (a0_0 : Int) (a0_1 : Int) (a0_2 : Int) (a0_3 : Int) (A0_4 : Option Addr) (c0_4 : Nat) (l0_4 : List Int) (a0_5 : Int) (A0_6 : Option Addr) (c0_6 : Nat) (l0_6 : List Int) (a1_0 : Int) (a1_1 : Int) (a1_2 : Int) (a1_3 : Int) (A1_4 : Option Addr) (c1_4 : Nat) (l1_4 : List Int) (a1_5 : Int) (A1_6 : Option Addr) (c1_6 : Nat) (l1_6 : List Int) (r : Bool) (w : World) (hr0_4 : Kd.C (Kd.int .i64) w A0_4 l0_4.length l0_4) (hc0_4 : l0_4.length ≤ c0_4) (hr0_6 : Kd.C (Kd.int .i64) w A0_6 l0_6.length l0_6) (hc0_6 : l0_6.length ≤ c0_6) (hr1_4 : Kd.C (Kd.int .i64) w A1_4 l1_4.length l1_4) (hc1_4 : l1_4.length ≤ c1_4) (hr1_6 : Kd.C (Kd.int .i64) w A1_6 l1_6.length l1_6) (hc1_6 : l1_6.length ≤ c1_6) (h : laws_eqSparse.f k a0_0 a0_1 a0_2 a0_3 l0_4 a0_5 l0_6 a1_0 a1_1 a1_2 a1_3 l1_4 a1_5 l1_6 = some r) :
    Calls Try.prog 9 #[.agg #[.int .i64 a0_0, .int .i64 a0_1, .int .i64 a0_2, .int .i64 a0_3, .slice A0_4 l0_4.length c0_4, .int .i64 a0_5, .slice A0_6 l0_6.length c0_6], .agg #[.int .i64 a1_0, .int .i64 a1_1, .int .i64 a1_2, .int .i64 a1_3, .slice A1_4 l1_4.length c1_4, .int .i64 a1_5, .slice A1_6 l1_6.length c1_6]] w fun e w' => e = .returned (.bool r) ∧ Below w.heap.size w w' := by
  have hu32 := Try.underlying32; have hu30 := Try.underlying30; have HR0_4 := Qx hr0_4; have HC0_4 := Qx hc0_4; clear hr0_4 hc0_4; have HR0_6 := Qx hr0_6; have HC0_6 := Qx hc0_6; clear hr0_6 hc0_6; have HR1_4 := Qx hr1_4; have HC1_4 := Qx hc1_4; clear hr1_4 hc1_4; have HR1_6 := Qx hr1_6; have HC1_6 := Qx hc1_6; clear hr1_6 hc1_6
  have HB := Qx (Below.refl w.heap.size w)
  have H : (if a0_0 = a1_0 then (if a0_1 = a1_1 then (if a0_2 = a1_2 then ((laws_eqBits.f k a0_3 l0_4 a1_3 l1_4).bind fun t429 => (if t429 = true then ((laws_eqBits.f k a0_5 l0_6 a1_5 l1_6).bind fun t430 => (if t430 = true then (some true) else (some false))) else (some false))) else (some false)) else (some false)) else (some false)) = some r := h
  clear h
  by_cases c3 : a0_0 = a1_0
  ·rw [if_pos c3] at H
   have c3b0 : (a0_0 == a1_0) = true := beq_iff_eq.mpr c3
   have c3b1 : (a0_0 != a1_0) = false := bne_eq_false_iff_eq.mpr c3
   clear c3
   by_cases c4 : a0_1 = a1_1
   ·rw [if_pos c4] at H
    have c4b0 : (a0_1 == a1_1) = true := beq_iff_eq.mpr c4
    have c4b1 : (a0_1 != a1_1) = false := bne_eq_false_iff_eq.mpr c4
    clear c4
    by_cases c5 : a0_2 = a1_2
    ·rw [if_pos c5] at H
     have c5b0 : (a0_2 == a1_2) = true := beq_iff_eq.mpr c5
     have c5b1 : (a0_2 != a1_2) = false := bne_eq_false_iff_eq.mpr c5
     clear c5; replace H := Option.bind_eq_some_iff.mp H; obtain ⟨t429, A60, H⟩ := H
     have A6 := Qx A60; clear A60
     by_cases c7 : t429 = true
     ·subst c7
      have H1 : ((laws_eqBits.f k a0_5 l0_6 a1_5 l1_6).bind fun t430 => (if t430 = true then (some true) else (some false))) = some r := by rw [if_pos rfl] at H; exact H
      clear H; have H := H1; clear H1; replace H := Option.bind_eq_some_iff.mp H; obtain ⟨t430, A80, H⟩ := H
      have A8 := Qx A80; clear A80
      by_cases c9 : t430 = true
      ·subst c9
       have H1 : (some true) = some r := by rw [if_pos rfl] at H; exact H
       clear H; have H := H1; clear H1; obtain rfl := Option.some.inj H
       go_enter Try.func9, Try.ntmps9
       go_wp2_with (first | ((with_reducible refine gate_dst (N := 2) rfl ?_); refine bx_ 2 #[.int .i64 a0_0, .int .i64 a0_1, .int .i64 a0_2, .int .i64 a0_3, .slice A0_4 l0_4.length c0_4, .int .i64 a0_5, .slice A0_6 l0_6.length c0_6] 32 ?_; intro gb427 hg w10 hbox hb; have BK427 := Qx (hbox); have GW427 := Qx ((ge_ hg)); have GE427 := Qx ((ge_ hg)); replace HB := Qx (Qp hB_ hb); clear hb hbox hg) | ((with_reducible refine gate_dst (N := 3) rfl ?_); refine bx_ 3 #[.int .i64 a1_0, .int .i64 a1_1, .int .i64 a1_2, .int .i64 a1_3, .slice A1_4 l1_4.length c1_4, .int .i64 a1_5, .slice A1_6 l1_6.length c1_6] 32 ?_; intro gb428 hg w11 hbox hb; have BK428 := Qx (hbox); have GW428 := Qx ((ge_ hg)); have GE428 := Qx ((ge_ hg)); replace HB := Qx (Qp hB_ hb); have NB427_428 := Qx ((ne_ hg BK427)); have NB428_427 := Qx ((nf_ hg BK427)); replace BK427 := Qx (Qb (kB_ BK427) hb); clear hb hbox hg; have hnb12 := NB427_428.out; have hnc12 := NB428_427.out; obtain ⟨hcz13_0, hcz13_1, hcz13_2, hcz13_3, hcz13_4, hcz13_5, hcz13_6, hfz13_0, hfz13_1, hfz13_2, hfz13_3, hfz13_4, hfz13_5, hfz13_6⟩ := cellsQ7_g1g (w := w11) BK427.out; obtain ⟨hcz14_0, hcz14_1, hcz14_2, hcz14_3, hcz14_4, hcz14_5, hcz14_6, hfz14_0, hfz14_1, hfz14_2, hfz14_3, hfz14_4, hfz14_5, hfz14_6⟩ := cellsQ7_g1g (w := w11) BK428.out) | ((with_reducible refine gate_callee (f := 25) rfl ?_); refine gl_ 24 Try.func25 #[.agg #[.int .i64 a0_3, .slice A0_4 l0_4.length c0_4], .agg #[.int .i64 a1_3, .slice A1_4 l1_4.length c1_4]] ?_; (with_reducible refine (laws_eqBits.calls k a0_3 _ _ l0_4 a1_3 _ _ l1_4 true _ ?side1 ?side2 ?side3 ?side4 A6.out).mono ?_); (case side1 => exact kC_ HR0_4); (case side2 => exact HC0_4.out); (case side3 => exact kC_ HR1_4); (case side4 => exact HC1_4.out); rintro e w15 ⟨rfl, hb⟩; refine ⟨_, rfl, ?_⟩; replace BK427 := Qx (Qb (kB_ BK427) hb); replace BK428 := Qx (Qb (kB_ BK428) hb); replace HB := Qx (Qp hB_ hb); (try clear hb); (try clear hb2); (try clear hk); (try clear hi); obtain ⟨hcz16_0, hcz16_1, hcz16_2, hcz16_3, hcz16_4, hcz16_5, hcz16_6, hfz16_0, hfz16_1, hfz16_2, hfz16_3, hfz16_4, hfz16_5, hfz16_6⟩ := cellsQ7_g1g (w := w15) BK427.out; obtain ⟨hcz17_0, hcz17_1, hcz17_2, hcz17_3, hcz17_4, hcz17_5, hcz17_6, hfz17_0, hfz17_1, hfz17_2, hfz17_3, hfz17_4, hfz17_5, hfz17_6⟩ := cellsQ7_g1g (w := w15) BK428.out) | ((with_reducible refine gate_callee (f := 25) rfl ?_); refine gl_ 30 Try.func25 #[.agg #[.int .i64 a0_5, .slice A0_6 l0_6.length c0_6], .agg #[.int .i64 a1_5, .slice A1_6 l1_6.length c1_6]] ?_; (with_reducible refine (laws_eqBits.calls k a0_5 _ _ l0_6 a1_5 _ _ l1_6 true _ ?side1 ?side2 ?side3 ?side4 A8.out).mono ?_); (case side1 => exact kC_ HR0_6); (case side2 => exact HC0_6.out); (case side3 => exact kC_ HR1_6); (case side4 => exact HC1_6.out); rintro e w18 ⟨rfl, hb⟩; refine ⟨_, rfl, ?_⟩; replace BK427 := Qx (Qb (kB_ BK427) hb); replace BK428 := Qx (Qb (kB_ BK428) hb); replace HB := Qx (Qp hB_ hb); (try clear hb); (try clear hb2); (try clear hk); (try clear hi)))
       go_ret
       exact ⟨rf_, hB_⟩
      ·replace c9 := Bool.eq_false_iff.mpr c9; subst c9
       have H1 : (some false) = some r := by rw [if_neg (show ¬ (false = true) by decide)] at H; exact H
       clear H; have H := H1; clear H1; obtain rfl := Option.some.inj H
       go_enter Try.func9, Try.ntmps9
       go_wp2_with (first | ((with_reducible refine gate_dst (N := 2) rfl ?_); refine bx_ 2 #[.int .i64 a0_0, .int .i64 a0_1, .int .i64 a0_2, .int .i64 a0_3, .slice A0_4 l0_4.length c0_4, .int .i64 a0_5, .slice A0_6 l0_6.length c0_6] 32 ?_; intro gb427 hg w19 hbox hb; have BK427 := Qx (hbox); have GW427 := Qx ((ge_ hg)); have GE427 := Qx ((ge_ hg)); replace HB := Qx (Qp hB_ hb); clear hb hbox hg) | ((with_reducible refine gate_dst (N := 3) rfl ?_); refine bx_ 3 #[.int .i64 a1_0, .int .i64 a1_1, .int .i64 a1_2, .int .i64 a1_3, .slice A1_4 l1_4.length c1_4, .int .i64 a1_5, .slice A1_6 l1_6.length c1_6] 32 ?_; intro gb428 hg w20 hbox hb; have BK428 := Qx (hbox); have GW428 := Qx ((ge_ hg)); have GE428 := Qx ((ge_ hg)); replace HB := Qx (Qp hB_ hb); have NB427_428 := Qx ((ne_ hg BK427)); have NB428_427 := Qx ((nf_ hg BK427)); replace BK427 := Qx (Qb (kB_ BK427) hb); clear hb hbox hg; have hnb21 := NB427_428.out; have hnc21 := NB428_427.out; obtain ⟨hcz22_0, hcz22_1, hcz22_2, hcz22_3, hcz22_4, hcz22_5, hcz22_6, hfz22_0, hfz22_1, hfz22_2, hfz22_3, hfz22_4, hfz22_5, hfz22_6⟩ := cellsQ7_g1g (w := w20) BK427.out; obtain ⟨hcz23_0, hcz23_1, hcz23_2, hcz23_3, hcz23_4, hcz23_5, hcz23_6, hfz23_0, hfz23_1, hfz23_2, hfz23_3, hfz23_4, hfz23_5, hfz23_6⟩ := cellsQ7_g1g (w := w20) BK428.out) | ((with_reducible refine gate_callee (f := 25) rfl ?_); refine gl_ 24 Try.func25 #[.agg #[.int .i64 a0_3, .slice A0_4 l0_4.length c0_4], .agg #[.int .i64 a1_3, .slice A1_4 l1_4.length c1_4]] ?_; (with_reducible refine (laws_eqBits.calls k a0_3 _ _ l0_4 a1_3 _ _ l1_4 true _ ?side1 ?side2 ?side3 ?side4 A6.out).mono ?_); (case side1 => exact kC_ HR0_4); (case side2 => exact HC0_4.out); (case side3 => exact kC_ HR1_4); (case side4 => exact HC1_4.out); rintro e w24 ⟨rfl, hb⟩; refine ⟨_, rfl, ?_⟩; replace BK427 := Qx (Qb (kB_ BK427) hb); replace BK428 := Qx (Qb (kB_ BK428) hb); replace HB := Qx (Qp hB_ hb); (try clear hb); (try clear hb2); (try clear hk); (try clear hi); obtain ⟨hcz25_0, hcz25_1, hcz25_2, hcz25_3, hcz25_4, hcz25_5, hcz25_6, hfz25_0, hfz25_1, hfz25_2, hfz25_3, hfz25_4, hfz25_5, hfz25_6⟩ := cellsQ7_g1g (w := w24) BK427.out; obtain ⟨hcz26_0, hcz26_1, hcz26_2, hcz26_3, hcz26_4, hcz26_5, hcz26_6, hfz26_0, hfz26_1, hfz26_2, hfz26_3, hfz26_4, hfz26_5, hfz26_6⟩ := cellsQ7_g1g (w := w24) BK428.out) | ((with_reducible refine gate_callee (f := 25) rfl ?_); refine gl_ 30 Try.func25 #[.agg #[.int .i64 a0_5, .slice A0_6 l0_6.length c0_6], .agg #[.int .i64 a1_5, .slice A1_6 l1_6.length c1_6]] ?_; (with_reducible refine (laws_eqBits.calls k a0_5 _ _ l0_6 a1_5 _ _ l1_6 false _ ?side1 ?side2 ?side3 ?side4 A8.out).mono ?_); (case side1 => exact kC_ HR0_6); (case side2 => exact HC0_6.out); (case side3 => exact kC_ HR1_6); (case side4 => exact HC1_6.out); rintro e w27 ⟨rfl, hb⟩; refine ⟨_, rfl, ?_⟩; replace BK427 := Qx (Qb (kB_ BK427) hb); replace BK428 := Qx (Qb (kB_ BK428) hb); replace HB := Qx (Qp hB_ hb); (try clear hb); (try clear hb2); (try clear hk); (try clear hi)))
       go_ret
       exact ⟨rf_, hB_⟩
     ·replace c7 := Bool.eq_false_iff.mpr c7; subst c7
      have H1 : (some false) = some r := by rw [if_neg (show ¬ (false = true) by decide)] at H; exact H
      clear H; have H := H1; clear H1; obtain rfl := Option.some.inj H
      go_enter Try.func9, Try.ntmps9
      go_wp2_with (first | ((with_reducible refine gate_dst (N := 2) rfl ?_); refine bx_ 2 #[.int .i64 a0_0, .int .i64 a0_1, .int .i64 a0_2, .int .i64 a0_3, .slice A0_4 l0_4.length c0_4, .int .i64 a0_5, .slice A0_6 l0_6.length c0_6] 32 ?_; intro gb427 hg w28 hbox hb; have BK427 := Qx (hbox); have GW427 := Qx ((ge_ hg)); have GE427 := Qx ((ge_ hg)); replace HB := Qx (Qp hB_ hb); clear hb hbox hg) | ((with_reducible refine gate_dst (N := 3) rfl ?_); refine bx_ 3 #[.int .i64 a1_0, .int .i64 a1_1, .int .i64 a1_2, .int .i64 a1_3, .slice A1_4 l1_4.length c1_4, .int .i64 a1_5, .slice A1_6 l1_6.length c1_6] 32 ?_; intro gb428 hg w29 hbox hb; have BK428 := Qx (hbox); have GW428 := Qx ((ge_ hg)); have GE428 := Qx ((ge_ hg)); replace HB := Qx (Qp hB_ hb); have NB427_428 := Qx ((ne_ hg BK427)); have NB428_427 := Qx ((nf_ hg BK427)); replace BK427 := Qx (Qb (kB_ BK427) hb); clear hb hbox hg; have hnb30 := NB427_428.out; have hnc30 := NB428_427.out; obtain ⟨hcz31_0, hcz31_1, hcz31_2, hcz31_3, hcz31_4, hcz31_5, hcz31_6, hfz31_0, hfz31_1, hfz31_2, hfz31_3, hfz31_4, hfz31_5, hfz31_6⟩ := cellsQ7_g1g (w := w29) BK427.out; obtain ⟨hcz32_0, hcz32_1, hcz32_2, hcz32_3, hcz32_4, hcz32_5, hcz32_6, hfz32_0, hfz32_1, hfz32_2, hfz32_3, hfz32_4, hfz32_5, hfz32_6⟩ := cellsQ7_g1g (w := w29) BK428.out) | ((with_reducible refine gate_callee (f := 25) rfl ?_); refine gl_ 24 Try.func25 #[.agg #[.int .i64 a0_3, .slice A0_4 l0_4.length c0_4], .agg #[.int .i64 a1_3, .slice A1_4 l1_4.length c1_4]] ?_; (with_reducible refine (laws_eqBits.calls k a0_3 _ _ l0_4 a1_3 _ _ l1_4 false _ ?side1 ?side2 ?side3 ?side4 A6.out).mono ?_); (case side1 => exact kC_ HR0_4); (case side2 => exact HC0_4.out); (case side3 => exact kC_ HR1_4); (case side4 => exact HC1_4.out); rintro e w33 ⟨rfl, hb⟩; refine ⟨_, rfl, ?_⟩; replace BK427 := Qx (Qb (kB_ BK427) hb); replace BK428 := Qx (Qb (kB_ BK428) hb); replace HB := Qx (Qp hB_ hb); (try clear hb); (try clear hb2); (try clear hk); (try clear hi)))
      go_ret
      exact ⟨rf_, hB_⟩
    ·rw [if_neg c5] at H
     have c5b0 : (a0_2 == a1_2) = false := beq_eq_false_iff_ne.mpr c5
     have c5b1 : (a0_2 != a1_2) = true := bne_iff_ne.mpr c5
     obtain rfl := Option.some.inj H
     go_enter Try.func9, Try.ntmps9
     go_wp2_with (first | ((with_reducible refine gate_dst (N := 2) rfl ?_); refine bx_ 2 #[.int .i64 a0_0, .int .i64 a0_1, .int .i64 a0_2, .int .i64 a0_3, .slice A0_4 l0_4.length c0_4, .int .i64 a0_5, .slice A0_6 l0_6.length c0_6] 32 ?_; intro gb427 hg w34 hbox hb; have BK427 := Qx (hbox); have GW427 := Qx ((ge_ hg)); have GE427 := Qx ((ge_ hg)); replace HB := Qx (Qp hB_ hb); clear hb hbox hg) | ((with_reducible refine gate_dst (N := 3) rfl ?_); refine bx_ 3 #[.int .i64 a1_0, .int .i64 a1_1, .int .i64 a1_2, .int .i64 a1_3, .slice A1_4 l1_4.length c1_4, .int .i64 a1_5, .slice A1_6 l1_6.length c1_6] 32 ?_; intro gb428 hg w35 hbox hb; have BK428 := Qx (hbox); have GW428 := Qx ((ge_ hg)); have GE428 := Qx ((ge_ hg)); replace HB := Qx (Qp hB_ hb); have NB427_428 := Qx ((ne_ hg BK427)); have NB428_427 := Qx ((nf_ hg BK427)); replace BK427 := Qx (Qb (kB_ BK427) hb); clear hb hbox hg; have hnb36 := NB427_428.out; have hnc36 := NB428_427.out; obtain ⟨hcz37_0, hcz37_1, hcz37_2, hcz37_3, hcz37_4, hcz37_5, hcz37_6, hfz37_0, hfz37_1, hfz37_2, hfz37_3, hfz37_4, hfz37_5, hfz37_6⟩ := cellsQ7_g1g (w := w35) BK427.out; obtain ⟨hcz38_0, hcz38_1, hcz38_2, hcz38_3, hcz38_4, hcz38_5, hcz38_6, hfz38_0, hfz38_1, hfz38_2, hfz38_3, hfz38_4, hfz38_5, hfz38_6⟩ := cellsQ7_g1g (w := w35) BK428.out))
     go_ret
     exact ⟨rf_, hB_⟩
   ·rw [if_neg c4] at H
    have c4b0 : (a0_1 == a1_1) = false := beq_eq_false_iff_ne.mpr c4
    have c4b1 : (a0_1 != a1_1) = true := bne_iff_ne.mpr c4
    obtain rfl := Option.some.inj H
    go_enter Try.func9, Try.ntmps9
    go_wp2_with (first | ((with_reducible refine gate_dst (N := 2) rfl ?_); refine bx_ 2 #[.int .i64 a0_0, .int .i64 a0_1, .int .i64 a0_2, .int .i64 a0_3, .slice A0_4 l0_4.length c0_4, .int .i64 a0_5, .slice A0_6 l0_6.length c0_6] 32 ?_; intro gb427 hg w39 hbox hb; have BK427 := Qx (hbox); have GW427 := Qx ((ge_ hg)); have GE427 := Qx ((ge_ hg)); replace HB := Qx (Qp hB_ hb); clear hb hbox hg) | ((with_reducible refine gate_dst (N := 3) rfl ?_); refine bx_ 3 #[.int .i64 a1_0, .int .i64 a1_1, .int .i64 a1_2, .int .i64 a1_3, .slice A1_4 l1_4.length c1_4, .int .i64 a1_5, .slice A1_6 l1_6.length c1_6] 32 ?_; intro gb428 hg w40 hbox hb; have BK428 := Qx (hbox); have GW428 := Qx ((ge_ hg)); have GE428 := Qx ((ge_ hg)); replace HB := Qx (Qp hB_ hb); have NB427_428 := Qx ((ne_ hg BK427)); have NB428_427 := Qx ((nf_ hg BK427)); replace BK427 := Qx (Qb (kB_ BK427) hb); clear hb hbox hg; have hnb41 := NB427_428.out; have hnc41 := NB428_427.out; obtain ⟨hcz42_0, hcz42_1, hcz42_2, hcz42_3, hcz42_4, hcz42_5, hcz42_6, hfz42_0, hfz42_1, hfz42_2, hfz42_3, hfz42_4, hfz42_5, hfz42_6⟩ := cellsQ7_g1g (w := w40) BK427.out; obtain ⟨hcz43_0, hcz43_1, hcz43_2, hcz43_3, hcz43_4, hcz43_5, hcz43_6, hfz43_0, hfz43_1, hfz43_2, hfz43_3, hfz43_4, hfz43_5, hfz43_6⟩ := cellsQ7_g1g (w := w40) BK428.out))
    go_ret
    exact ⟨rf_, hB_⟩
  ·rw [if_neg c3] at H
   have c3b0 : (a0_0 == a1_0) = false := beq_eq_false_iff_ne.mpr c3
   have c3b1 : (a0_0 != a1_0) = true := bne_iff_ne.mpr c3
   obtain rfl := Option.some.inj H
   go_enter Try.func9, Try.ntmps9
   go_wp2_with (first | ((with_reducible refine gate_dst (N := 2) rfl ?_); refine bx_ 2 #[.int .i64 a0_0, .int .i64 a0_1, .int .i64 a0_2, .int .i64 a0_3, .slice A0_4 l0_4.length c0_4, .int .i64 a0_5, .slice A0_6 l0_6.length c0_6] 32 ?_; intro gb427 hg w44 hbox hb; have BK427 := Qx (hbox); have GW427 := Qx ((ge_ hg)); have GE427 := Qx ((ge_ hg)); replace HB := Qx (Qp hB_ hb); clear hb hbox hg) | ((with_reducible refine gate_dst (N := 3) rfl ?_); refine bx_ 3 #[.int .i64 a1_0, .int .i64 a1_1, .int .i64 a1_2, .int .i64 a1_3, .slice A1_4 l1_4.length c1_4, .int .i64 a1_5, .slice A1_6 l1_6.length c1_6] 32 ?_; intro gb428 hg w45 hbox hb; have BK428 := Qx (hbox); have GW428 := Qx ((ge_ hg)); have GE428 := Qx ((ge_ hg)); replace HB := Qx (Qp hB_ hb); have NB427_428 := Qx ((ne_ hg BK427)); have NB428_427 := Qx ((nf_ hg BK427)); replace BK427 := Qx (Qb (kB_ BK427) hb); clear hb hbox hg; have hnb46 := NB427_428.out; have hnc46 := NB428_427.out; obtain ⟨hcz47_0, hcz47_1, hcz47_2, hcz47_3, hcz47_4, hcz47_5, hcz47_6, hfz47_0, hfz47_1, hfz47_2, hfz47_3, hfz47_4, hfz47_5, hfz47_6⟩ := cellsQ7_g1g (w := w45) BK427.out; obtain ⟨hcz48_0, hcz48_1, hcz48_2, hcz48_3, hcz48_4, hcz48_5, hcz48_6, hfz48_0, hfz48_1, hfz48_2, hfz48_3, hfz48_4, hfz48_5, hfz48_6⟩ := cellsQ7_g1g (w := w45) BK428.out))
   go_ret
   exact ⟨rf_, hB_⟩
/-! ### laws_markIntS: function 11 -/
def laws_markIntS.l0 : Nat → List Int → Int → Int → Option (Int × List Int)
  | 0, _, _, _ => none
  | k + 1, x0, x1, x5 => if x5 < (x0.length : Int) then (if 0 ≤ x5 then (laws_markIntS.l0 k (x0.set (x5 : Int).toNat x1) (wrap64 (x1 + 1)) (wrap64 (x5 + 1))) else (none)) else (some (x1, x0))
def laws_markIntS.f (k : Nat) (l0 : List Int) (a1 : Int) : Option (Int × List Int) := laws_markIntS.l0 k l0 a1 0
theorem laws_markIntS.mono_l : ∀ k, (∀ y0 y1 y2, LeO (laws_markIntS.l0 k y0 y1 y2) (laws_markIntS.l0 (k + 1) y0 y1 y2))
  | 0 => fun _ _ _ r h => by simp [laws_markIntS.l0] at h
  | k + 1 => by
    have ih0 := laws_markIntS.mono_l k
    · intro y0 y1 y2
      unfold laws_markIntS.l0
      repeat' first
      | (with_reducible exact ih0 _ _ _)
      | (with_reducible exact LeO.refl _)
      | (with_reducible exact LeO.none _)
      | (with_reducible refine LeO.ite ?_ ?_)
      | (with_reducible refine LeO.bind ?_ (fun _ => ?_))
      | exact ih0 _ _ _
      | exact LeO.none _
      | refine LeO.ite ?_ ?_
      | refine LeO.bind ?_ (fun _ => ?_)
theorem laws_markIntS.mono : ∀ a0 a1 k, LeO (laws_markIntS.f k a0 a1) (laws_markIntS.f (k + 1) a0 a1) := by
  intro a0 a1 k
  have ih0 := laws_markIntS.mono_l k
  unfold laws_markIntS.f
  repeat' first
      | (with_reducible exact ih0 _ _ _)
      | (with_reducible exact LeO.refl _)
      | (with_reducible exact LeO.none _)
      | (with_reducible refine LeO.ite ?_ ?_)
      | (with_reducible refine LeO.bind ?_ (fun _ => ?_))
      | exact ih0 _ _ _
      | exact LeO.none _
      | refine LeO.ite ?_ ?_
      | refine LeO.bind ?_ (fun _ => ?_)
noncomputable def laws_markIntS.L0 (y0 : List Int) (y1 : Int) (y2 : Int) : Option (Int × List Int) := lim fun k => laws_markIntS.l0 k y0 y1 y2
theorem laws_markIntS.L0_sup (y0 : List Int) (y1 : Int) (y2 : Int) : Sup (fun k => laws_markIntS.l0 k y0 y1 y2) (laws_markIntS.L0 y0 y1 y2) := Sup.of_mono fun k => laws_markIntS.mono_l k y0 y1 y2
noncomputable def laws_markIntS.F (l0 : List Int) (a1 : Int) : Option (Int × List Int) := lim fun k => laws_markIntS.f k l0 a1
theorem laws_markIntS.F_sup (l0 : List Int) (a1 : Int) : Sup (fun k => laws_markIntS.f k l0 a1) (laws_markIntS.F l0 a1) := Sup.of_mono fun k => laws_markIntS.mono l0 a1 k
theorem laws_markIntS.L0_eq (x0 : List Int) (x1 : Int) (x5 : Int) : laws_markIntS.L0 x0 x1 x5 = if x5 < (x0.length : Int) then (if 0 ≤ x5 then (laws_markIntS.L0 (x0.set (x5 : Int).toNat x1) (wrap64 (x1 + 1)) (wrap64 (x5 + 1))) else (none)) else (some (x1, x0)) := by
  refine Sup.unique (laws_markIntS.L0_sup x0 x1 x5) (Sup.shift (fun k => laws_markIntS.mono_l k x0 x1 x5) (Sup.congr (g' := fun k => if x5 < (x0.length : Int) then (if 0 ≤ x5 then (laws_markIntS.l0 k (x0.set (x5 : Int).toNat x1) (wrap64 (x1 + 1)) (wrap64 (x5 + 1))) else (none)) else (some (x1, x0))) (fun k => by first | rfl | simp only [laws_markIntS.l0]) ?_))
  repeat' first
    | (with_reducible exact laws_markIntS.L0_sup _ _ _)
    | (with_reducible refine Sup.ite ?_ ?_)
    | (with_reducible refine Sup.bind ?_ (fun _ => ?_))
    | (with_reducible exact Sup.const _)
    | exact laws_markIntS.L0_sup _ _ _
    | exact Sup.const _
theorem laws_markIntS.F_eq (l0 : List Int) (a1 : Int) : laws_markIntS.F l0 a1 = laws_markIntS.L0 l0 a1 0 := by
  refine Sup.unique (laws_markIntS.F_sup l0 a1) (Sup.congr (g' := fun k => laws_markIntS.l0 k l0 a1 0) (fun k => by first | rfl | simp only [laws_markIntS.f]) ?_)
  repeat' first
    | (with_reducible exact laws_markIntS.L0_sup _ _ _)
    | (with_reducible refine Sup.ite ?_ ?_)
    | (with_reducible refine Sup.bind ?_ (fun _ => ?_))
    | (with_reducible exact Sup.const _)
    | exact laws_markIntS.L0_sup _ _ _
    | exact Sup.const _
set_option maxHeartbeats 8000000 in
set_option maxRecDepth 100000 in
theorem laws_markIntS.calls (k : Nat) (P0_ : Nat → Prop) (u9000_ : Value) (l0 : List Int) (a1 : Int) (r1 : Int) (r2 : List Int) (w0 w : World) (hB : Below w0.heap.size w0 w) (ho0 : Kd.R (Kd.int .i64) 3 w w0.heap.size P0_ u9000_ l0) (h : laws_markIntS.f k l0 a1 = some (r1, r2)) :
    Calls Try.prog 11 #[u9000_, .int .i64 a1] w fun e w' => e = .returned (.int .i64 r1) ∧ Kd.R (Kd.int .i64) 3 w' w0.heap.size (fun k_ => (P0_ k_ ∨ w.heap.size ≤ k_)) u9000_ r2 ∧ Below w0.heap.size w0 w' ∧ Kept w w' (fun k_ => P0_ k_) := by
  have HO0 := Qx (show Kd.R (Kd.int .i64) 3 w w0.heap.size (fun k_ => (P0_ k_ ∨ w.heap.size ≤ k_)) u9000_ l0 from Kd.R_mono ho0 (fun k_ hk => (.inl hk)))
  have HK := Qx (Kept.refl w (fun k_ => P0_ k_))
  have HW0 := Qx hB.size; have HB := Qx hB; clear hB
  have H : (laws_markIntS.l0 k l0 a1 0) = some (r1, r2) := h
  clear h; have H' := Qx H; clear H
  go_enter Try.func11, Try.ntmps11
  go_wp2
  go_loopg [1, 5] k (fun kq v1 v5 w' => ∃ (x0_1 : List Int) (x1_1 : Int) (x5_1 : Int), v1 = .int .i64 x1_1 ∧ v5 = .int .i64 x5_1 ∧ Aside0 (laws_markIntS.l0 kq x0_1 x1_1 x5_1 = some (r1, r2)) ∧ Aside0 (kq ≤ k) ∧ Aside0 (Kd.R (Kd.int .i64) 3 w' w0.heap.size (fun k_ => (P0_ k_ ∨ w.heap.size ≤ k_)) u9000_ x0_1) ∧ Aside0 (Kept w w' (fun k_ => P0_ k_)) ∧ Aside0 (Below w0.heap.size w0 w'))
  case atStart => exact ⟨(l0), (a1), (0), rg_, rg_, H', ⟨Nat.le_refl _⟩, ⟨kR_ HO0⟩, ⟨by repeat (first | (with_reducible first | exact HK.out | apply Kept.alloc | apply Kept.drewN | apply Kept.drew) | exact HK.out)⟩, ⟨hB_⟩⟩
  case round =>
   clear H'
   try clear c1
   try clear p2
   obtain ⟨x0_1, x1_1, x5_1, rfl, rfl, HA, HK1, HO_0, HK, HB⟩ := hrel
   cases gk with
   | zero => exact absurd HA.out (by simp [laws_markIntS.l0])
   | succ k1 =>
    have H := HA.out; clear HA; simp only [laws_markIntS.l0] at H
    by_cases c3 : x5_1 < (x0_1.length : Int)
    ·rw [if_pos c3] at H
     have c3b0 : decide (x5_1 < (x0_1.length : Int)) = true := decide_eq_true c3
     clear c3
     by_cases c4 : 0 ≤ x5_1
     ·rw [if_pos c4] at H
      have c4b0 : decide (0 ≤ x5_1) = true := decide_eq_true c4
      clear c4
      obtain ⟨y431, hy431⟩ : ∃ y_ : List Int, y_ = (x0_1.set (x5_1 : Int).toNat x1_1) := ⟨_, rfl⟩
      replace H : (laws_markIntS.l0 k1 y431 (wrap64 (x1_1 + 1)) (wrap64 (x5_1 + 1))) = some (r1, r2) := by first | (rw [hy431]; with_reducible exact H) | (have H2_ := (Option.bind_some _ _).symm.trans H; rw [hy431]; with_reducible exact H2_) | (have H2_ := (Option.bind_some _ _).symm.trans H; with_reducible exact H2_) | with_reducible exact H | (rw [hy431]; exact H) | exact H
      have Ny431 := Qx hy431; clear hy431; have H' := Qx H; clear H; obtain ⟨Ao6, co6, eo6⟩ := Kd.R_slice HO_0.out; subst eo6
      have p5 : 0 ≤ (x5_1 : Int) := of_decide_eq_true as_
      have q5 : (x5_1 : Int) < ((x0_1.length : Int) : Int) := of_decide_eq_true as_
      obtain ⟨go5, co5, eo5, gb5, gl5, cl5, HG5⟩ := Kd.R_form HO_0.out (by omega)
      (first | cases eo5 | (injection eo5 with ea_ en_ ec_; (first | subst ea_ | (injection ea_ with ea_; subst ea_)); subst ec_; clear en_))
      have GB5 := Qx gb5; have GG5 := Qx HG5; clear gb5 gl5 HG5
      have HMgo5 := Qx (show (P0_ go5 ∨ w.heap.size ≤ go5) from (HO_0.out.1 _ rfl))
      obtain ⟨hx5_0, hf5_0⟩ := Kd.R_celln 0 HO_0.out (x5_1 : Int) p5 q5
      replace p5 := eq_true p5; replace q5 := eq_true q5
      have HP7 := Kd.R_putg HO_0.out (x5_1 : Int) x1_1
      go_wp2_with (first | ((with_reducible refine gate_store (t := 3) (p := 15) rfl ?_); refine store_event (t := 3) (p := 15) (v := ?vo_w8) (w1 := (wr.setCell ⟨go5, (x5_1 : Int).toNat, none⟩ (.int .i64 x1_1))) ?hg ?ho ?hn ?hr ?_; (case ho => rfl); (case hg => rfl); (case hn => rfl); (case hr => first | (go_simp; done) | (go_simp; rfl)); intro w8 hw; have hg : wr.grownBy w8 (some go5) := (by rw [hw]; exact HP7.2); have hp_ : Kd.R (Kd.int .i64) 3 w8 w0.heap.size (fun k_ => (P0_ k_ ∨ w.heap.size ≤ k_)) (.slice (some ⟨go5, 0, none⟩) x0_1.length co6) y431 := (by rw [hw, Ny431.out]; exact HP7.1); clear HP7; replace HB := Qx ((by rw [hw]; exact below_set (HB.out) GB5.out : Below w0.heap.size w0 w8)); replace HK := Qx (Kept.of_grown (S := (fun k_ => P0_ k_)) hg (by repeat (first | (with_reducible first | exact HK.out | apply Kept.alloc | apply Kept.drewN | apply Kept.drew) | exact HK.out)) (fun k_ e_ => (HO_0.out.1 k_ e_))); replace HO_0 := Qx (hp_); clear hg hw hp_))
      go_roundg k1
      case measure => have := HK1.out; omega
      case rel => exact ⟨(y431), (wrap64 (x1_1 + 1)), (wrap64 (x5_1 + 1)), rg_, rg_, H', ⟨by have := HK1.out; omega⟩, ⟨kR_ HO_0⟩, ⟨by repeat (first | (with_reducible first | exact HK.out | apply Kept.alloc | apply Kept.drewN | apply Kept.drew) | exact HK.out)⟩, ⟨hB_⟩⟩
     ·rw [if_neg c4] at H
      exact absurd H (by simp)
    ·rw [if_neg c3] at H
     have c3b0 : decide (x5_1 < (x0_1.length : Int)) = false := decide_eq_false c3
     clear c3; simp only [Option.some.injEq, Prod.mk.injEq] at H; obtain ⟨rfl, rfl⟩ := H; obtain ⟨Ao9, co9, eo9⟩ := Kd.R_slice HO_0.out; subst eo9
     go_wp2
     go_ret
     exact ⟨rf_, kR_ HO_0, hB_, by repeat (first | (with_reducible first | exact HK.out | apply Kept.alloc | apply Kept.drewN | apply Kept.drew) | exact HK.out)⟩
/-! ### laws_markBits: function 26 -/
def laws_markBits.f (k : Nat) (a0_0 : Int) (l0_1 : List Int) (a1 : Int) : Option (Int × List Int) := (laws_markIntS.f k l0_1 a1).bind fun bt433 => (some (bt433.1, bt433.2))
theorem laws_markBits.mono : ∀ a0 a1 a2 k, LeO (laws_markBits.f k a0 a1 a2) (laws_markBits.f (k + 1) a0 a1 a2) := by
  intro a0 a1 a2 k
  unfold laws_markBits.f
  repeat' first
      | (with_reducible exact laws_markIntS.mono _ _ _)
      | (with_reducible exact LeO.refl _)
      | (with_reducible exact LeO.none _)
      | (with_reducible refine LeO.ite ?_ ?_)
      | (with_reducible refine LeO.bind ?_ (fun _ => ?_))
      | exact laws_markIntS.mono _ _ _
      | exact LeO.none _
      | refine LeO.ite ?_ ?_
      | refine LeO.bind ?_ (fun _ => ?_)
noncomputable def laws_markBits.F (a0_0 : Int) (l0_1 : List Int) (a1 : Int) : Option (Int × List Int) := lim fun k => laws_markBits.f k a0_0 l0_1 a1
theorem laws_markBits.F_sup (a0_0 : Int) (l0_1 : List Int) (a1 : Int) : Sup (fun k => laws_markBits.f k a0_0 l0_1 a1) (laws_markBits.F a0_0 l0_1 a1) := Sup.of_mono fun k => laws_markBits.mono a0_0 l0_1 a1 k
theorem laws_markBits.F_eq (a0_0 : Int) (l0_1 : List Int) (a1 : Int) : laws_markBits.F a0_0 l0_1 a1 = (laws_markIntS.F l0_1 a1).bind fun bt433 => (some (bt433.1, bt433.2)) := by
  refine Sup.unique (laws_markBits.F_sup a0_0 l0_1 a1) (Sup.congr (g' := fun k => (laws_markIntS.f k l0_1 a1).bind fun bt433 => (some (bt433.1, bt433.2))) (fun k => by first | rfl | simp only [laws_markBits.f]) ?_)
  repeat' first
    | (with_reducible exact laws_markIntS.F_sup _ _)
    | (with_reducible refine Sup.ite ?_ ?_)
    | (with_reducible refine Sup.bind ?_ (fun _ => ?_))
    | (with_reducible exact Sup.const _)
    | exact laws_markIntS.F_sup _ _
    | exact Sup.const _
set_option maxHeartbeats 8000000 in
set_option maxRecDepth 100000 in
theorem laws_markBits.calls (k : Nat) (a0_0 : Int) (P0_1_ : Nat → Prop) (u9000_ : Value) (l0_1 : List Int) (a1 : Int) (r1 : Int) (r2 : List Int) (w0 w : World) (hB : Below w0.heap.size w0 w) (ho0_1 : Kd.R (Kd.int .i64) 3 w w0.heap.size P0_1_ u9000_ l0_1) (h : laws_markBits.f k a0_0 l0_1 a1 = some (r1, r2)) :
    Calls Try.prog 26 #[.agg #[.int .i64 a0_0, u9000_], .int .i64 a1] w fun e w' => e = .returned (.int .i64 r1) ∧ Kd.R (Kd.int .i64) 3 w' w0.heap.size (fun k_ => (P0_1_ k_ ∨ w.heap.size ≤ k_)) u9000_ r2 ∧ Below w0.heap.size w0 w' ∧ Kept w w' (fun k_ => P0_1_ k_) := by
  have hu30 := Try.underlying30; have hu22 := Try.underlying22
  have HO0_1 := Qx (show Kd.R (Kd.int .i64) 3 w w0.heap.size (fun k_ => (P0_1_ k_ ∨ w.heap.size ≤ k_)) u9000_ l0_1 from Kd.R_mono ho0_1 (fun k_ hk => (.inl hk)))
  have HK := Qx (Kept.refl w (fun k_ => P0_1_ k_))
  have HW0 := Qx hB.size; have HB := Qx hB; clear hB
  have H : ((laws_markIntS.f k l0_1 a1).bind fun bt433 => (some (bt433.1, bt433.2))) = some (r1, r2) := h
  clear h; replace H := Option.bind_eq_some_iff.mp H; obtain ⟨⟨t433, t434⟩, A30, H⟩ := H
  have A3 := Qx A30; clear A30; simp only [Option.some.injEq, Prod.mk.injEq] at H; obtain ⟨rfl, rfl⟩ := H; obtain ⟨Ao4, co4, eo4⟩ := Kd.R_slice HO0_1.out; subst eo4
  go_enter Try.func26, Try.ntmps26
  go_wp2_with (first | ((with_reducible refine gate_dst (N := 2) rfl ?_); refine bx_ 2 #[.int .i64 a0_0, .slice Ao4 l0_1.length co4] 30 ?_; intro gb432 hg w5 hbox hb; replace HO0_1 := Qx (Kd.R_below (kR_ HO0_1) hb); have BK432 := Qx (hbox); have GW432 := Qx ((by rw [hg]; exact (by first | exact HK.out.1 | exact (show Kept w _ (fun k_ => P0_1_ k_) from by repeat (first | (with_reducible first | exact HK.out | apply Kept.alloc | apply Kept.drewN | apply Kept.drew) | exact HK.out)).1) : w.heap.size ≤ gb432)); replace HK := Qx (Kept.below (S := (fun k_ => P0_1_ k_)) (by repeat (first | (with_reducible first | exact HK.out | apply Kept.alloc | apply Kept.drewN | apply Kept.drew) | exact HK.out)) hb); have GE432 := Qx ((by rw [hg]; exact (below_size hB_) : w0.heap.size ≤ gb432)); replace HB := Qx (Qp hB_ hb); clear hb hbox hg; obtain ⟨hcz6_0, hcz6_1, hfz6_0, hfz6_1⟩ := cellsQ2_g1g (w := w5) BK432.out) | ((with_reducible refine gate_callee (f := 11) rfl ?_); refine gl_ 8 Try.func11 #[.slice Ao4 l0_1.length co4, .int .i64 a1] ?_; (with_reducible refine (laws_markIntS.calls k (fun k_ => some k_ = (.slice Ao4 l0_1.length co4 : Value).ownBlock) (.slice Ao4 l0_1.length co4) l0_1 a1 t433 t434 w0 _ ?side1 ?side2 A3.out).mono ?_); (case side1 => exact hB_); (case side2 => exact Kd.R_tight rfl HO0_1.out); rintro e w7 ⟨rfl, hy0, hb, hkp⟩; refine ⟨_, rfl, ?_⟩; replace BK432 := Qx (blk_kept (kB_ BK432) hkp (fun hs_ => (fun e_ => (Kd.R_ne HO0_1.out BK432.out (by decide)) e_) hs_)); replace HK := Qx (Kept.then_ (S := (fun k_ => P0_1_ k_)) (by repeat (first | (with_reducible first | exact HK.out | apply Kept.alloc | apply Kept.drewN | apply Kept.drew | refine Kept.setCell ?_ (.inr GW432.out) _) | exact HK.out)) hkp (fun k_ hs_ => (fun e_ => (HO0_1.out.1 k_ e_.symm)) hs_)); replace HO0_1 := Qx (Kd.R_reok rfl hy0 (fun k_ e_ => HO0_1.out.1 k_ e_)); replace HB := Qx (hb); (try clear hb); (try clear hkp); (try clear hy0)))
  go_ret
  exact ⟨rf_, kR_ HO0_1, hB_, by repeat (first | (with_reducible first | exact HK.out | apply Kept.alloc | apply Kept.drewN | apply Kept.drew | refine Kept.setCell ?_ (.inr GW432.out) _) | exact HK.out)⟩
/-! ### laws_markSparse: function 10 -/
def laws_markSparse.f (k : Nat) (a0_0 : Int) (a0_1 : Int) (a0_2 : Int) (a0_3 : Int) (l0_4 : List Int) (a0_5 : Int) (l0_6 : List Int) (a1 : Int) : Option (Int × List Int × List Int) := (laws_markBits.f k a0_3 l0_4 a1).bind fun bt436 => ((laws_markBits.f k a0_5 l0_6 bt436.1).bind fun bt438 => (some (bt438.1, bt436.2, bt438.2)))
theorem laws_markSparse.mono : ∀ a0 a1 a2 a3 a4 a5 a6 a7 k, LeO (laws_markSparse.f k a0 a1 a2 a3 a4 a5 a6 a7) (laws_markSparse.f (k + 1) a0 a1 a2 a3 a4 a5 a6 a7) := by
  intro a0 a1 a2 a3 a4 a5 a6 a7 k
  unfold laws_markSparse.f
  repeat' first
      | (with_reducible exact laws_markBits.mono _ _ _ _)
      | (with_reducible exact LeO.refl _)
      | (with_reducible exact LeO.none _)
      | (with_reducible refine LeO.ite ?_ ?_)
      | (with_reducible refine LeO.bind ?_ (fun _ => ?_))
      | exact laws_markBits.mono _ _ _ _
      | exact LeO.none _
      | refine LeO.ite ?_ ?_
      | refine LeO.bind ?_ (fun _ => ?_)
noncomputable def laws_markSparse.F (a0_0 : Int) (a0_1 : Int) (a0_2 : Int) (a0_3 : Int) (l0_4 : List Int) (a0_5 : Int) (l0_6 : List Int) (a1 : Int) : Option (Int × List Int × List Int) := lim fun k => laws_markSparse.f k a0_0 a0_1 a0_2 a0_3 l0_4 a0_5 l0_6 a1
theorem laws_markSparse.F_sup (a0_0 : Int) (a0_1 : Int) (a0_2 : Int) (a0_3 : Int) (l0_4 : List Int) (a0_5 : Int) (l0_6 : List Int) (a1 : Int) : Sup (fun k => laws_markSparse.f k a0_0 a0_1 a0_2 a0_3 l0_4 a0_5 l0_6 a1) (laws_markSparse.F a0_0 a0_1 a0_2 a0_3 l0_4 a0_5 l0_6 a1) := Sup.of_mono fun k => laws_markSparse.mono a0_0 a0_1 a0_2 a0_3 l0_4 a0_5 l0_6 a1 k
theorem laws_markSparse.F_eq (a0_0 : Int) (a0_1 : Int) (a0_2 : Int) (a0_3 : Int) (l0_4 : List Int) (a0_5 : Int) (l0_6 : List Int) (a1 : Int) : laws_markSparse.F a0_0 a0_1 a0_2 a0_3 l0_4 a0_5 l0_6 a1 = (laws_markBits.F a0_3 l0_4 a1).bind fun bt436 => ((laws_markBits.F a0_5 l0_6 bt436.1).bind fun bt438 => (some (bt438.1, bt436.2, bt438.2))) := by
  refine Sup.unique (laws_markSparse.F_sup a0_0 a0_1 a0_2 a0_3 l0_4 a0_5 l0_6 a1) (Sup.congr (g' := fun k => (laws_markBits.f k a0_3 l0_4 a1).bind fun bt436 => ((laws_markBits.f k a0_5 l0_6 bt436.1).bind fun bt438 => (some (bt438.1, bt436.2, bt438.2)))) (fun k => by first | rfl | simp only [laws_markSparse.f]) ?_)
  repeat' first
    | (with_reducible exact laws_markBits.F_sup _ _ _)
    | (with_reducible refine Sup.ite ?_ ?_)
    | (with_reducible refine Sup.bind ?_ (fun _ => ?_))
    | (with_reducible exact Sup.const _)
    | exact laws_markBits.F_sup _ _ _
    | exact Sup.const _
set_option maxHeartbeats 8000000 in
set_option maxRecDepth 100000 in
theorem laws_markSparse.calls (k : Nat) (a0_0 : Int) (a0_1 : Int) (a0_2 : Int) (a0_3 : Int) (P0_4_ : Nat → Prop) (u9000_ : Value) (l0_4 : List Int) (a0_5 : Int) (P0_6_ : Nat → Prop) (u9001_ : Value) (l0_6 : List Int) (a1 : Int) (r1 : Int) (r2 : List Int) (r3 : List Int) (w0 w : World) (hB : Below w0.heap.size w0 w) (ho0_4 : Kd.R (Kd.int .i64) 3 w w0.heap.size P0_4_ u9000_ l0_4) (hp0_4_0_6 : ∀ k_, P0_4_ k_ → ¬ P0_6_ k_) (ho0_6 : Kd.R (Kd.int .i64) 3 w w0.heap.size P0_6_ u9001_ l0_6) (hp0_6_0_4 : ∀ k_, P0_6_ k_ → ¬ P0_4_ k_) (h : laws_markSparse.f k a0_0 a0_1 a0_2 a0_3 l0_4 a0_5 l0_6 a1 = some (r1, r2, r3)) :
    Calls Try.prog 10 #[.agg #[.int .i64 a0_0, .int .i64 a0_1, .int .i64 a0_2, .int .i64 a0_3, u9000_, .int .i64 a0_5, u9001_], .int .i64 a1] w fun e w' => e = .returned (.int .i64 r1) ∧ Kd.R (Kd.int .i64) 3 w' w0.heap.size (fun k_ => ((P0_4_ k_ ∨ P0_6_ k_) ∨ w.heap.size ≤ k_)) u9000_ r2 ∧ Kd.R (Kd.int .i64) 3 w' w0.heap.size (fun k_ => ((P0_4_ k_ ∨ P0_6_ k_) ∨ w.heap.size ≤ k_)) u9001_ r3 ∧ Below w0.heap.size w0 w' ∧ Kept w w' (fun k_ => P0_4_ k_ ∨ P0_6_ k_) := by
  have hu32 := Try.underlying32; have hu30 := Try.underlying30
  have HO0_4 := Qx (show Kd.R (Kd.int .i64) 3 w w0.heap.size (fun k_ => ((P0_4_ k_ ∨ P0_6_ k_) ∨ w.heap.size ≤ k_) ∧ some k_ ≠ (u9001_ : Value).ownBlock) u9000_ l0_4 from Kd.R_mono ho0_4 (fun k_ hk => ⟨(.inl (.inl hk)), fun e_ => hp0_4_0_6 k_ hk (ho0_6.1 k_ e_.symm)⟩))
  have HO0_6 := Qx (show Kd.R (Kd.int .i64) 3 w w0.heap.size (fun k_ => ((P0_4_ k_ ∨ P0_6_ k_) ∨ w.heap.size ≤ k_) ∧ some k_ ≠ (u9000_ : Value).ownBlock) u9001_ l0_6 from Kd.R_mono ho0_6 (fun k_ hk => ⟨(.inl (.inr hk)), fun e_ => hp0_6_0_4 k_ hk (ho0_4.1 k_ e_.symm)⟩))
  have HK := Qx (Kept.refl w (fun k_ => P0_4_ k_ ∨ P0_6_ k_))
  have HW0 := Qx hB.size; have HB := Qx hB; clear hB
  have H : ((laws_markBits.f k a0_3 l0_4 a1).bind fun bt436 => ((laws_markBits.f k a0_5 l0_6 bt436.1).bind fun bt438 => (some (bt438.1, bt436.2, bt438.2)))) = some (r1, r2, r3) := h
  clear h; replace H := Option.bind_eq_some_iff.mp H; obtain ⟨⟨t436, t437⟩, A30, H⟩ := H
  have A3 := Qx A30; clear A30; replace H := Option.bind_eq_some_iff.mp H; obtain ⟨⟨t438, t439⟩, A40, H⟩ := H
  have A4 := Qx A40; clear A40; simp only [Option.some.injEq, Prod.mk.injEq] at H; obtain ⟨rfl, rfl, rfl⟩ := H; obtain ⟨Ao5, co5, eo5⟩ := Kd.R_slice HO0_4.out; subst eo5; obtain ⟨Ao6, co6, eo6⟩ := Kd.R_slice HO0_6.out; subst eo6
  go_enter Try.func10, Try.ntmps10
  go_wp2_with (first | ((with_reducible refine gate_dst (N := 2) rfl ?_); refine bx_ 2 #[.int .i64 a0_0, .int .i64 a0_1, .int .i64 a0_2, .int .i64 a0_3, .slice Ao5 l0_4.length co5, .int .i64 a0_5, .slice Ao6 l0_6.length co6] 32 ?_; intro gb435 hg w7 hbox hb; replace HO0_4 := Qx (Kd.R_below (kR_ HO0_4) hb); replace HO0_6 := Qx (Kd.R_below (kR_ HO0_6) hb); have BK435 := Qx (hbox); have GW435 := Qx ((by rw [hg]; exact (by first | exact HK.out.1 | exact (show Kept w _ (fun k_ => P0_4_ k_ ∨ P0_6_ k_) from by repeat (first | (with_reducible first | exact HK.out | apply Kept.alloc | apply Kept.drewN | apply Kept.drew) | exact HK.out)).1) : w.heap.size ≤ gb435)); replace HK := Qx (Kept.below (S := (fun k_ => P0_4_ k_ ∨ P0_6_ k_)) (by repeat (first | (with_reducible first | exact HK.out | apply Kept.alloc | apply Kept.drewN | apply Kept.drew) | exact HK.out)) hb); have GE435 := Qx ((by rw [hg]; exact (below_size hB_) : w0.heap.size ≤ gb435)); replace HB := Qx (Qp hB_ hb); clear hb hbox hg; obtain ⟨hcz8_0, hcz8_1, hcz8_2, hcz8_3, hcz8_4, hcz8_5, hcz8_6, hfz8_0, hfz8_1, hfz8_2, hfz8_3, hfz8_4, hfz8_5, hfz8_6⟩ := cellsQ7_g1g (w := w7) BK435.out) | ((with_reducible refine gate_callee (f := 26) rfl ?_); refine gl_ 8 Try.func26 #[.agg #[.int .i64 a0_3, .slice Ao5 l0_4.length co5], .int .i64 a1] ?_; (with_reducible refine (laws_markBits.calls k a0_3 (fun k_ => some k_ = (.slice Ao5 l0_4.length co5 : Value).ownBlock) (.slice Ao5 l0_4.length co5) l0_4 a1 t436 t437 w0 _ ?side1 ?side2 A3.out).mono ?_); (case side1 => exact hB_); (case side2 => exact Kd.R_tight rfl HO0_4.out); rintro e w9 ⟨rfl, hy0, hb, hkp⟩; refine ⟨_, rfl, ?_⟩; replace HO0_6 := Qx (Kd.R_mono (ok' := fun k_ => ((P0_4_ k_ ∨ P0_6_ k_) ∨ w.heap.size ≤ k_) ∧ some k_ ≠ (.slice Ao5 l0_4.length co5 : Value).ownBlock) (Kd.R_keptB (HO0_6.out) hkp (fun k_ hk_ hs_ => (hk_.2) hs_)) (fun k_ hk_ => ⟨hk_.1.1, hk_.1.2⟩)); replace BK435 := Qx (blk_kept (kB_ BK435) hkp (fun hs_ => (fun e_ => (Kd.R_ne HO0_4.out BK435.out (by decide)) e_) hs_)); replace HK := Qx (Kept.then_ (S := (fun k_ => P0_4_ k_ ∨ P0_6_ k_)) (by repeat (first | (with_reducible first | exact HK.out | apply Kept.alloc | apply Kept.drewN | apply Kept.drew | refine Kept.setCell ?_ (.inr GW435.out) _) | exact HK.out)) hkp (fun k_ hs_ => (fun e_ => (HO0_4.out.1 k_ e_.symm).1) hs_)); replace HO0_4 := Qx (Kd.R_reok rfl hy0 (fun k_ e_ => HO0_4.out.1 k_ e_)); replace HB := Qx (hb); (try clear hb); (try clear hkp); (try clear hy0); obtain ⟨hcz10_0, hcz10_1, hcz10_2, hcz10_3, hcz10_4, hcz10_5, hcz10_6, hfz10_0, hfz10_1, hfz10_2, hfz10_3, hfz10_4, hfz10_5, hfz10_6⟩ := cellsQ7_g1g (w := w9) BK435.out) | ((with_reducible refine gate_callee (f := 26) rfl ?_); refine gl_ 12 Try.func26 #[.agg #[.int .i64 a0_5, .slice Ao6 l0_6.length co6], .int .i64 t436] ?_; (with_reducible refine (laws_markBits.calls k a0_5 (fun k_ => some k_ = (.slice Ao6 l0_6.length co6 : Value).ownBlock) (.slice Ao6 l0_6.length co6) l0_6 t436 t438 t439 w0 _ ?side1 ?side2 A4.out).mono ?_); (case side1 => exact hB_); (case side2 => exact Kd.R_tight rfl HO0_6.out); rintro e w11 ⟨rfl, hy0, hb, hkp⟩; refine ⟨_, rfl, ?_⟩; replace HO0_4 := Qx (Kd.R_mono (ok' := fun k_ => ((P0_4_ k_ ∨ P0_6_ k_) ∨ w.heap.size ≤ k_) ∧ some k_ ≠ (.slice Ao6 l0_6.length co6 : Value).ownBlock) (Kd.R_keptB (HO0_4.out) hkp (fun k_ hk_ hs_ => (hk_.2) hs_)) (fun k_ hk_ => ⟨hk_.1.1, hk_.1.2⟩)); replace BK435 := Qx (blk_kept (kB_ BK435) hkp (fun hs_ => (fun e_ => (Kd.R_ne HO0_6.out BK435.out (by decide)) e_) hs_)); replace HK := Qx (Kept.then_ (S := (fun k_ => P0_4_ k_ ∨ P0_6_ k_)) (by repeat (first | (with_reducible first | exact HK.out | apply Kept.alloc | apply Kept.drewN | apply Kept.drew | refine Kept.setCell ?_ (.inr GW435.out) _) | exact HK.out)) hkp (fun k_ hs_ => (fun e_ => (HO0_6.out.1 k_ e_.symm).1) hs_)); replace HO0_6 := Qx (Kd.R_reok rfl hy0 (fun k_ e_ => HO0_6.out.1 k_ e_)); replace HB := Qx (hb); (try clear hb); (try clear hkp); (try clear hy0)))
  go_ret
  exact ⟨rf_, by (with_reducible repeat (first | apply Kd.R_alloc | apply Kd.R_drewN | apply Kd.R_drew)); exact Kd.R_mono HO0_4.out (fun _ hk => hk.1), by (with_reducible repeat (first | apply Kd.R_alloc | apply Kd.R_drewN | apply Kd.R_drew)); exact Kd.R_mono HO0_6.out (fun _ hk => hk.1), hB_, by repeat (first | (with_reducible first | exact HK.out | apply Kept.alloc | apply Kept.drewN | apply Kept.drew | refine Kept.setCell ?_ (.inr GW435.out) _) | exact HK.out)⟩
/-! ### laws_heldIntS: function 12 -/
def laws_heldIntS.l0 : Nat → List Int → Int → Int → Option (Int)
  | 0, _, _, _ => none
  | k + 1, x0, x1, x5 => if x5 < (x0.length : Int) then (if 0 ≤ x5 then (if (rd x0 x5) = x1 then (laws_heldIntS.l0 k x0 (wrap64 (x1 + 1)) (wrap64 (x5 + 1))) else (some (-1))) else (none)) else (some x1)
def laws_heldIntS.f (k : Nat) (l0 : List Int) (a1 : Int) : Option (Int) := laws_heldIntS.l0 k l0 a1 0
theorem laws_heldIntS.mono_l : ∀ k, (∀ y0 y1 y2, LeO (laws_heldIntS.l0 k y0 y1 y2) (laws_heldIntS.l0 (k + 1) y0 y1 y2))
  | 0 => fun _ _ _ r h => by simp [laws_heldIntS.l0] at h
  | k + 1 => by
    have ih0 := laws_heldIntS.mono_l k
    · intro y0 y1 y2
      unfold laws_heldIntS.l0
      repeat' first
      | (with_reducible exact ih0 _ _ _)
      | (with_reducible exact LeO.refl _)
      | (with_reducible exact LeO.none _)
      | (with_reducible refine LeO.ite ?_ ?_)
      | (with_reducible refine LeO.bind ?_ (fun _ => ?_))
      | exact ih0 _ _ _
      | exact LeO.none _
      | refine LeO.ite ?_ ?_
      | refine LeO.bind ?_ (fun _ => ?_)
theorem laws_heldIntS.mono : ∀ a0 a1 k, LeO (laws_heldIntS.f k a0 a1) (laws_heldIntS.f (k + 1) a0 a1) := by
  intro a0 a1 k
  have ih0 := laws_heldIntS.mono_l k
  unfold laws_heldIntS.f
  repeat' first
      | (with_reducible exact ih0 _ _ _)
      | (with_reducible exact LeO.refl _)
      | (with_reducible exact LeO.none _)
      | (with_reducible refine LeO.ite ?_ ?_)
      | (with_reducible refine LeO.bind ?_ (fun _ => ?_))
      | exact ih0 _ _ _
      | exact LeO.none _
      | refine LeO.ite ?_ ?_
      | refine LeO.bind ?_ (fun _ => ?_)
noncomputable def laws_heldIntS.L0 (y0 : List Int) (y1 : Int) (y2 : Int) : Option (Int) := lim fun k => laws_heldIntS.l0 k y0 y1 y2
theorem laws_heldIntS.L0_sup (y0 : List Int) (y1 : Int) (y2 : Int) : Sup (fun k => laws_heldIntS.l0 k y0 y1 y2) (laws_heldIntS.L0 y0 y1 y2) := Sup.of_mono fun k => laws_heldIntS.mono_l k y0 y1 y2
noncomputable def laws_heldIntS.F (l0 : List Int) (a1 : Int) : Option (Int) := lim fun k => laws_heldIntS.f k l0 a1
theorem laws_heldIntS.F_sup (l0 : List Int) (a1 : Int) : Sup (fun k => laws_heldIntS.f k l0 a1) (laws_heldIntS.F l0 a1) := Sup.of_mono fun k => laws_heldIntS.mono l0 a1 k
theorem laws_heldIntS.L0_eq (x0 : List Int) (x1 : Int) (x5 : Int) : laws_heldIntS.L0 x0 x1 x5 = if x5 < (x0.length : Int) then (if 0 ≤ x5 then (if (rd x0 x5) = x1 then (laws_heldIntS.L0 x0 (wrap64 (x1 + 1)) (wrap64 (x5 + 1))) else (some (-1))) else (none)) else (some x1) := by
  refine Sup.unique (laws_heldIntS.L0_sup x0 x1 x5) (Sup.shift (fun k => laws_heldIntS.mono_l k x0 x1 x5) (Sup.congr (g' := fun k => if x5 < (x0.length : Int) then (if 0 ≤ x5 then (if (rd x0 x5) = x1 then (laws_heldIntS.l0 k x0 (wrap64 (x1 + 1)) (wrap64 (x5 + 1))) else (some (-1))) else (none)) else (some x1)) (fun k => by first | rfl | simp only [laws_heldIntS.l0]) ?_))
  repeat' first
    | (with_reducible exact laws_heldIntS.L0_sup _ _ _)
    | (with_reducible refine Sup.ite ?_ ?_)
    | (with_reducible refine Sup.bind ?_ (fun _ => ?_))
    | (with_reducible exact Sup.const _)
    | exact laws_heldIntS.L0_sup _ _ _
    | exact Sup.const _
theorem laws_heldIntS.F_eq (l0 : List Int) (a1 : Int) : laws_heldIntS.F l0 a1 = laws_heldIntS.L0 l0 a1 0 := by
  refine Sup.unique (laws_heldIntS.F_sup l0 a1) (Sup.congr (g' := fun k => laws_heldIntS.l0 k l0 a1 0) (fun k => by first | rfl | simp only [laws_heldIntS.f]) ?_)
  repeat' first
    | (with_reducible exact laws_heldIntS.L0_sup _ _ _)
    | (with_reducible refine Sup.ite ?_ ?_)
    | (with_reducible refine Sup.bind ?_ (fun _ => ?_))
    | (with_reducible exact Sup.const _)
    | exact laws_heldIntS.L0_sup _ _ _
    | exact Sup.const _
set_option maxHeartbeats 8000000 in
set_option maxRecDepth 100000 in
theorem laws_heldIntS.calls (k : Nat) (A0 : Option Addr) (c0 : Nat) (l0 : List Int) (a1 : Int) (r : Int) (w : World) (hr0 : Kd.C (Kd.int .i64) w A0 l0.length l0) (hc0 : l0.length ≤ c0) (h : laws_heldIntS.f k l0 a1 = some r) :
    Calls Try.prog 12 #[.slice A0 l0.length c0, .int .i64 a1] w fun e w' => e = .returned (.int .i64 r) ∧ Drawn0 w w' := by
  have HR0 := Qx hr0; have HC0 := Qx hc0; clear hr0 hc0
  have H : (laws_heldIntS.l0 k l0 a1 0) = some r := h
  clear h; have H' := Qx H; clear H
  go_enter Try.func12, Try.ntmps12
  go_wp2
  go_loopg [1, 5] k (fun kq v1 v5 w' => ∃ (x1_1 : Int) (x5_1 : Int), v1 = .int .i64 x1_1 ∧ v5 = .int .i64 x5_1 ∧ Aside0 (laws_heldIntS.l0 kq l0 x1_1 x5_1 = some r) ∧ Aside0 (kq ≤ k) ∧ Drawn0 w w')
  case atStart => exact ⟨(a1), (0), rg_, rg_, H', ⟨Nat.le_refl _⟩, by repeat (first | exact Drawn0.refl _ | apply Drawn0.step)⟩
  case round =>
   clear H'
   try clear c1
   try clear p2
   obtain ⟨x1_1, x5_1, rfl, rfl, HA, HK1, ⟨m1, rfl⟩⟩ := hrel
   cases gk with
   | zero => exact absurd HA.out (by simp [laws_heldIntS.l0])
   | succ k1 =>
    have H := HA.out; clear HA; simp only [laws_heldIntS.l0] at H
    by_cases c3 : x5_1 < (l0.length : Int)
    ·rw [if_pos c3] at H
     have c3b0 : decide (x5_1 < (l0.length : Int)) = true := decide_eq_true c3
     clear c3
     by_cases c4 : 0 ≤ x5_1
     ·rw [if_pos c4] at H
      have c4b0 : decide (0 ≤ x5_1) = true := decide_eq_true c4
      clear c4
      by_cases c5 : (rd l0 x5_1) = x1_1
      ·rw [if_pos c5] at H
       have c5b0 : ((rd l0 x5_1) == x1_1) = true := beq_iff_eq.mpr c5
       have c5b1 : ((rd l0 x5_1) != x1_1) = false := bne_eq_false_iff_eq.mpr c5
       clear c5; have H' := Qx H; clear H
       have p440 : 0 ≤ (x5_1 : Int) := of_decide_eq_true as_
       have q440 : x5_1 < (l0.length : Int) := of_decide_eq_true as_
       obtain ⟨ad440, e440, hx440_0⟩ := Kd.at_int HR0.out x5_1 p440 q440
       cases e440
       replace p440 := eq_true p440; replace q440 := eq_true q440
       go_wp2
       go_roundg k1
       case measure => have := HK1.out; omega
       case rel => exact ⟨(wrap64 (x1_1 + 1)), (wrap64 (x5_1 + 1)), rg_, rg_, H', ⟨by have := HK1.out; omega⟩, by repeat (first | exact Drawn0.refl _ | apply Drawn0.step)⟩
      ·rw [if_neg c5] at H
       have c5b0 : ((rd l0 x5_1) == x1_1) = false := beq_eq_false_iff_ne.mpr c5
       have c5b1 : ((rd l0 x5_1) != x1_1) = true := bne_iff_ne.mpr c5
       obtain rfl := Option.some.inj H
       have p440 : 0 ≤ (x5_1 : Int) := of_decide_eq_true as_
       have q440 : x5_1 < (l0.length : Int) := of_decide_eq_true as_
       obtain ⟨ad440, e440, hx440_0⟩ := Kd.at_int HR0.out x5_1 p440 q440
       cases e440
       replace p440 := eq_true p440; replace q440 := eq_true q440
       go_wp2
       go_ret
       exact ⟨rg_, by repeat (first | exact Drawn0.refl _ | apply Drawn0.step)⟩
     ·rw [if_neg c4] at H
      exact absurd H (by simp)
    ·rw [if_neg c3] at H
     have c3b0 : decide (x5_1 < (l0.length : Int)) = false := decide_eq_false c3
     clear c3; obtain rfl := Option.some.inj H
     go_wp2
     go_ret
     exact ⟨rg_, by repeat (first | exact Drawn0.refl _ | apply Drawn0.step)⟩
end Go.Proofs.Ytcjhnpbehkfknaa.X
