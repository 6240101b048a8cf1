/- Written by a program of this session: what functions of the given program compute, and that their calls do so. -/
import Derived.Test.YtcjhnpbehkfknaaXx0
import Derived.Test.YtcjhnpbehkfknaaXs
namespace Go.Proofs.Ytcjhnpbehkfknaa.X
open Go.RowKit Go.Proofs.YtcjhnpbehkfknaaW.PrintWords Go.Proofs.YtcjhnpbehkfknaaW.PrintLast Go.Proofs.YtcjhnpbehkfknaaW.PrintMore
theorem cellsQ2_g1a {w : World} {g : Nat} {t : TypeId} {a0 a1 : Value} (k : w.heap[g]? = some (.cells #[a0, a1] t (0, 0))) : w.cell? ⟨g, 0, none⟩ = some a0 ∧ w.cell? ⟨g, 1, none⟩ = some a1 ∧ w.frozen? ⟨g, 0, none⟩ = false ∧ w.frozen? ⟨g, 1, none⟩ = false := ⟨(blk_cell k 0).trans rfl, (blk_cell k 1).trans rfl, blk_frozen k 0, blk_frozen k 1⟩
theorem cellsQ7_g1a {w : World} {g : Nat} {t : TypeId} {a0 a1 a2 a3 a4 a5 a6 : Value} (k : w.heap[g]? = some (.cells #[a0, a1, a2, a3, a4, a5, a6] t (0, 0))) : w.cell? ⟨g, 0, none⟩ = some a0 ∧ w.cell? ⟨g, 1, none⟩ = some a1 ∧ w.cell? ⟨g, 2, none⟩ = some a2 ∧ w.cell? ⟨g, 3, none⟩ = some a3 ∧ w.cell? ⟨g, 4, none⟩ = some a4 ∧ w.cell? ⟨g, 5, none⟩ = some a5 ∧ w.cell? ⟨g, 6, none⟩ = some a6 ∧ w.frozen? ⟨g, 0, none⟩ = false ∧ w.frozen? ⟨g, 1, none⟩ = false ∧ w.frozen? ⟨g, 2, none⟩ = false ∧ w.frozen? ⟨g, 3, none⟩ = false ∧ w.frozen? ⟨g, 4, none⟩ = false ∧ w.frozen? ⟨g, 5, none⟩ = false ∧ w.frozen? ⟨g, 6, none⟩ = false := ⟨(blk_cell k 0).trans rfl, (blk_cell k 1).trans rfl, (blk_cell k 2).trans rfl, (blk_cell k 3).trans rfl, (blk_cell k 4).trans rfl, (blk_cell k 5).trans rfl, (blk_cell k 6).trans rfl, blk_frozen k 0, blk_frozen k 1, blk_frozen k 2, blk_frozen k 3, blk_frozen k 4, blk_frozen k 5, blk_frozen k 6⟩
theorem farsQ2_g1a {τ : Type} {d : Kd τ} {e : Nat} {w : World} {base g : Nat} {ok : Nat → Prop} {v : Value} {xs : List τ} (h : d.R e w base ok v xs) (hok : ∀ k, ok k → k ≠ g) (u0 u1 : Value) : d.R e ((w.setCell ⟨g, 0, none⟩ u0).setCell ⟨g, 1, none⟩ u1) base ok v xs := Kd.R_far (p := ⟨g, 1, none⟩) (Kd.R_far (p := ⟨g, 0, none⟩) h hok u0) hok u1
open Go.Proofs.YtcjhnpbehkfknaaW.PrintWords renaming blk_cell → Qc, blk_alloc → Qk, blk_drewN → Qm, blk_drew → Qw, below_step → Qp, blk_below → Qb
open Go.Proofs.YtcjhnpbehkfknaaW.PrintWords.Aside0 renaming mk → Qx
attribute [local go_sem] max2_int min2_int max_two min_two max_three min_three max_four min_four   -- for this text's walks alone
set_option linter.unusedVariables false
set_option linter.unusedSimpArgs false
/-! ### laws_szIntS: function 27 -/
def laws_szIntS.f (l0 : List Int) (a1 : Int) : Option (Int) := if (wrap64 (a1 - (l0.length : Int))) < 0 then (some (-1)) else (some (wrap64 (a1 - (l0.length : Int))))
set_option maxHeartbeats 8000000 in
set_option maxRecDepth 100000 in
theorem laws_szIntS.calls (A0 : Option Addr) (c0 : Nat) (l0 : List Int) (a1 : Int) (r : Int) (w : World) (hr0 : Kd.C (Kd.int .i64) w A0 l0.length l0) (hc0 : l0.length ≤ c0) (h : laws_szIntS.f l0 a1 = some r) :
    Calls Try.prog 27 #[.slice A0 l0.length c0, .int .i64 a1] w fun e w' => e = .returned (.int .i64 r) ∧ Drawn0 w w' := by
  have HR0 := Qx hr0; have HC0 := Qx hc0; clear hr0 hc0
  have H : (if (wrap64 (a1 - (l0.length : Int))) < 0 then (some (-1)) else (some (wrap64 (a1 - (l0.length : Int))))) = some r := h
  clear h
  by_cases c3 : (wrap64 (a1 - (l0.length : Int))) < 0
  ·rw [if_pos c3] at H
   have c3b0 : decide ((wrap64 (a1 - (l0.length : Int))) < 0) = true := decide_eq_true c3
   clear c3; obtain rfl := Option.some.inj H
   go_enter Try.func27, Try.ntmps27
   go_wp2
   go_ret
   exact ⟨rg_, by repeat (first | exact Drawn0.refl _ | apply Drawn0.step)⟩
  ·rw [if_neg c3] at H
   have c3b0 : decide ((wrap64 (a1 - (l0.length : Int))) < 0) = false := decide_eq_false c3
   clear c3; obtain rfl := Option.some.inj H
   go_enter Try.func27, Try.ntmps27
   go_wp2
   go_ret
   exact ⟨rg_, by repeat (first | exact Drawn0.refl _ | apply Drawn0.step)⟩
/-! ### laws_szBits: function 13 -/
def laws_szBits.f (a0_0 : Int) (l0_1 : List Int) (a1 : Int) : Option (Int) := (laws_szIntS.f l0_1 a1).bind fun t102 => (if t102 < 0 then (some (-1)) else (some t102))
set_option maxHeartbeats 8000000 in
set_option maxRecDepth 100000 in
theorem laws_szBits.calls (a0_0 : Int) (A0_1 : Option Addr) (c0_1 : Nat) (l0_1 : List Int) (a1 : Int) (r : Int) (w : World) (hr0_1 : Kd.C (Kd.int .i64) w A0_1 l0_1.length l0_1) (hc0_1 : l0_1.length ≤ c0_1) (h : laws_szBits.f a0_0 l0_1 a1 = some r) :
    Calls Try.prog 13 #[.agg #[.int .i64 a0_0, .slice A0_1 l0_1.length c0_1], .int .i64 a1] w fun e w' => e = .returned (.int .i64 r) ∧ Below w.heap.size w w' := by
  have hu24 := Try.underlying24; have hu22 := Try.underlying22; have HR0_1 := Qx hr0_1; have HC0_1 := Qx hc0_1; clear hr0_1 hc0_1
  have HB := Qx (Below.refl w.heap.size w)
  have H : ((laws_szIntS.f l0_1 a1).bind fun t102 => (if t102 < 0 then (some (-1)) else (some t102))) = some r := h
  clear h; replace H := Option.bind_eq_some_iff.mp H; obtain ⟨t102, A30, H⟩ := H
  have A3 := Qx A30; clear A30
  by_cases c4 : t102 < 0
  ·rw [if_pos c4] at H
   have c4b0 : decide (t102 < 0) = true := decide_eq_true c4
   clear c4; obtain rfl := Option.some.inj H
   go_enter Try.func13, Try.ntmps13
   go_wp2_with (first | ((with_reducible refine gate_dst (N := 2) rfl ?_); refine bx_ 2 #[.int .i64 a0_0, .slice A0_1 l0_1.length c0_1] 24 ?_; intro gb101 hg w5 hbox hb; have BK101 := Qx (hbox); have GW101 := Qx ((ge_ hg)); have GE101 := Qx ((ge_ hg)); replace HB := Qx (Qp hB_ hb); clear hb hbox hg; obtain ⟨hcz6_0, hcz6_1, hfz6_0, hfz6_1⟩ := cellsQ2_g1a (w := w5) BK101.out) | ((with_reducible refine gate_callee (f := 27) rfl ?_); refine gl_ 8 Try.func27 #[.slice A0_1 l0_1.length c0_1, .int .i64 a1] ?_; (with_reducible refine (laws_szIntS.calls _ _ l0_1 a1 t102 _ ?side1 ?side2 A3.out).mono ?_); (case side1 => exact kC_ HR0_1); (case side2 => exact HC0_1.out); rintro e w' ⟨rfl, ⟨nd, rfl⟩⟩; refine ⟨_, rfl, ?_⟩))
   go_ret
   exact ⟨rf_, hB_⟩
  ·rw [if_neg c4] at H
   have c4b0 : decide (t102 < 0) = false := decide_eq_false c4
   clear c4; obtain rfl := Option.some.inj H
   go_enter Try.func13, Try.ntmps13
   go_wp2_with (first | ((with_reducible refine gate_dst (N := 2) rfl ?_); refine bx_ 2 #[.int .i64 a0_0, .slice A0_1 l0_1.length c0_1] 24 ?_; intro gb101 hg w7 hbox hb; have BK101 := Qx (hbox); have GW101 := Qx ((ge_ hg)); have GE101 := Qx ((ge_ hg)); replace HB := Qx (Qp hB_ hb); clear hb hbox hg; obtain ⟨hcz8_0, hcz8_1, hfz8_0, hfz8_1⟩ := cellsQ2_g1a (w := w7) BK101.out) | ((with_reducible refine gate_callee (f := 27) rfl ?_); refine gl_ 8 Try.func27 #[.slice A0_1 l0_1.length c0_1, .int .i64 a1] ?_; (with_reducible refine (laws_szIntS.calls _ _ l0_1 a1 t102 _ ?side1 ?side2 A3.out).mono ?_); (case side1 => exact kC_ HR0_1); (case side2 => exact HC0_1.out); rintro e w' ⟨rfl, ⟨nd, rfl⟩⟩; refine ⟨_, rfl, ?_⟩))
   go_ret
   exact ⟨rf_, hB_⟩
/-! ### laws_szSparse: function 4 -/
def laws_szSparse.f (a0_0 : Int) (a0_1 : Int) (a0_2 : Int) (a0_3 : Int) (l0_4 : List Int) (a0_5 : Int) (l0_6 : List Int) (a1 : Int) : Option (Int) := (laws_szBits.f a0_3 l0_4 a1).bind fun t104 => (if t104 < 0 then (some (-1)) else ((laws_szBits.f a0_5 l0_6 t104).bind fun t105 => (if t105 < 0 then (some (-1)) else (some t105))))
set_option maxHeartbeats 8000000 in
set_option maxRecDepth 100000 in
theorem laws_szSparse.calls (a0_0 : Int) (a0_1 : Int) (a0_2 : Int) (a0_3 : Int) (A0_4 : Option Addr) (c0_4 : Nat) (l0_4 : List Int) (a0_5 : Int) (A0_6 : Option Addr) (c0_6 : Nat) (l0_6 : List Int) (a1 : Int) (r : Int) (w : World) (hr0_4 : Kd.C (Kd.int .i64) w A0_4 l0_4.length l0_4) (hc0_4 : l0_4.length ≤ c0_4) (hr0_6 : Kd.C (Kd.int .i64) w A0_6 l0_6.length l0_6) (hc0_6 : l0_6.length ≤ c0_6) (h : laws_szSparse.f a0_0 a0_1 a0_2 a0_3 l0_4 a0_5 l0_6 a1 = some r) :
    Calls Try.prog 4 #[.agg #[.int .i64 a0_0, .int .i64 a0_1, .int .i64 a0_2, .int .i64 a0_3, .slice A0_4 l0_4.length c0_4, .int .i64 a0_5, .slice A0_6 l0_6.length c0_6], .int .i64 a1] w fun e w' => e = .returned (.int .i64 r) ∧ Below w.heap.size w w' := by
  have hu26 := Try.underlying26; have hu24 := Try.underlying24; have HR0_4 := Qx hr0_4; have HC0_4 := Qx hc0_4; clear hr0_4 hc0_4; have HR0_6 := Qx hr0_6; have HC0_6 := Qx hc0_6; clear hr0_6 hc0_6
  have HB := Qx (Below.refl w.heap.size w)
  have H : ((laws_szBits.f a0_3 l0_4 a1).bind fun t104 => (if t104 < 0 then (some (-1)) else ((laws_szBits.f a0_5 l0_6 t104).bind fun t105 => (if t105 < 0 then (some (-1)) else (some t105))))) = some r := h
  clear h; replace H := Option.bind_eq_some_iff.mp H; obtain ⟨t104, A30, H⟩ := H
  have A3 := Qx A30; clear A30
  by_cases c4 : t104 < 0
  ·rw [if_pos c4] at H
   have c4b0 : decide (t104 < 0) = true := decide_eq_true c4
   clear c4; obtain rfl := Option.some.inj H
   go_enter Try.func4, Try.ntmps4
   go_wp2_with (first | ((with_reducible refine gate_dst (N := 2) rfl ?_); refine bx_ 2 #[.int .i64 a0_0, .int .i64 a0_1, .int .i64 a0_2, .int .i64 a0_3, .slice A0_4 l0_4.length c0_4, .int .i64 a0_5, .slice A0_6 l0_6.length c0_6] 26 ?_; intro gb103 hg w5 hbox hb; have BK103 := Qx (hbox); have GW103 := Qx ((ge_ hg)); have GE103 := Qx ((ge_ hg)); replace HB := Qx (Qp hB_ hb); clear hb hbox hg; obtain ⟨hcz6_0, hcz6_1, hcz6_2, hcz6_3, hcz6_4, hcz6_5, hcz6_6, hfz6_0, hfz6_1, hfz6_2, hfz6_3, hfz6_4, hfz6_5, hfz6_6⟩ := cellsQ7_g1a (w := w5) BK103.out) | ((with_reducible refine gate_callee (f := 13) rfl ?_); refine gl_ 8 Try.func13 #[.agg #[.int .i64 a0_3, .slice A0_4 l0_4.length c0_4], .int .i64 a1] ?_; (with_reducible refine (laws_szBits.calls a0_3 _ _ l0_4 a1 t104 _ ?side1 ?side2 A3.out).mono ?_); (case side1 => exact kC_ HR0_4); (case side2 => exact HC0_4.out); rintro e w7 ⟨rfl, hb⟩; refine ⟨_, rfl, ?_⟩; replace BK103 := Qx (Qb (kB_ BK103) hb); replace HB := Qx (Qp hB_ hb); (try clear hb); (try clear hb2); (try clear hk); (try clear hi)))
   go_ret
   exact ⟨rf_, hB_⟩
  ·rw [if_neg c4] at H
   have c4b0 : decide (t104 < 0) = false := decide_eq_false c4
   clear c4; replace H := Option.bind_eq_some_iff.mp H; obtain ⟨t105, A80, H⟩ := H
   have A8 := Qx A80; clear A80
   by_cases c9 : t105 < 0
   ·rw [if_pos c9] at H
    have c9b0 : decide (t105 < 0) = true := decide_eq_true c9
    clear c9; obtain rfl := Option.some.inj H
    go_enter Try.func4, Try.ntmps4
    go_wp2_with (first | ((with_reducible refine gate_dst (N := 2) rfl ?_); refine bx_ 2 #[.int .i64 a0_0, .int .i64 a0_1, .int .i64 a0_2, .int .i64 a0_3, .slice A0_4 l0_4.length c0_4, .int .i64 a0_5, .slice A0_6 l0_6.length c0_6] 26 ?_; intro gb103 hg w10 hbox hb; have BK103 := Qx (hbox); have GW103 := Qx ((ge_ hg)); have GE103 := Qx ((ge_ hg)); replace HB := Qx (Qp hB_ hb); clear hb hbox hg; obtain ⟨hcz11_0, hcz11_1, hcz11_2, hcz11_3, hcz11_4, hcz11_5, hcz11_6, hfz11_0, hfz11_1, hfz11_2, hfz11_3, hfz11_4, hfz11_5, hfz11_6⟩ := cellsQ7_g1a (w := w10) BK103.out) | ((with_reducible refine gate_callee (f := 13) rfl ?_); refine gl_ 8 Try.func13 #[.agg #[.int .i64 a0_3, .slice A0_4 l0_4.length c0_4], .int .i64 a1] ?_; (with_reducible refine (laws_szBits.calls a0_3 _ _ l0_4 a1 t104 _ ?side1 ?side2 A3.out).mono ?_); (case side1 => exact kC_ HR0_4); (case side2 => exact HC0_4.out); rintro e w12 ⟨rfl, hb⟩; refine ⟨_, rfl, ?_⟩; replace BK103 := Qx (Qb (kB_ BK103) hb); replace HB := Qx (Qp hB_ hb); (try clear hb); (try clear hb2); (try clear hk); (try clear hi); obtain ⟨hcz13_0, hcz13_1, hcz13_2, hcz13_3, hcz13_4, hcz13_5, hcz13_6, hfz13_0, hfz13_1, hfz13_2, hfz13_3, hfz13_4, hfz13_5, hfz13_6⟩ := cellsQ7_g1a (w := w12) BK103.out) | ((with_reducible refine gate_callee (f := 13) rfl ?_); refine gl_ 14 Try.func13 #[.agg #[.int .i64 a0_5, .slice A0_6 l0_6.length c0_6], .int .i64 t104] ?_; (with_reducible refine (laws_szBits.calls a0_5 _ _ l0_6 t104 t105 _ ?side1 ?side2 A8.out).mono ?_); (case side1 => exact kC_ HR0_6); (case side2 => exact HC0_6.out); rintro e w14 ⟨rfl, hb⟩; refine ⟨_, rfl, ?_⟩; replace BK103 := Qx (Qb (kB_ BK103) hb); replace HB := Qx (Qp hB_ hb); (try clear hb); (try clear hb2); (try clear hk); (try clear hi)))
    go_ret
    exact ⟨rf_, hB_⟩
   ·rw [if_neg c9] at H
    have c9b0 : decide (t105 < 0) = false := decide_eq_false c9
    clear c9; obtain rfl := Option.some.inj H
    go_enter Try.func4, Try.ntmps4
    go_wp2_with (first | ((with_reducible refine gate_dst (N := 2) rfl ?_); refine bx_ 2 #[.int .i64 a0_0, .int .i64 a0_1, .int .i64 a0_2, .int .i64 a0_3, .slice A0_4 l0_4.length c0_4, .int .i64 a0_5, .slice A0_6 l0_6.length c0_6] 26 ?_; intro gb103 hg w15 hbox hb; have BK103 := Qx (hbox); have GW103 := Qx ((ge_ hg)); have GE103 := Qx ((ge_ hg)); replace HB := Qx (Qp hB_ hb); clear hb hbox hg; obtain ⟨hcz16_0, hcz16_1, hcz16_2, hcz16_3, hcz16_4, hcz16_5, hcz16_6, hfz16_0, hfz16_1, hfz16_2, hfz16_3, hfz16_4, hfz16_5, hfz16_6⟩ := cellsQ7_g1a (w := w15) BK103.out) | ((with_reducible refine gate_callee (f := 13) rfl ?_); refine gl_ 8 Try.func13 #[.agg #[.int .i64 a0_3, .slice A0_4 l0_4.length c0_4], .int .i64 a1] ?_; (with_reducible refine (laws_szBits.calls a0_3 _ _ l0_4 a1 t104 _ ?side1 ?side2 A3.out).mono ?_); (case side1 => exact kC_ HR0_4); (case side2 => exact HC0_4.out); rintro e w17 ⟨rfl, hb⟩; refine ⟨_, rfl, ?_⟩; replace BK103 := Qx (Qb (kB_ BK103) hb); replace HB := Qx (Qp hB_ hb); (try clear hb); (try clear hb2); (try clear hk); (try clear hi); obtain ⟨hcz18_0, hcz18_1, hcz18_2, hcz18_3, hcz18_4, hcz18_5, hcz18_6, hfz18_0, hfz18_1, hfz18_2, hfz18_3, hfz18_4, hfz18_5, hfz18_6⟩ := cellsQ7_g1a (w := w17) BK103.out) | ((with_reducible refine gate_callee (f := 13) rfl ?_); refine gl_ 14 Try.func13 #[.agg #[.int .i64 a0_5, .slice A0_6 l0_6.length c0_6], .int .i64 t104] ?_; (with_reducible refine (laws_szBits.calls a0_5 _ _ l0_6 t104 t105 _ ?side1 ?side2 A8.out).mono ?_); (case side1 => exact kC_ HR0_6); (case side2 => exact HC0_6.out); rintro e w19 ⟨rfl, hb⟩; refine ⟨_, rfl, ?_⟩; replace BK103 := Qx (Qb (kB_ BK103) hb); replace HB := Qx (Qp hB_ hb); (try clear hb); (try clear hb2); (try clear hk); (try clear hi)))
    go_ret
    exact ⟨rf_, hB_⟩
/-! ### spec_biAt: function 35 -/
def spec_biAt.f (a0_0 : Int) (l0_1 : List Int) (a1 : Int) : Option (Bool) := if 0 ≤ (wrap64 (Int.tdiv a1 16)) then (if (wrap64 (Int.tdiv a1 16)) < (l0_1.length : Int) then (if 0 ≤ (Int.tmod a1 16) then (some ((Go.bits .and .i64 (shr .i64 (rd l0_1 (wrap64 (Int.tdiv a1 16))) (Int.tmod a1 16)) 1) == 1)) else (none)) else (none)) else (none)
set_option maxHeartbeats 8000000 in
set_option maxRecDepth 100000 in
theorem spec_biAt.calls (a0_0 : Int) (A0_1 : Option Addr) (c0_1 : Nat) (l0_1 : List Int) (a1 : Int) (r : Bool) (w : World) (hr0_1 : Kd.C (Kd.int .i64) w A0_1 l0_1.length l0_1) (hc0_1 : l0_1.length ≤ c0_1) (h : spec_biAt.f a0_0 l0_1 a1 = some r) :
    Calls Try.prog 35 #[.agg #[.int .i64 a0_0, .slice A0_1 l0_1.length c0_1], .int .i64 a1] w fun e w' => e = .returned (.bool r) ∧ Below w.heap.size w w' := by
  have hu30 := Try.underlying30; have hu22 := Try.underlying22; have HR0_1 := Qx hr0_1; have HC0_1 := Qx hc0_1; clear hr0_1 hc0_1
  have HB := Qx (Below.refl w.heap.size w)
  have H : (if 0 ≤ (wrap64 (Int.tdiv a1 16)) then (if (wrap64 (Int.tdiv a1 16)) < (l0_1.length : Int) then (if 0 ≤ (Int.tmod a1 16) then (some ((Go.bits .and .i64 (shr .i64 (rd l0_1 (wrap64 (Int.tdiv a1 16))) (Int.tmod a1 16)) 1) == 1)) else (none)) else (none)) else (none)) = some r := h
  clear h
  obtain ⟨ji3, hji3⟩ : ∃ j_ : Int, (wrap64 (Int.tdiv a1 16)) = j_ := ⟨_, rfl⟩
  replace H : (if 0 ≤ (ji3) then (if (ji3) < (l0_1.length : Int) then (if 0 ≤ (Int.tmod a1 16) then (some ((Go.bits .and .i64 (shr .i64 (rd l0_1 (ji3)) (Int.tmod a1 16)) 1) == 1)) else (none)) else (none)) else (none)) = some r := by first | (rw [hji3] at H; exact H) | (simp only [hji3] at H ⊢; exact H)
  have hji3w : (IntKind.i64.wrap (Int.tdiv a1 16)) = ji3 := (i64_w _).trans hji3
  by_cases c4 : 0 ≤ (ji3)
  ·rw [if_pos c4] at H
   have c4b0 : decide (0 ≤ (ji3)) = true := decide_eq_true c4
   clear c4
   by_cases c5 : (ji3) < (l0_1.length : Int)
   ·rw [if_pos c5] at H
    have c5b0 : decide ((ji3) < (l0_1.length : Int)) = true := decide_eq_true c5
    clear c5
    obtain ⟨ji6, hji6⟩ : ∃ j_ : Int, (Int.tmod a1 16) = j_ := ⟨_, rfl⟩
    replace H : (if 0 ≤ (ji6) then (some ((Go.bits .and .i64 (shr .i64 (rd l0_1 (ji3)) (ji6)) 1) == 1)) else (none)) = some r := by first | (rw [hji6] at H; exact H) | (simp only [hji6] at H ⊢; exact H)
    by_cases c7 : 0 ≤ (ji6)
    ·rw [if_pos c7] at H; have c7b0 := eq_true c7
     have c7b1 : decide (0 ≤ (ji6)) = true := decide_eq_true c7
     clear c7
     obtain ⟨ji8, hji8⟩ : ∃ j_ : Int, (shr .i64 (rd l0_1 (ji3)) (ji6)) = j_ := ⟨_, rfl⟩
     replace H : (some ((Go.bits .and .i64 (ji8) 1) == 1)) = some r := by first | (rw [hji8] at H; exact H) | (simp only [hji8] at H ⊢; exact H)
     have hji8_ : ((rd l0_1 (ji3)) / 2 ^ min (ji6).toNat 64) = ji8 := hji8
     have hji8z : (ji6) ≤ 64 → ((rd l0_1 (ji3)) / 2 ^ (ji6).toNat) = ji8 := shr_small hji8
     obtain rfl := Option.some.inj H
     go_enter Try.func35, Try.ntmps35
     go_wp2_with (first | ((with_reducible refine gate_dst (N := 2) rfl ?_); refine bx_ 2 #[.int .i64 a0_0, .slice A0_1 l0_1.length c0_1] 30 ?_; intro gb106 hg w9 hbox hb; have BK106 := Qx (hbox); have GW106 := Qx ((ge_ hg)); have GE106 := Qx ((ge_ hg)); replace HB := Qx (Qp hB_ hb); clear hb hbox hg; obtain ⟨hcz10_0, hcz10_1, hfz10_0, hfz10_1⟩ := cellsQ2_g1a (w := w9) BK106.out; have p107 : 0 ≤ ((ji3) : Int) := of_decide_eq_true as_; have q107 : (ji3) < (l0_1.length : Int) := of_decide_eq_true as_; obtain ⟨ad107, e107, hx107_0⟩ := Kd.at_int HR0_1.out (ji3) p107 q107; cases e107; replace hx107_0 := (HB.out.cell (World.block_lt_of_cell? w _ hx107_0)).trans hx107_0; replace p107 := eq_true p107; replace q107 := eq_true q107))
     go_ret
     exact ⟨by first | rfl | (simp [errW_none, errW_some] <;> rfl) | (simp only [← hji3, ← hji6, ← hji8]; first | rfl | (simp [errW_none, errW_some] <;> rfl)) | (simp [*, errW_none, errW_some] <;> rfl), hB_⟩
    ·rw [if_neg c7] at H
     exact absurd H (by simp)
   ·rw [if_neg c5] at H
    exact absurd H (by simp)
  ·rw [if_neg c4] at H
   exact absurd H (by simp)
/-! ### spec_biField: function 36 -/
def spec_biField.l0 : Nat → Int → Int → Int → Int → List Int → Option (Int)
  | 0, _, _, _, _, _ => none
  | k + 1, x1, x7, x8, x109000, x109001 => if x8 ≥ 0 then ((spec_biAt.f x109000 x109001 (wrap64 (x1 + x8))).bind fun t109 => (if t109 = true then (spec_biField.l0 k x1 (wrap64 ((wrap64 (x7 * 2)) + 1)) (wrap64 (x8 - 1)) x109000 x109001) else (spec_biField.l0 k x1 (wrap64 (x7 * 2)) (wrap64 (x8 - 1)) x109000 x109001))) else (some x7)
def spec_biField.f (k : Nat) (a0_0 : Int) (l0_1 : List Int) (a1 : Int) (a2 : Int) : Option (Int) := spec_biField.l0 k a1 0 (wrap64 (a2 - 1)) a0_0 l0_1
theorem spec_biField.mono_l : ∀ k, (∀ y0 y1 y2 y3 y4, LeO (spec_biField.l0 k y0 y1 y2 y3 y4) (spec_biField.l0 (k + 1) y0 y1 y2 y3 y4))
  | 0 => fun _ _ _ _ _ r h => by simp [spec_biField.l0] at h
  | k + 1 => by
    have ih0 := spec_biField.mono_l k
    · intro y0 y1 y2 y3 y4
      unfold spec_biField.l0
      repeat' first
      | (with_reducible exact ih0 _ _ _ _ _)
      | (with_reducible exact LeO.refl _)
      | (with_reducible exact LeO.none _)
      | (with_reducible refine LeO.ite ?_ ?_)
      | (with_reducible refine LeO.bind ?_ (fun _ => ?_))
      | exact ih0 _ _ _ _ _
      | exact LeO.none _
      | refine LeO.ite ?_ ?_
      | refine LeO.bind ?_ (fun _ => ?_)
theorem spec_biField.mono : ∀ a0 a1 a2 a3 k, LeO (spec_biField.f k a0 a1 a2 a3) (spec_biField.f (k + 1) a0 a1 a2 a3) := by
  intro a0 a1 a2 a3 k
  have ih0 := spec_biField.mono_l k
  unfold spec_biField.f
  repeat' first
      | (with_reducible exact ih0 _ _ _ _ _)
      | (with_reducible exact LeO.refl _)
      | (with_reducible exact LeO.none _)
      | (with_reducible refine LeO.ite ?_ ?_)
      | (with_reducible refine LeO.bind ?_ (fun _ => ?_))
      | exact ih0 _ _ _ _ _
      | exact LeO.none _
      | refine LeO.ite ?_ ?_
      | refine LeO.bind ?_ (fun _ => ?_)
noncomputable def spec_biField.L0 (y0 : Int) (y1 : Int) (y2 : Int) (y3 : Int) (y4 : List Int) : Option (Int) := lim fun k => spec_biField.l0 k y0 y1 y2 y3 y4
theorem spec_biField.L0_sup (y0 : Int) (y1 : Int) (y2 : Int) (y3 : Int) (y4 : List Int) : Sup (fun k => spec_biField.l0 k y0 y1 y2 y3 y4) (spec_biField.L0 y0 y1 y2 y3 y4) := Sup.of_mono fun k => spec_biField.mono_l k y0 y1 y2 y3 y4
noncomputable def spec_biField.F (a0_0 : Int) (l0_1 : List Int) (a1 : Int) (a2 : Int) : Option (Int) := lim fun k => spec_biField.f k a0_0 l0_1 a1 a2
theorem spec_biField.F_sup (a0_0 : Int) (l0_1 : List Int) (a1 : Int) (a2 : Int) : Sup (fun k => spec_biField.f k a0_0 l0_1 a1 a2) (spec_biField.F a0_0 l0_1 a1 a2) := Sup.of_mono fun k => spec_biField.mono a0_0 l0_1 a1 a2 k
theorem spec_biField.L0_eq (x1 : Int) (x7 : Int) (x8 : Int) (x109000 : Int) (x109001 : List Int) : spec_biField.L0 x1 x7 x8 x109000 x109001 = if x8 ≥ 0 then ((spec_biAt.f x109000 x109001 (wrap64 (x1 + x8))).bind fun t109 => (if t109 = true then (spec_biField.L0 x1 (wrap64 ((wrap64 (x7 * 2)) + 1)) (wrap64 (x8 - 1)) x109000 x109001) else (spec_biField.L0 x1 (wrap64 (x7 * 2)) (wrap64 (x8 - 1)) x109000 x109001))) else (some x7) := by
  refine Sup.unique (spec_biField.L0_sup x1 x7 x8 x109000 x109001) (Sup.shift (fun k => spec_biField.mono_l k x1 x7 x8 x109000 x109001) (Sup.congr (g' := fun k => if x8 ≥ 0 then ((spec_biAt.f x109000 x109001 (wrap64 (x1 + x8))).bind fun t109 => (if t109 = true then (spec_biField.l0 k x1 (wrap64 ((wrap64 (x7 * 2)) + 1)) (wrap64 (x8 - 1)) x109000 x109001) else (spec_biField.l0 k x1 (wrap64 (x7 * 2)) (wrap64 (x8 - 1)) x109000 x109001))) else (some x7)) (fun k => by first | rfl | simp only [spec_biField.l0]) ?_))
  repeat' first
    | (with_reducible exact spec_biField.L0_sup _ _ _ _ _)
    | (with_reducible refine Sup.ite ?_ ?_)
    | (with_reducible refine Sup.bind ?_ (fun _ => ?_))
    | (with_reducible exact Sup.const _)
    | exact spec_biField.L0_sup _ _ _ _ _
    | exact Sup.const _
theorem spec_biField.F_eq (a0_0 : Int) (l0_1 : List Int) (a1 : Int) (a2 : Int) : spec_biField.F a0_0 l0_1 a1 a2 = spec_biField.L0 a1 0 (wrap64 (a2 - 1)) a0_0 l0_1 := by
  refine Sup.unique (spec_biField.F_sup a0_0 l0_1 a1 a2) (Sup.congr (g' := fun k => spec_biField.l0 k a1 0 (wrap64 (a2 - 1)) a0_0 l0_1) (fun k => by first | rfl | simp only [spec_biField.f]) ?_)
  repeat' first
    | (with_reducible exact spec_biField.L0_sup _ _ _ _ _)
    | (with_reducible refine Sup.ite ?_ ?_)
    | (with_reducible refine Sup.bind ?_ (fun _ => ?_))
    | (with_reducible exact Sup.const _)
    | exact spec_biField.L0_sup _ _ _ _ _
    | exact Sup.const _
set_option maxHeartbeats 8000000 in
set_option maxRecDepth 100000 in
theorem spec_biField.calls (k : Nat) (a0_0 : Int) (A0_1 : Option Addr) (c0_1 : Nat) (l0_1 : List Int) (a1 : Int) (a2 : Int) (r : Int) (w : World) (hr0_1 : Kd.C (Kd.int .i64) w A0_1 l0_1.length l0_1) (hc0_1 : l0_1.length ≤ c0_1) (h : spec_biField.f k a0_0 l0_1 a1 a2 = some r) :
    Calls Try.prog 36 #[.agg #[.int .i64 a0_0, .slice A0_1 l0_1.length c0_1], .int .i64 a1, .int .i64 a2] w fun e w' => e = .returned (.int .i64 r) ∧ Below w.heap.size w w' := by
  have hu30 := Try.underlying30; have HR0_1 := Qx hr0_1; have HC0_1 := Qx hc0_1; clear hr0_1 hc0_1
  have HB := Qx (Below.refl w.heap.size w)
  have H : (spec_biField.l0 k a1 0 (wrap64 (a2 - 1)) a0_0 l0_1) = some r := h
  clear h; have H' := Qx H; clear H
  go_enter Try.func36, Try.ntmps36
  go_wp2_with (first | ((with_reducible refine gate_dst (N := 3) rfl ?_); refine bx_ 3 #[.int .i64 a0_0, .slice A0_1 l0_1.length c0_1] 30 ?_; intro gb108 hg w4 hbox hb; have BK108 := Qx (hbox); have GW108 := Qx ((ge_ hg)); have GE108 := Qx ((ge_ hg)); replace HB := Qx (Qp hB_ hb); clear hb hbox hg))
  go_loopg [7, 8] k (fun kq v7 v8 w' => ∃ (x7_1 : Int) (x8_1 : Int), v7 = .int .i64 x7_1 ∧ v8 = .int .i64 x8_1 ∧ Aside0 (spec_biField.l0 kq a1 x7_1 x8_1 a0_0 l0_1 = some r) ∧ Aside0 (kq ≤ k) ∧ Aside0 (w'.heap[gb108]? = some (.cells #[.int .i64 a0_0, (.slice A0_1 l0_1.length c0_1)] 30 (0, 0))) ∧ Aside0 (Below w.heap.size w w'))
  case atStart => exact ⟨(0), (wrap64 (a2 - 1)), rg_, rg_, H', ⟨Nat.le_refl _⟩, ⟨kB_ BK108⟩, ⟨hB_⟩⟩
  case round =>
   clear H'
   try clear p2
   try clear c3
   obtain ⟨x7_1, x8_1, rfl, rfl, HA, HK1, BK108, HB⟩ := hrel
   cases gk with
   | zero => exact absurd HA.out (by simp [spec_biField.l0])
   | succ k1 =>
    have H := HA.out; clear HA; simp only [spec_biField.l0] at H
    by_cases c5 : x8_1 ≥ 0
    ·rw [if_pos c5] at H
     have c5b0 : decide (0 ≤ x8_1) = true := decide_eq_true c5
     clear c5; replace H := Option.bind_eq_some_iff.mp H; obtain ⟨t109, A60, H⟩ := H
     have A6 := Qx A60; clear A60
     by_cases c7 : t109 = true
     ·subst c7
      have H1 : (spec_biField.l0 k1 a1 (wrap64 ((wrap64 (x7_1 * 2)) + 1)) (wrap64 (x8_1 - 1)) a0_0 l0_1) = some r := by rw [if_pos rfl] at H; exact H
      clear H; have H := H1; clear H1; have H' := Qx H; clear H
      obtain ⟨hcz8_0, hcz8_1, hfz8_0, hfz8_1⟩ := cellsQ2_g1a (w := wr) BK108.out
      go_wp2_with (first | ((with_reducible refine gate_callee (f := 35) rfl ?_); refine gl_ 21 Try.func35 #[.agg #[.int .i64 a0_0, .slice A0_1 l0_1.length c0_1], .int .i64 (wrap64 (a1 + x8_1))] ?_; (with_reducible refine (spec_biAt.calls a0_0 _ _ l0_1 (wrap64 (a1 + x8_1)) true _ ?side1 ?side2 A6.out).mono ?_); (case side1 => exact kC_ HR0_1); (case side2 => exact HC0_1.out); rintro e w9 ⟨rfl, hb⟩; refine ⟨_, rfl, ?_⟩; replace BK108 := Qx (Qb (kB_ BK108) hb); replace HB := Qx (Qp hB_ hb); (try clear hb); (try clear hb2); (try clear hk); (try clear hi)))
      go_roundg k1
      case measure => have := HK1.out; omega
      case rel => exact ⟨(wrap64 ((wrap64 (x7_1 * 2)) + 1)), (wrap64 (x8_1 - 1)), rg_, rg_, H', ⟨by have := HK1.out; omega⟩, ⟨kB_ BK108⟩, ⟨hB_⟩⟩
     ·replace c7 := Bool.eq_false_iff.mpr c7; subst c7
      have H1 : (spec_biField.l0 k1 a1 (wrap64 (x7_1 * 2)) (wrap64 (x8_1 - 1)) a0_0 l0_1) = some r := by rw [if_neg (show ¬ (false = true) by decide)] at H; exact H
      clear H; have H := H1; clear H1; have H' := Qx H; clear H
      obtain ⟨hcz10_0, hcz10_1, hfz10_0, hfz10_1⟩ := cellsQ2_g1a (w := wr) BK108.out
      go_wp2_with (first | ((with_reducible refine gate_callee (f := 35) rfl ?_); refine gl_ 21 Try.func35 #[.agg #[.int .i64 a0_0, .slice A0_1 l0_1.length c0_1], .int .i64 (wrap64 (a1 + x8_1))] ?_; (with_reducible refine (spec_biAt.calls a0_0 _ _ l0_1 (wrap64 (a1 + x8_1)) false _ ?side1 ?side2 A6.out).mono ?_); (case side1 => exact kC_ HR0_1); (case side2 => exact HC0_1.out); rintro e w11 ⟨rfl, hb⟩; refine ⟨_, rfl, ?_⟩; replace BK108 := Qx (Qb (kB_ BK108) hb); replace HB := Qx (Qp hB_ hb); (try clear hb); (try clear hb2); (try clear hk); (try clear hi)))
      go_roundg k1
      case measure => have := HK1.out; omega
      case rel => exact ⟨(wrap64 (x7_1 * 2)), (wrap64 (x8_1 - 1)), rg_, rg_, H', ⟨by have := HK1.out; omega⟩, ⟨kB_ BK108⟩, ⟨hB_⟩⟩
    ·rw [if_neg c5] at H
     have c5b0 : decide (0 ≤ x8_1) = false := decide_eq_false c5
     clear c5; obtain rfl := Option.some.inj H
     go_wp2
     go_ret
     exact ⟨rf_, hB_⟩
/-! ### spec_spList: function 15 -/
mutual
def spec_spList.l0 : Nat → List Int → Int → Int → Int → Int → Int → List Int → Int → List Int → Option (List Int)
  | 0, _, _, _, _, _, _, _, _, _ => none
  | k + 1, x3, x4, x111000, x111001, x111002, x111003, x111004, x111005, x111006 => if x4 < x111005 then (spec_spList.j1 k x3 x4 (decide ((x3.length : Int) < x111000)) x111000 x111001 x111002 x111003 x111004 x111005 x111006) else (spec_spList.j1 k x3 x4 false x111000 x111001 x111002 x111003 x111004 x111005 x111006)
def spec_spList.j1 : Nat → List Int → Int → Bool → Int → Int → Int → Int → List Int → Int → List Int → Option (List Int)
  | 0, _, _, _, _, _, _, _, _, _, _ => none
  | k + 1, x3, x4, x17, x111000, x111001, x111002, x111003, x111004, x111005, x111006 => if x17 = true then ((spec_biAt.f x111005 x111006 x4).bind fun t111 => (if t111 = true then (if 0 ≤ x111002 then ((spec_biField.f k x111003 x111004 (wrap64 ((x3.length : Int) * x111002)) x111002).bind fun t112 => (if x3.length < 17592186044416 then (spec_spList.l0 k (x3 ++ [wrap64 ((shl .i64 (wrap64 (x4 - (x3.length : Int))) x111002) + t112)]) (wrap64 (x4 + 1)) x111000 x111001 x111002 x111003 x111004 x111005 x111006) else (none))) else (none)) else (spec_spList.l0 k x3 (wrap64 (x4 + 1)) x111000 x111001 x111002 x111003 x111004 x111005 x111006))) else (some x3)
end
def spec_spList.f (k : Nat) (a0_0 : Int) (a0_1 : Int) (a0_2 : Int) (a0_3 : Int) (l0_4 : List Int) (a0_5 : Int) (l0_6 : List Int) : Option (List Int) := spec_spList.l0 k ([] : List Int) 0 a0_0 a0_1 a0_2 a0_3 l0_4 a0_5 l0_6
theorem spec_spList.mono_l : ∀ k, (∀ y0 y1 y2 y3 y4 y5 y6 y7 y8, LeO (spec_spList.l0 k y0 y1 y2 y3 y4 y5 y6 y7 y8) (spec_spList.l0 (k + 1) y0 y1 y2 y3 y4 y5 y6 y7 y8)) ∧ (∀ y0 y1 y2 y3 y4 y5 y6 y7 y8 y9, LeO (spec_spList.j1 k y0 y1 y2 y3 y4 y5 y6 y7 y8 y9) (spec_spList.j1 (k + 1) y0 y1 y2 y3 y4 y5 y6 y7 y8 y9))
  | 0 => ⟨fun _ _ _ _ _ _ _ _ _ r h => by simp [spec_spList.l0] at h, fun _ _ _ _ _ _ _ _ _ _ r h => by simp [spec_spList.j1] at h⟩
  | k + 1 => by
    obtain ⟨ih0, ih1⟩ := spec_spList.mono_l k
    refine ⟨?_, ?_⟩
    · intro y0 y1 y2 y3 y4 y5 y6 y7 y8
      unfold spec_spList.l0
      repeat' first
      | (with_reducible exact ih0 _ _ _ _ _ _ _ _ _)
      | (with_reducible exact ih1 _ _ _ _ _ _ _ _ _ _)
      | (with_reducible exact spec_biField.mono _ _ _ _ _)
      | (with_reducible exact LeO.refl _)
      | (with_reducible exact LeO.none _)
      | (with_reducible refine LeO.ite ?_ ?_)
      | (with_reducible refine LeO.bind ?_ (fun _ => ?_))
      | exact ih0 _ _ _ _ _ _ _ _ _
      | exact ih1 _ _ _ _ _ _ _ _ _ _
      | exact spec_biField.mono _ _ _ _ _
      | exact LeO.none _
      | refine LeO.ite ?_ ?_
      | refine LeO.bind ?_ (fun _ => ?_)
    · intro y0 y1 y2 y3 y4 y5 y6 y7 y8 y9
      unfold spec_spList.j1
      repeat' first
      | (with_reducible exact ih0 _ _ _ _ _ _ _ _ _)
      | (with_reducible exact ih1 _ _ _ _ _ _ _ _ _ _)
      | (with_reducible exact spec_biField.mono _ _ _ _ _)
      | (with_reducible exact LeO.refl _)
      | (with_reducible exact LeO.none _)
      | (with_reducible refine LeO.ite ?_ ?_)
      | (with_reducible refine LeO.bind ?_ (fun _ => ?_))
      | exact ih0 _ _ _ _ _ _ _ _ _
      | exact ih1 _ _ _ _ _ _ _ _ _ _
      | exact spec_biField.mono _ _ _ _ _
      | exact LeO.none _
      | refine LeO.ite ?_ ?_
      | refine LeO.bind ?_ (fun _ => ?_)
theorem spec_spList.mono : ∀ a0 a1 a2 a3 a4 a5 a6 k, LeO (spec_spList.f k a0 a1 a2 a3 a4 a5 a6) (spec_spList.f (k + 1) a0 a1 a2 a3 a4 a5 a6) := by
  intro a0 a1 a2 a3 a4 a5 a6 k
  obtain ⟨ih0, ih1⟩ := spec_spList.mono_l k
  unfold spec_spList.f
  repeat' first
      | (with_reducible exact ih0 _ _ _ _ _ _ _ _ _)
      | (with_reducible exact ih1 _ _ _ _ _ _ _ _ _ _)
      | (with_reducible exact spec_biField.mono _ _ _ _ _)
      | (with_reducible exact LeO.refl _)
      | (with_reducible exact LeO.none _)
      | (with_reducible refine LeO.ite ?_ ?_)
      | (with_reducible refine LeO.bind ?_ (fun _ => ?_))
      | exact ih0 _ _ _ _ _ _ _ _ _
      | exact ih1 _ _ _ _ _ _ _ _ _ _
      | exact spec_biField.mono _ _ _ _ _
      | exact LeO.none _
      | refine LeO.ite ?_ ?_
      | refine LeO.bind ?_ (fun _ => ?_)
noncomputable def spec_spList.L0 (y0 : List Int) (y1 : Int) (y2 : Int) (y3 : Int) (y4 : Int) (y5 : Int) (y6 : List Int) (y7 : Int) (y8 : List Int) : Option (List Int) := lim fun k => spec_spList.l0 k y0 y1 y2 y3 y4 y5 y6 y7 y8
theorem spec_spList.L0_sup (y0 : List Int) (y1 : Int) (y2 : Int) (y3 : Int) (y4 : Int) (y5 : Int) (y6 : List Int) (y7 : Int) (y8 : List Int) : Sup (fun k => spec_spList.l0 k y0 y1 y2 y3 y4 y5 y6 y7 y8) (spec_spList.L0 y0 y1 y2 y3 y4 y5 y6 y7 y8) := Sup.of_mono fun k => (spec_spList.mono_l k).1 y0 y1 y2 y3 y4 y5 y6 y7 y8
noncomputable def spec_spList.J1 (y0 : List Int) (y1 : Int) (y2 : Bool) (y3 : Int) (y4 : Int) (y5 : Int) (y6 : Int) (y7 : List Int) (y8 : Int) (y9 : List Int) : Option (List Int) := lim fun k => spec_spList.j1 k y0 y1 y2 y3 y4 y5 y6 y7 y8 y9
theorem spec_spList.J1_sup (y0 : List Int) (y1 : Int) (y2 : Bool) (y3 : Int) (y4 : Int) (y5 : Int) (y6 : Int) (y7 : List Int) (y8 : Int) (y9 : List Int) : Sup (fun k => spec_spList.j1 k y0 y1 y2 y3 y4 y5 y6 y7 y8 y9) (spec_spList.J1 y0 y1 y2 y3 y4 y5 y6 y7 y8 y9) := Sup.of_mono fun k => (spec_spList.mono_l k).2 y0 y1 y2 y3 y4 y5 y6 y7 y8 y9
noncomputable def spec_spList.F (a0_0 : Int) (a0_1 : Int) (a0_2 : Int) (a0_3 : Int) (l0_4 : List Int) (a0_5 : Int) (l0_6 : List Int) : Option (List Int) := lim fun k => spec_spList.f k a0_0 a0_1 a0_2 a0_3 l0_4 a0_5 l0_6
theorem spec_spList.F_sup (a0_0 : Int) (a0_1 : Int) (a0_2 : Int) (a0_3 : Int) (l0_4 : List Int) (a0_5 : Int) (l0_6 : List Int) : Sup (fun k => spec_spList.f k a0_0 a0_1 a0_2 a0_3 l0_4 a0_5 l0_6) (spec_spList.F a0_0 a0_1 a0_2 a0_3 l0_4 a0_5 l0_6) := Sup.of_mono fun k => spec_spList.mono a0_0 a0_1 a0_2 a0_3 l0_4 a0_5 l0_6 k
theorem spec_spList.L0_eq (x3 : List Int) (x4 : Int) (x111000 : Int) (x111001 : Int) (x111002 : Int) (x111003 : Int) (x111004 : List Int) (x111005 : Int) (x111006 : List Int) : spec_spList.L0 x3 x4 x111000 x111001 x111002 x111003 x111004 x111005 x111006 = if x4 < x111005 then (spec_spList.J1 x3 x4 (decide ((x3.length : Int) < x111000)) x111000 x111001 x111002 x111003 x111004 x111005 x111006) else (spec_spList.J1 x3 x4 false x111000 x111001 x111002 x111003 x111004 x111005 x111006) := by
  refine Sup.unique (spec_spList.L0_sup x3 x4 x111000 x111001 x111002 x111003 x111004 x111005 x111006) (Sup.shift (fun k => (spec_spList.mono_l k).1 x3 x4 x111000 x111001 x111002 x111003 x111004 x111005 x111006) (Sup.congr (g' := fun k => if x4 < x111005 then (spec_spList.j1 k x3 x4 (decide ((x3.length : Int) < x111000)) x111000 x111001 x111002 x111003 x111004 x111005 x111006) else (spec_spList.j1 k x3 x4 false x111000 x111001 x111002 x111003 x111004 x111005 x111006)) (fun k => by first | rfl | simp only [spec_spList.l0]) ?_))
  repeat' first
    | (with_reducible exact spec_spList.L0_sup _ _ _ _ _ _ _ _ _)
    | (with_reducible exact spec_spList.J1_sup _ _ _ _ _ _ _ _ _ _)
    | (with_reducible exact spec_biField.F_sup _ _ _ _)
    | (with_reducible refine Sup.ite ?_ ?_)
    | (with_reducible refine Sup.bind ?_ (fun _ => ?_))
    | (with_reducible exact Sup.const _)
    | exact spec_spList.L0_sup _ _ _ _ _ _ _ _ _
    | exact spec_spList.J1_sup _ _ _ _ _ _ _ _ _ _
    | exact spec_biField.F_sup _ _ _ _
    | exact Sup.const _
theorem spec_spList.J1_eq (x3 : List Int) (x4 : Int) (x17 : Bool) (x111000 : Int) (x111001 : Int) (x111002 : Int) (x111003 : Int) (x111004 : List Int) (x111005 : Int) (x111006 : List Int) : spec_spList.J1 x3 x4 x17 x111000 x111001 x111002 x111003 x111004 x111005 x111006 = if x17 = true then ((spec_biAt.f x111005 x111006 x4).bind fun t111 => (if t111 = true then (if 0 ≤ x111002 then ((spec_biField.F x111003 x111004 (wrap64 ((x3.length : Int) * x111002)) x111002).bind fun t112 => (if x3.length < 17592186044416 then (spec_spList.L0 (x3 ++ [wrap64 ((shl .i64 (wrap64 (x4 - (x3.length : Int))) x111002) + t112)]) (wrap64 (x4 + 1)) x111000 x111001 x111002 x111003 x111004 x111005 x111006) else (none))) else (none)) else (spec_spList.L0 x3 (wrap64 (x4 + 1)) x111000 x111001 x111002 x111003 x111004 x111005 x111006))) else (some x3) := by
  refine Sup.unique (spec_spList.J1_sup x3 x4 x17 x111000 x111001 x111002 x111003 x111004 x111005 x111006) (Sup.shift (fun k => (spec_spList.mono_l k).2 x3 x4 x17 x111000 x111001 x111002 x111003 x111004 x111005 x111006) (Sup.congr (g' := fun k => if x17 = true then ((spec_biAt.f x111005 x111006 x4).bind fun t111 => (if t111 = true then (if 0 ≤ x111002 then ((spec_biField.f k x111003 x111004 (wrap64 ((x3.length : Int) * x111002)) x111002).bind fun t112 => (if x3.length < 17592186044416 then (spec_spList.l0 k (x3 ++ [wrap64 ((shl .i64 (wrap64 (x4 - (x3.length : Int))) x111002) + t112)]) (wrap64 (x4 + 1)) x111000 x111001 x111002 x111003 x111004 x111005 x111006) else (none))) else (none)) else (spec_spList.l0 k x3 (wrap64 (x4 + 1)) x111000 x111001 x111002 x111003 x111004 x111005 x111006))) else (some x3)) (fun k => by first | rfl | simp only [spec_spList.j1]) ?_))
  repeat' first
    | (with_reducible exact spec_spList.L0_sup _ _ _ _ _ _ _ _ _)
    | (with_reducible exact spec_spList.J1_sup _ _ _ _ _ _ _ _ _ _)
    | (with_reducible exact spec_biField.F_sup _ _ _ _)
    | (with_reducible refine Sup.ite ?_ ?_)
    | (with_reducible refine Sup.bind ?_ (fun _ => ?_))
    | (with_reducible exact Sup.const _)
    | exact spec_spList.L0_sup _ _ _ _ _ _ _ _ _
    | exact spec_spList.J1_sup _ _ _ _ _ _ _ _ _ _
    | exact spec_biField.F_sup _ _ _ _
    | exact Sup.const _
theorem spec_spList.F_eq (a0_0 : Int) (a0_1 : Int) (a0_2 : Int) (a0_3 : Int) (l0_4 : List Int) (a0_5 : Int) (l0_6 : List Int) : spec_spList.F a0_0 a0_1 a0_2 a0_3 l0_4 a0_5 l0_6 = spec_spList.L0 ([] : List Int) 0 a0_0 a0_1 a0_2 a0_3 l0_4 a0_5 l0_6 := by
  refine Sup.unique (spec_spList.F_sup a0_0 a0_1 a0_2 a0_3 l0_4 a0_5 l0_6) (Sup.congr (g' := fun k => spec_spList.l0 k ([] : List Int) 0 a0_0 a0_1 a0_2 a0_3 l0_4 a0_5 l0_6) (fun k => by first | rfl | simp only [spec_spList.f]) ?_)
  repeat' first
    | (with_reducible exact spec_spList.L0_sup _ _ _ _ _ _ _ _ _)
    | (with_reducible exact spec_spList.J1_sup _ _ _ _ _ _ _ _ _ _)
    | (with_reducible exact spec_biField.F_sup _ _ _ _)
    | (with_reducible refine Sup.ite ?_ ?_)
    | (with_reducible refine Sup.bind ?_ (fun _ => ?_))
    | (with_reducible exact Sup.const _)
    | exact spec_spList.L0_sup _ _ _ _ _ _ _ _ _
    | exact spec_spList.J1_sup _ _ _ _ _ _ _ _ _ _
    | exact spec_biField.F_sup _ _ _ _
    | exact Sup.const _
def spec_spList.T7 : Bool × List (List Nat × List Nat) := (true, [([], []), ([], []), ([], []), ([1, 2], [1, 2]), ([], []), ([4], [4]), ([3, 5], [3, 5]), ([], []), ([7], [7]), ([], []), ([], []), ([10], [10]), ([9, 11], [9, 11]), ([], []), ([13], [13]), ([8, 12, 14], [8, 12, 14]), ([6, 15], [6, 15]), ([16], [16]), ([0, 17, 15], [0, 17]), ([18, 18, 0, 1, 2, 3, 4, 5, 6, 7, 8, 9, 10, 11, 12, 13, 14, 15, 16, 17, 18], [0, 18])])
def spec_spList.B7 : List Nat := [0, 0, 0, 6, 0, 16, 62, 0, 128, 0, 0, 1024, 3584, 0, 8192, 32640, 65534, 131070, 262143, 524287]
theorem spec_spList.tab7 : rtab .any (opsOf Try.f15 7) = spec_spList.T7 := by kernel_rfl
theorem spec_spList.bits7 : waitsOk spec_spList.T7.2 spec_spList.B7 = true := by kernel_rfl
set_option maxHeartbeats 8000000 in
set_option maxRecDepth 100000 in
theorem spec_spList.calls (k : Nat) (a0_0 : Int) (a0_1 : Int) (a0_2 : Int) (a0_3 : Int) (A0_4 : Option Addr) (c0_4 : Nat) (l0_4 : List Int) (a0_5 : Int) (A0_6 : Option Addr) (c0_6 : Nat) (l0_6 : List Int) (r : List Int) (w : World) (hr0_4 : Kd.C (Kd.int .i64) w A0_4 l0_4.length l0_4) (hc0_4 : l0_4.length ≤ c0_4) (hr0_6 : Kd.C (Kd.int .i64) w A0_6 l0_6.length l0_6) (hc0_6 : l0_6.length ≤ c0_6) (h : spec_spList.f k a0_0 a0_1 a0_2 a0_3 l0_4 a0_5 l0_6 = some r) :
    Calls Try.prog 15 #[.agg #[.int .i64 a0_0, .int .i64 a0_1, .int .i64 a0_2, .int .i64 a0_3, .slice A0_4 l0_4.length c0_4, .int .i64 a0_5, .slice A0_6 l0_6.length c0_6]] w fun e w' => ∃ v0_ : Value, e = .returned (v0_) ∧ Kd.R (Kd.int .i64) 3 w' w.heap.size (fun _ => True) v0_ r ∧ Below w.heap.size w w' := by
  have hu32 := Try.underlying32; have hu30 := Try.underlying30; have HR0_4 := Qx hr0_4; have HC0_4 := Qx hc0_4; clear hr0_4 hc0_4; have HR0_6 := Qx hr0_6; have HC0_6 := Qx hc0_6; clear hr0_6 hc0_6
  have HB := Qx (Below.refl w.heap.size w)
  have H : (spec_spList.l0 k ([] : List Int) 0 a0_0 a0_1 a0_2 a0_3 l0_4 a0_5 l0_6) = some r := h
  clear h; have H' := Qx H; clear H
  go_enter Try.func15, Try.ntmps15
  go_wp2_with (first | ((with_reducible refine gate_dst (N := 1) rfl ?_); (try (refine gate_guard (by rfl) ?_; dsimp only)); refine bx_ 1 #[.int .i64 a0_0, .int .i64 a0_1, .int .i64 a0_2, .int .i64 a0_3, .slice A0_4 l0_4.length c0_4, .int .i64 a0_5, .slice A0_6 l0_6.length c0_6] 32 ?_; intro gb110 hg w2 hbox hb; have BK110 := Qx (hbox); have GW110 := Qx ((ge_ hg)); have GE110 := Qx ((ge_ hg)); replace HB := Qx (Qp hB_ hb); clear hb hbox hg))
  go_loopg [3, 4] k (fun kq v3 v4 w' => ∃ (x3_1 : List Int) (x4_1 : Int), v4 = .int .i64 x4_1 ∧ Aside0 (spec_spList.l0 kq x3_1 x4_1 a0_0 a0_1 a0_2 a0_3 l0_4 a0_5 l0_6 = some r) ∧ Aside0 (kq ≤ k) ∧ Aside0 (Kd.R (Kd.int .i64) 3 w' w.heap.size (fun _ => True) v3 x3_1) ∧ Aside0 (w'.heap[gb110]? = some (.cells #[.int .i64 a0_0, .int .i64 a0_1, .int .i64 a0_2, .int .i64 a0_3, (.slice A0_4 l0_4.length c0_4), .int .i64 a0_5, (.slice A0_6 l0_6.length c0_6)] 32 (0, 0))) ∧ Aside0 (Below w.heap.size w w'))
  case atStart => exact ⟨(([] : List Int)), (0), rg_, H', ⟨Nat.le_refl _⟩, ⟨by first | exact Kd.R_nil _ _ _ _ _ | exact Kd.N_nil _ _ _ _ _ | exact Kd.V_nil _ _ _ _ _ | exact Kd.Q_nil _ _ _ _ _ | exact Kd.S_nil _ _ _ _ _⟩, ⟨kB_ BK110⟩, ⟨hB_⟩⟩
  case round =>
   clear H'
   try clear c1
   try clear p2
   obtain ⟨x3_1, x4_1, rfl, HA, HK1, HO_3, BK110, HB⟩ := hrel
   cases gk with
   | zero => exact absurd HA.out (by simp [spec_spList.l0])
   | succ k1 =>
    have H := HA.out; clear HA; simp only [spec_spList.l0] at H; have HC3 := Qx H; clear H
    go_upto_region 3 with (fail)
    go_cut [17] (fun v17 wc => ∃ (kq : Nat) (x17_2 : Bool), v17 = .bool x17_2 ∧ Aside0 (spec_spList.j1 kq x3_1 x4_1 x17_2 a0_0 a0_1 a0_2 a0_3 l0_4 a0_5 l0_6 = some r) ∧ Aside0 (kq ≤ k1) ∧ Aside0 (Kd.R (Kd.int .i64) 3 wc w.heap.size (fun _ => True) u3 x3_1) ∧ Aside0 (wc.heap[gb110]? = some (.cells #[.int .i64 a0_0, .int .i64 a0_1, .int .i64 a0_2, .int .i64 a0_3, (.slice A0_4 l0_4.length c0_4), .int .i64 a0_5, (.slice A0_6 l0_6.length c0_6)] 32 (0, 0))) ∧ Aside0 (Below w.heap.size w wc))
    case first =>
     have H := HC3.out; clear HC3
     by_cases c4 : x4_1 < a0_5
     ·rw [if_pos c4] at H
      have c4b0 : decide (x4_1 < a0_5) = true := decide_eq_true c4
      clear c4
      (first | rw [c4b0] | (simp only [i64_w, i32_w]; rw [c4b0]) | skip)
      have H' := Qx H; clear H
      obtain ⟨hcz5_0, hcz5_1, hcz5_2, hcz5_3, hcz5_4, hcz5_5, hcz5_6, hfz5_0, hfz5_1, hfz5_2, hfz5_3, hfz5_4, hfz5_5, hfz5_6⟩ := cellsQ7_g1a (w := wr) BK110.out
      obtain ⟨Ao6, co6, eo6⟩ := Kd.R_slice HO_3.out; subst eo6
      go_wp2
      go_meet
      case rel => exact ⟨_, (decide ((x3_1.length : Int) < a0_0)), rg_, H', ⟨by have := HK1.out; first | omega | exact Nat.le_refl _⟩, ⟨kR_ HO_3⟩, ⟨kB_ BK110⟩, ⟨hB_⟩⟩
     ·rw [if_neg c4] at H
      have c4b0 : decide (x4_1 < a0_5) = false := decide_eq_false c4
      clear c4
      (first | rw [c4b0] | (simp only [i64_w, i32_w]; rw [c4b0]) | skip)
      have H' := Qx H; clear H
      obtain ⟨hcz7_0, hcz7_1, hcz7_2, hcz7_3, hcz7_4, hcz7_5, hcz7_6, hfz7_0, hfz7_1, hfz7_2, hfz7_3, hfz7_4, hfz7_5, hfz7_6⟩ := cellsQ7_g1a (w := wr) BK110.out
      go_wp2
      go_meet
      case rel => exact ⟨_, (false), rg_, H', ⟨by have := HK1.out; first | omega | exact Nat.le_refl _⟩, ⟨kR_ HO_3⟩, ⟨kB_ BK110⟩, ⟨hB_⟩⟩
    case rest =>
     clear HC3
     try clear c1
     try clear p2
     try clear c4
     try clear c4b0
     try clear hcz5_0
     try clear hcz5_1
     try clear hcz5_2
     try clear hcz5_3
     try clear hcz5_4
     try clear hcz5_5
     try clear hcz5_6
     try clear hcz7_0
     try clear hcz7_1
     try clear hcz7_2
     try clear hcz7_3
     try clear hcz7_4
     try clear hcz7_5
     try clear hcz7_6
     try clear hfz5_0
     try clear hfz5_1
     try clear hfz5_2
     try clear hfz5_3
     try clear hfz5_4
     try clear hfz5_5
     try clear hfz5_6
     try clear hfz7_0
     try clear hfz7_1
     try clear hfz7_2
     try clear hfz7_3
     try clear hfz7_4
     try clear hfz7_5
     try clear hfz7_6
     try clear p2
     obtain ⟨kq, x17_2, rfl, HA, HJ2, HO_3, BK110, HB⟩ := hcut
     cases kq with
     | zero => exact absurd HA.out (by simp [spec_spList.j1])
     | succ kj2 =>
      have H := HA.out; clear HA; simp only [spec_spList.j1] at H
      by_cases c8 : x17_2 = true
      ·subst c8
       have H1 : ((spec_biAt.f a0_5 l0_6 x4_1).bind fun t111 => (if t111 = true then (if 0 ≤ a0_2 then ((spec_biField.f kj2 a0_3 l0_4 (wrap64 ((x3_1.length : Int) * a0_2)) a0_2).bind fun t112 => (if x3_1.length < 17592186044416 then (spec_spList.l0 kj2 (x3_1 ++ [wrap64 ((shl .i64 (wrap64 (x4_1 - (x3_1.length : Int))) a0_2) + t112)]) (wrap64 (x4_1 + 1)) a0_0 a0_1 a0_2 a0_3 l0_4 a0_5 l0_6) else (none))) else (none)) else (spec_spList.l0 kj2 x3_1 (wrap64 (x4_1 + 1)) a0_0 a0_1 a0_2 a0_3 l0_4 a0_5 l0_6))) = some r := by rw [if_pos rfl] at H; exact H
       clear H; have H := H1; clear H1; replace H := Option.bind_eq_some_iff.mp H; obtain ⟨t111, A90, H⟩ := H
       have A9 := Qx A90; clear A90
       by_cases c10 : t111 = true
       ·subst c10
        have H1 : (if 0 ≤ a0_2 then ((spec_biField.f kj2 a0_3 l0_4 (wrap64 ((x3_1.length : Int) * a0_2)) a0_2).bind fun t112 => (if x3_1.length < 17592186044416 then (spec_spList.l0 kj2 (x3_1 ++ [wrap64 ((shl .i64 (wrap64 (x4_1 - (x3_1.length : Int))) a0_2) + t112)]) (wrap64 (x4_1 + 1)) a0_0 a0_1 a0_2 a0_3 l0_4 a0_5 l0_6) else (none))) else (none)) = some r := by rw [if_pos rfl] at H; exact H
        clear H; have H := H1; clear H1
        by_cases c11 : 0 ≤ a0_2
        ·rw [if_pos c11] at H; have c11b0 := eq_true c11
         have c11b1 : decide (0 ≤ a0_2) = true := decide_eq_true c11
         clear c11
         obtain ⟨ji12, hji12⟩ : ∃ j_ : Int, (shl .i64 (wrap64 (x4_1 - (x3_1.length : Int))) a0_2) = j_ := ⟨_, rfl⟩
         replace H : ((spec_biField.f kj2 a0_3 l0_4 (wrap64 ((x3_1.length : Int) * a0_2)) a0_2).bind fun t112 => (if x3_1.length < 17592186044416 then (spec_spList.l0 kj2 (x3_1 ++ [wrap64 ((ji12) + t112)]) (wrap64 (x4_1 + 1)) a0_0 a0_1 a0_2 a0_3 l0_4 a0_5 l0_6) else (none))) = some r := by first | (rw [hji12] at H; exact H) | (simp only [hji12] at H ⊢; exact H)
         (try rw [hji12] at A9)
         have hji12_ : (IntKind.i64.wrap ((wrap64 (x4_1 - (x3_1.length : Int))) * 2 ^ min a0_2.toNat 64)) = ji12 := hji12
         have hji12z : a0_2 ≤ 64 → (IntKind.i64.wrap ((wrap64 (x4_1 - (x3_1.length : Int))) * 2 ^ a0_2.toNat)) = ji12 := shl_small hji12
         have hji12y : (wrap64 ((wrap64 (x4_1 - (x3_1.length : Int))) * 2 ^ min a0_2.toNat 64)) = ji12 := (i64_w _).symm.trans hji12_
         have hji12x : a0_2 ≤ 64 → (wrap64 ((wrap64 (x4_1 - (x3_1.length : Int))) * 2 ^ a0_2.toNat)) = ji12 := fun h_ => (i64_w _).symm.trans (hji12z h_)
         replace H := Option.bind_eq_some_iff.mp H; obtain ⟨t112, A130, H⟩ := H
         have A13 := Qx A130; clear A130
         by_cases c14 : x3_1.length < 17592186044416
         ·rw [if_pos c14] at H; have LMc14 := Qx c14; clear c14
          obtain ⟨y113, hy113⟩ : ∃ y_ : List Int, y_ = (x3_1 ++ [wrap64 ((ji12) + t112)]) := ⟨_, rfl⟩
          replace H : (spec_spList.l0 kj2 y113 (wrap64 (x4_1 + 1)) a0_0 a0_1 a0_2 a0_3 l0_4 a0_5 l0_6) = some r := by first | (rw [hy113]; with_reducible exact H) | (have H2_ := (Option.bind_some _ _).symm.trans H; rw [hy113]; with_reducible exact H2_) | (have H2_ := (Option.bind_some _ _).symm.trans H; with_reducible exact H2_) | with_reducible exact H | (rw [hy113]; exact H) | exact H
          have Ny113 := Qx hy113; clear hy113; have H' := Qx H; clear H
          obtain ⟨hcz15_0, hcz15_1, hcz15_2, hcz15_3, hcz15_4, hcz15_5, hcz15_6, hfz15_0, hfz15_1, hfz15_2, hfz15_3, hfz15_4, hfz15_5, hfz15_6⟩ := cellsQ7_g1a (w := wc) BK110.out
          try go_wp2_with (first | ((with_reducible refine gate_callee (f := 35) rfl ?_); refine gl_ 23 Try.func35 #[.agg #[.int .i64 a0_5, .slice A0_6 l0_6.length c0_6], .int .i64 x4_1] ?_; (with_reducible refine (spec_biAt.calls a0_5 _ _ l0_6 x4_1 true _ ?side1 ?side2 A9.out).mono ?_); (case side1 => exact kC_ HR0_6); (case side2 => exact HC0_6.out); rintro e w16 ⟨rfl, hb⟩; refine ⟨_, rfl, ?_⟩; replace HO_3 := Qx (Kd.R_below (kR_ HO_3) hb); replace BK110 := Qx (Qb (kB_ BK110) hb); replace HB := Qx (Qp hB_ hb); (try clear hb); (try clear hb2); (try clear hk); (try clear hi); obtain ⟨Ao17, co17, eo17⟩ := Kd.R_slice HO_3.out; subst eo17))
          replace HO_3 := Qx (Kd.R_drew HO_3.out)
          replace BK110 := Qx (Qw BK110.out)
          replace HB := Qx (below_drew1 HB.out)
          refine start_ (n := 20) (S := fun w' => w'.cell? ⟨gb110, 0, none⟩ = some (.int .i64 a0_0) ∧ w'.cell? ⟨gb110, 1, none⟩ = some (.int .i64 a0_1) ∧ w'.cell? ⟨gb110, 2, none⟩ = some (.int .i64 a0_2) ∧ w'.cell? ⟨gb110, 3, none⟩ = some (.int .i64 a0_3) ∧ w'.cell? ⟨gb110, 4, none⟩ = some (.slice A0_4 l0_4.length c0_4) ∧ w'.cell? ⟨gb110, 5, none⟩ = some (.int .i64 a0_5) ∧ w'.cell? ⟨gb110, 6, none⟩ = some (.slice A0_6 l0_6.length c0_6)) (ds := []) #[false, false, false, false, false, false, false, false, false, false, false, false, false, false, false, false, false, false, false, false] (by kernel_rfl) rfl rfl ⟨(Qc BK110.out 0).trans rfl, (Qc BK110.out 1).trans rfl, (Qc BK110.out 2).trans rfl, (Qc BK110.out 3).trans rfl, (Qc BK110.out 4).trans rfl, (Qc BK110.out 5).trans rfl, (Qc BK110.out 6).trans rfl⟩ (fun hHeld => ?_); refine with_tabW spec_spList.tab7 spec_spList.bits7 (fun HT_ HW_ => ?_)
          generalize w16.drew = w18 at HO_3 BK110 HB hHeld ⊢
          refine pr_ 0 26 20 1 ?_
          refine pr_ 1 27 20 3 ?_
          refine pr_ 2 28 20 7 ?_
          refine pr_ 3 29 20 15 ?_
          refine pr_ 4 30 20 31 ?_
          refine pr_ 7 33 20 159 ?_
          refine pr_ 9 35 20 671 ?_
          refine pr_ 10 36 20 1695 ?_
          refine pr_ 13 39 20 9887 ?_
          refine tq_ 5 31 20 9919 HT_.out HW_.out (by kernel_rfl) hHeld ?_ rfl (by rintro w' ⟨s0, s1, s2, s3, s4, s5, s6⟩; go_simp; with_reducible rfl)
          refine pr_ 6 32 20 9983 ?_
          refine tq_ 8 34 20 10239 HT_.out HW_.out (by kernel_rfl) hHeld ?_ rfl (by rintro w' ⟨s0, s1, s2, s3, s4, s5, s6⟩; go_simp; with_reducible rfl)
          refine tq_ 11 37 20 12287 HT_.out HW_.out (by kernel_rfl) hHeld ?_ rfl (by rintro w' ⟨s0, s1, s2, s3, s4, s5, s6⟩; go_simp; with_reducible rfl)
          refine pr_ 12 38 20 16383 ?_
          refine tq_ 14 40 20 32767 HT_.out HW_.out (by kernel_rfl) hHeld ?_ rfl (by rintro w' ⟨s0, s1, s2, s3, s4, s5, s6⟩; go_simp; with_reducible rfl)
          refine one_ (i := 15) (N := some 41) (bsA 20 65535) rfl rfl (one_of HT_.out (by kernel_rfl)) (by decide) (fun K hK => ?_)
          refine goes_ Try.func36 (by kernel_rfl) rfl #[.agg #[.int .i64 a0_3, .slice A0_4 l0_4.length c0_4], .int .i64 (wrap64 ((x3_1.length : Int) * a0_2)), .int .i64 a0_2] (by rfl) rfl rfl (by (try simp only [List.map_toArray, List.map_cons, List.map_nil]); first | done | rfl | (simp only [List.length_drop, List.length_take]; rfl)) ?_
          with_reducible refine (spec_biField.calls kj2 a0_3 _ _ l0_4 (wrap64 ((x3_1.length : Int) * a0_2)) a0_2 t112 _ ?side1 ?side2 A13.out).mono ?_
          (case side1 => exact kC_ HR0_4)
          (case side2 => exact HC0_4.out)
          rintro e w19 ⟨rfl, hb⟩
          refine ⟨_, rfl, ?_⟩
          replace HO_3 := Qx (Kd.R_below (kR_ HO_3) hb)
          replace BK110 := Qx (Qb (kB_ BK110) hb)
          replace HB := Qx (Qp hB_ hb)
          (try clear hb); (try clear hb2); (try clear hk); (try clear hi)
          refine hK.out _ _ ⟨(Qc BK110.out 0).trans rfl, (Qc BK110.out 1).trans rfl, (Qc BK110.out 2).trans rfl, (Qc BK110.out 3).trans rfl, (Qc BK110.out 4).trans rfl, (Qc BK110.out 5).trans rfl, (Qc BK110.out 6).trans rfl⟩ (fun hHeld => ?_)
          clear hK K
          refine norm_ (a' := ?_) ?_ ?_
          rotate_left
          ·show Act.put _ (some 41) _ = _
           simp only [Act.put, List.setIfInBounds_toArray, List.set_cons_zero, List.set_cons_succ, i64_w]
           rfl
          refine pr_ 16 42 20 131071 ?_
          refine one_ (i := 17) (N := some 43) (bsA 20 262143) rfl rfl (one_of HT_.out (by kernel_rfl)) (by decide) (fun K hK => ?_)
          refine value_ (w1 := ?_) (v := ?_) (by rfl) rfl ?_ ?_
          rotate_left 2
          ·go_simp
           constructor
           ·rfl
           ·rfl
          refine hK.out _ _ ⟨(Qc (Qk BK110.out _) 0).trans rfl, (Qc (Qk BK110.out _) 1).trans rfl, (Qc (Qk BK110.out _) 2).trans rfl, (Qc (Qk BK110.out _) 3).trans rfl, (Qc (Qk BK110.out _) 4).trans rfl, (Qc (Qk BK110.out _) 5).trans rfl, (Qc (Qk BK110.out _) 6).trans rfl⟩ (fun hHeld => ?_)
          clear hK K
          refine norm_ (a' := ?_) ?_ ?_
          rotate_left
          ·show Act.put _ (some 43) _ = _
           simp only [Act.put, List.setIfInBounds_toArray, List.set_cons_zero, List.set_cons_succ, i64_w]
           rfl
          refine one_ (i := 18) (N := some 44) (bsA 20 524287) rfl rfl (one_of HT_.out (by kernel_rfl)) (by decide) (fun K hK => ?_)
          refine Kd.R_append_step (Kd.int .i64) (w0 := w) w.heap.size (by rfl) (.tmp 26) (.tmp 43) 22 3 (.int .i64 0) 8 rfl Try.underlying22 info3 rfl (by decide) (by omega) (.slice Ao17 x3_1.length co17) x3_1 (wrap64 ((ji12) + t112)) [.int .i64 (wrap64 ((ji12) + t112))] (fun _ => True) (fun _ => False) rfl rfl ?aP (fun _ hk => hk.elim) ?aF ?aO ?aB ?aS ?aL ?_
          (case aP => exact rfl)
          (case aB => exact hB_)
          (case aF => exact (fun _ _ => trivial))
          (case aO => exact (kR_ HO_3))
          (case aS => exact (below_size hB_))
          (case aL => have := LMc14.out; omega)
          intro v114 w20 ho hb hg hat
          rw [← Ny113.out] at ho
          have n0_ := Qx (blk_grown (kB_ BK110) hg (Kd.R_ne HO_3.out BK110.out (by decide)))
          have n1_ := Qx (hb)
          have n2_ := Qx (ho)
          clear BK110 HB HO_3; have BK110 := n0_; have HB := n1_; have HO115 := n2_; clear n0_ n1_ n2_ ho hb hg hat
          refine hK.out _ _ ⟨(Qc BK110.out 0).trans rfl, (Qc BK110.out 1).trans rfl, (Qc BK110.out 2).trans rfl, (Qc BK110.out 3).trans rfl, (Qc BK110.out 4).trans rfl, (Qc BK110.out 5).trans rfl, (Qc BK110.out 6).trans rfl⟩ (fun hHeld => ?_)
          clear hK K
          refine norm_ (a' := ?_) ?_ ?_
          rotate_left
          ·show Act.put _ (some 44) _ = _
           simp only [Act.put, List.setIfInBounds_toArray, List.set_cons_zero, List.set_cons_succ, i64_w]
           rfl
          refine pr_ 19 3 20 1048575 ?_
          refine done_ (done_of HT_.out (by kernel_rfl)) ?_
          try go_wp2
          go_roundg kj2
          case measure => have := HK1.out; have := HJ2.out; omega
          case rel => exact ⟨(y113), (wrap64 (x4_1 + 1)), rg_, H', ⟨by have := HK1.out; have := HJ2.out; omega⟩, ⟨kR_ HO115⟩, ⟨kB_ BK110⟩, ⟨hB_⟩⟩
         ·rw [if_neg c14] at H
          exact absurd H (by simp)
        ·rw [if_neg c11] at H
         exact absurd H (by simp)
       ·replace c10 := Bool.eq_false_iff.mpr c10; subst c10
        have H1 : (spec_spList.l0 kj2 x3_1 (wrap64 (x4_1 + 1)) a0_0 a0_1 a0_2 a0_3 l0_4 a0_5 l0_6) = some r := by rw [if_neg (show ¬ (false = true) by decide)] at H; exact H
        clear H; have H := H1; clear H1; have H' := Qx H; clear H
        obtain ⟨hcz21_0, hcz21_1, hcz21_2, hcz21_3, hcz21_4, hcz21_5, hcz21_6, hfz21_0, hfz21_1, hfz21_2, hfz21_3, hfz21_4, hfz21_5, hfz21_6⟩ := cellsQ7_g1a (w := wc) BK110.out
        go_wp2_with (first | ((with_reducible refine gate_callee (f := 35) rfl ?_); refine gl_ 23 Try.func35 #[.agg #[.int .i64 a0_5, .slice A0_6 l0_6.length c0_6], .int .i64 x4_1] ?_; (with_reducible refine (spec_biAt.calls a0_5 _ _ l0_6 x4_1 false _ ?side1 ?side2 A9.out).mono ?_); (case side1 => exact kC_ HR0_6); (case side2 => exact HC0_6.out); rintro e w22 ⟨rfl, hb⟩; refine ⟨_, rfl, ?_⟩; replace HO_3 := Qx (Kd.R_below (kR_ HO_3) hb); replace BK110 := Qx (Qb (kB_ BK110) hb); replace HB := Qx (Qp hB_ hb); (try clear hb); (try clear hb2); (try clear hk); (try clear hi)))
        go_roundg kj2
        case measure => have := HK1.out; have := HJ2.out; omega
        case rel => exact ⟨(x3_1), (wrap64 (x4_1 + 1)), rg_, H', ⟨by have := HK1.out; have := HJ2.out; omega⟩, ⟨kR_ HO_3⟩, ⟨kB_ BK110⟩, ⟨hB_⟩⟩
      ·replace c8 := Bool.eq_false_iff.mpr c8; subst c8
       have H1 : (some x3_1) = some r := by rw [if_neg (show ¬ (false = true) by decide)] at H; exact H
       clear H; have H := H1; clear H1; obtain rfl := Option.some.inj H
       go_wp2
       go_ret
       exact ⟨_, rf_, kR_ HO_3, hB_⟩
/-! ### spec_l1In: function 28 -/
def spec_l1In.f (a0 : Int) (a1 : Int) (a2 : Int) : Option (Bool) := if a0 ≥ a1 then (some (decide (a0 ≤ a2))) else (some false)
set_option maxHeartbeats 8000000 in
set_option maxRecDepth 100000 in
theorem spec_l1In.calls (a0 : Int) (a1 : Int) (a2 : Int) (r : Bool) (w : World) (h : spec_l1In.f a0 a1 a2 = some r) :
    Calls Try.prog 28 #[.int .i64 a0, .int .i64 a1, .int .i64 a2] w fun e w' => e = .returned (.bool r) ∧ Drawn0 w w' := by
  have H : (if a0 ≥ a1 then (some (decide (a0 ≤ a2))) else (some false)) = some r := h
  clear h
  by_cases c4 : a0 ≥ a1
  ·rw [if_pos c4] at H
   have c4b0 : decide (a1 ≤ a0) = true := decide_eq_true c4
   clear c4; obtain rfl := Option.some.inj H
   go_enter Try.func28, Try.ntmps28
   go_wp2
   go_ret
   exact ⟨rg_, by repeat (first | exact Drawn0.refl _ | apply Drawn0.step)⟩
  ·rw [if_neg c4] at H
   have c4b0 : decide (a1 ≤ a0) = false := decide_eq_false c4
   clear c4; obtain rfl := Option.some.inj H
   go_enter Try.func28, Try.ntmps28
   go_wp2
   go_ret
   exact ⟨rg_, by repeat (first | exact Drawn0.refl _ | apply Drawn0.step)⟩
/-! ### spec_spLimit: function 29 -/
def spec_spLimit.f (a0 : Int) : Option (Bool) := (spec_l1In.f a0 1 100000).bind fun t116 => (some t116)
set_option maxHeartbeats 8000000 in
set_option maxRecDepth 100000 in
theorem spec_spLimit.calls (a0 : Int) (r : Bool) (w : World) (h : spec_spLimit.f a0 = some r) :
    Calls Try.prog 29 #[.int .i64 a0] w fun e w' => e = .returned (.bool r) ∧ Drawn0 w w' := by
  have H : ((spec_l1In.f a0 1 100000).bind fun t116 => (some t116)) = some r := h
  clear h; replace H := Option.bind_eq_some_iff.mp H; obtain ⟨t116, A20, H⟩ := H
  have A2 := Qx A20; clear A20; obtain rfl := Option.some.inj H
  go_enter Try.func29, Try.ntmps29
  go_wp2_with (first | ((with_reducible refine gate_callee (f := 28) rfl ?_); refine gl_ 4 Try.func28 #[.int .i64 a0, .int .i64 1, .int .i64 100000] ?_; (with_reducible refine (spec_l1In.calls a0 1 100000 t116 _ A2.out).mono ?_); rintro e w' ⟨rfl, ⟨nd, rfl⟩⟩; refine ⟨_, rfl, ?_⟩))
  go_ret
  exact ⟨rg_, by repeat (first | exact Drawn0.refl _ | apply Drawn0.step)⟩
/-! ### spec_l1Most: function 41 -/
def spec_l1Most.f (a0 : Int) (a1 : Int) : Option (Int) := if a0 > a1 then (some a0) else (some a1)
set_option maxHeartbeats 8000000 in
set_option maxRecDepth 100000 in
theorem spec_l1Most.calls (a0 : Int) (a1 : Int) (r : Int) (w : World) (h : spec_l1Most.f a0 a1 = some r) :
    Calls Try.prog 41 #[.int .i64 a0, .int .i64 a1] w fun e w' => e = .returned (.int .i64 r) ∧ Drawn0 w w' := by
  have H : (if a0 > a1 then (some a0) else (some a1)) = some r := h
  clear h
  by_cases c3 : a0 > a1
  ·rw [if_pos c3] at H
   have c3b0 : decide (a1 < a0) = true := decide_eq_true c3
   clear c3; obtain rfl := Option.some.inj H
   go_enter Try.func41, Try.ntmps41
   go_wp2
   go_ret
   exact ⟨rg_, by repeat (first | exact Drawn0.refl _ | apply Drawn0.step)⟩
  ·rw [if_neg c3] at H
   have c3b0 : decide (a1 < a0) = false := decide_eq_false c3
   clear c3; obtain rfl := Option.some.inj H
   go_enter Try.func41, Try.ntmps41
   go_wp2
   go_ret
   exact ⟨rg_, by repeat (first | exact Drawn0.refl _ | apply Drawn0.step)⟩
/-! ### spec_spWidth: function 30 -/
def spec_spWidth.l0 : Nat → Int → Int → Int → Option (Int)
  | 0, _, _, _ => none
  | k + 1, x0, x1, x5 => (spec_l1Most.f x0 1).bind fun t117 => (if 0 ≤ (wrap64 (x5 + 1)) then (if (shl .i64 t117 (wrap64 (x5 + 1))) ≤ x1 then (spec_spWidth.l0 k x0 x1 (wrap64 (x5 + 1))) else (some x5)) else (none))
def spec_spWidth.f (k : Nat) (a0 : Int) (a1 : Int) : Option (Int) := spec_spWidth.l0 k a0 a1 0
theorem spec_spWidth.mono_l : ∀ k, (∀ y0 y1 y2, LeO (spec_spWidth.l0 k y0 y1 y2) (spec_spWidth.l0 (k + 1) y0 y1 y2))
  | 0 => fun _ _ _ r h => by simp [spec_spWidth.l0] at h
  | k + 1 => by
    have ih0 := spec_spWidth.mono_l k
    · intro y0 y1 y2
      unfold spec_spWidth.l0
      repeat' first
      | (with_reducible exact ih0 _ _ _)
      | (with_reducible exact LeO.refl _)
      | (with_reducible exact LeO.none _)
      | (with_reducible refine LeO.ite ?_ ?_)
      | (with_reducible refine LeO.bind ?_ (fun _ => ?_))
      | exact ih0 _ _ _
      | exact LeO.none _
      | refine LeO.ite ?_ ?_
      | refine LeO.bind ?_ (fun _ => ?_)
theorem spec_spWidth.mono : ∀ a0 a1 k, LeO (spec_spWidth.f k a0 a1) (spec_spWidth.f (k + 1) a0 a1) := by
  intro a0 a1 k
  have ih0 := spec_spWidth.mono_l k
  unfold spec_spWidth.f
  repeat' first
      | (with_reducible exact ih0 _ _ _)
      | (with_reducible exact LeO.refl _)
      | (with_reducible exact LeO.none _)
      | (with_reducible refine LeO.ite ?_ ?_)
      | (with_reducible refine LeO.bind ?_ (fun _ => ?_))
      | exact ih0 _ _ _
      | exact LeO.none _
      | refine LeO.ite ?_ ?_
      | refine LeO.bind ?_ (fun _ => ?_)
noncomputable def spec_spWidth.L0 (y0 : Int) (y1 : Int) (y2 : Int) : Option (Int) := lim fun k => spec_spWidth.l0 k y0 y1 y2
theorem spec_spWidth.L0_sup (y0 : Int) (y1 : Int) (y2 : Int) : Sup (fun k => spec_spWidth.l0 k y0 y1 y2) (spec_spWidth.L0 y0 y1 y2) := Sup.of_mono fun k => spec_spWidth.mono_l k y0 y1 y2
noncomputable def spec_spWidth.F (a0 : Int) (a1 : Int) : Option (Int) := lim fun k => spec_spWidth.f k a0 a1
theorem spec_spWidth.F_sup (a0 : Int) (a1 : Int) : Sup (fun k => spec_spWidth.f k a0 a1) (spec_spWidth.F a0 a1) := Sup.of_mono fun k => spec_spWidth.mono a0 a1 k
theorem spec_spWidth.L0_eq (x0 : Int) (x1 : Int) (x5 : Int) : spec_spWidth.L0 x0 x1 x5 = (spec_l1Most.f x0 1).bind fun t117 => (if 0 ≤ (wrap64 (x5 + 1)) then (if (shl .i64 t117 (wrap64 (x5 + 1))) ≤ x1 then (spec_spWidth.L0 x0 x1 (wrap64 (x5 + 1))) else (some x5)) else (none)) := by
  refine Sup.unique (spec_spWidth.L0_sup x0 x1 x5) (Sup.shift (fun k => spec_spWidth.mono_l k x0 x1 x5) (Sup.congr (g' := fun k => (spec_l1Most.f x0 1).bind fun t117 => (if 0 ≤ (wrap64 (x5 + 1)) then (if (shl .i64 t117 (wrap64 (x5 + 1))) ≤ x1 then (spec_spWidth.l0 k x0 x1 (wrap64 (x5 + 1))) else (some x5)) else (none))) (fun k => by first | rfl | simp only [spec_spWidth.l0]) ?_))
  repeat' first
    | (with_reducible exact spec_spWidth.L0_sup _ _ _)
    | (with_reducible refine Sup.ite ?_ ?_)
    | (with_reducible refine Sup.bind ?_ (fun _ => ?_))
    | (with_reducible exact Sup.const _)
    | exact spec_spWidth.L0_sup _ _ _
    | exact Sup.const _
theorem spec_spWidth.F_eq (a0 : Int) (a1 : Int) : spec_spWidth.F a0 a1 = spec_spWidth.L0 a0 a1 0 := by
  refine Sup.unique (spec_spWidth.F_sup a0 a1) (Sup.congr (g' := fun k => spec_spWidth.l0 k a0 a1 0) (fun k => by first | rfl | simp only [spec_spWidth.f]) ?_)
  repeat' first
    | (with_reducible exact spec_spWidth.L0_sup _ _ _)
    | (with_reducible refine Sup.ite ?_ ?_)
    | (with_reducible refine Sup.bind ?_ (fun _ => ?_))
    | (with_reducible exact Sup.const _)
    | exact spec_spWidth.L0_sup _ _ _
    | exact Sup.const _
set_option maxHeartbeats 8000000 in
set_option maxRecDepth 100000 in
theorem spec_spWidth.calls (k : Nat) (a0 : Int) (a1 : Int) (r : Int) (w : World) (h : spec_spWidth.f k a0 a1 = some r) :
    Calls Try.prog 30 #[.int .i64 a0, .int .i64 a1] w fun e w' => e = .returned (.int .i64 r) ∧ Drawn0 w w' := by
  have H : (spec_spWidth.l0 k a0 a1 0) = some r := h
  clear h; have H' := Qx H; clear H
  go_enter Try.func30, Try.ntmps30
  go_wp2
  go_loopg [5] k (fun kq v5 w' => ∃ (x5_1 : Int), v5 = .int .i64 x5_1 ∧ Aside0 (spec_spWidth.l0 kq a0 a1 x5_1 = some r) ∧ Aside0 (kq ≤ k) ∧ Drawn0 w w')
  case atStart => exact ⟨(0), rg_, H', ⟨Nat.le_refl _⟩, by repeat (first | exact Drawn0.refl _ | apply Drawn0.step)⟩
  case round =>
   clear H'
   try clear p2
   obtain ⟨x5_1, rfl, HA, HK1, ⟨m1, rfl⟩⟩ := hrel
   cases gk with
   | zero => exact absurd HA.out (by simp [spec_spWidth.l0])
   | succ k1 =>
    have H := HA.out; clear HA; simp only [spec_spWidth.l0] at H; replace H := Option.bind_eq_some_iff.mp H; obtain ⟨t117, A30, H⟩ := H
    have A3 := Qx A30; clear A30
    obtain ⟨ji4, hji4⟩ : ∃ j_ : Int, (wrap64 (x5_1 + 1)) = j_ := ⟨_, rfl⟩
    replace H : (if 0 ≤ (ji4) then (if (shl .i64 t117 (ji4)) ≤ a1 then (spec_spWidth.l0 k1 a0 a1 ji4) else (some x5_1)) else (none)) = some r := by first | (rw [hji4] at H; exact H) | (simp only [hji4] at H ⊢; exact H)
    (try rw [hji4] at A3)
    have hji4w : (IntKind.i64.wrap (x5_1 + 1)) = ji4 := (i64_w _).trans hji4
    by_cases c5 : 0 ≤ (ji4)
    ·rw [if_pos c5] at H; have c5b0 := eq_true c5
     have c5b1 : decide (0 ≤ (ji4)) = true := decide_eq_true c5
     clear c5
     obtain ⟨ji6, hji6⟩ : ∃ j_ : Int, (shl .i64 t117 (ji4)) = j_ := ⟨_, rfl⟩
     replace H : (if (ji6) ≤ a1 then (spec_spWidth.l0 k1 a0 a1 ji4) else (some x5_1)) = some r := by first | (rw [hji6] at H; exact H) | (simp only [hji6] at H ⊢; exact H)
     (try rw [hji6] at A3)
     have hji6_ : (IntKind.i64.wrap (t117 * 2 ^ min (ji4).toNat 64)) = ji6 := hji6
     have hji6z : (ji4) ≤ 64 → (IntKind.i64.wrap (t117 * 2 ^ (ji4).toNat)) = ji6 := shl_small hji6
     have hji6y : (wrap64 (t117 * 2 ^ min (ji4).toNat 64)) = ji6 := (i64_w _).symm.trans hji6_
     have hji6x : (ji4) ≤ 64 → (wrap64 (t117 * 2 ^ (ji4).toNat)) = ji6 := fun h_ => (i64_w _).symm.trans (hji6z h_)
     by_cases c7 : (ji6) ≤ a1
     ·rw [if_pos c7] at H
      have c7b0 : decide ((ji6) ≤ a1) = true := decide_eq_true c7
      clear c7; have H' := Qx H; clear H
      go_wp2_with (first | ((with_reducible refine gate_callee (f := 41) rfl ?_); refine gl_ 7 Try.func41 #[.int .i64 a0, .int .i64 1] ?_; (with_reducible refine (spec_l1Most.calls a0 1 t117 _ A3.out).mono ?_); rintro e w' ⟨rfl, ⟨nd, rfl⟩⟩; refine ⟨_, rfl, ?_⟩))
      go_roundg k1
      case measure => have := HK1.out; omega
      case rel => exact ⟨(ji4), (by first | rfl | (simp; done) | (simp only [← hji4] <;> (first | rfl | simp)) | (simp [*]; done)), H', ⟨by have := HK1.out; omega⟩, by repeat (first | exact Drawn0.refl _ | apply Drawn0.step)⟩
     ·rw [if_neg c7] at H
      have c7b0 : decide ((ji6) ≤ a1) = false := decide_eq_false c7
      clear c7; obtain rfl := Option.some.inj H
      go_wp2_with (first | ((with_reducible refine gate_callee (f := 41) rfl ?_); refine gl_ 7 Try.func41 #[.int .i64 a0, .int .i64 1] ?_; (with_reducible refine (spec_l1Most.calls a0 1 t117 _ A3.out).mono ?_); rintro e w' ⟨rfl, ⟨nd, rfl⟩⟩; refine ⟨_, rfl, ?_⟩))
      go_ret
      exact ⟨by first | rfl | (simp; done) | (simp only [← hji4, ← hji6] <;> (first | rfl | simp)) | (simp [*]; done), by repeat (first | exact Drawn0.refl _ | apply Drawn0.step)⟩
    ·rw [if_neg c5] at H
     exact absurd H (by simp)
/-! ### spec_l1All: function 42 -/
def spec_l1All.l0 : Nat → Int → Int → List Int → Int → Int → Option (Bool)
  | 0, _, _, _, _, _ => none
  | k + 1, x1, x2, x9, x10, x11 => if x11 < x10 then (if 0 ≤ x11 then (if x11 < (x9.length : Int) then ((spec_l1In.f (rd x9 x11) x1 x2).bind fun t119 => (if t119 = true then (spec_l1All.l0 k x1 x2 x9 x10 (wrap64 (x11 + 1))) else (some false))) else (none)) else (none)) else (some true)
def spec_l1All.f (k : Nat) (l0 : List Int) (a1 : Int) (a2 : Int) : Option (Bool) := spec_l1All.l0 k a1 a2 l0 (l0.length : Int) 0
theorem spec_l1All.mono_l : ∀ k, (∀ y0 y1 y2 y3 y4, LeO (spec_l1All.l0 k y0 y1 y2 y3 y4) (spec_l1All.l0 (k + 1) y0 y1 y2 y3 y4))
  | 0 => fun _ _ _ _ _ r h => by simp [spec_l1All.l0] at h
  | k + 1 => by
    have ih0 := spec_l1All.mono_l k
    · intro y0 y1 y2 y3 y4
      unfold spec_l1All.l0
      repeat' first
      | (with_reducible exact ih0 _ _ _ _ _)
      | (with_reducible exact LeO.refl _)
      | (with_reducible exact LeO.none _)
      | (with_reducible refine LeO.ite ?_ ?_)
      | (with_reducible refine LeO.bind ?_ (fun _ => ?_))
      | exact ih0 _ _ _ _ _
      | exact LeO.none _
      | refine LeO.ite ?_ ?_
      | refine LeO.bind ?_ (fun _ => ?_)
theorem spec_l1All.mono : ∀ a0 a1 a2 k, LeO (spec_l1All.f k a0 a1 a2) (spec_l1All.f (k + 1) a0 a1 a2) := by
  intro a0 a1 a2 k
  have ih0 := spec_l1All.mono_l k
  unfold spec_l1All.f
  repeat' first
      | (with_reducible exact ih0 _ _ _ _ _)
      | (with_reducible exact LeO.refl _)
      | (with_reducible exact LeO.none _)
      | (with_reducible refine LeO.ite ?_ ?_)
      | (with_reducible refine LeO.bind ?_ (fun _ => ?_))
      | exact ih0 _ _ _ _ _
      | exact LeO.none _
      | refine LeO.ite ?_ ?_
      | refine LeO.bind ?_ (fun _ => ?_)
noncomputable def spec_l1All.L0 (y0 : Int) (y1 : Int) (y2 : List Int) (y3 : Int) (y4 : Int) : Option (Bool) := lim fun k => spec_l1All.l0 k y0 y1 y2 y3 y4
theorem spec_l1All.L0_sup (y0 : Int) (y1 : Int) (y2 : List Int) (y3 : Int) (y4 : Int) : Sup (fun k => spec_l1All.l0 k y0 y1 y2 y3 y4) (spec_l1All.L0 y0 y1 y2 y3 y4) := Sup.of_mono fun k => spec_l1All.mono_l k y0 y1 y2 y3 y4
noncomputable def spec_l1All.F (l0 : List Int) (a1 : Int) (a2 : Int) : Option (Bool) := lim fun k => spec_l1All.f k l0 a1 a2
theorem spec_l1All.F_sup (l0 : List Int) (a1 : Int) (a2 : Int) : Sup (fun k => spec_l1All.f k l0 a1 a2) (spec_l1All.F l0 a1 a2) := Sup.of_mono fun k => spec_l1All.mono l0 a1 a2 k
theorem spec_l1All.L0_eq (x1 : Int) (x2 : Int) (x9 : List Int) (x10 : Int) (x11 : Int) : spec_l1All.L0 x1 x2 x9 x10 x11 = if x11 < x10 then (if 0 ≤ x11 then (if x11 < (x9.length : Int) then ((spec_l1In.f (rd x9 x11) x1 x2).bind fun t119 => (if t119 = true then (spec_l1All.L0 x1 x2 x9 x10 (wrap64 (x11 + 1))) else (some false))) else (none)) else (none)) else (some true) := by
  refine Sup.unique (spec_l1All.L0_sup x1 x2 x9 x10 x11) (Sup.shift (fun k => spec_l1All.mono_l k x1 x2 x9 x10 x11) (Sup.congr (g' := fun k => if x11 < x10 then (if 0 ≤ x11 then (if x11 < (x9.length : Int) then ((spec_l1In.f (rd x9 x11) x1 x2).bind fun t119 => (if t119 = true then (spec_l1All.l0 k x1 x2 x9 x10 (wrap64 (x11 + 1))) else (some false))) else (none)) else (none)) else (some true)) (fun k => by first | rfl | simp only [spec_l1All.l0]) ?_))
  repeat' first
    | (with_reducible exact spec_l1All.L0_sup _ _ _ _ _)
    | (with_reducible refine Sup.ite ?_ ?_)
    | (with_reducible refine Sup.bind ?_ (fun _ => ?_))
    | (with_reducible exact Sup.const _)
    | exact spec_l1All.L0_sup _ _ _ _ _
    | exact Sup.const _
theorem spec_l1All.F_eq (l0 : List Int) (a1 : Int) (a2 : Int) : spec_l1All.F l0 a1 a2 = spec_l1All.L0 a1 a2 l0 (l0.length : Int) 0 := by
  refine Sup.unique (spec_l1All.F_sup l0 a1 a2) (Sup.congr (g' := fun k => spec_l1All.l0 k a1 a2 l0 (l0.length : Int) 0) (fun k => by first | rfl | simp only [spec_l1All.f]) ?_)
  repeat' first
    | (with_reducible exact spec_l1All.L0_sup _ _ _ _ _)
    | (with_reducible refine Sup.ite ?_ ?_)
    | (with_reducible refine Sup.bind ?_ (fun _ => ?_))
    | (with_reducible exact Sup.const _)
    | exact spec_l1All.L0_sup _ _ _ _ _
    | exact Sup.const _
set_option maxHeartbeats 8000000 in
set_option maxRecDepth 100000 in
theorem spec_l1All.calls (k : Nat) (A0 : Option Addr) (c0 : Nat) (l0 : List Int) (a1 : Int) (a2 : Int) (r : Bool) (w : World) (hr0 : Kd.C (Kd.int .i64) w A0 l0.length l0) (hc0 : l0.length ≤ c0) (h : spec_l1All.f k l0 a1 a2 = some r) :
    Calls Try.prog 42 #[.slice A0 l0.length c0, .int .i64 a1, .int .i64 a2] w fun e w' => e = .returned (.bool r) ∧ Drawn0 w w' := by
  have HR0 := Qx hr0; have HC0 := Qx hc0; clear hr0 hc0
  have H : (spec_l1All.l0 k a1 a2 l0 (l0.length : Int) 0) = some r := h
  clear h; have H' := Qx H; clear H
  go_enter Try.func42, Try.ntmps42
  go_wp2
  go_loopg [11] k (fun kq v11 w' => ∃ (x11_1 : Int), v11 = .int .i64 x11_1 ∧ Aside0 (spec_l1All.l0 kq a1 a2 l0 (l0.length : Int) x11_1 = some r) ∧ Aside0 (kq ≤ k) ∧ Drawn0 w w')
  case atStart => exact ⟨(0), rg_, H', ⟨Nat.le_refl _⟩, by repeat (first | exact Drawn0.refl _ | apply Drawn0.step)⟩
  case round =>
   clear H'
   try clear p2
   obtain ⟨x11_1, rfl, HA, HK1, ⟨m1, rfl⟩⟩ := hrel
   cases gk with
   | zero => exact absurd HA.out (by simp [spec_l1All.l0])
   | succ k1 =>
    have H := HA.out; clear HA; simp only [spec_l1All.l0] at H
    by_cases c4 : x11_1 < (l0.length : Int)
    ·rw [if_pos c4] at H
     have c4b0 : decide (x11_1 < (l0.length : Int)) = true := decide_eq_true c4
     clear c4
     by_cases c5 : 0 ≤ x11_1
     ·rw [if_pos c5] at H
      have c5b0 : decide (0 ≤ x11_1) = true := decide_eq_true c5
      clear c5
      by_cases c6 : x11_1 < (l0.length : Int)
      ·rw [if_pos c6] at H
       have c6b0 : decide (x11_1 < (l0.length : Int)) = true := decide_eq_true c6
       clear c6; replace H := Option.bind_eq_some_iff.mp H; obtain ⟨t119, A70, H⟩ := H
       have A7 := Qx A70; clear A70
       by_cases c8 : t119 = true
       ·subst c8
        have H1 : (spec_l1All.l0 k1 a1 a2 l0 (l0.length : Int) (wrap64 (x11_1 + 1))) = some r := by rw [if_pos rfl] at H; exact H
        clear H; have H := H1; clear H1; have H' := Qx H; clear H
        have p118 : 0 ≤ (x11_1 : Int) := of_decide_eq_true as_
        have q118 : x11_1 < (l0.length : Int) := of_decide_eq_true as_
        obtain ⟨ad118, e118, hx118_0⟩ := Kd.at_int HR0.out x11_1 p118 q118
        cases e118
        replace p118 := eq_true p118; replace q118 := eq_true q118
        go_wp2_with (first | ((with_reducible refine gate_callee (f := 28) rfl ?_); refine gl_ 18 Try.func28 #[.int .i64 (rd l0 x11_1), .int .i64 a1, .int .i64 a2] ?_; (with_reducible refine (spec_l1In.calls (rd l0 x11_1) a1 a2 true _ A7.out).mono ?_); rintro e w' ⟨rfl, ⟨nd, rfl⟩⟩; refine ⟨_, rfl, ?_⟩))
        go_roundg k1
        case measure => have := HK1.out; omega
        case rel => exact ⟨(wrap64 (x11_1 + 1)), rg_, H', ⟨by have := HK1.out; omega⟩, by repeat (first | exact Drawn0.refl _ | apply Drawn0.step)⟩
       ·replace c8 := Bool.eq_false_iff.mpr c8; subst c8
        have H1 : (some false) = some r := by rw [if_neg (show ¬ (false = true) by decide)] at H; exact H
        clear H; have H := H1; clear H1; obtain rfl := Option.some.inj H
        have p118 : 0 ≤ (x11_1 : Int) := of_decide_eq_true as_
        have q118 : x11_1 < (l0.length : Int) := of_decide_eq_true as_
        obtain ⟨ad118, e118, hx118_0⟩ := Kd.at_int HR0.out x11_1 p118 q118
        cases e118
        replace p118 := eq_true p118; replace q118 := eq_true q118
        go_wp2_with (first | ((with_reducible refine gate_callee (f := 28) rfl ?_); refine gl_ 18 Try.func28 #[.int .i64 (rd l0 x11_1), .int .i64 a1, .int .i64 a2] ?_; (with_reducible refine (spec_l1In.calls (rd l0 x11_1) a1 a2 false _ A7.out).mono ?_); rintro e w' ⟨rfl, ⟨nd, rfl⟩⟩; refine ⟨_, rfl, ?_⟩))
        go_ret
        exact ⟨rg_, by repeat (first | exact Drawn0.refl _ | apply Drawn0.step)⟩
      ·rw [if_neg c6] at H
       exact absurd H (by simp)
     ·rw [if_neg c5] at H
      exact absurd H (by simp)
    ·rw [if_neg c4] at H
     have c4b0 : decide (x11_1 < (l0.length : Int)) = false := decide_eq_false c4
     clear c4; obtain rfl := Option.some.inj H
     go_wp2
     go_ret
     exact ⟨rg_, by repeat (first | exact Drawn0.refl _ | apply Drawn0.step)⟩
/-! ### spec_biGood: function 31 -/
def spec_biGood.f (k : Nat) (a0_0 : Int) (l0_1 : List Int) : Option (Bool) := (spec_l1In.f a0_0 0 4096).bind fun t121 => (if t121 = true then (if (l0_1.length : Int) = (wrap64 (Int.tdiv (wrap64 (a0_0 + 15)) 16)) then ((spec_l1All.f k l0_1 0 65535).bind fun t122 => (if t122 = true then (if (Int.tmod a0_0 16) = 0 then (some true) else (if 0 ≤ (wrap64 ((l0_1.length : Int) - 1)) then (if (wrap64 ((l0_1.length : Int) - 1)) < (l0_1.length : Int) then (if 0 ≤ (Int.tmod a0_0 16) then (some ((shr .i64 (rd l0_1 (wrap64 ((l0_1.length : Int) - 1))) (Int.tmod a0_0 16)) == 0)) else (none)) else (none)) else (none))) else (some false))) else (some false)) else (some false))
theorem spec_biGood.mono : ∀ a0 a1 k, LeO (spec_biGood.f k a0 a1) (spec_biGood.f (k + 1) a0 a1) := by
  intro a0 a1 k
  unfold spec_biGood.f
  repeat' first
      | (with_reducible exact spec_l1All.mono _ _ _ _)
      | (with_reducible exact LeO.refl _)
      | (with_reducible exact LeO.none _)
      | (with_reducible refine LeO.ite ?_ ?_)
      | (with_reducible refine LeO.bind ?_ (fun _ => ?_))
      | exact spec_l1All.mono _ _ _ _
      | exact LeO.none _
      | refine LeO.ite ?_ ?_
      | refine LeO.bind ?_ (fun _ => ?_)
noncomputable def spec_biGood.F (a0_0 : Int) (l0_1 : List Int) : Option (Bool) := lim fun k => spec_biGood.f k a0_0 l0_1
theorem spec_biGood.F_sup (a0_0 : Int) (l0_1 : List Int) : Sup (fun k => spec_biGood.f k a0_0 l0_1) (spec_biGood.F a0_0 l0_1) := Sup.of_mono fun k => spec_biGood.mono a0_0 l0_1 k
theorem spec_biGood.F_eq (a0_0 : Int) (l0_1 : List Int) : spec_biGood.F a0_0 l0_1 = (spec_l1In.f a0_0 0 4096).bind fun t121 => (if t121 = true then (if (l0_1.length : Int) = (wrap64 (Int.tdiv (wrap64 (a0_0 + 15)) 16)) then ((spec_l1All.F l0_1 0 65535).bind fun t122 => (if t122 = true then (if (Int.tmod a0_0 16) = 0 then (some true) else (if 0 ≤ (wrap64 ((l0_1.length : Int) - 1)) then (if (wrap64 ((l0_1.length : Int) - 1)) < (l0_1.length : Int) then (if 0 ≤ (Int.tmod a0_0 16) then (some ((shr .i64 (rd l0_1 (wrap64 ((l0_1.length : Int) - 1))) (Int.tmod a0_0 16)) == 0)) else (none)) else (none)) else (none))) else (some false))) else (some false)) else (some false)) := by
  refine Sup.unique (spec_biGood.F_sup a0_0 l0_1) (Sup.congr (g' := fun k => (spec_l1In.f a0_0 0 4096).bind fun t121 => (if t121 = true then (if (l0_1.length : Int) = (wrap64 (Int.tdiv (wrap64 (a0_0 + 15)) 16)) then ((spec_l1All.f k l0_1 0 65535).bind fun t122 => (if t122 = true then (if (Int.tmod a0_0 16) = 0 then (some true) else (if 0 ≤ (wrap64 ((l0_1.length : Int) - 1)) then (if (wrap64 ((l0_1.length : Int) - 1)) < (l0_1.length : Int) then (if 0 ≤ (Int.tmod a0_0 16) then (some ((shr .i64 (rd l0_1 (wrap64 ((l0_1.length : Int) - 1))) (Int.tmod a0_0 16)) == 0)) else (none)) else (none)) else (none))) else (some false))) else (some false)) else (some false))) (fun k => by first | rfl | simp only [spec_biGood.f]) ?_)
  repeat' first
    | (with_reducible exact spec_l1All.F_sup _ _ _)
    | (with_reducible refine Sup.ite ?_ ?_)
    | (with_reducible refine Sup.bind ?_ (fun _ => ?_))
    | (with_reducible exact Sup.const _)
    | exact spec_l1All.F_sup _ _ _
    | exact Sup.const _
set_option maxHeartbeats 8000000 in
set_option maxRecDepth 100000 in
theorem spec_biGood.calls (k : Nat) (a0_0 : Int) (A0_1 : Option Addr) (c0_1 : Nat) (l0_1 : List Int) (r : Bool) (w : World) (hr0_1 : Kd.C (Kd.int .i64) w A0_1 l0_1.length l0_1) (hc0_1 : l0_1.length ≤ c0_1) (h : spec_biGood.f k a0_0 l0_1 = some r) :
    Calls Try.prog 31 #[.agg #[.int .i64 a0_0, .slice A0_1 l0_1.length c0_1]] w fun e w' => e = .returned (.bool r) ∧ Below w.heap.size w w' := by
  have hu30 := Try.underlying30; have hu22 := Try.underlying22; have HR0_1 := Qx hr0_1; have HC0_1 := Qx hc0_1; clear hr0_1 hc0_1
  have HB := Qx (Below.refl w.heap.size w)
  have H : ((spec_l1In.f a0_0 0 4096).bind fun t121 => (if t121 = true then (if (l0_1.length : Int) = (wrap64 (Int.tdiv (wrap64 (a0_0 + 15)) 16)) then ((spec_l1All.f k l0_1 0 65535).bind fun t122 => (if t122 = true then (if (Int.tmod a0_0 16) = 0 then (some true) else (if 0 ≤ (wrap64 ((l0_1.length : Int) - 1)) then (if (wrap64 ((l0_1.length : Int) - 1)) < (l0_1.length : Int) then (if 0 ≤ (Int.tmod a0_0 16) then (some ((shr .i64 (rd l0_1 (wrap64 ((l0_1.length : Int) - 1))) (Int.tmod a0_0 16)) == 0)) else (none)) else (none)) else (none))) else (some false))) else (some false)) else (some false))) = some r := h
  clear h; replace H := Option.bind_eq_some_iff.mp H; obtain ⟨t121, A20, H⟩ := H
  have A2 := Qx A20; clear A20
  by_cases c3 : t121 = true
  ·subst c3
   have H1 : (if (l0_1.length : Int) = (wrap64 (Int.tdiv (wrap64 (a0_0 + 15)) 16)) then ((spec_l1All.f k l0_1 0 65535).bind fun t122 => (if t122 = true then (if (Int.tmod a0_0 16) = 0 then (some true) else (if 0 ≤ (wrap64 ((l0_1.length : Int) - 1)) then (if (wrap64 ((l0_1.length : Int) - 1)) < (l0_1.length : Int) then (if 0 ≤ (Int.tmod a0_0 16) then (some ((shr .i64 (rd l0_1 (wrap64 ((l0_1.length : Int) - 1))) (Int.tmod a0_0 16)) == 0)) else (none)) else (none)) else (none))) else (some false))) else (some false)) = some r := by rw [if_pos rfl] at H; exact H
   clear H; have H := H1; clear H1
   by_cases c4 : (l0_1.length : Int) = (wrap64 (Int.tdiv (wrap64 (a0_0 + 15)) 16))
   ·rw [if_pos c4] at H
    have c4b0 : ((l0_1.length : Int) == (wrap64 (Int.tdiv (wrap64 (a0_0 + 15)) 16))) = true := beq_iff_eq.mpr c4
    have c4b1 : ((l0_1.length : Int) != (wrap64 (Int.tdiv (wrap64 (a0_0 + 15)) 16))) = false := bne_eq_false_iff_eq.mpr c4
    clear c4; replace H := Option.bind_eq_some_iff.mp H; obtain ⟨t122, A50, H⟩ := H
    have A5 := Qx A50; clear A50
    by_cases c6 : t122 = true
    ·subst c6
     have H1 : (if (Int.tmod a0_0 16) = 0 then (some true) else (if 0 ≤ (wrap64 ((l0_1.length : Int) - 1)) then (if (wrap64 ((l0_1.length : Int) - 1)) < (l0_1.length : Int) then (if 0 ≤ (Int.tmod a0_0 16) then (some ((shr .i64 (rd l0_1 (wrap64 ((l0_1.length : Int) - 1))) (Int.tmod a0_0 16)) == 0)) else (none)) else (none)) else (none))) = some r := by rw [if_pos rfl] at H; exact H
     clear H; have H := H1; clear H1
     by_cases c7 : (Int.tmod a0_0 16) = 0
     ·rw [if_pos c7] at H
      have c7b0 : ((Int.tmod a0_0 16) == 0) = true := beq_iff_eq.mpr c7
      have c7b1 : ((Int.tmod a0_0 16) != 0) = false := bne_eq_false_iff_eq.mpr c7
      clear c7; obtain rfl := Option.some.inj H
      go_enter Try.func31, Try.ntmps31
      go_wp2_with (first | ((with_reducible refine gate_dst (N := 1) rfl ?_); (try (refine gate_guard (by rfl) ?_; dsimp only)); refine bx_ 1 #[.int .i64 a0_0, .slice A0_1 l0_1.length c0_1] 30 ?_; intro gb120 hg w8 hbox hb; have BK120 := Qx (hbox); have GW120 := Qx ((ge_ hg)); have GE120 := Qx ((ge_ hg)); replace HB := Qx (Qp hB_ hb); clear hb hbox hg; obtain ⟨hcz9_0, hcz9_1, hfz9_0, hfz9_1⟩ := cellsQ2_g1a (w := w8) BK120.out) | (go_at_call 28; (with_reducible refine (spec_l1In.calls a0_0 0 4096 true _ A2.out).mono ?_); rintro e w' ⟨rfl, ⟨nd, rfl⟩⟩; (try first | exact ⟨rfl, _, World.drewN_drewN _ _ _⟩ | exact ⟨rfl, _, Eq.trans (World.drewN_drewN _ _ _) (congrArg (World.drewN _) (Nat.add_assoc _ _ _))⟩)) | (go_at_call 42; (with_reducible refine (spec_l1All.calls k _ _ l0_1 0 65535 true _ ?side1 ?side2 A5.out).mono ?_); (case side1 => exact kC_ HR0_1); (case side2 => exact HC0_1.out); rintro e w' ⟨rfl, ⟨nd, rfl⟩⟩; (try first | exact ⟨rfl, _, World.drewN_drewN _ _ _⟩ | exact ⟨rfl, _, Eq.trans (World.drewN_drewN _ _ _) (congrArg (World.drewN _) (Nat.add_assoc _ _ _))⟩)))
      repeat (go_quiet (first | ((with_reducible refine gate_dst (N := 1) rfl ?_); (try (refine gate_guard (by rfl) ?_; dsimp only)); refine bx_ 1 #[.int .i64 a0_0, .slice A0_1 l0_1.length c0_1] 30 ?_; intro gb120 hg w8 hbox hb; have BK120 := Qx (hbox); have GW120 := Qx ((ge_ hg)); have GE120 := Qx ((ge_ hg)); replace HB := Qx (Qp hB_ hb); clear hb hbox hg; obtain ⟨hcz9_0, hcz9_1, hfz9_0, hfz9_1⟩ := cellsQ2_g1a (w := w8) BK120.out) | (go_at_call 28; (with_reducible refine (spec_l1In.calls a0_0 0 4096 true _ A2.out).mono ?_); rintro e w' ⟨rfl, ⟨nd, rfl⟩⟩; (try first | exact ⟨rfl, _, World.drewN_drewN _ _ _⟩ | exact ⟨rfl, _, Eq.trans (World.drewN_drewN _ _ _) (congrArg (World.drewN _) (Nat.add_assoc _ _ _))⟩)) | (go_at_call 42; (with_reducible refine (spec_l1All.calls k _ _ l0_1 0 65535 true _ ?side1 ?side2 A5.out).mono ?_); (case side1 => exact kC_ HR0_1); (case side2 => exact HC0_1.out); rintro e w' ⟨rfl, ⟨nd, rfl⟩⟩; (try first | exact ⟨rfl, _, World.drewN_drewN _ _ _⟩ | exact ⟨rfl, _, Eq.trans (World.drewN_drewN _ _ _) (congrArg (World.drewN _) (Nat.add_assoc _ _ _))⟩))); try go_wp2_with (first | ((with_reducible refine gate_dst (N := 1) rfl ?_); (try (refine gate_guard (by rfl) ?_; dsimp only)); refine bx_ 1 #[.int .i64 a0_0, .slice A0_1 l0_1.length c0_1] 30 ?_; intro gb120 hg w8 hbox hb; have BK120 := Qx (hbox); have GW120 := Qx ((ge_ hg)); have GE120 := Qx ((ge_ hg)); replace HB := Qx (Qp hB_ hb); clear hb hbox hg; obtain ⟨hcz9_0, hcz9_1, hfz9_0, hfz9_1⟩ := cellsQ2_g1a (w := w8) BK120.out) | (go_at_call 28; (with_reducible refine (spec_l1In.calls a0_0 0 4096 true _ A2.out).mono ?_); rintro e w' ⟨rfl, ⟨nd, rfl⟩⟩; (try first | exact ⟨rfl, _, World.drewN_drewN _ _ _⟩ | exact ⟨rfl, _, Eq.trans (World.drewN_drewN _ _ _) (congrArg (World.drewN _) (Nat.add_assoc _ _ _))⟩)) | (go_at_call 42; (with_reducible refine (spec_l1All.calls k _ _ l0_1 0 65535 true _ ?side1 ?side2 A5.out).mono ?_); (case side1 => exact kC_ HR0_1); (case side2 => exact HC0_1.out); rintro e w' ⟨rfl, ⟨nd, rfl⟩⟩; (try first | exact ⟨rfl, _, World.drewN_drewN _ _ _⟩ | exact ⟨rfl, _, Eq.trans (World.drewN_drewN _ _ _) (congrArg (World.drewN _) (Nat.add_assoc _ _ _))⟩))))
      go_ret
      exact ⟨rf_, hB_⟩
     ·rw [if_neg c7] at H
      have c7b0 : ((Int.tmod a0_0 16) == 0) = false := beq_eq_false_iff_ne.mpr c7
      have c7b1 : ((Int.tmod a0_0 16) != 0) = true := bne_iff_ne.mpr c7
      obtain ⟨ji10, hji10⟩ : ∃ j_ : Int, (wrap64 ((l0_1.length : Int) - 1)) = j_ := ⟨_, rfl⟩
      replace H : (if 0 ≤ (ji10) then (if (ji10) < (l0_1.length : Int) then (if 0 ≤ (Int.tmod a0_0 16) then (some ((shr .i64 (rd l0_1 (ji10)) (Int.tmod a0_0 16)) == 0)) else (none)) else (none)) else (none)) = some r := by first | (rw [hji10] at H; exact H) | (simp only [hji10] at H ⊢; exact H)
      (try rw [hji10] at A2)
      (try rw [hji10] at A5)
      have hji10w : (IntKind.i64.wrap ((l0_1.length : Int) - 1)) = ji10 := (i64_w _).trans hji10
      by_cases c11 : 0 ≤ (ji10)
      ·rw [if_pos c11] at H
       have c11b0 : decide (0 ≤ (ji10)) = true := decide_eq_true c11
       clear c11
       by_cases c12 : (ji10) < (l0_1.length : Int)
       ·rw [if_pos c12] at H
        have c12b0 : decide ((ji10) < (l0_1.length : Int)) = true := decide_eq_true c12
        clear c12
        obtain ⟨ji13, hji13⟩ : ∃ j_ : Int, (Int.tmod a0_0 16) = j_ := ⟨_, rfl⟩
        replace H : (if 0 ≤ (ji13) then (some ((shr .i64 (rd l0_1 (ji10)) (ji13)) == 0)) else (none)) = some r := by first | (rw [hji13] at H; exact H) | (simp only [hji13] at H ⊢; exact H)
        (try rw [hji13] at c7b0)
        (try rw [hji13] at c7b1)
        (try rw [hji13] at A2)
        (try rw [hji13] at A5)
        by_cases c14 : 0 ≤ (ji13)
        ·rw [if_pos c14] at H; have c14b0 := eq_true c14
         have c14b1 : decide (0 ≤ (ji13)) = true := decide_eq_true c14
         clear c14
         obtain ⟨ji15, hji15⟩ : ∃ j_ : Int, (shr .i64 (rd l0_1 (ji10)) (ji13)) = j_ := ⟨_, rfl⟩
         replace H : (some ((ji15) == 0)) = some r := by first | (rw [hji15] at H; exact H) | (simp only [hji15] at H ⊢; exact H)
         (try rw [hji15] at A2)
         (try rw [hji15] at A5)
         have hji15_ : ((rd l0_1 (ji10)) / 2 ^ min (ji13).toNat 64) = ji15 := hji15
         have hji15z : (ji13) ≤ 64 → ((rd l0_1 (ji10)) / 2 ^ (ji13).toNat) = ji15 := shr_small hji15
         obtain rfl := Option.some.inj H
         go_enter Try.func31, Try.ntmps31
         go_wp2_with (first | ((with_reducible refine gate_dst (N := 1) rfl ?_); (try (refine gate_guard (by rfl) ?_; dsimp only)); refine bx_ 1 #[.int .i64 a0_0, .slice A0_1 l0_1.length c0_1] 30 ?_; intro gb120 hg w16 hbox hb; have BK120 := Qx (hbox); have GW120 := Qx ((ge_ hg)); have GE120 := Qx ((ge_ hg)); replace HB := Qx (Qp hB_ hb); clear hb hbox hg; obtain ⟨hcz17_0, hcz17_1, hfz17_0, hfz17_1⟩ := cellsQ2_g1a (w := w16) BK120.out) | (go_at_call 28; (with_reducible refine (spec_l1In.calls a0_0 0 4096 true _ A2.out).mono ?_); rintro e w' ⟨rfl, ⟨nd, rfl⟩⟩; (try first | exact ⟨rfl, _, World.drewN_drewN _ _ _⟩ | exact ⟨rfl, _, Eq.trans (World.drewN_drewN _ _ _) (congrArg (World.drewN _) (Nat.add_assoc _ _ _))⟩)) | (go_at_call 42; (with_reducible refine (spec_l1All.calls k _ _ l0_1 0 65535 true _ ?side1 ?side2 A5.out).mono ?_); (case side1 => exact kC_ HR0_1); (case side2 => exact HC0_1.out); rintro e w' ⟨rfl, ⟨nd, rfl⟩⟩; (try first | exact ⟨rfl, _, World.drewN_drewN _ _ _⟩ | exact ⟨rfl, _, Eq.trans (World.drewN_drewN _ _ _) (congrArg (World.drewN _) (Nat.add_assoc _ _ _))⟩); have p123 : 0 ≤ ((ji10) : Int) := of_decide_eq_true as_; have q123 : (ji10) < (l0_1.length : Int) := of_decide_eq_true as_; obtain ⟨ad123, e123, hx123_0⟩ := Kd.at_int HR0_1.out (ji10) p123 q123; cases e123; replace hx123_0 := (HB.out.cell (World.block_lt_of_cell? w _ hx123_0)).trans hx123_0; replace p123 := eq_true p123; replace q123 := eq_true q123))
         repeat (go_quiet (first | ((with_reducible refine gate_dst (N := 1) rfl ?_); (try (refine gate_guard (by rfl) ?_; dsimp only)); refine bx_ 1 #[.int .i64 a0_0, .slice A0_1 l0_1.length c0_1] 30 ?_; intro gb120 hg w16 hbox hb; have BK120 := Qx (hbox); have GW120 := Qx ((ge_ hg)); have GE120 := Qx ((ge_ hg)); replace HB := Qx (Qp hB_ hb); clear hb hbox hg; obtain ⟨hcz17_0, hcz17_1, hfz17_0, hfz17_1⟩ := cellsQ2_g1a (w := w16) BK120.out) | (go_at_call 28; (with_reducible refine (spec_l1In.calls a0_0 0 4096 true _ A2.out).mono ?_); rintro e w' ⟨rfl, ⟨nd, rfl⟩⟩; (try first | exact ⟨rfl, _, World.drewN_drewN _ _ _⟩ | exact ⟨rfl, _, Eq.trans (World.drewN_drewN _ _ _) (congrArg (World.drewN _) (Nat.add_assoc _ _ _))⟩)) | (go_at_call 42; (with_reducible refine (spec_l1All.calls k _ _ l0_1 0 65535 true _ ?side1 ?side2 A5.out).mono ?_); (case side1 => exact kC_ HR0_1); (case side2 => exact HC0_1.out); rintro e w' ⟨rfl, ⟨nd, rfl⟩⟩; (try first | exact ⟨rfl, _, World.drewN_drewN _ _ _⟩ | exact ⟨rfl, _, Eq.trans (World.drewN_drewN _ _ _) (congrArg (World.drewN _) (Nat.add_assoc _ _ _))⟩); have p123 : 0 ≤ ((ji10) : Int) := of_decide_eq_true as_; have q123 : (ji10) < (l0_1.length : Int) := of_decide_eq_true as_; obtain ⟨ad123, e123, hx123_0⟩ := Kd.at_int HR0_1.out (ji10) p123 q123; cases e123; replace hx123_0 := (HB.out.cell (World.block_lt_of_cell? w _ hx123_0)).trans hx123_0; replace p123 := eq_true p123; replace q123 := eq_true q123)); try go_wp2_with (first | ((with_reducible refine gate_dst (N := 1) rfl ?_); (try (refine gate_guard (by rfl) ?_; dsimp only)); refine bx_ 1 #[.int .i64 a0_0, .slice A0_1 l0_1.length c0_1] 30 ?_; intro gb120 hg w16 hbox hb; have BK120 := Qx (hbox); have GW120 := Qx ((ge_ hg)); have GE120 := Qx ((ge_ hg)); replace HB := Qx (Qp hB_ hb); clear hb hbox hg; obtain ⟨hcz17_0, hcz17_1, hfz17_0, hfz17_1⟩ := cellsQ2_g1a (w := w16) BK120.out) | (go_at_call 28; (with_reducible refine (spec_l1In.calls a0_0 0 4096 true _ A2.out).mono ?_); rintro e w' ⟨rfl, ⟨nd, rfl⟩⟩; (try first | exact ⟨rfl, _, World.drewN_drewN _ _ _⟩ | exact ⟨rfl, _, Eq.trans (World.drewN_drewN _ _ _) (congrArg (World.drewN _) (Nat.add_assoc _ _ _))⟩)) | (go_at_call 42; (with_reducible refine (spec_l1All.calls k _ _ l0_1 0 65535 true _ ?side1 ?side2 A5.out).mono ?_); (case side1 => exact kC_ HR0_1); (case side2 => exact HC0_1.out); rintro e w' ⟨rfl, ⟨nd, rfl⟩⟩; (try first | exact ⟨rfl, _, World.drewN_drewN _ _ _⟩ | exact ⟨rfl, _, Eq.trans (World.drewN_drewN _ _ _) (congrArg (World.drewN _) (Nat.add_assoc _ _ _))⟩); have p123 : 0 ≤ ((ji10) : Int) := of_decide_eq_true as_; have q123 : (ji10) < (l0_1.length : Int) := of_decide_eq_true as_; obtain ⟨ad123, e123, hx123_0⟩ := Kd.at_int HR0_1.out (ji10) p123 q123; cases e123; replace hx123_0 := (HB.out.cell (World.block_lt_of_cell? w _ hx123_0)).trans hx123_0; replace p123 := eq_true p123; replace q123 := eq_true q123)))
         go_ret
         exact ⟨by first | rfl | (simp [errW_none, errW_some] <;> rfl) | (simp only [← hji10, ← hji13, ← hji15]; first | rfl | (simp [errW_none, errW_some] <;> rfl)) | (simp [*, errW_none, errW_some] <;> rfl), hB_⟩
        ·rw [if_neg c14] at H
         exact absurd H (by simp)
       ·rw [if_neg c12] at H
        exact absurd H (by simp)
      ·rw [if_neg c11] at H
       exact absurd H (by simp)
    ·replace c6 := Bool.eq_false_iff.mpr c6; subst c6
     have H1 : (some false) = some r := by rw [if_neg (show ¬ (false = true) by decide)] at H; exact H
     clear H; have H := H1; clear H1; obtain rfl := Option.some.inj H
     go_enter Try.func31, Try.ntmps31
     go_wp2_with (first | ((with_reducible refine gate_dst (N := 1) rfl ?_); (try (refine gate_guard (by rfl) ?_; dsimp only)); refine bx_ 1 #[.int .i64 a0_0, .slice A0_1 l0_1.length c0_1] 30 ?_; intro gb120 hg w18 hbox hb; have BK120 := Qx (hbox); have GW120 := Qx ((ge_ hg)); have GE120 := Qx ((ge_ hg)); replace HB := Qx (Qp hB_ hb); clear hb hbox hg; obtain ⟨hcz19_0, hcz19_1, hfz19_0, hfz19_1⟩ := cellsQ2_g1a (w := w18) BK120.out) | (go_at_call 28; (with_reducible refine (spec_l1In.calls a0_0 0 4096 true _ A2.out).mono ?_); rintro e w' ⟨rfl, ⟨nd, rfl⟩⟩; (try first | exact ⟨rfl, _, World.drewN_drewN _ _ _⟩ | exact ⟨rfl, _, Eq.trans (World.drewN_drewN _ _ _) (congrArg (World.drewN _) (Nat.add_assoc _ _ _))⟩)) | (go_at_call 42; (with_reducible refine (spec_l1All.calls k _ _ l0_1 0 65535 false _ ?side1 ?side2 A5.out).mono ?_); (case side1 => exact kC_ HR0_1); (case side2 => exact HC0_1.out); rintro e w' ⟨rfl, ⟨nd, rfl⟩⟩; (try first | exact ⟨rfl, _, World.drewN_drewN _ _ _⟩ | exact ⟨rfl, _, Eq.trans (World.drewN_drewN _ _ _) (congrArg (World.drewN _) (Nat.add_assoc _ _ _))⟩)))
     repeat (go_quiet (first | ((with_reducible refine gate_dst (N := 1) rfl ?_); (try (refine gate_guard (by rfl) ?_; dsimp only)); refine bx_ 1 #[.int .i64 a0_0, .slice A0_1 l0_1.length c0_1] 30 ?_; intro gb120 hg w18 hbox hb; have BK120 := Qx (hbox); have GW120 := Qx ((ge_ hg)); have GE120 := Qx ((ge_ hg)); replace HB := Qx (Qp hB_ hb); clear hb hbox hg; obtain ⟨hcz19_0, hcz19_1, hfz19_0, hfz19_1⟩ := cellsQ2_g1a (w := w18) BK120.out) | (go_at_call 28; (with_reducible refine (spec_l1In.calls a0_0 0 4096 true _ A2.out).mono ?_); rintro e w' ⟨rfl, ⟨nd, rfl⟩⟩; (try first | exact ⟨rfl, _, World.drewN_drewN _ _ _⟩ | exact ⟨rfl, _, Eq.trans (World.drewN_drewN _ _ _) (congrArg (World.drewN _) (Nat.add_assoc _ _ _))⟩)) | (go_at_call 42; (with_reducible refine (spec_l1All.calls k _ _ l0_1 0 65535 false _ ?side1 ?side2 A5.out).mono ?_); (case side1 => exact kC_ HR0_1); (case side2 => exact HC0_1.out); rintro e w' ⟨rfl, ⟨nd, rfl⟩⟩; (try first | exact ⟨rfl, _, World.drewN_drewN _ _ _⟩ | exact ⟨rfl, _, Eq.trans (World.drewN_drewN _ _ _) (congrArg (World.drewN _) (Nat.add_assoc _ _ _))⟩))); try go_wp2_with (first | ((with_reducible refine gate_dst (N := 1) rfl ?_); (try (refine gate_guard (by rfl) ?_; dsimp only)); refine bx_ 1 #[.int .i64 a0_0, .slice A0_1 l0_1.length c0_1] 30 ?_; intro gb120 hg w18 hbox hb; have BK120 := Qx (hbox); have GW120 := Qx ((ge_ hg)); have GE120 := Qx ((ge_ hg)); replace HB := Qx (Qp hB_ hb); clear hb hbox hg; obtain ⟨hcz19_0, hcz19_1, hfz19_0, hfz19_1⟩ := cellsQ2_g1a (w := w18) BK120.out) | (go_at_call 28; (with_reducible refine (spec_l1In.calls a0_0 0 4096 true _ A2.out).mono ?_); rintro e w' ⟨rfl, ⟨nd, rfl⟩⟩; (try first | exact ⟨rfl, _, World.drewN_drewN _ _ _⟩ | exact ⟨rfl, _, Eq.trans (World.drewN_drewN _ _ _) (congrArg (World.drewN _) (Nat.add_assoc _ _ _))⟩)) | (go_at_call 42; (with_reducible refine (spec_l1All.calls k _ _ l0_1 0 65535 false _ ?side1 ?side2 A5.out).mono ?_); (case side1 => exact kC_ HR0_1); (case side2 => exact HC0_1.out); rintro e w' ⟨rfl, ⟨nd, rfl⟩⟩; (try first | exact ⟨rfl, _, World.drewN_drewN _ _ _⟩ | exact ⟨rfl, _, Eq.trans (World.drewN_drewN _ _ _) (congrArg (World.drewN _) (Nat.add_assoc _ _ _))⟩))))
     go_ret
     exact ⟨rf_, hB_⟩
   ·rw [if_neg c4] at H
    have c4b0 : ((l0_1.length : Int) == (wrap64 (Int.tdiv (wrap64 (a0_0 + 15)) 16))) = false := beq_eq_false_iff_ne.mpr c4
    have c4b1 : ((l0_1.length : Int) != (wrap64 (Int.tdiv (wrap64 (a0_0 + 15)) 16))) = true := bne_iff_ne.mpr c4
    obtain rfl := Option.some.inj H
    go_enter Try.func31, Try.ntmps31
    go_wp2_with (first | ((with_reducible refine gate_dst (N := 1) rfl ?_); (try (refine gate_guard (by rfl) ?_; dsimp only)); refine bx_ 1 #[.int .i64 a0_0, .slice A0_1 l0_1.length c0_1] 30 ?_; intro gb120 hg w20 hbox hb; have BK120 := Qx (hbox); have GW120 := Qx ((ge_ hg)); have GE120 := Qx ((ge_ hg)); replace HB := Qx (Qp hB_ hb); clear hb hbox hg; obtain ⟨hcz21_0, hcz21_1, hfz21_0, hfz21_1⟩ := cellsQ2_g1a (w := w20) BK120.out) | (go_at_call 28; (with_reducible refine (spec_l1In.calls a0_0 0 4096 true _ A2.out).mono ?_); rintro e w' ⟨rfl, ⟨nd, rfl⟩⟩; (try first | exact ⟨rfl, _, World.drewN_drewN _ _ _⟩ | exact ⟨rfl, _, Eq.trans (World.drewN_drewN _ _ _) (congrArg (World.drewN _) (Nat.add_assoc _ _ _))⟩)))
    repeat (go_quiet (first | ((with_reducible refine gate_dst (N := 1) rfl ?_); (try (refine gate_guard (by rfl) ?_; dsimp only)); refine bx_ 1 #[.int .i64 a0_0, .slice A0_1 l0_1.length c0_1] 30 ?_; intro gb120 hg w20 hbox hb; have BK120 := Qx (hbox); have GW120 := Qx ((ge_ hg)); have GE120 := Qx ((ge_ hg)); replace HB := Qx (Qp hB_ hb); clear hb hbox hg; obtain ⟨hcz21_0, hcz21_1, hfz21_0, hfz21_1⟩ := cellsQ2_g1a (w := w20) BK120.out) | (go_at_call 28; (with_reducible refine (spec_l1In.calls a0_0 0 4096 true _ A2.out).mono ?_); rintro e w' ⟨rfl, ⟨nd, rfl⟩⟩; (try first | exact ⟨rfl, _, World.drewN_drewN _ _ _⟩ | exact ⟨rfl, _, Eq.trans (World.drewN_drewN _ _ _) (congrArg (World.drewN _) (Nat.add_assoc _ _ _))⟩))); try go_wp2_with (first | ((with_reducible refine gate_dst (N := 1) rfl ?_); (try (refine gate_guard (by rfl) ?_; dsimp only)); refine bx_ 1 #[.int .i64 a0_0, .slice A0_1 l0_1.length c0_1] 30 ?_; intro gb120 hg w20 hbox hb; have BK120 := Qx (hbox); have GW120 := Qx ((ge_ hg)); have GE120 := Qx ((ge_ hg)); replace HB := Qx (Qp hB_ hb); clear hb hbox hg; obtain ⟨hcz21_0, hcz21_1, hfz21_0, hfz21_1⟩ := cellsQ2_g1a (w := w20) BK120.out) | (go_at_call 28; (with_reducible refine (spec_l1In.calls a0_0 0 4096 true _ A2.out).mono ?_); rintro e w' ⟨rfl, ⟨nd, rfl⟩⟩; (try first | exact ⟨rfl, _, World.drewN_drewN _ _ _⟩ | exact ⟨rfl, _, Eq.trans (World.drewN_drewN _ _ _) (congrArg (World.drewN _) (Nat.add_assoc _ _ _))⟩))))
    go_ret
    exact ⟨rf_, hB_⟩
  ·replace c3 := Bool.eq_false_iff.mpr c3; subst c3
   have H1 : (some false) = some r := by rw [if_neg (show ¬ (false = true) by decide)] at H; exact H
   clear H; have H := H1; clear H1; obtain rfl := Option.some.inj H
   go_enter Try.func31, Try.ntmps31
   go_wp2_with (first | ((with_reducible refine gate_dst (N := 1) rfl ?_); (try (refine gate_guard (by rfl) ?_; dsimp only)); refine bx_ 1 #[.int .i64 a0_0, .slice A0_1 l0_1.length c0_1] 30 ?_; intro gb120 hg w22 hbox hb; have BK120 := Qx (hbox); have GW120 := Qx ((ge_ hg)); have GE120 := Qx ((ge_ hg)); replace HB := Qx (Qp hB_ hb); clear hb hbox hg; obtain ⟨hcz23_0, hcz23_1, hfz23_0, hfz23_1⟩ := cellsQ2_g1a (w := w22) BK120.out) | (go_at_call 28; (with_reducible refine (spec_l1In.calls a0_0 0 4096 false _ A2.out).mono ?_); rintro e w' ⟨rfl, ⟨nd, rfl⟩⟩; (try first | exact ⟨rfl, _, World.drewN_drewN _ _ _⟩ | exact ⟨rfl, _, Eq.trans (World.drewN_drewN _ _ _) (congrArg (World.drewN _) (Nat.add_assoc _ _ _))⟩)))
   repeat (go_quiet (first | ((with_reducible refine gate_dst (N := 1) rfl ?_); (try (refine gate_guard (by rfl) ?_; dsimp only)); refine bx_ 1 #[.int .i64 a0_0, .slice A0_1 l0_1.length c0_1] 30 ?_; intro gb120 hg w22 hbox hb; have BK120 := Qx (hbox); have GW120 := Qx ((ge_ hg)); have GE120 := Qx ((ge_ hg)); replace HB := Qx (Qp hB_ hb); clear hb hbox hg; obtain ⟨hcz23_0, hcz23_1, hfz23_0, hfz23_1⟩ := cellsQ2_g1a (w := w22) BK120.out) | (go_at_call 28; (with_reducible refine (spec_l1In.calls a0_0 0 4096 false _ A2.out).mono ?_); rintro e w' ⟨rfl, ⟨nd, rfl⟩⟩; (try first | exact ⟨rfl, _, World.drewN_drewN _ _ _⟩ | exact ⟨rfl, _, Eq.trans (World.drewN_drewN _ _ _) (congrArg (World.drewN _) (Nat.add_assoc _ _ _))⟩))); try go_wp2_with (first | ((with_reducible refine gate_dst (N := 1) rfl ?_); (try (refine gate_guard (by rfl) ?_; dsimp only)); refine bx_ 1 #[.int .i64 a0_0, .slice A0_1 l0_1.length c0_1] 30 ?_; intro gb120 hg w22 hbox hb; have BK120 := Qx (hbox); have GW120 := Qx ((ge_ hg)); have GE120 := Qx ((ge_ hg)); replace HB := Qx (Qp hB_ hb); clear hb hbox hg; obtain ⟨hcz23_0, hcz23_1, hfz23_0, hfz23_1⟩ := cellsQ2_g1a (w := w22) BK120.out) | (go_at_call 28; (with_reducible refine (spec_l1In.calls a0_0 0 4096 false _ A2.out).mono ?_); rintro e w' ⟨rfl, ⟨nd, rfl⟩⟩; (try first | exact ⟨rfl, _, World.drewN_drewN _ _ _⟩ | exact ⟨rfl, _, Eq.trans (World.drewN_drewN _ _ _) (congrArg (World.drewN _) (Nat.add_assoc _ _ _))⟩))))
   go_ret
   exact ⟨rf_, hB_⟩
/-! ### spec_spSorted: function 32 -/
def spec_spSorted.l0 : Nat → List Int → Int → List Int → Int → Int → Option (Bool)
  | 0, _, _, _, _, _ => none
  | k + 1, x0, x1, x7, x8, x9 => if x9 < x8 then (if 0 ≤ x9 then (if x9 < (x7.length : Int) then ((spec_l1In.f (rd x7 x9) 0 (wrap64 (x1 - 1))).bind fun t125 => (if t125 = true then (if x9 > 0 then (if 0 ≤ (wrap64 (x9 - 1)) then (if (wrap64 (x9 - 1)) < (x0.length : Int) then (if (rd x0 (wrap64 (x9 - 1))) > (rd x7 x9) then (some false) else (spec_spSorted.l0 k x0 x1 x7 x8 (wrap64 (x9 + 1)))) else (none)) else (none)) else (spec_spSorted.l0 k x0 x1 x7 x8 (wrap64 (x9 + 1)))) else (some false))) else (none)) else (none)) else (if (x0.length : Int) ≤ 60 then ((spec_spLimit.f x1).bind fun t127 => (some t127)) else (some false))
def spec_spSorted.f (k : Nat) (l0 : List Int) (a1 : Int) : Option (Bool) := spec_spSorted.l0 k l0 a1 l0 (l0.length : Int) 0
theorem spec_spSorted.mono_l : ∀ k, (∀ y0 y1 y2 y3 y4, LeO (spec_spSorted.l0 k y0 y1 y2 y3 y4) (spec_spSorted.l0 (k + 1) y0 y1 y2 y3 y4))
  | 0 => fun _ _ _ _ _ r h => by simp [spec_spSorted.l0] at h
  | k + 1 => by
    have ih0 := spec_spSorted.mono_l k
    · intro y0 y1 y2 y3 y4
      unfold spec_spSorted.l0
      repeat' first
      | (with_reducible exact ih0 _ _ _ _ _)
      | (with_reducible exact LeO.refl _)
      | (with_reducible exact LeO.none _)
      | (with_reducible refine LeO.ite ?_ ?_)
      | (with_reducible refine LeO.bind ?_ (fun _ => ?_))
      | exact ih0 _ _ _ _ _
      | exact LeO.none _
      | refine LeO.ite ?_ ?_
      | refine LeO.bind ?_ (fun _ => ?_)
theorem spec_spSorted.mono : ∀ a0 a1 k, LeO (spec_spSorted.f k a0 a1) (spec_spSorted.f (k + 1) a0 a1) := by
  intro a0 a1 k
  have ih0 := spec_spSorted.mono_l k
  unfold spec_spSorted.f
  repeat' first
      | (with_reducible exact ih0 _ _ _ _ _)
      | (with_reducible exact LeO.refl _)
      | (with_reducible exact LeO.none _)
      | (with_reducible refine LeO.ite ?_ ?_)
      | (with_reducible refine LeO.bind ?_ (fun _ => ?_))
      | exact ih0 _ _ _ _ _
      | exact LeO.none _
      | refine LeO.ite ?_ ?_
      | refine LeO.bind ?_ (fun _ => ?_)
noncomputable def spec_spSorted.L0 (y0 : List Int) (y1 : Int) (y2 : List Int) (y3 : Int) (y4 : Int) : Option (Bool) := lim fun k => spec_spSorted.l0 k y0 y1 y2 y3 y4
theorem spec_spSorted.L0_sup (y0 : List Int) (y1 : Int) (y2 : List Int) (y3 : Int) (y4 : Int) : Sup (fun k => spec_spSorted.l0 k y0 y1 y2 y3 y4) (spec_spSorted.L0 y0 y1 y2 y3 y4) := Sup.of_mono fun k => spec_spSorted.mono_l k y0 y1 y2 y3 y4
noncomputable def spec_spSorted.F (l0 : List Int) (a1 : Int) : Option (Bool) := lim fun k => spec_spSorted.f k l0 a1
theorem spec_spSorted.F_sup (l0 : List Int) (a1 : Int) : Sup (fun k => spec_spSorted.f k l0 a1) (spec_spSorted.F l0 a1) := Sup.of_mono fun k => spec_spSorted.mono l0 a1 k
theorem spec_spSorted.L0_eq (x0 : List Int) (x1 : Int) (x7 : List Int) (x8 : Int) (x9 : Int) : spec_spSorted.L0 x0 x1 x7 x8 x9 = if x9 < x8 then (if 0 ≤ x9 then (if x9 < (x7.length : Int) then ((spec_l1In.f (rd x7 x9) 0 (wrap64 (x1 - 1))).bind fun t125 => (if t125 = true then (if x9 > 0 then (if 0 ≤ (wrap64 (x9 - 1)) then (if (wrap64 (x9 - 1)) < (x0.length : Int) then (if (rd x0 (wrap64 (x9 - 1))) > (rd x7 x9) then (some false) else (spec_spSorted.L0 x0 x1 x7 x8 (wrap64 (x9 + 1)))) else (none)) else (none)) else (spec_spSorted.L0 x0 x1 x7 x8 (wrap64 (x9 + 1)))) else (some false))) else (none)) else (none)) else (if (x0.length : Int) ≤ 60 then ((spec_spLimit.f x1).bind fun t127 => (some t127)) else (some false)) := by
  refine Sup.unique (spec_spSorted.L0_sup x0 x1 x7 x8 x9) (Sup.shift (fun k => spec_spSorted.mono_l k x0 x1 x7 x8 x9) (Sup.congr (g' := fun k => if x9 < x8 then (if 0 ≤ x9 then (if x9 < (x7.length : Int) then ((spec_l1In.f (rd x7 x9) 0 (wrap64 (x1 - 1))).bind fun t125 => (if t125 = true then (if x9 > 0 then (if 0 ≤ (wrap64 (x9 - 1)) then (if (wrap64 (x9 - 1)) < (x0.length : Int) then (if (rd x0 (wrap64 (x9 - 1))) > (rd x7 x9) then (some false) else (spec_spSorted.l0 k x0 x1 x7 x8 (wrap64 (x9 + 1)))) else (none)) else (none)) else (spec_spSorted.l0 k x0 x1 x7 x8 (wrap64 (x9 + 1)))) else (some false))) else (none)) else (none)) else (if (x0.length : Int) ≤ 60 then ((spec_spLimit.f x1).bind fun t127 => (some t127)) else (some false))) (fun k => by first | rfl | simp only [spec_spSorted.l0]) ?_))
  repeat' first
    | (with_reducible exact spec_spSorted.L0_sup _ _ _ _ _)
    | (with_reducible refine Sup.ite ?_ ?_)
    | (with_reducible refine Sup.bind ?_ (fun _ => ?_))
    | (with_reducible exact Sup.const _)
    | exact spec_spSorted.L0_sup _ _ _ _ _
    | exact Sup.const _
theorem spec_spSorted.F_eq (l0 : List Int) (a1 : Int) : spec_spSorted.F l0 a1 = spec_spSorted.L0 l0 a1 l0 (l0.length : Int) 0 := by
  refine Sup.unique (spec_spSorted.F_sup l0 a1) (Sup.congr (g' := fun k => spec_spSorted.l0 k l0 a1 l0 (l0.length : Int) 0) (fun k => by first | rfl | simp only [spec_spSorted.f]) ?_)
  repeat' first
    | (with_reducible exact spec_spSorted.L0_sup _ _ _ _ _)
    | (with_reducible refine Sup.ite ?_ ?_)
    | (with_reducible refine Sup.bind ?_ (fun _ => ?_))
    | (with_reducible exact Sup.const _)
    | exact spec_spSorted.L0_sup _ _ _ _ _
    | exact Sup.const _
set_option maxHeartbeats 8000000 in
set_option maxRecDepth 100000 in
theorem spec_spSorted.calls (k : Nat) (A0 : Option Addr) (c0 : Nat) (l0 : List Int) (a1 : Int) (r : Bool) (w : World) (hr0 : Kd.C (Kd.int .i64) w A0 l0.length l0) (hc0 : l0.length ≤ c0) (h : spec_spSorted.f k l0 a1 = some r) :
    Calls Try.prog 32 #[.slice A0 l0.length c0, .int .i64 a1] w fun e w' => e = .returned (.bool r) ∧ Drawn0 w w' := by
  have HR0 := Qx hr0; have HC0 := Qx hc0; clear hr0 hc0
  have H : (spec_spSorted.l0 k l0 a1 l0 (l0.length : Int) 0) = some r := h
  clear h; have H' := Qx H; clear H
  go_enter Try.func32, Try.ntmps32
  go_wp2
  go_loopg [9] k (fun kq v9 w' => ∃ (x9_1 : Int), v9 = .int .i64 x9_1 ∧ Aside0 (spec_spSorted.l0 kq l0 a1 l0 (l0.length : Int) x9_1 = some r) ∧ Aside0 (kq ≤ k) ∧ Drawn0 w w')
  case atStart => exact ⟨(0), rg_, H', ⟨Nat.le_refl _⟩, by repeat (first | exact Drawn0.refl _ | apply Drawn0.step)⟩
  case round =>
   clear H'
   try clear p2
   obtain ⟨x9_1, rfl, HA, HK1, ⟨m1, rfl⟩⟩ := hrel
   cases gk with
   | zero => exact absurd HA.out (by simp [spec_spSorted.l0])
   | succ k1 =>
    have H := HA.out; clear HA; simp only [spec_spSorted.l0] at H
    by_cases c3 : x9_1 < (l0.length : Int)
    ·rw [if_pos c3] at H
     have c3b0 : decide (x9_1 < (l0.length : Int)) = true := decide_eq_true c3
     clear c3
     by_cases c4 : 0 ≤ x9_1
     ·rw [if_pos c4] at H
      have c4b0 : decide (0 ≤ x9_1) = true := decide_eq_true c4
      clear c4
      by_cases c5 : x9_1 < (l0.length : Int)
      ·rw [if_pos c5] at H
       have c5b0 : decide (x9_1 < (l0.length : Int)) = true := decide_eq_true c5
       clear c5; replace H := Option.bind_eq_some_iff.mp H; obtain ⟨t125, A60, H⟩ := H
       have A6 := Qx A60; clear A60
       by_cases c7 : t125 = true
       ·subst c7
        have H1 : (if x9_1 > 0 then (if 0 ≤ (wrap64 (x9_1 - 1)) then (if (wrap64 (x9_1 - 1)) < (l0.length : Int) then (if (rd l0 (wrap64 (x9_1 - 1))) > (rd l0 x9_1) then (some false) else (spec_spSorted.l0 k1 l0 a1 l0 (l0.length : Int) (wrap64 (x9_1 + 1)))) else (none)) else (none)) else (spec_spSorted.l0 k1 l0 a1 l0 (l0.length : Int) (wrap64 (x9_1 + 1)))) = some r := by rw [if_pos rfl] at H; exact H
        clear H; have H := H1; clear H1
        by_cases c8 : x9_1 > 0
        ·rw [if_pos c8] at H
         have c8b0 : decide (0 < x9_1) = true := decide_eq_true c8
         clear c8
         obtain ⟨ji9, hji9⟩ : ∃ j_ : Int, (wrap64 (x9_1 - 1)) = j_ := ⟨_, rfl⟩
         replace H : (if 0 ≤ (ji9) then (if (ji9) < (l0.length : Int) then (if (rd l0 (ji9)) > (rd l0 x9_1) then (some false) else (spec_spSorted.l0 k1 l0 a1 l0 (l0.length : Int) (wrap64 (x9_1 + 1)))) else (none)) else (none)) = some r := by first | (rw [hji9] at H; exact H) | (simp only [hji9] at H ⊢; exact H)
         (try rw [hji9] at A6)
         have hji9w : (IntKind.i64.wrap (x9_1 - 1)) = ji9 := (i64_w _).trans hji9
         by_cases c10 : 0 ≤ (ji9)
         ·rw [if_pos c10] at H
          have c10b0 : decide (0 ≤ (ji9)) = true := decide_eq_true c10
          clear c10
          by_cases c11 : (ji9) < (l0.length : Int)
          ·rw [if_pos c11] at H
           have c11b0 : decide ((ji9) < (l0.length : Int)) = true := decide_eq_true c11
           clear c11
           by_cases c12 : (rd l0 (ji9)) > (rd l0 x9_1)
           ·rw [if_pos c12] at H
            have c12b0 : decide ((rd l0 x9_1) < (rd l0 (ji9))) = true := decide_eq_true c12
            clear c12; obtain rfl := Option.some.inj H
            have p124 : 0 ≤ (x9_1 : Int) := of_decide_eq_true as_
            have q124 : x9_1 < (l0.length : Int) := of_decide_eq_true as_
            obtain ⟨ad124, e124, hx124_0⟩ := Kd.at_int HR0.out x9_1 p124 q124
            cases e124
            replace p124 := eq_true p124; replace q124 := eq_true q124
            go_wp2_with (first | ((with_reducible refine gate_callee (f := 28) rfl ?_); refine gl_ 17 Try.func28 #[.int .i64 (rd l0 x9_1), .int .i64 0, .int .i64 (wrap64 (a1 - 1))] ?_; (with_reducible refine (spec_l1In.calls (rd l0 x9_1) 0 (wrap64 (a1 - 1)) true _ A6.out).mono ?_); rintro e w' ⟨rfl, ⟨nd, rfl⟩⟩; refine ⟨_, rfl, ?_⟩; have p126 : 0 ≤ ((ji9) : Int) := of_decide_eq_true as_; have q126 : (ji9) < (l0.length : Int) := of_decide_eq_true as_; obtain ⟨ad126, e126, hx126_0⟩ := Kd.at_int HR0.out (ji9) p126 q126; obtain rfl : ad124 = ad126 := (by injection e126); replace p126 := eq_true p126; replace q126 := eq_true q126))
            go_ret
            exact ⟨by first | rfl | (simp; done) | (simp only [← hji9] <;> (first | rfl | simp)) | (simp [*]; done), by repeat (first | exact Drawn0.refl _ | apply Drawn0.step)⟩
           ·rw [if_neg c12] at H
            have c12b0 : decide ((rd l0 x9_1) < (rd l0 (ji9))) = false := decide_eq_false c12
            clear c12; have H' := Qx H; clear H
            have p124 : 0 ≤ (x9_1 : Int) := of_decide_eq_true as_
            have q124 : x9_1 < (l0.length : Int) := of_decide_eq_true as_
            obtain ⟨ad124, e124, hx124_0⟩ := Kd.at_int HR0.out x9_1 p124 q124
            cases e124
            replace p124 := eq_true p124; replace q124 := eq_true q124
            go_wp2_with (first | ((with_reducible refine gate_callee (f := 28) rfl ?_); refine gl_ 17 Try.func28 #[.int .i64 (rd l0 x9_1), .int .i64 0, .int .i64 (wrap64 (a1 - 1))] ?_; (with_reducible refine (spec_l1In.calls (rd l0 x9_1) 0 (wrap64 (a1 - 1)) true _ A6.out).mono ?_); rintro e w' ⟨rfl, ⟨nd, rfl⟩⟩; refine ⟨_, rfl, ?_⟩; have p126 : 0 ≤ ((ji9) : Int) := of_decide_eq_true as_; have q126 : (ji9) < (l0.length : Int) := of_decide_eq_true as_; obtain ⟨ad126, e126, hx126_0⟩ := Kd.at_int HR0.out (ji9) p126 q126; obtain rfl : ad124 = ad126 := (by injection e126); replace p126 := eq_true p126; replace q126 := eq_true q126))
            go_roundg k1
            case measure => have := HK1.out; omega
            case rel => exact ⟨(wrap64 (x9_1 + 1)), rg_, H', ⟨by have := HK1.out; omega⟩, by repeat (first | exact Drawn0.refl _ | apply Drawn0.step)⟩
          ·rw [if_neg c11] at H
           exact absurd H (by simp)
         ·rw [if_neg c10] at H
          exact absurd H (by simp)
        ·rw [if_neg c8] at H
         have c8b0 : decide (0 < x9_1) = false := decide_eq_false c8
         clear c8; have H' := Qx H; clear H
         have p124 : 0 ≤ (x9_1 : Int) := of_decide_eq_true as_
         have q124 : x9_1 < (l0.length : Int) := of_decide_eq_true as_
         obtain ⟨ad124, e124, hx124_0⟩ := Kd.at_int HR0.out x9_1 p124 q124
         cases e124
         replace p124 := eq_true p124; replace q124 := eq_true q124
         go_wp2_with (first | ((with_reducible refine gate_callee (f := 28) rfl ?_); refine gl_ 17 Try.func28 #[.int .i64 (rd l0 x9_1), .int .i64 0, .int .i64 (wrap64 (a1 - 1))] ?_; (with_reducible refine (spec_l1In.calls (rd l0 x9_1) 0 (wrap64 (a1 - 1)) true _ A6.out).mono ?_); rintro e w' ⟨rfl, ⟨nd, rfl⟩⟩; refine ⟨_, rfl, ?_⟩))
         go_roundg k1
         case measure => have := HK1.out; omega
         case rel => exact ⟨(wrap64 (x9_1 + 1)), rg_, H', ⟨by have := HK1.out; omega⟩, by repeat (first | exact Drawn0.refl _ | apply Drawn0.step)⟩
       ·replace c7 := Bool.eq_false_iff.mpr c7; subst c7
        have H1 : (some false) = some r := by rw [if_neg (show ¬ (false = true) by decide)] at H; exact H
        clear H; have H := H1; clear H1; obtain rfl := Option.some.inj H
        have p124 : 0 ≤ (x9_1 : Int) := of_decide_eq_true as_
        have q124 : x9_1 < (l0.length : Int) := of_decide_eq_true as_
        obtain ⟨ad124, e124, hx124_0⟩ := Kd.at_int HR0.out x9_1 p124 q124
        cases e124
        replace p124 := eq_true p124; replace q124 := eq_true q124
        go_wp2_with (first | ((with_reducible refine gate_callee (f := 28) rfl ?_); refine gl_ 17 Try.func28 #[.int .i64 (rd l0 x9_1), .int .i64 0, .int .i64 (wrap64 (a1 - 1))] ?_; (with_reducible refine (spec_l1In.calls (rd l0 x9_1) 0 (wrap64 (a1 - 1)) false _ A6.out).mono ?_); rintro e w' ⟨rfl, ⟨nd, rfl⟩⟩; refine ⟨_, rfl, ?_⟩))
        go_ret
        exact ⟨rg_, by repeat (first | exact Drawn0.refl _ | apply Drawn0.step)⟩
      ·rw [if_neg c5] at H
       exact absurd H (by simp)
     ·rw [if_neg c4] at H
      exact absurd H (by simp)
    ·rw [if_neg c3] at H
     have c3b0 : decide (x9_1 < (l0.length : Int)) = false := decide_eq_false c3
     clear c3
     by_cases c13 : (l0.length : Int) ≤ 60
     ·rw [if_pos c13] at H
      have c13b0 : decide ((l0.length : Int) ≤ 60) = true := decide_eq_true c13
      have c13b1 : decide (l0.length ≤ 60) = true := decide_eq_true (by omega)
      clear c13; replace H := Option.bind_eq_some_iff.mp H; obtain ⟨t127, A140, H⟩ := H
      have A14 := Qx A140; clear A140; obtain rfl := Option.some.inj H
      go_wp2_with (first | (go_at_call 29; (with_reducible refine (spec_spLimit.calls a1 t127 _ A14.out).mono ?_); rintro e w' ⟨rfl, ⟨nd, rfl⟩⟩))
      go_ret
      exact ⟨rg_, by repeat (first | exact Drawn0.refl _ | apply Drawn0.step)⟩
     ·rw [if_neg c13] at H
      have c13b0 : decide ((l0.length : Int) ≤ 60) = false := decide_eq_false c13
      have c13b1 : decide (l0.length ≤ 60) = false := decide_eq_false (by omega)
      clear c13; obtain rfl := Option.some.inj H
      go_wp2
      go_ret
      exact ⟨rg_, by repeat (first | exact Drawn0.refl _ | apply Drawn0.step)⟩
/-! ### spec_biPut: function 43 -/
def spec_biPut.l0 : Nat → List Bool → Int → Int → Int → Int → Option (List Bool)
  | 0, _, _, _, _, _ => none
  | k + 1, x0, x1, x2, x3, x8 => if x8 < x2 then (if 0 ≤ x8 then (if 0 ≤ (wrap64 (x1 + x8)) then (if (wrap64 (x1 + x8)) < (x0.length : Int) then (spec_biPut.l0 k (x0.set ((wrap64 (x1 + x8)) : Int).toNat ((Go.bits .and .i64 (shr .i64 x3 x8) 1) == 1)) x1 x2 x3 (wrap64 (x8 + 1))) else (none)) else (none)) else (none)) else (some x0)
def spec_biPut.f (k : Nat) (l0 : List Bool) (a1 : Int) (a2 : Int) (a3 : Int) : Option (List Bool) := spec_biPut.l0 k l0 a1 a2 a3 0
theorem spec_biPut.mono_l : ∀ k, (∀ y0 y1 y2 y3 y4, LeO (spec_biPut.l0 k y0 y1 y2 y3 y4) (spec_biPut.l0 (k + 1) y0 y1 y2 y3 y4))
  | 0 => fun _ _ _ _ _ r h => by simp [spec_biPut.l0] at h
  | k + 1 => by
    have ih0 := spec_biPut.mono_l k
    · intro y0 y1 y2 y3 y4
      unfold spec_biPut.l0
      repeat' first
      | (with_reducible exact ih0 _ _ _ _ _)
      | (with_reducible exact LeO.refl _)
      | (with_reducible exact LeO.none _)
      | (with_reducible refine LeO.ite ?_ ?_)
      | (with_reducible refine LeO.bind ?_ (fun _ => ?_))
      | exact ih0 _ _ _ _ _
      | exact LeO.none _
      | refine LeO.ite ?_ ?_
      | refine LeO.bind ?_ (fun _ => ?_)
theorem spec_biPut.mono : ∀ a0 a1 a2 a3 k, LeO (spec_biPut.f k a0 a1 a2 a3) (spec_biPut.f (k + 1) a0 a1 a2 a3) := by
  intro a0 a1 a2 a3 k
  have ih0 := spec_biPut.mono_l k
  unfold spec_biPut.f
  repeat' first
      | (with_reducible exact ih0 _ _ _ _ _)
      | (with_reducible exact LeO.refl _)
      | (with_reducible exact LeO.none _)
      | (with_reducible refine LeO.ite ?_ ?_)
      | (with_reducible refine LeO.bind ?_ (fun _ => ?_))
      | exact ih0 _ _ _ _ _
      | exact LeO.none _
      | refine LeO.ite ?_ ?_
      | refine LeO.bind ?_ (fun _ => ?_)
noncomputable def spec_biPut.L0 (y0 : List Bool) (y1 : Int) (y2 : Int) (y3 : Int) (y4 : Int) : Option (List Bool) := lim fun k => spec_biPut.l0 k y0 y1 y2 y3 y4
theorem spec_biPut.L0_sup (y0 : List Bool) (y1 : Int) (y2 : Int) (y3 : Int) (y4 : Int) : Sup (fun k => spec_biPut.l0 k y0 y1 y2 y3 y4) (spec_biPut.L0 y0 y1 y2 y3 y4) := Sup.of_mono fun k => spec_biPut.mono_l k y0 y1 y2 y3 y4
noncomputable def spec_biPut.F (l0 : List Bool) (a1 : Int) (a2 : Int) (a3 : Int) : Option (List Bool) := lim fun k => spec_biPut.f k l0 a1 a2 a3
theorem spec_biPut.F_sup (l0 : List Bool) (a1 : Int) (a2 : Int) (a3 : Int) : Sup (fun k => spec_biPut.f k l0 a1 a2 a3) (spec_biPut.F l0 a1 a2 a3) := Sup.of_mono fun k => spec_biPut.mono l0 a1 a2 a3 k
theorem spec_biPut.L0_eq (x0 : List Bool) (x1 : Int) (x2 : Int) (x3 : Int) (x8 : Int) : spec_biPut.L0 x0 x1 x2 x3 x8 = if x8 < x2 then (if 0 ≤ x8 then (if 0 ≤ (wrap64 (x1 + x8)) then (if (wrap64 (x1 + x8)) < (x0.length : Int) then (spec_biPut.L0 (x0.set ((wrap64 (x1 + x8)) : Int).toNat ((Go.bits .and .i64 (shr .i64 x3 x8) 1) == 1)) x1 x2 x3 (wrap64 (x8 + 1))) else (none)) else (none)) else (none)) else (some x0) := by
  refine Sup.unique (spec_biPut.L0_sup x0 x1 x2 x3 x8) (Sup.shift (fun k => spec_biPut.mono_l k x0 x1 x2 x3 x8) (Sup.congr (g' := fun k => if x8 < x2 then (if 0 ≤ x8 then (if 0 ≤ (wrap64 (x1 + x8)) then (if (wrap64 (x1 + x8)) < (x0.length : Int) then (spec_biPut.l0 k (x0.set ((wrap64 (x1 + x8)) : Int).toNat ((Go.bits .and .i64 (shr .i64 x3 x8) 1) == 1)) x1 x2 x3 (wrap64 (x8 + 1))) else (none)) else (none)) else (none)) else (some x0)) (fun k => by first | rfl | simp only [spec_biPut.l0]) ?_))
  repeat' first
    | (with_reducible exact spec_biPut.L0_sup _ _ _ _ _)
    | (with_reducible refine Sup.ite ?_ ?_)
    | (with_reducible refine Sup.bind ?_ (fun _ => ?_))
    | (with_reducible exact Sup.const _)
    | exact spec_biPut.L0_sup _ _ _ _ _
    | exact Sup.const _
theorem spec_biPut.F_eq (l0 : List Bool) (a1 : Int) (a2 : Int) (a3 : Int) : spec_biPut.F l0 a1 a2 a3 = spec_biPut.L0 l0 a1 a2 a3 0 := by
  refine Sup.unique (spec_biPut.F_sup l0 a1 a2 a3) (Sup.congr (g' := fun k => spec_biPut.l0 k l0 a1 a2 a3 0) (fun k => by first | rfl | simp only [spec_biPut.f]) ?_)
  repeat' first
    | (with_reducible exact spec_biPut.L0_sup _ _ _ _ _)
    | (with_reducible refine Sup.ite ?_ ?_)
    | (with_reducible refine Sup.bind ?_ (fun _ => ?_))
    | (with_reducible exact Sup.const _)
    | exact spec_biPut.L0_sup _ _ _ _ _
    | exact Sup.const _
set_option maxHeartbeats 8000000 in
set_option maxRecDepth 100000 in
theorem spec_biPut.calls (k : Nat) (P0_ : Nat → Prop) (u9000_ : Value) (l0 : List Bool) (a1 : Int) (a2 : Int) (a3 : Int) (r : List Bool) (w0 w : World) (hB : Below w0.heap.size w0 w) (ho0 : Kd.R Kd.bool 4 w w0.heap.size P0_ u9000_ l0) (h : spec_biPut.f k l0 a1 a2 a3 = some r) :
    Calls Try.prog 43 #[u9000_, .int .i64 a1, .int .i64 a2, .int .i64 a3] w fun e w' => e = .returned (.tuple #[]) ∧ Kd.R Kd.bool 4 w' w0.heap.size (fun k_ => (P0_ k_ ∨ w.heap.size ≤ k_)) u9000_ r ∧ Below w0.heap.size w0 w' ∧ Kept w w' (fun k_ => P0_ k_) := by
  have HO0 := Qx (show Kd.R Kd.bool 4 w w0.heap.size (fun k_ => (P0_ k_ ∨ w.heap.size ≤ k_)) u9000_ l0 from Kd.R_mono ho0 (fun k_ hk => (.inl hk)))
  have HK := Qx (Kept.refl w (fun k_ => P0_ k_))
  have HW0 := Qx hB.size; have HB := Qx hB; clear hB
  have H : (spec_biPut.l0 k l0 a1 a2 a3 0) = some r := h
  clear h; have H' := Qx H; clear H
  go_enter Try.func43, Try.ntmps43
  go_wp2
  go_loopg [8] k (fun kq v8 w' => ∃ (x0_1 : List Bool) (x8_1 : Int), v8 = .int .i64 x8_1 ∧ Aside0 (spec_biPut.l0 kq x0_1 a1 a2 a3 x8_1 = some r) ∧ Aside0 (kq ≤ k) ∧ Aside0 (Kd.R Kd.bool 4 w' w0.heap.size (fun k_ => (P0_ k_ ∨ w.heap.size ≤ k_)) u9000_ x0_1) ∧ Aside0 (Kept w w' (fun k_ => P0_ k_)) ∧ Aside0 (Below w0.heap.size w0 w'))
  case atStart => exact ⟨(l0), (0), rg_, H', ⟨Nat.le_refl _⟩, ⟨kR_ HO0⟩, ⟨by repeat (first | (with_reducible first | exact HK.out | apply Kept.alloc | apply Kept.drewN | apply Kept.drew) | exact HK.out)⟩, ⟨hB_⟩⟩
  case round =>
   clear H'
   try clear p2
   try clear c4
   obtain ⟨x0_1, x8_1, rfl, HA, HK1, HO_0, HK, HB⟩ := hrel
   cases gk with
   | zero => exact absurd HA.out (by simp [spec_biPut.l0])
   | succ k1 =>
    have H := HA.out; clear HA; simp only [spec_biPut.l0] at H
    by_cases c5 : x8_1 < a2
    ·rw [if_pos c5] at H
     have c5b0 : decide (x8_1 < a2) = true := decide_eq_true c5
     clear c5
     by_cases c6 : 0 ≤ x8_1
     ·rw [if_pos c6] at H; have c6b0 := eq_true c6
      have c6b1 : decide (0 ≤ x8_1) = true := decide_eq_true c6
      clear c6
      obtain ⟨ji7, hji7⟩ : ∃ j_ : Int, (shr .i64 a3 x8_1) = j_ := ⟨_, rfl⟩
      replace H : (if 0 ≤ (wrap64 (a1 + x8_1)) then (if (wrap64 (a1 + x8_1)) < (x0_1.length : Int) then (spec_biPut.l0 k1 (x0_1.set ((wrap64 (a1 + x8_1)) : Int).toNat ((Go.bits .and .i64 (ji7) 1) == 1)) a1 a2 a3 (wrap64 (x8_1 + 1))) else (none)) else (none)) = some r := by first | (rw [hji7] at H; exact H) | (simp only [hji7] at H ⊢; exact H)
      have hji7_ : (a3 / 2 ^ min x8_1.toNat 64) = ji7 := hji7
      have hji7z : x8_1 ≤ 64 → (a3 / 2 ^ x8_1.toNat) = ji7 := shr_small hji7
      obtain ⟨ji8, hji8⟩ : ∃ j_ : Int, (wrap64 (a1 + x8_1)) = j_ := ⟨_, rfl⟩
      replace H : (if 0 ≤ (ji8) then (if (ji8) < (x0_1.length : Int) then (spec_biPut.l0 k1 (x0_1.set ((ji8) : Int).toNat ((Go.bits .and .i64 (ji7) 1) == 1)) a1 a2 a3 (wrap64 (x8_1 + 1))) else (none)) else (none)) = some r := by first | (rw [hji8] at H; exact H) | (simp only [hji8] at H ⊢; exact H)
      have hji8w : (IntKind.i64.wrap (a1 + x8_1)) = ji8 := (i64_w _).trans hji8
      by_cases c9 : 0 ≤ (ji8)
      ·rw [if_pos c9] at H
       have c9b0 : decide (0 ≤ (ji8)) = true := decide_eq_true c9
       clear c9
       by_cases c10 : (ji8) < (x0_1.length : Int)
       ·rw [if_pos c10] at H
        have c10b0 : decide ((ji8) < (x0_1.length : Int)) = true := decide_eq_true c10
        clear c10
        obtain ⟨y128, hy128⟩ : ∃ y_ : List Bool, y_ = (x0_1.set ((ji8) : Int).toNat ((Go.bits .and .i64 (ji7) 1) == 1)) := ⟨_, rfl⟩
        replace H : (spec_biPut.l0 k1 y128 a1 a2 a3 (wrap64 (x8_1 + 1))) = some r := by first | (rw [hy128]; with_reducible exact H) | (have H2_ := (Option.bind_some _ _).symm.trans H; rw [hy128]; with_reducible exact H2_) | (have H2_ := (Option.bind_some _ _).symm.trans H; with_reducible exact H2_) | with_reducible exact H | (rw [hy128]; exact H) | exact H
        have Ny128 := Qx hy128; clear hy128; have H' := Qx H; clear H
        have p11 : 0 ≤ ((ji8) : Int) := of_decide_eq_true as_
        have q11 : ((ji8) : Int) < ((x0_1.length : Int) : Int) := of_decide_eq_true as_
        obtain ⟨go11, co11, eo11, gb11, gl11, cl11, HG11⟩ := Kd.R_form HO_0.out (by omega)
        (first | cases eo11 | (injection eo11 with ea_ en_ ec_; (first | subst ea_ | (injection ea_ with ea_; subst ea_)); subst ec_; clear en_))
        have GB11 := Qx gb11; have GG11 := Qx HG11; clear gb11 gl11 HG11
        have HMgo11 := Qx (show (P0_ go11 ∨ w.heap.size ≤ go11) from (HO_0.out.1 _ rfl))
        obtain ⟨hx11_0, hf11_0⟩ := Kd.R_celln false HO_0.out ((ji8) : Int) p11 q11
        replace p11 := eq_true p11; replace q11 := eq_true q11
        have HP12 := Kd.R_putg HO_0.out ((ji8) : Int) ((Go.bits .and .i64 (ji7) 1) == 1)
        go_wp2_with (first | ((with_reducible refine gate_store (t := 4) (p := 23) rfl ?_); refine store_event (t := 4) (p := 23) (v := ?vo_w13) (w1 := (wr.setCell ⟨go11, ((ji8) : Int).toNat, none⟩ (.bool ((Go.bits .and .i64 (ji7) 1) == 1)))) ?hg ?ho ?hn ?hr ?_; (case ho => rfl); (case hg => rfl); (case hn => rfl); (case hr => first | (go_simp; done) | (go_simp; rfl)); intro w13 hw; have hg : wr.grownBy w13 (some go11) := (by rw [hw]; exact HP12.2); have hp_ : Kd.R Kd.bool 4 w13 w0.heap.size (fun k_ => (P0_ k_ ∨ w.heap.size ≤ k_)) (.slice (some ⟨go11, 0, none⟩) x0_1.length co11) y128 := (by rw [hw, Ny128.out]; exact HP12.1); clear HP12; replace HB := Qx ((by rw [hw]; exact below_set (HB.out) GB11.out : Below w0.heap.size w0 w13)); replace HK := Qx (Kept.of_grown (S := (fun k_ => P0_ k_)) hg (by repeat (first | (with_reducible first | exact HK.out | apply Kept.alloc | apply Kept.drewN | apply Kept.drew) | exact HK.out)) (fun k_ e_ => (HO_0.out.1 k_ e_))); replace HO_0 := Qx (hp_); clear hg hw hp_))
        go_roundg k1
        case measure => have := HK1.out; omega
        case rel => exact ⟨(y128), (wrap64 (x8_1 + 1)), rg_, H', ⟨by have := HK1.out; omega⟩, ⟨kR_ HO_0⟩, ⟨by repeat (first | (with_reducible first | exact HK.out | apply Kept.alloc | apply Kept.drewN | apply Kept.drew) | exact HK.out)⟩, ⟨hB_⟩⟩
       ·rw [if_neg c10] at H
        exact absurd H (by simp)
      ·rw [if_neg c9] at H
       exact absurd H (by simp)
     ·rw [if_neg c6] at H
      exact absurd H (by simp)
    ·rw [if_neg c5] at H
     have c5b0 : decide (x8_1 < a2) = false := decide_eq_false c5
     clear c5; obtain rfl := Option.some.inj H
     go_wp2
     first | go_end0 | ((try simp only [Exit.inBlock, Exit.then]); refine bodyPost_ret (results_none rfl _ _ _) rfl ?_)
     exact ⟨rf_, kR_ HO_0, hB_, by repeat (first | (with_reducible first | exact HK.out | apply Kept.alloc | apply Kept.drewN | apply Kept.drew) | exact HK.out)⟩
/-! ### spec_biNew: function 53 -/
def spec_biNew.f (a0 : Int) : Option (Int × List Int) := if 0 ≤ (wrap64 (Int.tdiv (wrap64 (a0 + 15)) 16)) then (if (wrap64 (Int.tdiv (wrap64 (a0 + 15)) 16) : Int).toNat ≤ 35184372088832 then (some (a0, (List.replicate (wrap64 (Int.tdiv (wrap64 (a0 + 15)) 16) : Int).toNat 0))) else (none)) else (none)
set_option maxHeartbeats 8000000 in
set_option maxRecDepth 100000 in
theorem spec_biNew.calls (a0 : Int) (r1 : Int) (r2 : List Int) (w : World) (h : spec_biNew.f a0 = some (r1, r2)) :
    Calls Try.prog 53 #[.int .i64 a0] w fun e w' => ∃ v1_ : Value, e = .returned (.agg #[.int .i64 r1, v1_]) ∧ Kd.R (Kd.int .i64) 3 w' w.heap.size (fun _ => True) v1_ r2 ∧ Below w.heap.size w w' := by
  have hu30 := Try.underlying30
  have HB := Qx (Below.refl w.heap.size w)
  have H : (if 0 ≤ (wrap64 (Int.tdiv (wrap64 (a0 + 15)) 16)) then (if (wrap64 (Int.tdiv (wrap64 (a0 + 15)) 16) : Int).toNat ≤ 35184372088832 then (some (a0, (List.replicate (wrap64 (Int.tdiv (wrap64 (a0 + 15)) 16) : Int).toNat 0))) else (none)) else (none)) = some (r1, r2) := h
  clear h
  obtain ⟨ji2, hji2⟩ : ∃ j_ : Int, (wrap64 (Int.tdiv (wrap64 (a0 + 15)) 16)) = j_ := ⟨_, rfl⟩
  replace H : (if 0 ≤ (ji2) then (if (ji2 : Int).toNat ≤ 35184372088832 then (some (a0, (List.replicate (ji2 : Int).toNat 0))) else (none)) else (none)) = some (r1, r2) := by first | (rw [hji2] at H; exact H) | (simp only [hji2] at H ⊢; exact H)
  have hji2w : (IntKind.i64.wrap (Int.tdiv (wrap64 (a0 + 15)) 16)) = ji2 := (i64_w _).trans hji2
  by_cases c3 : 0 ≤ (ji2)
  ·rw [if_pos c3] at H; have c3b0 := eq_true c3
   have c3b1 : decide (0 ≤ (ji2)) = true := decide_eq_true c3
   clear c3
   by_cases c4 : (ji2 : Int).toNat ≤ 35184372088832
   ·rw [if_pos c4] at H; have c4b0 := eq_true c4
    have c4b1 : decide ((ji2 : Int).toNat ≤ 35184372088832) = true := decide_eq_true c4
    clear c4
    obtain ⟨y130, hy130⟩ : ∃ y_ : List Int, y_ = (List.replicate (ji2 : Int).toNat 0) := ⟨_, rfl⟩
    replace H : (some (a0, y130)) = some (r1, r2) := by first | (rw [hy130]; with_reducible exact H) | (have H2_ := (Option.bind_some _ _).symm.trans H; rw [hy130]; with_reducible exact H2_) | (have H2_ := (Option.bind_some _ _).symm.trans H; with_reducible exact H2_) | with_reducible exact H | (rw [hy130]; exact H) | exact H
    have Ny130 := Qx hy130; clear hy130; simp only [Option.some.injEq, Prod.mk.injEq] at H; obtain ⟨rfl, rfl⟩ := H
    go_enter Try.func53, Try.ntmps53
    go_wp2_with (first | ((with_reducible refine gate_dst (N := 2) rfl ?_); refine bx_ 2 #[.int .i64 0, .slice none 0 0] 30 ?_; intro gb129 hg w5 hbox hb; have BK129 := Qx (hbox); have GW129 := Qx ((ge_ hg)); have GE129 := Qx ((ge_ hg)); replace HB := Qx (Qp hB_ hb); clear hb hbox hg) | ((with_reducible refine gate_dst (N := 7) rfl ?_); refine Kd.R_make (Kd.int .i64) _ 3 rfl (N := 7) rfl 22 _ _ rfl ji2 rfl rfl Try.underlying22 (.int .i64 0) 8 info3 rfl (by decide) (by omega) 0 (ok := fun _ => True) (okp := fun _ => True) rfl (fun _ hk => hk) trivial (of_decide_eq_true as_) (Nat.le_trans (Nat.mul_le_mul_right _ (of_decide_eq_true as_ : ji2.toNat ≤ 35184372088832)) (by omega)) (Below.refl _ _) (Nat.le_refl _) ?_; intro v131 w6 ho7 hb hg_ hnew_; clear hg_ hnew_; (first | rw [← Ny130.out] at ho7 | (simp only [Int.reduceToNat] at ho7; rw [← Ny130.out] at ho7)); have HO132 := Qx (Kd.R_lower ho7 (below_size hB_)); replace BK129 := Qx (Qb (kB_ BK129) hb); replace HB := Qx (Qp hB_ hb); clear hb ho7; obtain ⟨Ao8, co8, eo8⟩ := Kd.R_slice HO132.out; subst eo8; obtain ⟨hcz9_0, hcz9_1, hfz9_0, hfz9_1⟩ := cellsQ2_g1a (w := w6) BK129.out))
    refine bodyPost_ret (results_cell_row rfl _ _ gb129 30 #[.int .i64 a0, .slice Ao8 y130.length co8] (0, 0) _ rfl (by (with_reducible repeat (first | refine Qm ?_ _ | refine Qw ?_ | refine Qk ?_ _)); refine blk_put (cs := #[.int .i64 a0, .slice none 0 0]) ?_ 1 _ rfl; (with_reducible repeat (first | refine Qm ?_ _ | refine Qw ?_ | refine Qk ?_ _)); refine blk_put (cs := #[.int .i64 0, .slice none 0 0]) ?_ 0 _ rfl; (with_reducible repeat (first | refine Qm ?_ _ | refine Qw ?_ | refine Qk ?_ _)); exact BK129.out) Try.underlying30 rfl (by kernel_rfl)) rfl ?_
    exact ⟨_, by first | rfl | (simp [errW_none, errW_some] <;> rfl) | (simp only [← hji2]; first | rfl | (simp [errW_none, errW_some] <;> rfl)) | (simp [*, errW_none, errW_some] <;> rfl), by (with_reducible repeat (first | apply Kd.R_alloc | apply Kd.R_drewN | apply Kd.R_drew)); exact Kd.R_mono (farsQ2_g1a (Kd.R_types HO132.out BK129.out (by decide)) (fun _ hk => hk.2) (.int .i64 a0) (.slice Ao8 y130.length co8)) (fun _ hk => trivial), hB_⟩
   ·rw [if_neg c4] at H
    exact absurd H (by simp)
  ·rw [if_neg c3] at H
   exact absurd H (by simp)
/-! ### spec_biSet: function 54 -/
def spec_biSet.f (a0_0 : Int) (l0_1 : List Int) (a1 : Int) : Option (List Int) := if 0 ≤ (wrap64 (Int.tdiv a1 16)) then (if (wrap64 (Int.tdiv a1 16)) < (l0_1.length : Int) then (if 0 ≤ (Int.tmod a1 16) then (some (l0_1.set ((wrap64 (Int.tdiv a1 16)) : Int).toNat (Go.bits .or .i64 (rd l0_1 (wrap64 (Int.tdiv a1 16))) (shl .i64 1 (Int.tmod a1 16))))) else (none)) else (none)) else (none)
def spec_biSet.T1 : Bool × List (List Nat × List Nat) := (true, [([], []), ([0], [0]), ([], []), ([2], [2]), ([1, 3], [1, 3]), ([4], [4]), ([], []), ([6], [6]), ([7], [7]), ([5, 8], [5, 8]), ([1, 3, 0, 1, 2, 3, 4, 5, 6, 7, 8, 9], [1, 3]), ([10, 9, 0, 1, 2, 3, 4, 5, 6, 7, 8, 9], [9, 10])])
def spec_biSet.B1 : List Nat := [0, 1, 0, 4, 15, 31, 0, 64, 192, 511, 1023, 2047]
theorem spec_biSet.tab1 : rtab .any (opsOf Try.f54 1) = spec_biSet.T1 := by kernel_rfl
theorem spec_biSet.bits1 : waitsOk spec_biSet.T1.2 spec_biSet.B1 = true := by kernel_rfl
set_option maxHeartbeats 8000000 in
set_option maxRecDepth 100000 in
theorem spec_biSet.calls (a0_0 : Int) (P0_1_ : Nat → Prop) (u9000_ : Value) (l0_1 : List Int) (a1 : Int) (r : List Int) (w0 w : World) (hB : Below w0.heap.size w0 w) (ho0_1 : Kd.R (Kd.int .i64) 3 w w0.heap.size P0_1_ u9000_ l0_1) (h : spec_biSet.f a0_0 l0_1 a1 = some r) :
    Calls Try.prog 54 #[.agg #[.int .i64 a0_0, u9000_], .int .i64 a1] w fun e w' => e = .returned (.tuple #[]) ∧ Kd.R (Kd.int .i64) 3 w' w0.heap.size (fun k_ => (P0_1_ k_ ∨ w.heap.size ≤ k_)) u9000_ r ∧ Below w0.heap.size w0 w' ∧ Kept w w' (fun k_ => P0_1_ k_) := by
  have hu30 := Try.underlying30; have hu22 := Try.underlying22
  have HO0_1 := Qx (show Kd.R (Kd.int .i64) 3 w w0.heap.size (fun k_ => (P0_1_ k_ ∨ w.heap.size ≤ k_)) u9000_ l0_1 from Kd.R_mono ho0_1 (fun k_ hk => (.inl hk)))
  have HK := Qx (Kept.refl w (fun k_ => P0_1_ k_))
  have HW0 := Qx hB.size; have HB := Qx hB; clear hB
  have H : (if 0 ≤ (wrap64 (Int.tdiv a1 16)) then (if (wrap64 (Int.tdiv a1 16)) < (l0_1.length : Int) then (if 0 ≤ (Int.tmod a1 16) then (some (l0_1.set ((wrap64 (Int.tdiv a1 16)) : Int).toNat (Go.bits .or .i64 (rd l0_1 (wrap64 (Int.tdiv a1 16))) (shl .i64 1 (Int.tmod a1 16))))) else (none)) else (none)) else (none)) = some r := h
  clear h
  obtain ⟨ji3, hji3⟩ : ∃ j_ : Int, (wrap64 (Int.tdiv a1 16)) = j_ := ⟨_, rfl⟩
  replace H : (if 0 ≤ (ji3) then (if (ji3) < (l0_1.length : Int) then (if 0 ≤ (Int.tmod a1 16) then (some (l0_1.set ((ji3) : Int).toNat (Go.bits .or .i64 (rd l0_1 (ji3)) (shl .i64 1 (Int.tmod a1 16))))) else (none)) else (none)) else (none)) = some r := by first | (rw [hji3] at H; exact H) | (simp only [hji3] at H ⊢; exact H)
  have hji3w : (IntKind.i64.wrap (Int.tdiv a1 16)) = ji3 := (i64_w _).trans hji3
  by_cases c4 : 0 ≤ (ji3)
  ·rw [if_pos c4] at H
   have c4b0 : decide (0 ≤ (ji3)) = true := decide_eq_true c4
   clear c4
   by_cases c5 : (ji3) < (l0_1.length : Int)
   ·rw [if_pos c5] at H
    have c5b0 : decide ((ji3) < (l0_1.length : Int)) = true := decide_eq_true c5
    clear c5
    obtain ⟨ji6, hji6⟩ : ∃ j_ : Int, (Int.tmod a1 16) = j_ := ⟨_, rfl⟩
    replace H : (if 0 ≤ (ji6) then (some (l0_1.set ((ji3) : Int).toNat (Go.bits .or .i64 (rd l0_1 (ji3)) (shl .i64 1 (ji6))))) else (none)) = some r := by first | (rw [hji6] at H; exact H) | (simp only [hji6] at H ⊢; exact H)
    by_cases c7 : 0 ≤ (ji6)
    ·rw [if_pos c7] at H; have c7b0 := eq_true c7
     have c7b1 : decide (0 ≤ (ji6)) = true := decide_eq_true c7
     clear c7
     obtain ⟨ji8, hji8⟩ : ∃ j_ : Int, (shl .i64 1 (ji6)) = j_ := ⟨_, rfl⟩
     replace H : (some (l0_1.set ((ji3) : Int).toNat (Go.bits .or .i64 (rd l0_1 (ji3)) (ji8)))) = some r := by first | (rw [hji8] at H; exact H) | (simp only [hji8] at H ⊢; exact H)
     have hji8_ : (IntKind.i64.wrap (1 * 2 ^ min (ji6).toNat 64)) = ji8 := hji8
     have hji8z : (ji6) ≤ 64 → (IntKind.i64.wrap (1 * 2 ^ (ji6).toNat)) = ji8 := shl_small hji8
     have hji8u : (IntKind.i64.wrap (2 ^ min (ji6).toNat 64)) = ji8 := by have h_ := hji8_; rw [Int.one_mul] at h_; exact h_
     have hji8v : (ji6) ≤ 64 → (IntKind.i64.wrap (2 ^ (ji6).toNat)) = ji8 := fun hle_ => by have h_ := hji8z hle_; rw [Int.one_mul] at h_; exact h_
     have hji8y : (wrap64 (1 * 2 ^ min (ji6).toNat 64)) = ji8 := (i64_w _).symm.trans hji8_
     have hji8x : (ji6) ≤ 64 → (wrap64 (1 * 2 ^ (ji6).toNat)) = ji8 := fun h_ => (i64_w _).symm.trans (hji8z h_)
     obtain ⟨y135, hy135⟩ : ∃ y_ : List Int, y_ = (l0_1.set ((ji3) : Int).toNat (Go.bits .or .i64 (rd l0_1 (ji3)) (ji8))) := ⟨_, rfl⟩
     replace H : (some y135) = some r := by first | (rw [hy135]; with_reducible exact H) | (have H2_ := (Option.bind_some _ _).symm.trans H; rw [hy135]; with_reducible exact H2_) | (have H2_ := (Option.bind_some _ _).symm.trans H; with_reducible exact H2_) | with_reducible exact H | (rw [hy135]; exact H) | exact H
     have Ny135 := Qx hy135; clear hy135; obtain rfl := Option.some.inj H; obtain ⟨Ao10, co10, eo10⟩ := Kd.R_slice HO0_1.out; subst eo10
     go_enter Try.func54, Try.ntmps54
     try go_wp2_with (first | ((with_reducible refine gate_dst (N := 2) rfl ?_); refine bx_ 2 #[.int .i64 a0_0, .slice Ao10 l0_1.length co10] 30 ?_; intro gb133 hg w11 hbox hb; replace HO0_1 := Qx (Kd.R_below (kR_ HO0_1) hb); have BK133 := Qx (hbox); have GW133 := Qx ((by rw [hg]; exact (by first | exact HK.out.1 | exact (show Kept w _ (fun k_ => P0_1_ k_) from by repeat (first | (with_reducible first | exact HK.out | apply Kept.alloc | apply Kept.drewN | apply Kept.drew) | exact HK.out)).1) : w.heap.size ≤ gb133)); replace HK := Qx (Kept.below (S := (fun k_ => P0_1_ k_)) (by repeat (first | (with_reducible first | exact HK.out | apply Kept.alloc | apply Kept.drewN | apply Kept.drew) | exact HK.out)) hb); have GE133 := Qx ((by rw [hg]; exact (below_size hB_) : w0.heap.size ≤ gb133)); replace HB := Qx (Qp hB_ hb); clear hb hbox hg))
     replace HO0_1 := Qx (Kd.R_drew HO0_1.out)
     replace BK133 := Qx (Qw BK133.out)
     replace HK := Qx (Kept.drew HK.out)
     replace HB := Qx (below_drew1 HB.out)
     have p134 : 0 ≤ ((ji3) : Int) := of_decide_eq_true as_
     have q134 : (ji3) < (l0_1.length : Int) := of_decide_eq_true as_
     obtain ⟨ad134, e134, hx134_0⟩ := Kd.at_int (Kd.R_reads' HO0_1.out).2.2 (ji3) p134 q134
     cases e134
     replace p134 := eq_true p134; replace q134 := eq_true q134
     have p9 : 0 ≤ ((ji3) : Int) := of_decide_eq_true as_
     have q9 : ((ji3) : Int) < ((l0_1.length : Int) : Int) := of_decide_eq_true as_
     obtain ⟨go9, co9, eo9, gb9, gl9, cl9, HG9⟩ := Kd.R_form HO0_1.out (by omega)
     (first | cases eo9 | (injection eo9 with ea_ en_ ec_; (first | subst ea_ | (injection ea_ with ea_; subst ea_)); subst ec_; clear en_))
     have GB9 := Qx gb9; have GG9 := Qx HG9; clear gb9 gl9 HG9
     have HMgo9 := Qx (show (P0_1_ go9 ∨ w.heap.size ≤ go9) from (HO0_1.out.1 _ rfl))
     (first | simp only [add_plain] at hx134_0 | skip)
     obtain ⟨hx9_0, hf9_0⟩ := Kd.R_celln 0 HO0_1.out ((ji3) : Int) p9 q9
     replace p9 := eq_true p9; replace q9 := eq_true q9
     have HP13 := Kd.R_putn HO0_1.out ((ji3) : Int) (Go.bits .or .i64 (rd l0_1 (ji3)) (ji8))
     rw [← Ny135.out] at HP13; have HQ13 := Qx HP13; clear HP13
     refine start_ (n := 12) (S := fun w' => w'.cell? ⟨gb133, 0, none⟩ = some (.int .i64 a0_0) ∧ w'.cell? ⟨gb133, 1, none⟩ = some (.slice (some ⟨go9, 0, none⟩) l0_1.length co10) ∧ w'.cell? ⟨go9, ((ji3)).toNat, none⟩ = some (.int .i64 (rd l0_1 (ji3)))) (ds := [11]) #[false, false, false, false, false, false, false, false, false, false, false, false] (by kernel_rfl) rfl rfl ⟨(Qc BK133.out 0).trans rfl, (Qc BK133.out 1).trans rfl, hx134_0⟩ (fun hHeld => ?_); refine with_tabW spec_biSet.tab1 spec_biSet.bits1 (fun HT_ HW_ => ?_)
     generalize w11.drew = w12 at HO0_1 BK133 HK HB GG9 HQ13 hf9_0 hx134_0 hx9_0 hHeld ⊢
     refine pr_ 0 4 12 1 ?_
     refine pr_ 2 6 12 5 ?_
     refine pr_ 3 7 12 13 ?_
     refine pr_ 6 10 12 77 ?_
     refine pr_ 7 11 12 205 ?_
     refine pr_ 8 12 12 461 ?_
     refine tq_ 1 5 12 463 HT_.out HW_.out (by kernel_rfl) hHeld ?_ rfl (by rintro w' ⟨s0, s1, s2⟩; go_simp; with_reducible rfl)
     refine pr_ 4 8 12 479 ?_
     refine tq_ 5 9 12 511 HT_.out HW_.out (by kernel_rfl) hHeld ?_ rfl (by rintro w' ⟨s0, s1, s2⟩; go_simp; with_reducible rfl)
     refine pr_ 9 13 12 1023 ?_
     refine pr_ 10 14 12 2047 ?_
     refine last_ (i := 11) (N := none) (bsA 12 4095) rfl rfl (one_of HT_.out (by kernel_rfl)) (by decide) (fun K hK => ?_)
     refine skip_ (w1 := ?_) (by rfl) rfl ?_ ?_
     rotate_left
     ·go_simp
      rfl
     refine hK.out _ _ ?_
     clear hK K
     refine done_ (done_of HT_.out (by kernel_rfl)) ?_
     try go_wp2
     first | go_end0 | ((try simp only [Exit.inBlock, Exit.then]); refine bodyPost_ret (results_none rfl _ _ _) rfl ?_)
     exact ⟨by first | rfl | (simp [errW_none, errW_some] <;> rfl) | (simp only [← hji3, ← hji6, ← hji8]; first | rfl | (simp [errW_none, errW_some] <;> rfl)) | (simp [*, errW_none, errW_some] <;> rfl), kR_ HQ13, hB_, by repeat (first | (with_reducible first | exact HK.out | apply Kept.alloc | apply Kept.drewN | apply Kept.drew | refine Kept.setCell ?_ HMgo9.out _ | refine Kept.setCell ?_ (.inr GW133.out) _) | exact HK.out)⟩
    ·rw [if_neg c7] at H
     exact absurd H (by simp)
   ·rw [if_neg c5] at H
    exact absurd H (by simp)
  ·rw [if_neg c4] at H
   exact absurd H (by simp)
/-! ### spec_biSome: function 44 -/
def spec_biSome.l0 : Nat → List Bool → Int → Int → Int → List Int → Option (Int × List Int)
  | 0, _, _, _, _, _ => none
  | k + 1, x9, x10, x11, x142000, x142001 => if x11 < x10 then (if 0 ≤ x11 then (if x11 < (x9.length : Int) then (if rdOf false x9 x11 = true then ((spec_biSet.f x142000 x142001 x11).bind fun t143 => (spec_biSome.l0 k x9 x10 (wrap64 (x11 + 1)) x142000 t143)) else (spec_biSome.l0 k x9 x10 (wrap64 (x11 + 1)) x142000 x142001)) else (none)) else (none)) else (some (x142000, x142001))
def spec_biSome.f (k : Nat) (l0 : List Bool) : Option (Int × List Int) := (spec_biNew.f (l0.length : Int)).bind fun bt137 => (spec_biSome.l0 k l0 (l0.length : Int) 0 bt137.1 bt137.2)
theorem spec_biSome.mono_l : ∀ k, (∀ y0 y1 y2 y3 y4, LeO (spec_biSome.l0 k y0 y1 y2 y3 y4) (spec_biSome.l0 (k + 1) y0 y1 y2 y3 y4))
  | 0 => fun _ _ _ _ _ r h => by simp [spec_biSome.l0] at h
  | k + 1 => by
    have ih0 := spec_biSome.mono_l k
    · intro y0 y1 y2 y3 y4
      unfold spec_biSome.l0
      repeat' first
      | (with_reducible exact ih0 _ _ _ _ _)
      | (with_reducible exact LeO.refl _)
      | (with_reducible exact LeO.none _)
      | (with_reducible refine LeO.ite ?_ ?_)
      | (with_reducible refine LeO.bind ?_ (fun _ => ?_))
      | exact ih0 _ _ _ _ _
      | exact LeO.none _
      | refine LeO.ite ?_ ?_
      | refine LeO.bind ?_ (fun _ => ?_)
theorem spec_biSome.mono : ∀ a0 k, LeO (spec_biSome.f k a0) (spec_biSome.f (k + 1) a0) := by
  intro a0 k
  have ih0 := spec_biSome.mono_l k
  unfold spec_biSome.f
  repeat' first
      | (with_reducible exact ih0 _ _ _ _ _)
      | (with_reducible exact LeO.refl _)
      | (with_reducible exact LeO.none _)
      | (with_reducible refine LeO.ite ?_ ?_)
      | (with_reducible refine LeO.bind ?_ (fun _ => ?_))
      | exact ih0 _ _ _ _ _
      | exact LeO.none _
      | refine LeO.ite ?_ ?_
      | refine LeO.bind ?_ (fun _ => ?_)
noncomputable def spec_biSome.L0 (y0 : List Bool) (y1 : Int) (y2 : Int) (y3 : Int) (y4 : List Int) : Option (Int × List Int) := lim fun k => spec_biSome.l0 k y0 y1 y2 y3 y4
theorem spec_biSome.L0_sup (y0 : List Bool) (y1 : Int) (y2 : Int) (y3 : Int) (y4 : List Int) : Sup (fun k => spec_biSome.l0 k y0 y1 y2 y3 y4) (spec_biSome.L0 y0 y1 y2 y3 y4) := Sup.of_mono fun k => spec_biSome.mono_l k y0 y1 y2 y3 y4
noncomputable def spec_biSome.F (l0 : List Bool) : Option (Int × List Int) := lim fun k => spec_biSome.f k l0
theorem spec_biSome.F_sup (l0 : List Bool) : Sup (fun k => spec_biSome.f k l0) (spec_biSome.F l0) := Sup.of_mono fun k => spec_biSome.mono l0 k
theorem spec_biSome.L0_eq (x9 : List Bool) (x10 : Int) (x11 : Int) (x142000 : Int) (x142001 : List Int) : spec_biSome.L0 x9 x10 x11 x142000 x142001 = if x11 < x10 then (if 0 ≤ x11 then (if x11 < (x9.length : Int) then (if rdOf false x9 x11 = true then ((spec_biSet.f x142000 x142001 x11).bind fun t143 => (spec_biSome.L0 x9 x10 (wrap64 (x11 + 1)) x142000 t143)) else (spec_biSome.L0 x9 x10 (wrap64 (x11 + 1)) x142000 x142001)) else (none)) else (none)) else (some (x142000, x142001)) := by
  refine Sup.unique (spec_biSome.L0_sup x9 x10 x11 x142000 x142001) (Sup.shift (fun k => spec_biSome.mono_l k x9 x10 x11 x142000 x142001) (Sup.congr (g' := fun k => if x11 < x10 then (if 0 ≤ x11 then (if x11 < (x9.length : Int) then (if rdOf false x9 x11 = true then ((spec_biSet.f x142000 x142001 x11).bind fun t143 => (spec_biSome.l0 k x9 x10 (wrap64 (x11 + 1)) x142000 t143)) else (spec_biSome.l0 k x9 x10 (wrap64 (x11 + 1)) x142000 x142001)) else (none)) else (none)) else (some (x142000, x142001))) (fun k => by first | rfl | simp only [spec_biSome.l0]) ?_))
  repeat' first
    | (with_reducible exact spec_biSome.L0_sup _ _ _ _ _)
    | (with_reducible refine Sup.ite ?_ ?_)
    | (with_reducible refine Sup.bind ?_ (fun _ => ?_))
    | (with_reducible exact Sup.const _)
    | exact spec_biSome.L0_sup _ _ _ _ _
    | exact Sup.const _
theorem spec_biSome.F_eq (l0 : List Bool) : spec_biSome.F l0 = (spec_biNew.f (l0.length : Int)).bind fun bt137 => (spec_biSome.L0 l0 (l0.length : Int) 0 bt137.1 bt137.2) := by
  refine Sup.unique (spec_biSome.F_sup l0) (Sup.congr (g' := fun k => (spec_biNew.f (l0.length : Int)).bind fun bt137 => (spec_biSome.l0 k l0 (l0.length : Int) 0 bt137.1 bt137.2)) (fun k => by first | rfl | simp only [spec_biSome.f]) ?_)
  repeat' first
    | (with_reducible exact spec_biSome.L0_sup _ _ _ _ _)
    | (with_reducible refine Sup.ite ?_ ?_)
    | (with_reducible refine Sup.bind ?_ (fun _ => ?_))
    | (with_reducible exact Sup.const _)
    | exact spec_biSome.L0_sup _ _ _ _ _
    | exact Sup.const _
set_option maxHeartbeats 8000000 in
set_option maxRecDepth 100000 in
theorem spec_biSome.calls (k : Nat) (A0 : Option Addr) (c0 : Nat) (l0 : List Bool) (r1 : Int) (r2 : List Int) (w : World) (hr0 : Kd.C Kd.bool w A0 l0.length l0) (hc0 : l0.length ≤ c0) (h : spec_biSome.f k l0 = some (r1, r2)) :
    Calls Try.prog 44 #[.slice A0 l0.length c0] w fun e w' => ∃ v1_ : Value, e = .returned (.agg #[.int .i64 r1, v1_]) ∧ Kd.R (Kd.int .i64) 3 w' w.heap.size (fun _ => True) v1_ r2 ∧ Below w.heap.size w w' := by
  have hu30 := Try.underlying30; have HR0 := Qx hr0; have HC0 := Qx hc0; clear hr0 hc0
  have HB := Qx (Below.refl w.heap.size w)
  have H : ((spec_biNew.f (l0.length : Int)).bind fun bt137 => (spec_biSome.l0 k l0 (l0.length : Int) 0 bt137.1 bt137.2)) = some (r1, r2) := h
  clear h; replace H := Option.bind_eq_some_iff.mp H; obtain ⟨⟨t137, t138⟩, A20, H⟩ := H
  have A2 := Qx A20; clear A20; have H' := Qx H; clear H
  go_enter Try.func44, Try.ntmps44
  go_wp2_with (first | ((with_reducible refine gate_dst (N := 2) rfl ?_); refine bx_ 2 #[.int .i64 0, .slice none 0 0] 30 ?_; intro gb136 hg w3 hbox hb; have BK136 := Qx (hbox); have GW136 := Qx ((ge_ hg)); have GE136 := Qx ((ge_ hg)); replace HB := Qx (Qp hB_ hb); clear hb hbox hg) | ((with_reducible refine gate_callee (f := 53) rfl ?_); refine gl_ 8 Try.func53 #[.int .i64 (l0.length : Int)] ?_; (with_reducible refine (spec_biNew.calls (l0.length : Int) t137 t138 _ A2.out).mono ?_); rintro e w4 ⟨v139, rfl, ho0, hb⟩; refine ⟨_, rfl, ?_⟩; have HO140 := Qx (Kd.R_lower ho0 (below_size hB_)); replace BK136 := Qx (Qb (kB_ BK136) hb); replace HB := Qx (Qp hB_ hb); (try clear hb); (try clear hb2); (try clear hk); (try clear hi); (try clear ho0)) | ((with_reducible refine gate_dst (N := 3) rfl ?_); refine bx_ 3 #[.int .i64 0, .slice none 0 0] 30 ?_; intro gb141 hg w5 hbox hb; replace HO140 := Qx (Kd.R_below (kR_ HO140) hb); have BK141 := Qx (hbox); have GW141 := Qx ((ge_ hg)); have GE141 := Qx ((ge_ hg)); replace HB := Qx (Qp hB_ hb); have NB136_141 := Qx ((ne_ hg BK136)); have NB141_136 := Qx ((nf_ hg BK136)); replace BK136 := Qx (Qb (kB_ BK136) hb); clear hb hbox hg; have hnb6 := NB141_136.out; have hnc6 := NB136_141.out; obtain ⟨hcz7_0, hcz7_1, hfz7_0, hfz7_1⟩ := cellsQ2_g1a (w := w5) BK141.out; obtain ⟨Ao8, co8, eo8⟩ := Kd.R_slice HO140.out; subst eo8))
  go_loopg [11] k (fun kq v11 w' => ∃ (x11_1 : Int) (x142001_1 : List Int) (u142001 : Value), v11 = .int .i64 x11_1 ∧ Aside0 (spec_biSome.l0 kq l0 (l0.length : Int) x11_1 t137 x142001_1 = some (r1, r2)) ∧ Aside0 (kq ≤ k) ∧ Aside0 (Kd.R (Kd.int .i64) 3 w' w.heap.size (fun _ => True) u142001 x142001_1) ∧ Aside0 (w'.heap[gb136]? = some (.cells #[.int .i64 0, (.slice none 0 0)] 30 (0, 0))) ∧ Aside0 (w'.heap[gb141]? = some (.cells #[.int .i64 t137, u142001] 30 (0, 0))) ∧ Aside0 (Below w.heap.size w w'))
  case atStart => exact ⟨(0), (t138), (.slice Ao8 t138.length co8), rg_, H', ⟨Nat.le_refl _⟩, ⟨by (with_reducible repeat (first | apply Kd.R_alloc | apply Kd.R_drewN | apply Kd.R_drew)); exact Kd.R_mono (farsQ2_g1a (Kd.R_types HO140.out BK141.out (by decide)) (fun _ hk => hk.2) (.int .i64 t137) (.slice Ao8 t138.length co8)) (fun _ hk => trivial)⟩, ⟨by (with_reducible repeat (first | refine Qm ?_ _ | refine Qw ?_ | refine Qk ?_ _)); refine blk_far ?_ NB136_141.out _; (with_reducible repeat (first | refine Qm ?_ _ | refine Qw ?_ | refine Qk ?_ _)); refine blk_far ?_ NB136_141.out _; (with_reducible repeat (first | refine Qm ?_ _ | refine Qw ?_ | refine Qk ?_ _)); exact BK136.out⟩, ⟨by (with_reducible repeat (first | refine Qm ?_ _ | refine Qw ?_ | refine Qk ?_ _)); refine blk_put (cs := #[.int .i64 t137, .slice none 0 0]) ?_ 1 _ rfl; (with_reducible repeat (first | refine Qm ?_ _ | refine Qw ?_ | refine Qk ?_ _)); refine blk_put (cs := #[.int .i64 0, .slice none 0 0]) ?_ 0 _ rfl; (with_reducible repeat (first | refine Qm ?_ _ | refine Qw ?_ | refine Qk ?_ _)); exact BK141.out⟩, ⟨hB_⟩⟩
  case round =>
   clear H'
   try clear p2
   try clear c4
   try clear c5
   try clear c6
   try clear hcz7_0
   try clear hcz7_1
   try clear hfz7_0
   try clear hfz7_1
   obtain ⟨x11_1, x142001_1, u142001, rfl, HA, HK1, HO_142001, BK136, BK141, HB⟩ := hrel
   cases gk with
   | zero => exact absurd HA.out (by simp [spec_biSome.l0])
   | succ k1 =>
    have H := HA.out; clear HA; simp only [spec_biSome.l0] at H
    by_cases c9 : x11_1 < (l0.length : Int)
    ·rw [if_pos c9] at H
     have c9b0 : decide (x11_1 < (l0.length : Int)) = true := decide_eq_true c9
     clear c9
     by_cases c10 : 0 ≤ x11_1
     ·rw [if_pos c10] at H
      have c10b0 : decide (0 ≤ x11_1) = true := decide_eq_true c10
      clear c10
      by_cases c11 : x11_1 < (l0.length : Int)
      ·rw [if_pos c11] at H
       have c11b0 : decide (x11_1 < (l0.length : Int)) = true := decide_eq_true c11
       clear c11
       obtain ⟨bq12, hbq12⟩ : ∃ b_ : Bool, b_ = (rdOf false l0 x11_1) := ⟨_, rfl⟩
       replace H : (if bq12 = true then ((spec_biSet.f t137 x142001_1 x11_1).bind fun t143 => (spec_biSome.l0 k1 l0 (l0.length : Int) (wrap64 (x11_1 + 1)) t137 t143)) else (spec_biSome.l0 k1 l0 (l0.length : Int) (wrap64 (x11_1 + 1)) t137 x142001_1)) = some (r1, r2) := by rw [← hbq12] at H; exact H
       have Nbq12 := Qx hbq12; clear hbq12
       by_cases c13 : bq12 = true
       ·subst c13
        have H1 : ((spec_biSet.f t137 x142001_1 x11_1).bind fun t143 => (spec_biSome.l0 k1 l0 (l0.length : Int) (wrap64 (x11_1 + 1)) t137 t143)) = some (r1, r2) := by rw [if_pos rfl] at H; exact H
        clear H; have H := H1; clear H1; replace H := Option.bind_eq_some_iff.mp H; obtain ⟨t143, A140, H⟩ := H
        have A14 := Qx A140; clear A140; have H' := Qx H; clear H
        have p142 : 0 ≤ (x11_1 : Int) := of_decide_eq_true as_
        have q142 : x11_1 < (l0.length : Int) := of_decide_eq_true as_
        obtain ⟨ad142, e142, hx142_0⟩ := Kd.at_bool HR0.out x11_1 p142 q142
        (try rw [← Nbq12.out] at hx142_0)
        cases e142
        replace hx142_0 := (HB.out.cell (World.block_lt_of_cell? w _ hx142_0)).trans hx142_0
        replace p142 := eq_true p142; replace q142 := eq_true q142; have hnb15 := NB141_136.out; have hnc15 := NB136_141.out
        obtain ⟨hcz16_0, hcz16_1, hfz16_0, hfz16_1⟩ := cellsQ2_g1a (w := wr) BK141.out
        obtain ⟨Ao17, co17, eo17⟩ := Kd.R_slice HO_142001.out; subst eo17
        go_wp2_with (first | ((with_reducible refine gate_callee (f := 54) rfl ?_); refine gl_ 19 Try.func54 #[.agg #[.int .i64 t137, .slice Ao17 x142001_1.length co17], .int .i64 x11_1] ?_; (with_reducible refine (spec_biSet.calls t137 (fun k_ => some k_ = (.slice Ao17 x142001_1.length co17 : Value).ownBlock) (.slice Ao17 x142001_1.length co17) x142001_1 x11_1 t143 w _ ?side1 ?side2 A14.out).mono ?_); (case side1 => exact hB_); (case side2 => exact Kd.R_tight rfl HO_142001.out); rintro e w18 ⟨rfl, hy0, hb, hkp⟩; refine ⟨_, rfl, ?_⟩; replace BK136 := Qx (blk_kept (kB_ BK136) hkp (fun hs_ => (fun e_ => (Kd.R_ne HO_142001.out BK136.out (by decide)) e_) hs_)); replace BK141 := Qx (blk_kept (kB_ BK141) hkp (fun hs_ => (fun e_ => (Kd.R_ne HO_142001.out BK141.out (by decide)) e_) hs_)); replace HO_142001 := Qx (Kd.R_reok rfl hy0 (fun k_ e_ => HO_142001.out.1 k_ e_)); replace HB := Qx (hb); (try clear hb); (try clear hkp); (try clear hy0)))
        go_roundg k1
        case measure => have := HK1.out; omega
        case rel => exact ⟨(wrap64 (x11_1 + 1)), (t143), (.slice Ao17 x142001_1.length co17), rg_, H', ⟨by have := HK1.out; omega⟩, ⟨kR_ HO_142001⟩, ⟨kB_ BK136⟩, ⟨kB_ BK141⟩, ⟨hB_⟩⟩
       ·replace c13 := Bool.eq_false_iff.mpr c13; subst c13
        have H1 : (spec_biSome.l0 k1 l0 (l0.length : Int) (wrap64 (x11_1 + 1)) t137 x142001_1) = some (r1, r2) := by rw [if_neg (show ¬ (false = true) by decide)] at H; exact H
        clear H; have H := H1; clear H1; have H' := Qx H; clear H
        have p142 : 0 ≤ (x11_1 : Int) := of_decide_eq_true as_
        have q142 : x11_1 < (l0.length : Int) := of_decide_eq_true as_
        obtain ⟨ad142, e142, hx142_0⟩ := Kd.at_bool HR0.out x11_1 p142 q142
        (try rw [← Nbq12.out] at hx142_0)
        cases e142
        replace hx142_0 := (HB.out.cell (World.block_lt_of_cell? w _ hx142_0)).trans hx142_0
        replace p142 := eq_true p142; replace q142 := eq_true q142
        go_wp2
        go_roundg k1
        case measure => have := HK1.out; omega
        case rel => exact ⟨(wrap64 (x11_1 + 1)), (x142001_1), (u142001), rg_, H', ⟨by have := HK1.out; omega⟩, ⟨kR_ HO_142001⟩, ⟨kB_ BK136⟩, ⟨kB_ BK141⟩, ⟨hB_⟩⟩
      ·rw [if_neg c11] at H
       exact absurd H (by simp)
     ·rw [if_neg c10] at H
      exact absurd H (by simp)
    ·rw [if_neg c9] at H
     have c9b0 : decide (x11_1 < (l0.length : Int)) = false := decide_eq_false c9
     clear c9; simp only [Option.some.injEq, Prod.mk.injEq] at H; obtain ⟨rfl, rfl⟩ := H; have hnb19 := NB141_136.out; have hnc19 := NB136_141.out
     obtain ⟨hcz20_0, hcz20_1, hfz20_0, hfz20_1⟩ := cellsQ2_g1a (w := wr) BK141.out
     obtain ⟨hcz21_0, hcz21_1, hfz21_0, hfz21_1⟩ := cellsQ2_g1a (w := wr) BK136.out
     obtain ⟨Ao22, co22, eo22⟩ := Kd.R_slice HO_142001.out; subst eo22
     go_wp2
     refine bodyPost_ret (results_cell_row rfl _ _ gb136 30 #[.int .i64 t137, .slice Ao22 x142001_1.length co22] (0, 0) _ rfl (by (with_reducible repeat (first | refine Qm ?_ _ | refine Qw ?_ | refine Qk ?_ _)); refine blk_put (cs := #[.int .i64 t137, .slice none 0 0]) ?_ 1 _ rfl; (with_reducible repeat (first | refine Qm ?_ _ | refine Qw ?_ | refine Qk ?_ _)); refine blk_put (cs := #[.int .i64 0, .slice none 0 0]) ?_ 0 _ rfl; (with_reducible repeat (first | refine Qm ?_ _ | refine Qw ?_ | refine Qk ?_ _)); exact BK136.out) Try.underlying30 rfl (by kernel_rfl)) rfl ?_
     exact ⟨_, rf_, by (with_reducible repeat (first | apply Kd.R_alloc | apply Kd.R_drewN | apply Kd.R_drew)); exact Kd.R_mono (farsQ2_g1a (Kd.R_types HO_142001.out BK136.out (by decide)) (fun _ hk => hk.2) (.int .i64 t137) (.slice Ao22 x142001_1.length co22)) (fun _ hk => trivial), hB_⟩
end Go.Proofs.Ytcjhnpbehkfknaa.X
