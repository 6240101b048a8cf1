/- Written by a program of this session: what functions of the given program compute, and that their calls do so. -/
import Derived.Test.YtknofkpmeobhbaaXx0
import Derived.Test.YtknofkpmeobhbaaXs
namespace Go.Proofs.Ytknofkpmeobhbaa.X
open Go.RowKit Go.Proofs.YtknofkpmeobhbaaW.PrintWords Go.Proofs.YtknofkpmeobhbaaW.PrintLast Go.Proofs.YtknofkpmeobhbaaW.PrintMore
theorem cellsQ2_g1a {w : World} {g : Nat} {t : TypeId} {a0 a1 : Value} (k : w.heap[g]? = some (.cells #[a0, a1] t (0, 0))) : w.cell? ⟨g, 0, none⟩ = some a0 ∧ w.cell? ⟨g, 1, none⟩ = some a1 ∧ w.frozen? ⟨g, 0, none⟩ = false ∧ w.frozen? ⟨g, 1, none⟩ = false := ⟨(blk_cell k 0).trans rfl, (blk_cell k 1).trans rfl, blk_frozen k 0, blk_frozen k 1⟩
theorem cellsQ7_g1a {w : World} {g : Nat} {t : TypeId} {a0 a1 a2 a3 a4 a5 a6 : Value} (k : w.heap[g]? = some (.cells #[a0, a1, a2, a3, a4, a5, a6] t (0, 0))) : w.cell? ⟨g, 0, none⟩ = some a0 ∧ w.cell? ⟨g, 1, none⟩ = some a1 ∧ w.cell? ⟨g, 2, none⟩ = some a2 ∧ w.cell? ⟨g, 3, none⟩ = some a3 ∧ w.cell? ⟨g, 4, none⟩ = some a4 ∧ w.cell? ⟨g, 5, none⟩ = some a5 ∧ w.cell? ⟨g, 6, none⟩ = some a6 ∧ w.frozen? ⟨g, 0, none⟩ = false ∧ w.frozen? ⟨g, 1, none⟩ = false ∧ w.frozen? ⟨g, 2, none⟩ = false ∧ w.frozen? ⟨g, 3, none⟩ = false ∧ w.frozen? ⟨g, 4, none⟩ = false ∧ w.frozen? ⟨g, 5, none⟩ = false ∧ w.frozen? ⟨g, 6, none⟩ = false := ⟨(blk_cell k 0).trans rfl, (blk_cell k 1).trans rfl, (blk_cell k 2).trans rfl, (blk_cell k 3).trans rfl, (blk_cell k 4).trans rfl, (blk_cell k 5).trans rfl, (blk_cell k 6).trans rfl, blk_frozen k 0, blk_frozen k 1, blk_frozen k 2, blk_frozen k 3, blk_frozen k 4, blk_frozen k 5, blk_frozen k 6⟩
theorem farsQ2_g1a {τ : Type} {d : Kd τ} {e : Nat} {w : World} {base g : Nat} {ok : Nat → Prop} {v : Value} {xs : List τ} (h : d.R e w base ok v xs) (hok : ∀ k, ok k → k ≠ g) (u0 u1 : Value) : d.R e ((w.setCell ⟨g, 0, none⟩ u0).setCell ⟨g, 1, none⟩ u1) base ok v xs := Kd.R_far (p := ⟨g, 1, none⟩) (Kd.R_far (p := ⟨g, 0, none⟩) h hok u0) hok u1
theorem farsQ7_g1a {τ : Type} {d : Kd τ} {e : Nat} {w : World} {base g : Nat} {ok : Nat → Prop} {v : Value} {xs : List τ} (h : d.R e w base ok v xs) (hok : ∀ k, ok k → k ≠ g) (u0 u1 u2 u3 u4 u5 u6 : Value) : d.R e (((((((w.setCell ⟨g, 0, none⟩ u0).setCell ⟨g, 1, none⟩ u1).setCell ⟨g, 2, none⟩ u2).setCell ⟨g, 3, none⟩ u3).setCell ⟨g, 4, none⟩ u4).setCell ⟨g, 5, none⟩ u5).setCell ⟨g, 6, none⟩ u6) base ok v xs := Kd.R_far (p := ⟨g, 6, none⟩) (Kd.R_far (p := ⟨g, 5, none⟩) (Kd.R_far (p := ⟨g, 4, none⟩) (Kd.R_far (p := ⟨g, 3, none⟩) (Kd.R_far (p := ⟨g, 2, none⟩) (Kd.R_far (p := ⟨g, 1, none⟩) (Kd.R_far (p := ⟨g, 0, none⟩) h hok u0) hok u1) hok u2) hok u3) hok u4) hok u5) hok u6
open Go.Proofs.YtknofkpmeobhbaaW.PrintWords renaming blk_cell → Qc, blk_alloc → Qk, blk_drewN → Qm, blk_drew → Qw, below_step → Qp, blk_below → Qb, blk_put → Qu
open Go.Proofs.YtknofkpmeobhbaaW.PrintWords.Kd renaming R_drewN → Qrn, R_alloc → Qra, R_drew → Qrd, R_mono → Qrm
open Go.Proofs.YtknofkpmeobhbaaW.PrintWords.Aside0 renaming mk → Qx
attribute [local go_sem] max2_int min2_int max_two min_two max_three min_three max_four min_four   -- for this text's walks alone
set_option linter.unusedVariables false
set_option linter.unusedSimpArgs false
/-! ### laws_szIntS: function 25 -/
def laws_szIntS.f (l0 : List Int) (a1 : Int) : Option (Int) := if (wrap64 (a1 - (l0.length : Int))) < 0 then (some (-1)) else (some (wrap64 (a1 - (l0.length : Int))))
set_option maxHeartbeats 8000000 in
set_option maxRecDepth 100000 in
theorem laws_szIntS.calls (A0 : Option Addr) (c0 : Nat) (l0 : List Int) (a1 : Int) (r : Int) (w : World) (hr0 : Kd.C (Kd.int .i64) w A0 l0.length l0) (hc0 : l0.length ≤ c0) (h : laws_szIntS.f l0 a1 = some r) :
    Calls Try.prog 25 #[.slice A0 l0.length c0, .int .i64 a1] w fun e w' => e = .returned (.int .i64 r) ∧ Drawn0 w w' := by
  have HR0 := Qx hr0; have HC0 := Qx hc0; clear hr0 hc0
  have H : (if (wrap64 (a1 - (l0.length : Int))) < 0 then (some (-1)) else (some (wrap64 (a1 - (l0.length : Int))))) = some r := h
  clear h
  by_cases c3 : (wrap64 (a1 - (l0.length : Int))) < 0
  ·rw [if_pos c3] at H
   have c3b0 : decide ((wrap64 (a1 - (l0.length : Int))) < 0) = true := decide_eq_true c3
   clear c3; obtain rfl := Option.some.inj H
   go_enter Try.func25, Try.ntmps25
   go_wp2
   go_ret
   exact ⟨rg_, by repeat (first | exact Drawn0.refl _ | apply Drawn0.step)⟩
  ·rw [if_neg c3] at H
   have c3b0 : decide ((wrap64 (a1 - (l0.length : Int))) < 0) = false := decide_eq_false c3
   clear c3; obtain rfl := Option.some.inj H
   go_enter Try.func25, Try.ntmps25
   go_wp2
   go_ret
   exact ⟨rg_, by repeat (first | exact Drawn0.refl _ | apply Drawn0.step)⟩
/-! ### laws_szBits: function 11 -/
def laws_szBits.f (a0_0 : Int) (l0_1 : List Int) (a1 : Int) : Option (Int) := (laws_szIntS.f l0_1 a1).bind fun t102 => (if t102 < 0 then (some (-1)) else (some t102))
set_option maxHeartbeats 8000000 in
set_option maxRecDepth 100000 in
theorem laws_szBits.calls (a0_0 : Int) (A0_1 : Option Addr) (c0_1 : Nat) (l0_1 : List Int) (a1 : Int) (r : Int) (w : World) (hr0_1 : Kd.C (Kd.int .i64) w A0_1 l0_1.length l0_1) (hc0_1 : l0_1.length ≤ c0_1) (h : laws_szBits.f a0_0 l0_1 a1 = some r) :
    Calls Try.prog 11 #[.agg #[.int .i64 a0_0, .slice A0_1 l0_1.length c0_1], .int .i64 a1] w fun e w' => e = .returned (.int .i64 r) ∧ Below w.heap.size w w' := by
  have hu24 := Try.underlying24; have hu22 := Try.underlying22; have HR0_1 := Qx hr0_1; have HC0_1 := Qx hc0_1; clear hr0_1 hc0_1
  have HB := Qx (Below.refl w.heap.size w)
  have H : ((laws_szIntS.f l0_1 a1).bind fun t102 => (if t102 < 0 then (some (-1)) else (some t102))) = some r := h
  clear h; replace H := Option.bind_eq_some_iff.mp H; obtain ⟨t102, A30, H⟩ := H
  have A3 := Qx A30; clear A30
  by_cases c4 : t102 < 0
  ·rw [if_pos c4] at H
   have c4b0 : decide (t102 < 0) = true := decide_eq_true c4
   clear c4; obtain rfl := Option.some.inj H
   go_enter Try.func11, Try.ntmps11
   go_wp2_with (first | ((with_reducible refine gate_dst (N := 2) rfl ?_); refine bx_ 2 #[.int .i64 a0_0, .slice A0_1 l0_1.length c0_1] 24 ?_; intro gb101 hg w5 hbox hb; have BK101 := Qx (hbox); have GW101 := Qx ((ge_ hg)); have GE101 := Qx ((ge_ hg)); replace HB := Qx (Qp hB_ hb); clear hb hbox hg; obtain ⟨hcz6_0, hcz6_1, hfz6_0, hfz6_1⟩ := cellsQ2_g1a (w := w5) BK101.out) | ((with_reducible refine gate_callee (f := 25) rfl ?_); refine gl_ 8 Try.func25 #[.slice A0_1 l0_1.length c0_1, .int .i64 a1] ?_; (with_reducible refine (laws_szIntS.calls _ _ l0_1 a1 t102 _ ?side1 ?side2 A3.out).mono ?_); (case side1 => exact kC_ HR0_1); (case side2 => exact HC0_1.out); rintro e w' ⟨rfl, ⟨nd, rfl⟩⟩; refine ⟨_, rfl, ?_⟩))
   go_ret
   exact ⟨rf_, hB_⟩
  ·rw [if_neg c4] at H
   have c4b0 : decide (t102 < 0) = false := decide_eq_false c4
   clear c4; obtain rfl := Option.some.inj H
   go_enter Try.func11, Try.ntmps11
   go_wp2_with (first | ((with_reducible refine gate_dst (N := 2) rfl ?_); refine bx_ 2 #[.int .i64 a0_0, .slice A0_1 l0_1.length c0_1] 24 ?_; intro gb101 hg w7 hbox hb; have BK101 := Qx (hbox); have GW101 := Qx ((ge_ hg)); have GE101 := Qx ((ge_ hg)); replace HB := Qx (Qp hB_ hb); clear hb hbox hg; obtain ⟨hcz8_0, hcz8_1, hfz8_0, hfz8_1⟩ := cellsQ2_g1a (w := w7) BK101.out) | ((with_reducible refine gate_callee (f := 25) rfl ?_); refine gl_ 8 Try.func25 #[.slice A0_1 l0_1.length c0_1, .int .i64 a1] ?_; (with_reducible refine (laws_szIntS.calls _ _ l0_1 a1 t102 _ ?side1 ?side2 A3.out).mono ?_); (case side1 => exact kC_ HR0_1); (case side2 => exact HC0_1.out); rintro e w' ⟨rfl, ⟨nd, rfl⟩⟩; refine ⟨_, rfl, ?_⟩))
   go_ret
   exact ⟨rf_, hB_⟩
/-! ### laws_szSparse: function 4 -/
def laws_szSparse.f (a0_0 : Int) (a0_1 : Int) (a0_2 : Int) (a0_3 : Int) (l0_4 : List Int) (a0_5 : Int) (l0_6 : List Int) (a1 : Int) : Option (Int) := (laws_szBits.f a0_3 l0_4 a1).bind fun t104 => (if t104 < 0 then (some (-1)) else ((laws_szBits.f a0_5 l0_6 t104).bind fun t105 => (if t105 < 0 then (some (-1)) else (some t105))))
set_option maxHeartbeats 8000000 in
set_option maxRecDepth 100000 in
theorem laws_szSparse.calls (a0_0 : Int) (a0_1 : Int) (a0_2 : Int) (a0_3 : Int) (A0_4 : Option Addr) (c0_4 : Nat) (l0_4 : List Int) (a0_5 : Int) (A0_6 : Option Addr) (c0_6 : Nat) (l0_6 : List Int) (a1 : Int) (r : Int) (w : World) (hr0_4 : Kd.C (Kd.int .i64) w A0_4 l0_4.length l0_4) (hc0_4 : l0_4.length ≤ c0_4) (hr0_6 : Kd.C (Kd.int .i64) w A0_6 l0_6.length l0_6) (hc0_6 : l0_6.length ≤ c0_6) (h : laws_szSparse.f a0_0 a0_1 a0_2 a0_3 l0_4 a0_5 l0_6 a1 = some r) :
    Calls Try.prog 4 #[.agg #[.int .i64 a0_0, .int .i64 a0_1, .int .i64 a0_2, .int .i64 a0_3, .slice A0_4 l0_4.length c0_4, .int .i64 a0_5, .slice A0_6 l0_6.length c0_6], .int .i64 a1] w fun e w' => e = .returned (.int .i64 r) ∧ Below w.heap.size w w' := by
  have hu26 := Try.underlying26; have hu24 := Try.underlying24; have HR0_4 := Qx hr0_4; have HC0_4 := Qx hc0_4; clear hr0_4 hc0_4; have HR0_6 := Qx hr0_6; have HC0_6 := Qx hc0_6; clear hr0_6 hc0_6
  have HB := Qx (Below.refl w.heap.size w)
  have H : ((laws_szBits.f a0_3 l0_4 a1).bind fun t104 => (if t104 < 0 then (some (-1)) else ((laws_szBits.f a0_5 l0_6 t104).bind fun t105 => (if t105 < 0 then (some (-1)) else (some t105))))) = some r := h
  clear h; replace H := Option.bind_eq_some_iff.mp H; obtain ⟨t104, A30, H⟩ := H
  have A3 := Qx A30; clear A30
  by_cases c4 : t104 < 0
  ·rw [if_pos c4] at H
   have c4b0 : decide (t104 < 0) = true := decide_eq_true c4
   clear c4; obtain rfl := Option.some.inj H
   go_enter Try.func4, Try.ntmps4
   go_wp2_with (first | ((with_reducible refine gate_dst (N := 2) rfl ?_); refine bx_ 2 #[.int .i64 a0_0, .int .i64 a0_1, .int .i64 a0_2, .int .i64 a0_3, .slice A0_4 l0_4.length c0_4, .int .i64 a0_5, .slice A0_6 l0_6.length c0_6] 26 ?_; intro gb103 hg w5 hbox hb; have BK103 := Qx (hbox); have GW103 := Qx ((ge_ hg)); have GE103 := Qx ((ge_ hg)); replace HB := Qx (Qp hB_ hb); clear hb hbox hg; obtain ⟨hcz6_0, hcz6_1, hcz6_2, hcz6_3, hcz6_4, hcz6_5, hcz6_6, hfz6_0, hfz6_1, hfz6_2, hfz6_3, hfz6_4, hfz6_5, hfz6_6⟩ := cellsQ7_g1a (w := w5) BK103.out) | ((with_reducible refine gate_callee (f := 11) rfl ?_); refine gl_ 8 Try.func11 #[.agg #[.int .i64 a0_3, .slice A0_4 l0_4.length c0_4], .int .i64 a1] ?_; (with_reducible refine (laws_szBits.calls a0_3 _ _ l0_4 a1 t104 _ ?side1 ?side2 A3.out).mono ?_); (case side1 => exact kC_ HR0_4); (case side2 => exact HC0_4.out); rintro e w7 ⟨rfl, hb⟩; refine ⟨_, rfl, ?_⟩; have n0_ := Qx (Qp hB_ hb); clear HB BK103; have HB := n0_; clear n0_; (try clear hb); (try clear hb2); (try clear hk); (try clear hi)))
   go_ret
   exact ⟨rf_, hB_⟩
  ·rw [if_neg c4] at H
   have c4b0 : decide (t104 < 0) = false := decide_eq_false c4
   clear c4; replace H := Option.bind_eq_some_iff.mp H; obtain ⟨t105, A80, H⟩ := H
   have A8 := Qx A80; clear A80
   by_cases c9 : t105 < 0
   ·rw [if_pos c9] at H
    have c9b0 : decide (t105 < 0) = true := decide_eq_true c9
    clear c9; obtain rfl := Option.some.inj H
    go_enter Try.func4, Try.ntmps4
    go_wp2_with (first | ((with_reducible refine gate_dst (N := 2) rfl ?_); refine bx_ 2 #[.int .i64 a0_0, .int .i64 a0_1, .int .i64 a0_2, .int .i64 a0_3, .slice A0_4 l0_4.length c0_4, .int .i64 a0_5, .slice A0_6 l0_6.length c0_6] 26 ?_; intro gb103 hg w10 hbox hb; have BK103 := Qx (hbox); have GW103 := Qx ((ge_ hg)); have GE103 := Qx ((ge_ hg)); replace HB := Qx (Qp hB_ hb); clear hb hbox hg; obtain ⟨hcz11_0, hcz11_1, hcz11_2, hcz11_3, hcz11_4, hcz11_5, hcz11_6, hfz11_0, hfz11_1, hfz11_2, hfz11_3, hfz11_4, hfz11_5, hfz11_6⟩ := cellsQ7_g1a (w := w10) BK103.out) | ((with_reducible refine gate_callee (f := 11) rfl ?_); refine gl_ 8 Try.func11 #[.agg #[.int .i64 a0_3, .slice A0_4 l0_4.length c0_4], .int .i64 a1] ?_; (with_reducible refine (laws_szBits.calls a0_3 _ _ l0_4 a1 t104 _ ?side1 ?side2 A3.out).mono ?_); (case side1 => exact kC_ HR0_4); (case side2 => exact HC0_4.out); rintro e w12 ⟨rfl, hb⟩; refine ⟨_, rfl, ?_⟩; replace BK103 := Qx (Qb (kB_ BK103) hb); replace HB := Qx (Qp hB_ hb); (try clear hb); (try clear hb2); (try clear hk); (try clear hi); obtain ⟨hcz13_0, hcz13_1, hcz13_2, hcz13_3, hcz13_4, hcz13_5, hcz13_6, hfz13_0, hfz13_1, hfz13_2, hfz13_3, hfz13_4, hfz13_5, hfz13_6⟩ := cellsQ7_g1a (w := w12) BK103.out) | ((with_reducible refine gate_callee (f := 11) rfl ?_); refine gl_ 14 Try.func11 #[.agg #[.int .i64 a0_5, .slice A0_6 l0_6.length c0_6], .int .i64 t104] ?_; (with_reducible refine (laws_szBits.calls a0_5 _ _ l0_6 t104 t105 _ ?side1 ?side2 A8.out).mono ?_); (case side1 => exact kC_ HR0_6); (case side2 => exact HC0_6.out); rintro e w14 ⟨rfl, hb⟩; refine ⟨_, rfl, ?_⟩; have n0_ := Qx (Qp hB_ hb); clear HB BK103; have HB := n0_; clear n0_; (try clear hb); (try clear hb2); (try clear hk); (try clear hi)))
    go_ret
    exact ⟨rf_, hB_⟩
   ·rw [if_neg c9] at H
    have c9b0 : decide (t105 < 0) = false := decide_eq_false c9
    clear c9; obtain rfl := Option.some.inj H
    go_enter Try.func4, Try.ntmps4
    go_wp2_with (first | ((with_reducible refine gate_dst (N := 2) rfl ?_); refine bx_ 2 #[.int .i64 a0_0, .int .i64 a0_1, .int .i64 a0_2, .int .i64 a0_3, .slice A0_4 l0_4.length c0_4, .int .i64 a0_5, .slice A0_6 l0_6.length c0_6] 26 ?_; intro gb103 hg w15 hbox hb; have BK103 := Qx (hbox); have GW103 := Qx ((ge_ hg)); have GE103 := Qx ((ge_ hg)); replace HB := Qx (Qp hB_ hb); clear hb hbox hg; obtain ⟨hcz16_0, hcz16_1, hcz16_2, hcz16_3, hcz16_4, hcz16_5, hcz16_6, hfz16_0, hfz16_1, hfz16_2, hfz16_3, hfz16_4, hfz16_5, hfz16_6⟩ := cellsQ7_g1a (w := w15) BK103.out) | ((with_reducible refine gate_callee (f := 11) rfl ?_); refine gl_ 8 Try.func11 #[.agg #[.int .i64 a0_3, .slice A0_4 l0_4.length c0_4], .int .i64 a1] ?_; (with_reducible refine (laws_szBits.calls a0_3 _ _ l0_4 a1 t104 _ ?side1 ?side2 A3.out).mono ?_); (case side1 => exact kC_ HR0_4); (case side2 => exact HC0_4.out); rintro e w17 ⟨rfl, hb⟩; refine ⟨_, rfl, ?_⟩; replace BK103 := Qx (Qb (kB_ BK103) hb); replace HB := Qx (Qp hB_ hb); (try clear hb); (try clear hb2); (try clear hk); (try clear hi); obtain ⟨hcz18_0, hcz18_1, hcz18_2, hcz18_3, hcz18_4, hcz18_5, hcz18_6, hfz18_0, hfz18_1, hfz18_2, hfz18_3, hfz18_4, hfz18_5, hfz18_6⟩ := cellsQ7_g1a (w := w17) BK103.out) | ((with_reducible refine gate_callee (f := 11) rfl ?_); refine gl_ 14 Try.func11 #[.agg #[.int .i64 a0_5, .slice A0_6 l0_6.length c0_6], .int .i64 t104] ?_; (with_reducible refine (laws_szBits.calls a0_5 _ _ l0_6 t104 t105 _ ?side1 ?side2 A8.out).mono ?_); (case side1 => exact kC_ HR0_6); (case side2 => exact HC0_6.out); rintro e w19 ⟨rfl, hb⟩; refine ⟨_, rfl, ?_⟩; have n0_ := Qx (Qp hB_ hb); clear HB BK103; have HB := n0_; clear n0_; (try clear hb); (try clear hb2); (try clear hk); (try clear hi)))
    go_ret
    exact ⟨rf_, hB_⟩
/-! ### spec_l1Most: function 16 -/
def spec_l1Most.f (a0 : Int) (a1 : Int) : Option (Int) := if a0 > a1 then (some a0) else (some a1)
set_option maxHeartbeats 8000000 in
set_option maxRecDepth 100000 in
theorem spec_l1Most.calls (a0 : Int) (a1 : Int) (r : Int) (w : World) (h : spec_l1Most.f a0 a1 = some r) :
    Calls Try.prog 16 #[.int .i64 a0, .int .i64 a1] w fun e w' => e = .returned (.int .i64 r) ∧ Drawn0 w w' := by
  have H : (if a0 > a1 then (some a0) else (some a1)) = some r := h
  clear h
  by_cases c3 : a0 > a1
  ·rw [if_pos c3] at H
   have c3b0 : decide (a1 < a0) = true := decide_eq_true c3
   clear c3; obtain rfl := Option.some.inj H
   go_enter Try.func16, Try.ntmps16
   go_wp2
   go_ret
   exact ⟨rg_, by repeat (first | exact Drawn0.refl _ | apply Drawn0.step)⟩
  ·rw [if_neg c3] at H
   have c3b0 : decide (a1 < a0) = false := decide_eq_false c3
   clear c3; obtain rfl := Option.some.inj H
   go_enter Try.func16, Try.ntmps16
   go_wp2
   go_ret
   exact ⟨rg_, by repeat (first | exact Drawn0.refl _ | apply Drawn0.step)⟩
/-! ### spec_spWidth: function 28 -/
def spec_spWidth.l0 : Nat → Int → Int → Int → Option (Int)
  | 0, _, _, _ => none
  | k + 1, x0, x1, x5 => (spec_l1Most.f x0 1).bind fun t106 => (if 0 ≤ (wrap64 (x5 + 1)) then (if (shl .i64 t106 (wrap64 (x5 + 1))) ≤ x1 then (spec_spWidth.l0 k x0 x1 (wrap64 (x5 + 1))) else (some x5)) else (none))
def spec_spWidth.f (k : Nat) (a0 : Int) (a1 : Int) : Option (Int) := spec_spWidth.l0 k a0 a1 0
theorem spec_spWidth.mono_l : ∀ k, (∀ y0 y1 y2, LeO (spec_spWidth.l0 k y0 y1 y2) (spec_spWidth.l0 (k + 1) y0 y1 y2))
  | 0 => fun _ _ _ r h => by simp [spec_spWidth.l0] at h
  | k + 1 => by
    have ih0 := spec_spWidth.mono_l k
    · intro y0 y1 y2
      unfold spec_spWidth.l0
      repeat' first
      | (with_reducible exact ih0 _ _ _)
      | (with_reducible exact LeO.refl _)
      | (with_reducible exact LeO.none _)
      | (with_reducible refine LeO.ite ?_ ?_)
      | (with_reducible refine LeO.bind ?_ (fun _ => ?_))
      | exact ih0 _ _ _
      | exact LeO.none _
      | refine LeO.ite ?_ ?_
      | refine LeO.bind ?_ (fun _ => ?_)
theorem spec_spWidth.mono : ∀ a0 a1 k, LeO (spec_spWidth.f k a0 a1) (spec_spWidth.f (k + 1) a0 a1) := by
  intro a0 a1 k
  have ih0 := spec_spWidth.mono_l k
  unfold spec_spWidth.f
  repeat' first
      | (with_reducible exact ih0 _ _ _)
      | (with_reducible exact LeO.refl _)
      | (with_reducible exact LeO.none _)
      | (with_reducible refine LeO.ite ?_ ?_)
      | (with_reducible refine LeO.bind ?_ (fun _ => ?_))
      | exact ih0 _ _ _
      | exact LeO.none _
      | refine LeO.ite ?_ ?_
      | refine LeO.bind ?_ (fun _ => ?_)
noncomputable def spec_spWidth.L0 (y0 : Int) (y1 : Int) (y2 : Int) : Option (Int) := lim fun k => spec_spWidth.l0 k y0 y1 y2
theorem spec_spWidth.L0_sup (y0 : Int) (y1 : Int) (y2 : Int) : Sup (fun k => spec_spWidth.l0 k y0 y1 y2) (spec_spWidth.L0 y0 y1 y2) := Sup.of_mono fun k => spec_spWidth.mono_l k y0 y1 y2
noncomputable def spec_spWidth.F (a0 : Int) (a1 : Int) : Option (Int) := lim fun k => spec_spWidth.f k a0 a1
theorem spec_spWidth.F_sup (a0 : Int) (a1 : Int) : Sup (fun k => spec_spWidth.f k a0 a1) (spec_spWidth.F a0 a1) := Sup.of_mono fun k => spec_spWidth.mono a0 a1 k
theorem spec_spWidth.L0_eq (x0 : Int) (x1 : Int) (x5 : Int) : spec_spWidth.L0 x0 x1 x5 = (spec_l1Most.f x0 1).bind fun t106 => (if 0 ≤ (wrap64 (x5 + 1)) then (if (shl .i64 t106 (wrap64 (x5 + 1))) ≤ x1 then (spec_spWidth.L0 x0 x1 (wrap64 (x5 + 1))) else (some x5)) else (none)) := by
  refine Sup.unique (spec_spWidth.L0_sup x0 x1 x5) (Sup.shift (fun k => spec_spWidth.mono_l k x0 x1 x5) (Sup.congr (g' := fun k => (spec_l1Most.f x0 1).bind fun t106 => (if 0 ≤ (wrap64 (x5 + 1)) then (if (shl .i64 t106 (wrap64 (x5 + 1))) ≤ x1 then (spec_spWidth.l0 k x0 x1 (wrap64 (x5 + 1))) else (some x5)) else (none))) (fun k => by first | rfl | simp only [spec_spWidth.l0]) ?_))
  repeat' first
    | (with_reducible exact spec_spWidth.L0_sup _ _ _)
    | (with_reducible refine Sup.ite ?_ ?_)
    | (with_reducible refine Sup.bind ?_ (fun _ => ?_))
    | (with_reducible exact Sup.const _)
    | exact spec_spWidth.L0_sup _ _ _
    | exact Sup.const _
theorem spec_spWidth.F_eq (a0 : Int) (a1 : Int) : spec_spWidth.F a0 a1 = spec_spWidth.L0 a0 a1 0 := by
  refine Sup.unique (spec_spWidth.F_sup a0 a1) (Sup.congr (g' := fun k => spec_spWidth.l0 k a0 a1 0) (fun k => by first | rfl | simp only [spec_spWidth.f]) ?_)
  repeat' first
    | (with_reducible exact spec_spWidth.L0_sup _ _ _)
    | (with_reducible refine Sup.ite ?_ ?_)
    | (with_reducible refine Sup.bind ?_ (fun _ => ?_))
    | (with_reducible exact Sup.const _)
    | exact spec_spWidth.L0_sup _ _ _
    | exact Sup.const _
set_option maxHeartbeats 8000000 in
set_option maxRecDepth 100000 in
theorem spec_spWidth.calls (k : Nat) (a0 : Int) (a1 : Int) (r : Int) (w : World) (h : spec_spWidth.f k a0 a1 = some r) :
    Calls Try.prog 28 #[.int .i64 a0, .int .i64 a1] w fun e w' => e = .returned (.int .i64 r) ∧ Drawn0 w w' := by
  have H : (spec_spWidth.l0 k a0 a1 0) = some r := h
  clear h; have H' := Qx H; clear H
  go_enter Try.func28, Try.ntmps28
  go_wp2
  go_loopg [5] k (fun kq v5 w' => ∃ (x5_1 : Int), v5 = .int .i64 x5_1 ∧ Aside0 (spec_spWidth.l0 kq a0 a1 x5_1 = some r) ∧ Aside0 (kq ≤ k) ∧ Drawn0 w w')
  case atStart => exact ⟨(0), rg_, H', ⟨Nat.le_refl _⟩, by repeat (first | exact Drawn0.refl _ | apply Drawn0.step)⟩
  case round =>
   clear H'
   try clear c2
   try clear p2
   obtain ⟨x5_1, rfl, HA, HK1, ⟨m1, rfl⟩⟩ := hrel
   cases gk with
   | zero => exact absurd HA.out (by simp [spec_spWidth.l0])
   | succ k1 =>
    have H := HA.out; clear HA; simp only [spec_spWidth.l0] at H; replace H := Option.bind_eq_some_iff.mp H; obtain ⟨t106, A30, H⟩ := H
    have A3 := Qx A30; clear A30
    obtain ⟨ji4, hji4⟩ : ∃ j_ : Int, (wrap64 (x5_1 + 1)) = j_ := ⟨_, rfl⟩
    replace H : (if 0 ≤ (ji4) then (if (shl .i64 t106 (ji4)) ≤ a1 then (spec_spWidth.l0 k1 a0 a1 ji4) else (some x5_1)) else (none)) = some r := by first | (rw [hji4] at H; exact H) | (simp only [hji4] at H ⊢; exact H)
    (try rw [hji4] at A3)
    have hji4w : (IntKind.i64.wrap (x5_1 + 1)) = ji4 := (i64_w _).trans hji4
    by_cases c5 : 0 ≤ (ji4)
    ·rw [if_pos c5] at H; have c5b0 := eq_true c5
     have c5b1 : decide (0 ≤ (ji4)) = true := decide_eq_true c5
     clear c5
     obtain ⟨ji6, hji6⟩ : ∃ j_ : Int, (shl .i64 t106 (ji4)) = j_ := ⟨_, rfl⟩
     replace H : (if (ji6) ≤ a1 then (spec_spWidth.l0 k1 a0 a1 ji4) else (some x5_1)) = some r := by first | (rw [hji6] at H; exact H) | (simp only [hji6] at H ⊢; exact H)
     (try rw [hji6] at A3)
     have hji6_ : (IntKind.i64.wrap (t106 * 2 ^ min (ji4).toNat 64)) = ji6 := hji6
     have hji6z : (ji4) ≤ 64 → (IntKind.i64.wrap (t106 * 2 ^ (ji4).toNat)) = ji6 := shl_small hji6
     have hji6y : (wrap64 (t106 * 2 ^ min (ji4).toNat 64)) = ji6 := (i64_w _).symm.trans hji6_
     have hji6x : (ji4) ≤ 64 → (wrap64 (t106 * 2 ^ (ji4).toNat)) = ji6 := fun h_ => (i64_w _).symm.trans (hji6z h_)
     by_cases c7 : (ji6) ≤ a1
     ·rw [if_pos c7] at H
      have c7b0 : decide ((ji6) ≤ a1) = true := decide_eq_true c7
      clear c7; have H' := Qx H; clear H
      go_wp2_with (first | ((with_reducible refine gate_callee (f := 16) rfl ?_); refine gl_ 7 Try.func16 #[.int .i64 a0, .int .i64 1] ?_; (with_reducible refine (spec_l1Most.calls a0 1 t106 _ A3.out).mono ?_); rintro e w' ⟨rfl, ⟨nd, rfl⟩⟩; refine ⟨_, rfl, ?_⟩))
      go_roundg k1
      case measure => have := HK1.out; omega
      case rel => exact ⟨(ji4), (by first | rfl | (simp; done) | (simp only [← hji4] <;> (first | rfl | simp)) | (simp [*]; done)), H', ⟨by have := HK1.out; omega⟩, by repeat (first | exact Drawn0.refl _ | apply Drawn0.step)⟩
     ·rw [if_neg c7] at H
      have c7b0 : decide ((ji6) ≤ a1) = false := decide_eq_false c7
      clear c7; obtain rfl := Option.some.inj H
      go_wp2_with (first | ((with_reducible refine gate_callee (f := 16) rfl ?_); refine gl_ 7 Try.func16 #[.int .i64 a0, .int .i64 1] ?_; (with_reducible refine (spec_l1Most.calls a0 1 t106 _ A3.out).mono ?_); rintro e w' ⟨rfl, ⟨nd, rfl⟩⟩; refine ⟨_, rfl, ?_⟩))
      go_ret
      exact ⟨by first | rfl | (simp; done) | (simp only [← hji4, ← hji6] <;> (first | rfl | simp)) | (simp [*]; done), by repeat (first | exact Drawn0.refl _ | apply Drawn0.step)⟩
    ·rw [if_neg c5] at H
     exact absurd H (by simp)
/-! ### spec_biPut: function 32 -/
def spec_biPut.l0 : Nat → List Bool → Int → Int → Int → Int → Option (List Bool)
  | 0, _, _, _, _, _ => none
  | k + 1, x0, x1, x2, x3, x8 => if x8 < x2 then (if 0 ≤ x8 then (if 0 ≤ (wrap64 (x1 + x8)) then (if (wrap64 (x1 + x8)) < (x0.length : Int) then (spec_biPut.l0 k (x0.set ((wrap64 (x1 + x8)) : Int).toNat ((Go.bits .and .i64 (shr .i64 x3 x8) 1) == 1)) x1 x2 x3 (wrap64 (x8 + 1))) else (none)) else (none)) else (none)) else (some x0)
def spec_biPut.f (k : Nat) (l0 : List Bool) (a1 : Int) (a2 : Int) (a3 : Int) : Option (List Bool) := spec_biPut.l0 k l0 a1 a2 a3 0
theorem spec_biPut.mono_l : ∀ k, (∀ y0 y1 y2 y3 y4, LeO (spec_biPut.l0 k y0 y1 y2 y3 y4) (spec_biPut.l0 (k + 1) y0 y1 y2 y3 y4))
  | 0 => fun _ _ _ _ _ r h => by simp [spec_biPut.l0] at h
  | k + 1 => by
    have ih0 := spec_biPut.mono_l k
    · intro y0 y1 y2 y3 y4
      unfold spec_biPut.l0
      repeat' first
      | (with_reducible exact ih0 _ _ _ _ _)
      | (with_reducible exact LeO.refl _)
      | (with_reducible exact LeO.none _)
      | (with_reducible refine LeO.ite ?_ ?_)
      | (with_reducible refine LeO.bind ?_ (fun _ => ?_))
      | exact ih0 _ _ _ _ _
      | exact LeO.none _
      | refine LeO.ite ?_ ?_
      | refine LeO.bind ?_ (fun _ => ?_)
theorem spec_biPut.mono : ∀ a0 a1 a2 a3 k, LeO (spec_biPut.f k a0 a1 a2 a3) (spec_biPut.f (k + 1) a0 a1 a2 a3) := by
  intro a0 a1 a2 a3 k
  have ih0 := spec_biPut.mono_l k
  unfold spec_biPut.f
  repeat' first
      | (with_reducible exact ih0 _ _ _ _ _)
      | (with_reducible exact LeO.refl _)
      | (with_reducible exact LeO.none _)
      | (with_reducible refine LeO.ite ?_ ?_)
      | (with_reducible refine LeO.bind ?_ (fun _ => ?_))
      | exact ih0 _ _ _ _ _
      | exact LeO.none _
      | refine LeO.ite ?_ ?_
      | refine LeO.bind ?_ (fun _ => ?_)
noncomputable def spec_biPut.L0 (y0 : List Bool) (y1 : Int) (y2 : Int) (y3 : Int) (y4 : Int) : Option (List Bool) := lim fun k => spec_biPut.l0 k y0 y1 y2 y3 y4
theorem spec_biPut.L0_sup (y0 : List Bool) (y1 : Int) (y2 : Int) (y3 : Int) (y4 : Int) : Sup (fun k => spec_biPut.l0 k y0 y1 y2 y3 y4) (spec_biPut.L0 y0 y1 y2 y3 y4) := Sup.of_mono fun k => spec_biPut.mono_l k y0 y1 y2 y3 y4
noncomputable def spec_biPut.F (l0 : List Bool) (a1 : Int) (a2 : Int) (a3 : Int) : Option (List Bool) := lim fun k => spec_biPut.f k l0 a1 a2 a3
theorem spec_biPut.F_sup (l0 : List Bool) (a1 : Int) (a2 : Int) (a3 : Int) : Sup (fun k => spec_biPut.f k l0 a1 a2 a3) (spec_biPut.F l0 a1 a2 a3) := Sup.of_mono fun k => spec_biPut.mono l0 a1 a2 a3 k
theorem spec_biPut.L0_eq (x0 : List Bool) (x1 : Int) (x2 : Int) (x3 : Int) (x8 : Int) : spec_biPut.L0 x0 x1 x2 x3 x8 = if x8 < x2 then (if 0 ≤ x8 then (if 0 ≤ (wrap64 (x1 + x8)) then (if (wrap64 (x1 + x8)) < (x0.length : Int) then (spec_biPut.L0 (x0.set ((wrap64 (x1 + x8)) : Int).toNat ((Go.bits .and .i64 (shr .i64 x3 x8) 1) == 1)) x1 x2 x3 (wrap64 (x8 + 1))) else (none)) else (none)) else (none)) else (some x0) := by
  refine Sup.unique (spec_biPut.L0_sup x0 x1 x2 x3 x8) (Sup.shift (fun k => spec_biPut.mono_l k x0 x1 x2 x3 x8) (Sup.congr (g' := fun k => if x8 < x2 then (if 0 ≤ x8 then (if 0 ≤ (wrap64 (x1 + x8)) then (if (wrap64 (x1 + x8)) < (x0.length : Int) then (spec_biPut.l0 k (x0.set ((wrap64 (x1 + x8)) : Int).toNat ((Go.bits .and .i64 (shr .i64 x3 x8) 1) == 1)) x1 x2 x3 (wrap64 (x8 + 1))) else (none)) else (none)) else (none)) else (some x0)) (fun k => by first | rfl | simp only [spec_biPut.l0]) ?_))
  repeat' first
    | (with_reducible exact spec_biPut.L0_sup _ _ _ _ _)
    | (with_reducible refine Sup.ite ?_ ?_)
    | (with_reducible refine Sup.bind ?_ (fun _ => ?_))
    | (with_reducible exact Sup.const _)
    | exact spec_biPut.L0_sup _ _ _ _ _
    | exact Sup.const _
theorem spec_biPut.F_eq (l0 : List Bool) (a1 : Int) (a2 : Int) (a3 : Int) : spec_biPut.F l0 a1 a2 a3 = spec_biPut.L0 l0 a1 a2 a3 0 := by
  refine Sup.unique (spec_biPut.F_sup l0 a1 a2 a3) (Sup.congr (g' := fun k => spec_biPut.l0 k l0 a1 a2 a3 0) (fun k => by first | rfl | simp only [spec_biPut.f]) ?_)
  repeat' first
    | (with_reducible exact spec_biPut.L0_sup _ _ _ _ _)
    | (with_reducible refine Sup.ite ?_ ?_)
    | (with_reducible refine Sup.bind ?_ (fun _ => ?_))
    | (with_reducible exact Sup.const _)
    | exact spec_biPut.L0_sup _ _ _ _ _
    | exact Sup.const _
set_option maxHeartbeats 8000000 in
set_option maxRecDepth 100000 in
theorem spec_biPut.calls (k : Nat) (P0_ : Nat → Prop) (u9000_ : Value) (l0 : List Bool) (a1 : Int) (a2 : Int) (a3 : Int) (r : List Bool) (w0 w : World) (hB : Below w0.heap.size w0 w) (ho0 : Kd.R Kd.bool 4 w w0.heap.size P0_ u9000_ l0) (h : spec_biPut.f k l0 a1 a2 a3 = some r) :
    Calls Try.prog 32 #[u9000_, .int .i64 a1, .int .i64 a2, .int .i64 a3] w fun e w' => e = .returned (.tuple #[]) ∧ Kd.R Kd.bool 4 w' w0.heap.size (fun k_ => (P0_ k_ ∨ w.heap.size ≤ k_)) u9000_ r ∧ Below w0.heap.size w0 w' ∧ Kept w w' (fun k_ => P0_ k_) := by
  have HO0 := Qx (show Kd.R Kd.bool 4 w w0.heap.size (fun k_ => (P0_ k_ ∨ w.heap.size ≤ k_)) u9000_ l0 from Qrm ho0 (fun k_ hk => (.inl hk)))
  have HK := Qx (Kept.refl w (fun k_ => P0_ k_))
  have HW0 := Qx hB.size; have HB := Qx hB; clear hB
  have H : (spec_biPut.l0 k l0 a1 a2 a3 0) = some r := h
  clear h; have H' := Qx H; clear H
  go_enter Try.func32, Try.ntmps32
  go_wp2
  go_loopg [8] k (fun kq v8 w' => ∃ (x0_1 : List Bool) (x8_1 : Int), v8 = .int .i64 x8_1 ∧ Aside0 (spec_biPut.l0 kq x0_1 a1 a2 a3 x8_1 = some r) ∧ Aside0 (kq ≤ k) ∧ Aside0 (Kd.R Kd.bool 4 w' w0.heap.size (fun k_ => (P0_ k_ ∨ w.heap.size ≤ k_)) u9000_ x0_1) ∧ Aside0 (Kept w w' (fun k_ => P0_ k_)) ∧ Aside0 (Below w0.heap.size w0 w'))
  case atStart => exact ⟨(l0), (0), rg_, H', ⟨Nat.le_refl _⟩, ⟨kR_ HO0⟩, ⟨by repeat (first | (with_reducible first | exact HK.out | apply Kept.alloc | apply Kept.drewN | apply Kept.drew) | exact HK.out)⟩, ⟨hB_⟩⟩
  case round =>
   clear H'
   try clear p2
   try clear c3
   obtain ⟨x0_1, x8_1, rfl, HA, HK1, HO_0, HK, HB⟩ := hrel
   cases gk with
   | zero => exact absurd HA.out (by simp [spec_biPut.l0])
   | succ k1 =>
    have H := HA.out; clear HA; simp only [spec_biPut.l0] at H
    by_cases c5 : x8_1 < a2
    ·rw [if_pos c5] at H
     have c5b0 : decide (x8_1 < a2) = true := decide_eq_true c5
     clear c5
     by_cases c6 : 0 ≤ x8_1
     ·rw [if_pos c6] at H; have c6b0 := eq_true c6
      have c6b1 : decide (0 ≤ x8_1) = true := decide_eq_true c6
      clear c6
      obtain ⟨ji7, hji7⟩ : ∃ j_ : Int, (shr .i64 a3 x8_1) = j_ := ⟨_, rfl⟩
      replace H : (if 0 ≤ (wrap64 (a1 + x8_1)) then (if (wrap64 (a1 + x8_1)) < (x0_1.length : Int) then (spec_biPut.l0 k1 (x0_1.set ((wrap64 (a1 + x8_1)) : Int).toNat ((Go.bits .and .i64 (ji7) 1) == 1)) a1 a2 a3 (wrap64 (x8_1 + 1))) else (none)) else (none)) = some r := by first | (rw [hji7] at H; exact H) | (simp only [hji7] at H ⊢; exact H)
      have hji7_ : (a3 / 2 ^ min x8_1.toNat 64) = ji7 := hji7
      have hji7z : x8_1 ≤ 64 → (a3 / 2 ^ x8_1.toNat) = ji7 := shr_small hji7
      obtain ⟨ji8, hji8⟩ : ∃ j_ : Int, (wrap64 (a1 + x8_1)) = j_ := ⟨_, rfl⟩
      replace H : (if 0 ≤ (ji8) then (if (ji8) < (x0_1.length : Int) then (spec_biPut.l0 k1 (x0_1.set ((ji8) : Int).toNat ((Go.bits .and .i64 (ji7) 1) == 1)) a1 a2 a3 (wrap64 (x8_1 + 1))) else (none)) else (none)) = some r := by first | (rw [hji8] at H; exact H) | (simp only [hji8] at H ⊢; exact H)
      have hji8w : (IntKind.i64.wrap (a1 + x8_1)) = ji8 := (i64_w _).trans hji8
      by_cases c9 : 0 ≤ (ji8)
      ·rw [if_pos c9] at H
       have c9b0 : decide (0 ≤ (ji8)) = true := decide_eq_true c9
       clear c9
       by_cases c10 : (ji8) < (x0_1.length : Int)
       ·rw [if_pos c10] at H
        have c10b0 : decide ((ji8) < (x0_1.length : Int)) = true := decide_eq_true c10
        clear c10
        obtain ⟨y107, hy107⟩ : ∃ y_ : List Bool, y_ = (x0_1.set ((ji8) : Int).toNat ((Go.bits .and .i64 (ji7) 1) == 1)) := ⟨_, rfl⟩
        replace H : (spec_biPut.l0 k1 y107 a1 a2 a3 (wrap64 (x8_1 + 1))) = some r := by first | (rw [hy107]; with_reducible exact H) | (have H2_ := (Option.bind_some _ _).symm.trans H; rw [hy107]; with_reducible exact H2_) | (have H2_ := (Option.bind_some _ _).symm.trans H; with_reducible exact H2_) | with_reducible exact H | (rw [hy107]; exact H) | exact H
        have Ny107 := Qx hy107; clear hy107; have H' := Qx H; clear H
        have p11 : 0 ≤ ((ji8) : Int) := of_decide_eq_true as_
        have q11 : ((ji8) : Int) < ((x0_1.length : Int) : Int) := of_decide_eq_true as_
        obtain ⟨go11, co11, eo11, gb11, gl11, cl11, HG11⟩ := Kd.R_form HO_0.out (by omega)
        (first | cases eo11 | (injection eo11 with ea_ en_ ec_; (first | subst ea_ | (injection ea_ with ea_; subst ea_)); subst ec_; clear en_))
        have GB11 := Qx gb11; have GG11 := Qx HG11; clear gb11 gl11 HG11
        have HMgo11 := Qx (show (P0_ go11 ∨ w.heap.size ≤ go11) from (HO_0.out.1 _ rfl))
        obtain ⟨hx11_0, hf11_0⟩ := Kd.R_celln false HO_0.out ((ji8) : Int) p11 q11
        replace p11 := eq_true p11; replace q11 := eq_true q11
        have HP12 := Kd.R_putg HO_0.out ((ji8) : Int) ((Go.bits .and .i64 (ji7) 1) == 1)
        go_wp2_with (first | ((with_reducible refine gate_store (t := 4) (p := 23) rfl ?_); refine store_event (t := 4) (p := 23) (v := ?vo_w13) (w1 := (wr.setCell ⟨go11, ((ji8) : Int).toNat, none⟩ (.bool ((Go.bits .and .i64 (ji7) 1) == 1)))) ?hg ?ho ?hn ?hr ?_; (case ho => rfl); (case hg => rfl); (case hn => rfl); (case hr => first | (go_simp; done) | (go_simp; rfl)); intro w13 hw; have hg : wr.grownBy w13 (some go11) := (by rw [hw]; exact HP12.2); have hp_ : Kd.R Kd.bool 4 w13 w0.heap.size (fun k_ => (P0_ k_ ∨ w.heap.size ≤ k_)) (.slice (some ⟨go11, 0, none⟩) x0_1.length co11) y107 := (by rw [hw, Ny107.out]; exact HP12.1); clear HP12; replace HB := Qx ((by rw [hw]; exact below_set (HB.out) GB11.out : Below w0.heap.size w0 w13)); replace HK := Qx (Kept.of_grown (S := (fun k_ => P0_ k_)) hg (by repeat (first | (with_reducible first | exact HK.out | apply Kept.alloc | apply Kept.drewN | apply Kept.drew) | exact HK.out)) (fun k_ e_ => (HO_0.out.1 k_ e_))); replace HO_0 := Qx (hp_); clear hg hw hp_))
        go_roundg k1
        case measure => have := HK1.out; omega
        case rel => exact ⟨(y107), (wrap64 (x8_1 + 1)), rg_, H', ⟨by have := HK1.out; omega⟩, ⟨kR_ HO_0⟩, ⟨by repeat (first | (with_reducible first | exact HK.out | apply Kept.alloc | apply Kept.drewN | apply Kept.drew) | exact HK.out)⟩, ⟨hB_⟩⟩
       ·rw [if_neg c10] at H
        exact absurd H (by simp)
      ·rw [if_neg c9] at H
       exact absurd H (by simp)
     ·rw [if_neg c6] at H
      exact absurd H (by simp)
    ·rw [if_neg c5] at H
     have c5b0 : decide (x8_1 < a2) = false := decide_eq_false c5
     clear c5; obtain rfl := Option.some.inj H
     go_wp2
     first | go_end0 | ((try simp only [Exit.inBlock, Exit.then]); refine bodyPost_ret (results_none rfl _ _ _) rfl ?_)
     exact ⟨rf_, kR_ HO_0, hB_, by repeat (first | (with_reducible first | exact HK.out | apply Kept.alloc | apply Kept.drewN | apply Kept.drew) | exact HK.out)⟩
/-! ### spec_biNew: function 50 -/
def spec_biNew.f (a0 : Int) : Option (Int × List Int) := if 0 ≤ (wrap64 (Int.tdiv (wrap64 (a0 + 15)) 16)) then (if (wrap64 (Int.tdiv (wrap64 (a0 + 15)) 16) : Int).toNat ≤ 35184372088832 then (some (a0, (List.replicate (wrap64 (Int.tdiv (wrap64 (a0 + 15)) 16) : Int).toNat 0))) else (none)) else (none)
set_option maxHeartbeats 8000000 in
set_option maxRecDepth 100000 in
theorem spec_biNew.calls (a0 : Int) (r1 : Int) (r2 : List Int) (w : World) (h : spec_biNew.f a0 = some (r1, r2)) :
    Calls Try.prog 50 #[.int .i64 a0] w fun e w' => ∃ v1_ : Value, e = .returned (.agg #[.int .i64 r1, v1_]) ∧ Kd.R (Kd.int .i64) 3 w' w.heap.size (fun _ => True) v1_ r2 ∧ Below w.heap.size w w' := by
  have hu28 := Try.underlying28
  have HB := Qx (Below.refl w.heap.size w)
  have H : (if 0 ≤ (wrap64 (Int.tdiv (wrap64 (a0 + 15)) 16)) then (if (wrap64 (Int.tdiv (wrap64 (a0 + 15)) 16) : Int).toNat ≤ 35184372088832 then (some (a0, (List.replicate (wrap64 (Int.tdiv (wrap64 (a0 + 15)) 16) : Int).toNat 0))) else (none)) else (none)) = some (r1, r2) := h
  clear h
  obtain ⟨ji2, hji2⟩ : ∃ j_ : Int, (wrap64 (Int.tdiv (wrap64 (a0 + 15)) 16)) = j_ := ⟨_, rfl⟩
  replace H : (if 0 ≤ (ji2) then (if (ji2 : Int).toNat ≤ 35184372088832 then (some (a0, (List.replicate (ji2 : Int).toNat 0))) else (none)) else (none)) = some (r1, r2) := by first | (rw [hji2] at H; exact H) | (simp only [hji2] at H ⊢; exact H)
  have hji2w : (IntKind.i64.wrap (Int.tdiv (wrap64 (a0 + 15)) 16)) = ji2 := (i64_w _).trans hji2
  by_cases c3 : 0 ≤ (ji2)
  ·rw [if_pos c3] at H; have c3b0 := eq_true c3
   have c3b1 : decide (0 ≤ (ji2)) = true := decide_eq_true c3
   clear c3
   by_cases c4 : (ji2 : Int).toNat ≤ 35184372088832
   ·rw [if_pos c4] at H; have c4b0 := eq_true c4
    have c4b1 : decide ((ji2 : Int).toNat ≤ 35184372088832) = true := decide_eq_true c4
    clear c4
    obtain ⟨y109, hy109⟩ : ∃ y_ : List Int, y_ = (List.replicate (ji2 : Int).toNat 0) := ⟨_, rfl⟩
    replace H : (some (a0, y109)) = some (r1, r2) := by first | (rw [hy109]; with_reducible exact H) | (have H2_ := (Option.bind_some _ _).symm.trans H; rw [hy109]; with_reducible exact H2_) | (have H2_ := (Option.bind_some _ _).symm.trans H; with_reducible exact H2_) | with_reducible exact H | (rw [hy109]; exact H) | exact H
    have Ny109 := Qx hy109; clear hy109; simp only [Option.some.injEq, Prod.mk.injEq] at H; obtain ⟨rfl, rfl⟩ := H
    go_enter Try.func50, Try.ntmps50
    go_wp2_with (first | ((with_reducible refine gate_dst (N := 2) rfl ?_); refine bx_ 2 #[.int .i64 0, .slice none 0 0] 28 ?_; intro gb108 hg w5 hbox hb; have BK108 := Qx (hbox); have GW108 := Qx ((ge_ hg)); have GE108 := Qx ((ge_ hg)); replace HB := Qx (Qp hB_ hb); clear hb hbox hg) | ((with_reducible refine gate_dst (N := 7) rfl ?_); refine Kd.R_make (Kd.int .i64) _ 3 rfl (N := 7) rfl 22 _ _ rfl ji2 rfl rfl Try.underlying22 (.int .i64 0) 8 info3 rfl (by decide) (by omega) 0 (ok := fun _ => True) (okp := fun _ => True) rfl (fun _ hk => hk) trivial (of_decide_eq_true as_) (Nat.le_trans (Nat.mul_le_mul_right _ (of_decide_eq_true as_ : ji2.toNat ≤ 35184372088832)) (by omega)) (Below.refl _ _) (Nat.le_refl _) ?_; intro v110 w6 ho7 hb hg_ hnew_; clear hg_ hnew_; (first | rw [← Ny109.out] at ho7 | (simp only [Int.reduceToNat] at ho7; rw [← Ny109.out] at ho7)); have HO111 := Qx (Kd.R_lower ho7 (below_size hB_)); replace BK108 := Qx (Qb (kB_ BK108) hb); replace HB := Qx (Qp hB_ hb); clear hb ho7; obtain ⟨Ao8, co8, eo8⟩ := Kd.R_slice HO111.out; subst eo8; obtain ⟨hcz9_0, hcz9_1, hfz9_0, hfz9_1⟩ := cellsQ2_g1a (w := w6) BK108.out))
    refine bodyPost_ret (results_cell_row rfl _ _ gb108 28 #[.int .i64 a0, .slice Ao8 y109.length co8] (0, 0) _ rfl (by (with_reducible repeat (first | refine Qm ?_ _ | refine Qw ?_ | refine Qk ?_ _)); refine Qu (cs := #[.int .i64 a0, .slice none 0 0]) ?_ 1 _ rfl; (with_reducible repeat (first | refine Qm ?_ _ | refine Qw ?_ | refine Qk ?_ _)); refine Qu (cs := #[.int .i64 0, .slice none 0 0]) ?_ 0 _ rfl; (with_reducible repeat (first | refine Qm ?_ _ | refine Qw ?_ | refine Qk ?_ _)); exact BK108.out) Try.underlying28 rfl (by kernel_rfl)) rfl ?_
    exact ⟨_, by first | rfl | (simp [errW_none, errW_some] <;> rfl) | (simp only [← hji2]; first | rfl | (simp [errW_none, errW_some] <;> rfl)) | (simp [*, errW_none, errW_some] <;> rfl), by (with_reducible repeat (first | apply Qra | apply Qrn | apply Qrd)); exact Qrm (farsQ2_g1a (Kd.R_types HO111.out BK108.out (by decide)) (fun _ hk => hk.2) (.int .i64 a0) (.slice Ao8 y109.length co8)) (fun _ hk => trivial), hB_⟩
   ·rw [if_neg c4] at H
    exact absurd H (by simp)
  ·rw [if_neg c3] at H
   exact absurd H (by simp)
/-! ### spec_biSet: function 51 -/
def spec_biSet.f (a0_0 : Int) (l0_1 : List Int) (a1 : Int) : Option (List Int) := if 0 ≤ (wrap64 (Int.tdiv a1 16)) then (if (wrap64 (Int.tdiv a1 16)) < (l0_1.length : Int) then (if 0 ≤ (Int.tmod a1 16) then (some (l0_1.set ((wrap64 (Int.tdiv a1 16)) : Int).toNat (Go.bits .or .i64 (rd l0_1 (wrap64 (Int.tdiv a1 16))) (shl .i64 1 (Int.tmod a1 16))))) else (none)) else (none)) else (none)
def spec_biSet.T1 : Bool × List (List Nat × List Nat) := (true, [([], []), ([0], [0]), ([], []), ([2], [2]), ([1, 3], [1, 3]), ([4], [4]), ([], []), ([6], [6]), ([7], [7]), ([5, 8], [5, 8]), ([1, 3, 0, 1, 2, 3, 4, 5, 6, 7, 8, 9], [1, 3]), ([10, 9, 0, 1, 2, 3, 4, 5, 6, 7, 8, 9], [9, 10])])
def spec_biSet.B1 : List Nat := [0, 1, 0, 4, 15, 31, 0, 64, 192, 511, 1023, 2047]
theorem spec_biSet.tab1 : rtab .any (opsOf Try.f51 1) = spec_biSet.T1 := by kernel_rfl
theorem spec_biSet.bits1 : waitsOk spec_biSet.T1.2 spec_biSet.B1 = true := by kernel_rfl
set_option maxHeartbeats 8000000 in
set_option maxRecDepth 100000 in
theorem spec_biSet.calls (a0_0 : Int) (P0_1_ : Nat → Prop) (u9000_ : Value) (l0_1 : List Int) (a1 : Int) (r : List Int) (w0 w : World) (hB : Below w0.heap.size w0 w) (ho0_1 : Kd.R (Kd.int .i64) 3 w w0.heap.size P0_1_ u9000_ l0_1) (h : spec_biSet.f a0_0 l0_1 a1 = some r) :
    Calls Try.prog 51 #[.agg #[.int .i64 a0_0, u9000_], .int .i64 a1] w fun e w' => e = .returned (.tuple #[]) ∧ Kd.R (Kd.int .i64) 3 w' w0.heap.size (fun k_ => (P0_1_ k_ ∨ w.heap.size ≤ k_)) u9000_ r ∧ Below w0.heap.size w0 w' ∧ Kept w w' (fun k_ => P0_1_ k_) := by
  have hu28 := Try.underlying28; have hu22 := Try.underlying22
  have HO0_1 := Qx (show Kd.R (Kd.int .i64) 3 w w0.heap.size (fun k_ => (P0_1_ k_ ∨ w.heap.size ≤ k_)) u9000_ l0_1 from Qrm ho0_1 (fun k_ hk => (.inl hk)))
  have HK := Qx (Kept.refl w (fun k_ => P0_1_ k_))
  have HW0 := Qx hB.size; have HB := Qx hB; clear hB
  have H : (if 0 ≤ (wrap64 (Int.tdiv a1 16)) then (if (wrap64 (Int.tdiv a1 16)) < (l0_1.length : Int) then (if 0 ≤ (Int.tmod a1 16) then (some (l0_1.set ((wrap64 (Int.tdiv a1 16)) : Int).toNat (Go.bits .or .i64 (rd l0_1 (wrap64 (Int.tdiv a1 16))) (shl .i64 1 (Int.tmod a1 16))))) else (none)) else (none)) else (none)) = some r := h
  clear h
  obtain ⟨ji3, hji3⟩ : ∃ j_ : Int, (wrap64 (Int.tdiv a1 16)) = j_ := ⟨_, rfl⟩
  replace H : (if 0 ≤ (ji3) then (if (ji3) < (l0_1.length : Int) then (if 0 ≤ (Int.tmod a1 16) then (some (l0_1.set ((ji3) : Int).toNat (Go.bits .or .i64 (rd l0_1 (ji3)) (shl .i64 1 (Int.tmod a1 16))))) else (none)) else (none)) else (none)) = some r := by first | (rw [hji3] at H; exact H) | (simp only [hji3] at H ⊢; exact H)
  have hji3w : (IntKind.i64.wrap (Int.tdiv a1 16)) = ji3 := (i64_w _).trans hji3
  by_cases c4 : 0 ≤ (ji3)
  ·rw [if_pos c4] at H
   have c4b0 : decide (0 ≤ (ji3)) = true := decide_eq_true c4
   clear c4
   by_cases c5 : (ji3) < (l0_1.length : Int)
   ·rw [if_pos c5] at H
    have c5b0 : decide ((ji3) < (l0_1.length : Int)) = true := decide_eq_true c5
    clear c5
    obtain ⟨ji6, hji6⟩ : ∃ j_ : Int, (Int.tmod a1 16) = j_ := ⟨_, rfl⟩
    replace H : (if 0 ≤ (ji6) then (some (l0_1.set ((ji3) : Int).toNat (Go.bits .or .i64 (rd l0_1 (ji3)) (shl .i64 1 (ji6))))) else (none)) = some r := by first | (rw [hji6] at H; exact H) | (simp only [hji6] at H ⊢; exact H)
    by_cases c7 : 0 ≤ (ji6)
    ·rw [if_pos c7] at H; have c7b0 := eq_true c7
     have c7b1 : decide (0 ≤ (ji6)) = true := decide_eq_true c7
     clear c7
     obtain ⟨ji8, hji8⟩ : ∃ j_ : Int, (shl .i64 1 (ji6)) = j_ := ⟨_, rfl⟩
     replace H : (some (l0_1.set ((ji3) : Int).toNat (Go.bits .or .i64 (rd l0_1 (ji3)) (ji8)))) = some r := by first | (rw [hji8] at H; exact H) | (simp only [hji8] at H ⊢; exact H)
     have hji8_ : (IntKind.i64.wrap (1 * 2 ^ min (ji6).toNat 64)) = ji8 := hji8
     have hji8z : (ji6) ≤ 64 → (IntKind.i64.wrap (1 * 2 ^ (ji6).toNat)) = ji8 := shl_small hji8
     have hji8u : (IntKind.i64.wrap (2 ^ min (ji6).toNat 64)) = ji8 := by have h_ := hji8_; rw [Int.one_mul] at h_; exact h_
     have hji8v : (ji6) ≤ 64 → (IntKind.i64.wrap (2 ^ (ji6).toNat)) = ji8 := fun hle_ => by have h_ := hji8z hle_; rw [Int.one_mul] at h_; exact h_
     have hji8y : (wrap64 (1 * 2 ^ min (ji6).toNat 64)) = ji8 := (i64_w _).symm.trans hji8_
     have hji8x : (ji6) ≤ 64 → (wrap64 (1 * 2 ^ (ji6).toNat)) = ji8 := fun h_ => (i64_w _).symm.trans (hji8z h_)
     obtain ⟨y114, hy114⟩ : ∃ y_ : List Int, y_ = (l0_1.set ((ji3) : Int).toNat (Go.bits .or .i64 (rd l0_1 (ji3)) (ji8))) := ⟨_, rfl⟩
     replace H : (some y114) = some r := by first | (rw [hy114]; with_reducible exact H) | (have H2_ := (Option.bind_some _ _).symm.trans H; rw [hy114]; with_reducible exact H2_) | (have H2_ := (Option.bind_some _ _).symm.trans H; with_reducible exact H2_) | with_reducible exact H | (rw [hy114]; exact H) | exact H
     have Ny114 := Qx hy114; clear hy114; obtain rfl := Option.some.inj H; obtain ⟨Ao10, co10, eo10⟩ := Kd.R_slice HO0_1.out; subst eo10
     go_enter Try.func51, Try.ntmps51
     try go_wp2_with (first | ((with_reducible refine gate_dst (N := 2) rfl ?_); refine bx_ 2 #[.int .i64 a0_0, .slice Ao10 l0_1.length co10] 28 ?_; intro gb112 hg w11 hbox hb; replace HO0_1 := Qx (Kd.R_below (kR_ HO0_1) hb); have BK112 := Qx (hbox); have GW112 := Qx ((by rw [hg]; exact (by first | exact HK.out.1 | exact (show Kept w _ (fun k_ => P0_1_ k_) from by repeat (first | (with_reducible first | exact HK.out | apply Kept.alloc | apply Kept.drewN | apply Kept.drew) | exact HK.out)).1) : w.heap.size ≤ gb112)); replace HK := Qx (Kept.below (S := (fun k_ => P0_1_ k_)) (by repeat (first | (with_reducible first | exact HK.out | apply Kept.alloc | apply Kept.drewN | apply Kept.drew) | exact HK.out)) hb); have GE112 := Qx ((by rw [hg]; exact (below_size hB_) : w0.heap.size ≤ gb112)); replace HB := Qx (Qp hB_ hb); clear hb hbox hg))
     replace HO0_1 := Qx (Qrd HO0_1.out)
     replace BK112 := Qx (Qw BK112.out)
     replace HK := Qx (Kept.drew HK.out)
     replace HB := Qx (below_drew1 HB.out)
     have p113 : 0 ≤ ((ji3) : Int) := of_decide_eq_true as_
     have q113 : (ji3) < (l0_1.length : Int) := of_decide_eq_true as_
     obtain ⟨ad113, e113, hx113_0⟩ := Kd.at_int (Kd.R_reads' HO0_1.out).2.2 (ji3) p113 q113
     cases e113
     replace p113 := eq_true p113; replace q113 := eq_true q113
     have p9 : 0 ≤ ((ji3) : Int) := of_decide_eq_true as_
     have q9 : ((ji3) : Int) < ((l0_1.length : Int) : Int) := of_decide_eq_true as_
     obtain ⟨go9, co9, eo9, gb9, gl9, cl9, HG9⟩ := Kd.R_form HO0_1.out (by omega)
     (first | cases eo9 | (injection eo9 with ea_ en_ ec_; (first | subst ea_ | (injection ea_ with ea_; subst ea_)); subst ec_; clear en_))
     have GB9 := Qx gb9; have GG9 := Qx HG9; clear gb9 gl9 HG9
     have HMgo9 := Qx (show (P0_1_ go9 ∨ w.heap.size ≤ go9) from (HO0_1.out.1 _ rfl))
     (first | simp only [add_plain] at hx113_0 | skip)
     obtain ⟨hx9_0, hf9_0⟩ := Kd.R_celln 0 HO0_1.out ((ji3) : Int) p9 q9
     replace p9 := eq_true p9; replace q9 := eq_true q9
     have HP13 := Kd.R_putn HO0_1.out ((ji3) : Int) (Go.bits .or .i64 (rd l0_1 (ji3)) (ji8))
     rw [← Ny114.out] at HP13; have HQ13 := Qx HP13; clear HP13
     refine start_ (n := 12) (S := fun w' => w'.cell? ⟨gb112, 0, none⟩ = some (.int .i64 a0_0) ∧ w'.cell? ⟨gb112, 1, none⟩ = some (.slice (some ⟨go9, 0, none⟩) l0_1.length co10) ∧ w'.cell? ⟨go9, ((ji3)).toNat, none⟩ = some (.int .i64 (rd l0_1 (ji3)))) (ds := [11]) #[false, false, false, false, false, false, false, false, false, false, false, false] (by kernel_rfl) rfl rfl ⟨(Qc BK112.out 0).trans rfl, (Qc BK112.out 1).trans rfl, hx113_0⟩ (fun hHeld => ?_); refine with_tabW spec_biSet.tab1 spec_biSet.bits1 (fun HT_ HW_ => ?_)
     generalize w11.drew = w12 at HO0_1 BK112 HK HB GG9 HQ13 hf9_0 hx113_0 hx9_0 hHeld ⊢
     refine pr_ 0 4 12 1 ?_
     refine pr_ 2 6 12 5 ?_
     refine pr_ 3 7 12 13 ?_
     refine pr_ 6 10 12 77 ?_
     refine pr_ 7 11 12 205 ?_
     refine pr_ 8 12 12 461 ?_
     refine tq_ 1 5 12 463 HT_.out HW_.out (by kernel_rfl) hHeld ?_ rfl (by rintro w' ⟨s0, s1, s2⟩; go_simp; with_reducible rfl)
     refine pr_ 4 8 12 479 ?_
     refine tq_ 5 9 12 511 HT_.out HW_.out (by kernel_rfl) hHeld ?_ rfl (by rintro w' ⟨s0, s1, s2⟩; go_simp; with_reducible rfl)
     refine pr_ 9 13 12 1023 ?_
     refine pr_ 10 14 12 2047 ?_
     refine last_ (i := 11) (N := none) (bsA 12 4095) rfl rfl (one_of HT_.out (by kernel_rfl)) (by decide) (fun K hK => ?_)
     refine skip_ (w1 := ?_) (by rfl) rfl ?_ ?_
     rotate_left
     ·go_simp
      rfl
     refine hK.out _ _ ?_
     clear hK K
     refine done_ (done_of HT_.out (by kernel_rfl)) ?_
     try go_wp2
     first | go_end0 | ((try simp only [Exit.inBlock, Exit.then]); refine bodyPost_ret (results_none rfl _ _ _) rfl ?_)
     exact ⟨by first | rfl | (simp [errW_none, errW_some] <;> rfl) | (simp only [← hji3, ← hji6, ← hji8]; first | rfl | (simp [errW_none, errW_some] <;> rfl)) | (simp [*, errW_none, errW_some] <;> rfl), kR_ HQ13, hB_, by repeat (first | (with_reducible first | exact HK.out | apply Kept.alloc | apply Kept.drewN | apply Kept.drew | refine Kept.setCell ?_ HMgo9.out _ | refine Kept.setCell ?_ (.inr GW112.out) _) | exact HK.out)⟩
    ·rw [if_neg c7] at H
     exact absurd H (by simp)
   ·rw [if_neg c5] at H
    exact absurd H (by simp)
  ·rw [if_neg c4] at H
   exact absurd H (by simp)
/-! ### spec_biSome: function 33 -/
def spec_biSome.l0 : Nat → List Bool → Int → Int → Int → List Int → Option (Int × List Int)
  | 0, _, _, _, _, _ => none
  | k + 1, x9, x10, x11, x121000, x121001 => if x11 < x10 then (if 0 ≤ x11 then (if x11 < (x9.length : Int) then (if rdOf false x9 x11 = true then ((spec_biSet.f x121000 x121001 x11).bind fun t122 => (spec_biSome.l0 k x9 x10 (wrap64 (x11 + 1)) x121000 t122)) else (spec_biSome.l0 k x9 x10 (wrap64 (x11 + 1)) x121000 x121001)) else (none)) else (none)) else (some (x121000, x121001))
def spec_biSome.f (k : Nat) (l0 : List Bool) : Option (Int × List Int) := (spec_biNew.f (l0.length : Int)).bind fun bt116 => (spec_biSome.l0 k l0 (l0.length : Int) 0 bt116.1 bt116.2)
theorem spec_biSome.mono_l : ∀ k, (∀ y0 y1 y2 y3 y4, LeO (spec_biSome.l0 k y0 y1 y2 y3 y4) (spec_biSome.l0 (k + 1) y0 y1 y2 y3 y4))
  | 0 => fun _ _ _ _ _ r h => by simp [spec_biSome.l0] at h
  | k + 1 => by
    have ih0 := spec_biSome.mono_l k
    · intro y0 y1 y2 y3 y4
      unfold spec_biSome.l0
      repeat' first
      | (with_reducible exact ih0 _ _ _ _ _)
      | (with_reducible exact LeO.refl _)
      | (with_reducible exact LeO.none _)
      | (with_reducible refine LeO.ite ?_ ?_)
      | (with_reducible refine LeO.bind ?_ (fun _ => ?_))
      | exact ih0 _ _ _ _ _
      | exact LeO.none _
      | refine LeO.ite ?_ ?_
      | refine LeO.bind ?_ (fun _ => ?_)
theorem spec_biSome.mono : ∀ a0 k, LeO (spec_biSome.f k a0) (spec_biSome.f (k + 1) a0) := by
  intro a0 k
  have ih0 := spec_biSome.mono_l k
  unfold spec_biSome.f
  repeat' first
      | (with_reducible exact ih0 _ _ _ _ _)
      | (with_reducible exact LeO.refl _)
      | (with_reducible exact LeO.none _)
      | (with_reducible refine LeO.ite ?_ ?_)
      | (with_reducible refine LeO.bind ?_ (fun _ => ?_))
      | exact ih0 _ _ _ _ _
      | exact LeO.none _
      | refine LeO.ite ?_ ?_
      | refine LeO.bind ?_ (fun _ => ?_)
noncomputable def spec_biSome.L0 (y0 : List Bool) (y1 : Int) (y2 : Int) (y3 : Int) (y4 : List Int) : Option (Int × List Int) := lim fun k => spec_biSome.l0 k y0 y1 y2 y3 y4
theorem spec_biSome.L0_sup (y0 : List Bool) (y1 : Int) (y2 : Int) (y3 : Int) (y4 : List Int) : Sup (fun k => spec_biSome.l0 k y0 y1 y2 y3 y4) (spec_biSome.L0 y0 y1 y2 y3 y4) := Sup.of_mono fun k => spec_biSome.mono_l k y0 y1 y2 y3 y4
noncomputable def spec_biSome.F (l0 : List Bool) : Option (Int × List Int) := lim fun k => spec_biSome.f k l0
theorem spec_biSome.F_sup (l0 : List Bool) : Sup (fun k => spec_biSome.f k l0) (spec_biSome.F l0) := Sup.of_mono fun k => spec_biSome.mono l0 k
theorem spec_biSome.L0_eq (x9 : List Bool) (x10 : Int) (x11 : Int) (x121000 : Int) (x121001 : List Int) : spec_biSome.L0 x9 x10 x11 x121000 x121001 = if x11 < x10 then (if 0 ≤ x11 then (if x11 < (x9.length : Int) then (if rdOf false x9 x11 = true then ((spec_biSet.f x121000 x121001 x11).bind fun t122 => (spec_biSome.L0 x9 x10 (wrap64 (x11 + 1)) x121000 t122)) else (spec_biSome.L0 x9 x10 (wrap64 (x11 + 1)) x121000 x121001)) else (none)) else (none)) else (some (x121000, x121001)) := by
  refine Sup.unique (spec_biSome.L0_sup x9 x10 x11 x121000 x121001) (Sup.shift (fun k => spec_biSome.mono_l k x9 x10 x11 x121000 x121001) (Sup.congr (g' := fun k => if x11 < x10 then (if 0 ≤ x11 then (if x11 < (x9.length : Int) then (if rdOf false x9 x11 = true then ((spec_biSet.f x121000 x121001 x11).bind fun t122 => (spec_biSome.l0 k x9 x10 (wrap64 (x11 + 1)) x121000 t122)) else (spec_biSome.l0 k x9 x10 (wrap64 (x11 + 1)) x121000 x121001)) else (none)) else (none)) else (some (x121000, x121001))) (fun k => by first | rfl | simp only [spec_biSome.l0]) ?_))
  repeat' first
    | (with_reducible exact spec_biSome.L0_sup _ _ _ _ _)
    | (with_reducible refine Sup.ite ?_ ?_)
    | (with_reducible refine Sup.bind ?_ (fun _ => ?_))
    | (with_reducible exact Sup.const _)
    | exact spec_biSome.L0_sup _ _ _ _ _
    | exact Sup.const _
theorem spec_biSome.F_eq (l0 : List Bool) : spec_biSome.F l0 = (spec_biNew.f (l0.length : Int)).bind fun bt116 => (spec_biSome.L0 l0 (l0.length : Int) 0 bt116.1 bt116.2) := by
  refine Sup.unique (spec_biSome.F_sup l0) (Sup.congr (g' := fun k => (spec_biNew.f (l0.length : Int)).bind fun bt116 => (spec_biSome.l0 k l0 (l0.length : Int) 0 bt116.1 bt116.2)) (fun k => by first | rfl | simp only [spec_biSome.f]) ?_)
  repeat' first
    | (with_reducible exact spec_biSome.L0_sup _ _ _ _ _)
    | (with_reducible refine Sup.ite ?_ ?_)
    | (with_reducible refine Sup.bind ?_ (fun _ => ?_))
    | (with_reducible exact Sup.const _)
    | exact spec_biSome.L0_sup _ _ _ _ _
    | exact Sup.const _
set_option maxHeartbeats 8000000 in
set_option maxRecDepth 100000 in
theorem spec_biSome.calls (k : Nat) (A0 : Option Addr) (c0 : Nat) (l0 : List Bool) (r1 : Int) (r2 : List Int) (w : World) (hr0 : Kd.C Kd.bool w A0 l0.length l0) (hc0 : l0.length ≤ c0) (h : spec_biSome.f k l0 = some (r1, r2)) :
    Calls Try.prog 33 #[.slice A0 l0.length c0] w fun e w' => ∃ v1_ : Value, e = .returned (.agg #[.int .i64 r1, v1_]) ∧ Kd.R (Kd.int .i64) 3 w' w.heap.size (fun _ => True) v1_ r2 ∧ Below w.heap.size w w' := by
  have hu28 := Try.underlying28; have HR0 := Qx hr0; have HC0 := Qx hc0; clear hr0 hc0
  have HB := Qx (Below.refl w.heap.size w)
  have H : ((spec_biNew.f (l0.length : Int)).bind fun bt116 => (spec_biSome.l0 k l0 (l0.length : Int) 0 bt116.1 bt116.2)) = some (r1, r2) := h
  clear h; replace H := Option.bind_eq_some_iff.mp H; obtain ⟨⟨t116, t117⟩, A20, H⟩ := H
  have A2 := Qx A20; clear A20; have H' := Qx H; clear H
  go_enter Try.func33, Try.ntmps33
  go_wp2_with (first | ((with_reducible refine gate_dst (N := 2) rfl ?_); refine bx_ 2 #[.int .i64 0, .slice none 0 0] 28 ?_; intro gb115 hg w3 hbox hb; have BK115 := Qx (hbox); have GW115 := Qx ((ge_ hg)); have GE115 := Qx ((ge_ hg)); replace HB := Qx (Qp hB_ hb); clear hb hbox hg) | ((with_reducible refine gate_callee (f := 50) rfl ?_); refine gl_ 8 Try.func50 #[.int .i64 (l0.length : Int)] ?_; (with_reducible refine (spec_biNew.calls (l0.length : Int) t116 t117 _ A2.out).mono ?_); rintro e w4 ⟨v118, rfl, ho0, hb⟩; refine ⟨_, rfl, ?_⟩; have HO119 := Qx (Kd.R_lower ho0 (below_size hB_)); replace BK115 := Qx (Qb (kB_ BK115) hb); replace HB := Qx (Qp hB_ hb); (try clear hb); (try clear hb2); (try clear hk); (try clear hi); (try clear ho0)) | ((with_reducible refine gate_dst (N := 3) rfl ?_); refine bx_ 3 #[.int .i64 0, .slice none 0 0] 28 ?_; intro gb120 hg w5 hbox hb; replace HO119 := Qx (Kd.R_below (kR_ HO119) hb); have BK120 := Qx (hbox); have GW120 := Qx ((ge_ hg)); have GE120 := Qx ((ge_ hg)); replace HB := Qx (Qp hB_ hb); have NB115_120 := Qx ((ne_ hg BK115)); have NB120_115 := Qx ((nf_ hg BK115)); replace BK115 := Qx (Qb (kB_ BK115) hb); clear hb hbox hg; have hnb6 := NB120_115.out; have hnc6 := NB115_120.out; obtain ⟨hcz7_0, hcz7_1, hfz7_0, hfz7_1⟩ := cellsQ2_g1a (w := w5) BK120.out; obtain ⟨Ao8, co8, eo8⟩ := Kd.R_slice HO119.out; subst eo8))
  go_loopg [11] k (fun kq v11 w' => ∃ (x11_1 : Int) (x121001_1 : List Int) (u121001 : Value), v11 = .int .i64 x11_1 ∧ Aside0 (spec_biSome.l0 kq l0 (l0.length : Int) x11_1 t116 x121001_1 = some (r1, r2)) ∧ Aside0 (kq ≤ k) ∧ Aside0 (Kd.R (Kd.int .i64) 3 w' w.heap.size (fun _ => True) u121001 x121001_1) ∧ Aside0 (w'.heap[gb115]? = some (.cells #[.int .i64 0, (.slice none 0 0)] 28 (0, 0))) ∧ Aside0 (w'.heap[gb120]? = some (.cells #[.int .i64 t116, u121001] 28 (0, 0))) ∧ Aside0 (Below w.heap.size w w'))
  case atStart => exact ⟨(0), (t117), (.slice Ao8 t117.length co8), rg_, H', ⟨Nat.le_refl _⟩, ⟨by (with_reducible repeat (first | apply Qra | apply Qrn | apply Qrd)); exact Qrm (farsQ2_g1a (Kd.R_types HO119.out BK120.out (by decide)) (fun _ hk => hk.2) (.int .i64 t116) (.slice Ao8 t117.length co8)) (fun _ hk => trivial)⟩, ⟨by (with_reducible repeat (first | refine Qm ?_ _ | refine Qw ?_ | refine Qk ?_ _)); refine blk_far ?_ NB115_120.out _; (with_reducible repeat (first | refine Qm ?_ _ | refine Qw ?_ | refine Qk ?_ _)); refine blk_far ?_ NB115_120.out _; (with_reducible repeat (first | refine Qm ?_ _ | refine Qw ?_ | refine Qk ?_ _)); exact BK115.out⟩, ⟨by (with_reducible repeat (first | refine Qm ?_ _ | refine Qw ?_ | refine Qk ?_ _)); refine Qu (cs := #[.int .i64 t116, .slice none 0 0]) ?_ 1 _ rfl; (with_reducible repeat (first | refine Qm ?_ _ | refine Qw ?_ | refine Qk ?_ _)); refine Qu (cs := #[.int .i64 0, .slice none 0 0]) ?_ 0 _ rfl; (with_reducible repeat (first | refine Qm ?_ _ | refine Qw ?_ | refine Qk ?_ _)); exact BK120.out⟩, ⟨hB_⟩⟩
  case round =>
   clear H'
   try clear p2
   try clear c3
   try clear c5
   try clear c6
   try clear hcz7_0
   try clear hcz7_1
   try clear hfz7_0
   try clear hfz7_1
   obtain ⟨x11_1, x121001_1, u121001, rfl, HA, HK1, HO_121001, BK115, BK120, HB⟩ := hrel
   cases gk with
   | zero => exact absurd HA.out (by simp [spec_biSome.l0])
   | succ k1 =>
    have H := HA.out; clear HA; simp only [spec_biSome.l0] at H
    by_cases c9 : x11_1 < (l0.length : Int)
    ·rw [if_pos c9] at H
     have c9b0 : decide (x11_1 < (l0.length : Int)) = true := decide_eq_true c9
     clear c9
     by_cases c10 : 0 ≤ x11_1
     ·rw [if_pos c10] at H
      have c10b0 : decide (0 ≤ x11_1) = true := decide_eq_true c10
      clear c10
      by_cases c11 : x11_1 < (l0.length : Int)
      ·rw [if_pos c11] at H
       have c11b0 : decide (x11_1 < (l0.length : Int)) = true := decide_eq_true c11
       clear c11
       obtain ⟨bq12, hbq12⟩ : ∃ b_ : Bool, b_ = (rdOf false l0 x11_1) := ⟨_, rfl⟩
       replace H : (if bq12 = true then ((spec_biSet.f t116 x121001_1 x11_1).bind fun t122 => (spec_biSome.l0 k1 l0 (l0.length : Int) (wrap64 (x11_1 + 1)) t116 t122)) else (spec_biSome.l0 k1 l0 (l0.length : Int) (wrap64 (x11_1 + 1)) t116 x121001_1)) = some (r1, r2) := by rw [← hbq12] at H; exact H
       have Nbq12 := Qx hbq12; clear hbq12
       by_cases c13 : bq12 = true
       ·subst c13
        have H1 : ((spec_biSet.f t116 x121001_1 x11_1).bind fun t122 => (spec_biSome.l0 k1 l0 (l0.length : Int) (wrap64 (x11_1 + 1)) t116 t122)) = some (r1, r2) := by rw [if_pos rfl] at H; exact H
        clear H; have H := H1; clear H1; replace H := Option.bind_eq_some_iff.mp H; obtain ⟨t122, A140, H⟩ := H
        have A14 := Qx A140; clear A140; have H' := Qx H; clear H
        have p121 : 0 ≤ (x11_1 : Int) := of_decide_eq_true as_
        have q121 : x11_1 < (l0.length : Int) := of_decide_eq_true as_
        obtain ⟨ad121, e121, hx121_0⟩ := Kd.at_bool HR0.out x11_1 p121 q121
        (try rw [← Nbq12.out] at hx121_0)
        cases e121
        replace hx121_0 := (HB.out.cell (World.block_lt_of_cell? w _ hx121_0)).trans hx121_0
        replace p121 := eq_true p121; replace q121 := eq_true q121; have hnb15 := NB120_115.out; have hnc15 := NB115_120.out
        obtain ⟨hcz16_0, hcz16_1, hfz16_0, hfz16_1⟩ := cellsQ2_g1a (w := wr) BK120.out
        obtain ⟨Ao17, co17, eo17⟩ := Kd.R_slice HO_121001.out; subst eo17
        go_wp2_with (first | ((with_reducible refine gate_callee (f := 51) rfl ?_); refine gl_ 19 Try.func51 #[.agg #[.int .i64 t116, .slice Ao17 x121001_1.length co17], .int .i64 x11_1] ?_; (with_reducible refine (spec_biSet.calls t116 (fun k_ => some k_ = (.slice Ao17 x121001_1.length co17 : Value).ownBlock) (.slice Ao17 x121001_1.length co17) x121001_1 x11_1 t122 w _ ?side1 ?side2 A14.out).mono ?_); (case side1 => exact hB_); (case side2 => exact Kd.R_tight rfl HO_121001.out); rintro e w18 ⟨rfl, hy0, hb, hkp⟩; refine ⟨_, rfl, ?_⟩; replace BK115 := Qx (blk_kept (kB_ BK115) hkp (fun hs_ => (fun e_ => (Kd.R_ne HO_121001.out BK115.out (by decide)) e_) hs_)); replace BK120 := Qx (blk_kept (kB_ BK120) hkp (fun hs_ => (fun e_ => (Kd.R_ne HO_121001.out BK120.out (by decide)) e_) hs_)); replace HO_121001 := Qx (Kd.R_reok rfl hy0 (fun k_ e_ => HO_121001.out.1 k_ e_)); replace HB := Qx (hb); (try clear hb); (try clear hkp); (try clear hy0)))
        go_roundg k1
        case measure => have := HK1.out; omega
        case rel => exact ⟨(wrap64 (x11_1 + 1)), (t122), (.slice Ao17 x121001_1.length co17), rg_, H', ⟨by have := HK1.out; omega⟩, ⟨kR_ HO_121001⟩, ⟨kB_ BK115⟩, ⟨kB_ BK120⟩, ⟨hB_⟩⟩
       ·replace c13 := Bool.eq_false_iff.mpr c13; subst c13
        have H1 : (spec_biSome.l0 k1 l0 (l0.length : Int) (wrap64 (x11_1 + 1)) t116 x121001_1) = some (r1, r2) := by rw [if_neg (show ¬ (false = true) by decide)] at H; exact H
        clear H; have H := H1; clear H1; have H' := Qx H; clear H
        have p121 : 0 ≤ (x11_1 : Int) := of_decide_eq_true as_
        have q121 : x11_1 < (l0.length : Int) := of_decide_eq_true as_
        obtain ⟨ad121, e121, hx121_0⟩ := Kd.at_bool HR0.out x11_1 p121 q121
        (try rw [← Nbq12.out] at hx121_0)
        cases e121
        replace hx121_0 := (HB.out.cell (World.block_lt_of_cell? w _ hx121_0)).trans hx121_0
        replace p121 := eq_true p121; replace q121 := eq_true q121
        go_wp2
        go_roundg k1
        case measure => have := HK1.out; omega
        case rel => exact ⟨(wrap64 (x11_1 + 1)), (x121001_1), (u121001), rg_, H', ⟨by have := HK1.out; omega⟩, ⟨kR_ HO_121001⟩, ⟨kB_ BK115⟩, ⟨kB_ BK120⟩, ⟨hB_⟩⟩
      ·rw [if_neg c11] at H
       exact absurd H (by simp)
     ·rw [if_neg c10] at H
      exact absurd H (by simp)
    ·rw [if_neg c9] at H
     have c9b0 : decide (x11_1 < (l0.length : Int)) = false := decide_eq_false c9
     clear c9; simp only [Option.some.injEq, Prod.mk.injEq] at H; obtain ⟨rfl, rfl⟩ := H; have hnb19 := NB120_115.out; have hnc19 := NB115_120.out
     obtain ⟨hcz20_0, hcz20_1, hfz20_0, hfz20_1⟩ := cellsQ2_g1a (w := wr) BK120.out
     obtain ⟨hcz21_0, hcz21_1, hfz21_0, hfz21_1⟩ := cellsQ2_g1a (w := wr) BK115.out
     obtain ⟨Ao22, co22, eo22⟩ := Kd.R_slice HO_121001.out; subst eo22
     go_wp2
     refine bodyPost_ret (results_cell_row rfl _ _ gb115 28 #[.int .i64 t116, .slice Ao22 x121001_1.length co22] (0, 0) _ rfl (by (with_reducible repeat (first | refine Qm ?_ _ | refine Qw ?_ | refine Qk ?_ _)); refine Qu (cs := #[.int .i64 t116, .slice none 0 0]) ?_ 1 _ rfl; (with_reducible repeat (first | refine Qm ?_ _ | refine Qw ?_ | refine Qk ?_ _)); refine Qu (cs := #[.int .i64 0, .slice none 0 0]) ?_ 0 _ rfl; (with_reducible repeat (first | refine Qm ?_ _ | refine Qw ?_ | refine Qk ?_ _)); exact BK115.out) Try.underlying28 rfl (by kernel_rfl)) rfl ?_
     exact ⟨_, rf_, by (with_reducible repeat (first | apply Qra | apply Qrn | apply Qrd)); exact Qrm (farsQ2_g1a (Kd.R_types HO_121001.out BK115.out (by decide)) (fun _ hk => hk.2) (.int .i64 t116) (.slice Ao22 x121001_1.length co22)) (fun _ hk => trivial), hB_⟩
/-! ### spec_spOf: function 13 -/
def spec_spOf.l0 : Nat → List Int → Int → Int → List Bool → List Bool → List Int → Int → Int → Option (Int × Int × Int × Int × List Int × Int × List Int)
  | 0, _, _, _, _, _, _, _, _ => none
  | k + 1, x0, x1, x5, x6, x7, x28, x29, x30 => if x30 < x29 then (if 0 ≤ x30 then (if x30 < (x28.length : Int) then (if 0 ≤ x5 then (if (shl .i64 1 x5) = 0 then (none) else ((spec_biPut.f k x6 (wrap64 (x30 * x5)) x5 (Int.tmod (rd x28 x30) (shl .i64 1 x5))).bind fun t132 => (if 0 ≤ (wrap64 ((shr .i64 (rd x28 x30) x5) + x30)) then (if (wrap64 ((shr .i64 (rd x28 x30) x5) + x30)) < (x7.length : Int) then (spec_spOf.l0 k x0 x1 x5 t132 (x7.set ((wrap64 ((shr .i64 (rd x28 x30) x5) + x30)) : Int).toNat true) x28 x29 (wrap64 (x30 + 1))) else (none)) else (none)))) else (none)) else (none)) else (none)) else ((spec_biSome.f k x6).bind fun bt134 => ((spec_biSome.f k x7).bind fun bt138 => (some ((x0.length : Int), x1, x5, bt134.1, bt134.2, bt138.1, bt138.2))))
def spec_spOf.f (k : Nat) (l0 : List Int) (a1 : Int) : Option (Int × Int × Int × Int × List Int × Int × List Int) := (spec_spWidth.f k (l0.length : Int) a1).bind fun t124 => (if 0 ≤ (wrap64 ((l0.length : Int) * t124)) then (if (wrap64 ((l0.length : Int) * t124) : Int).toNat ≤ 281474976710656 then (if 0 ≤ t124 then (if 0 ≤ (wrap64 ((wrap64 ((l0.length : Int) + (shr .i64 (wrap64 (a1 - 1)) t124))) + 1)) then (if (wrap64 ((wrap64 ((l0.length : Int) + (shr .i64 (wrap64 (a1 - 1)) t124))) + 1) : Int).toNat ≤ 281474976710656 then (spec_spOf.l0 k l0 a1 t124 (List.replicate (wrap64 ((l0.length : Int) * t124) : Int).toNat false) (List.replicate (wrap64 ((wrap64 ((l0.length : Int) + (shr .i64 (wrap64 (a1 - 1)) t124))) + 1) : Int).toNat false) l0 (l0.length : Int) 0) else (none)) else (none)) else (none)) else (none)) else (none))
theorem spec_spOf.mono_l : ∀ k, (∀ y0 y1 y2 y3 y4 y5 y6 y7, LeO (spec_spOf.l0 k y0 y1 y2 y3 y4 y5 y6 y7) (spec_spOf.l0 (k + 1) y0 y1 y2 y3 y4 y5 y6 y7))
  | 0 => fun _ _ _ _ _ _ _ _ r h => by simp [spec_spOf.l0] at h
  | k + 1 => by
    have ih0 := spec_spOf.mono_l k
    · intro y0 y1 y2 y3 y4 y5 y6 y7
      unfold spec_spOf.l0
      repeat' first
      | (with_reducible exact ih0 _ _ _ _ _ _ _ _)
      | (with_reducible exact spec_biPut.mono _ _ _ _ _)
      | (with_reducible exact spec_biSome.mono _ _)
      | (with_reducible exact spec_spWidth.mono _ _ _)
      | (with_reducible exact LeO.refl _)
      | (with_reducible exact LeO.none _)
      | (with_reducible refine LeO.ite ?_ ?_)
      | (with_reducible refine LeO.bind ?_ (fun _ => ?_))
      | exact ih0 _ _ _ _ _ _ _ _
      | exact spec_biPut.mono _ _ _ _ _
      | exact spec_biSome.mono _ _
      | exact spec_spWidth.mono _ _ _
      | exact LeO.none _
      | refine LeO.ite ?_ ?_
      | refine LeO.bind ?_ (fun _ => ?_)
theorem spec_spOf.mono : ∀ a0 a1 k, LeO (spec_spOf.f k a0 a1) (spec_spOf.f (k + 1) a0 a1) := by
  intro a0 a1 k
  have ih0 := spec_spOf.mono_l k
  unfold spec_spOf.f
  repeat' first
      | (with_reducible exact ih0 _ _ _ _ _ _ _ _)
      | (with_reducible exact spec_biPut.mono _ _ _ _ _)
      | (with_reducible exact spec_biSome.mono _ _)
      | (with_reducible exact spec_spWidth.mono _ _ _)
      | (with_reducible exact LeO.refl _)
      | (with_reducible exact LeO.none _)
      | (with_reducible refine LeO.ite ?_ ?_)
      | (with_reducible refine LeO.bind ?_ (fun _ => ?_))
      | exact ih0 _ _ _ _ _ _ _ _
      | exact spec_biPut.mono _ _ _ _ _
      | exact spec_biSome.mono _ _
      | exact spec_spWidth.mono _ _ _
      | exact LeO.none _
      | refine LeO.ite ?_ ?_
      | refine LeO.bind ?_ (fun _ => ?_)
noncomputable def spec_spOf.L0 (y0 : List Int) (y1 : Int) (y2 : Int) (y3 : List Bool) (y4 : List Bool) (y5 : List Int) (y6 : Int) (y7 : Int) : Option (Int × Int × Int × Int × List Int × Int × List Int) := lim fun k => spec_spOf.l0 k y0 y1 y2 y3 y4 y5 y6 y7
theorem spec_spOf.L0_sup (y0 : List Int) (y1 : Int) (y2 : Int) (y3 : List Bool) (y4 : List Bool) (y5 : List Int) (y6 : Int) (y7 : Int) : Sup (fun k => spec_spOf.l0 k y0 y1 y2 y3 y4 y5 y6 y7) (spec_spOf.L0 y0 y1 y2 y3 y4 y5 y6 y7) := Sup.of_mono fun k => spec_spOf.mono_l k y0 y1 y2 y3 y4 y5 y6 y7
noncomputable def spec_spOf.F (l0 : List Int) (a1 : Int) : Option (Int × Int × Int × Int × List Int × Int × List Int) := lim fun k => spec_spOf.f k l0 a1
theorem spec_spOf.F_sup (l0 : List Int) (a1 : Int) : Sup (fun k => spec_spOf.f k l0 a1) (spec_spOf.F l0 a1) := Sup.of_mono fun k => spec_spOf.mono l0 a1 k
theorem spec_spOf.L0_eq (x0 : List Int) (x1 : Int) (x5 : Int) (x6 : List Bool) (x7 : List Bool) (x28 : List Int) (x29 : Int) (x30 : Int) : spec_spOf.L0 x0 x1 x5 x6 x7 x28 x29 x30 = if x30 < x29 then (if 0 ≤ x30 then (if x30 < (x28.length : Int) then (if 0 ≤ x5 then (if (shl .i64 1 x5) = 0 then (none) else ((spec_biPut.F x6 (wrap64 (x30 * x5)) x5 (Int.tmod (rd x28 x30) (shl .i64 1 x5))).bind fun t132 => (if 0 ≤ (wrap64 ((shr .i64 (rd x28 x30) x5) + x30)) then (if (wrap64 ((shr .i64 (rd x28 x30) x5) + x30)) < (x7.length : Int) then (spec_spOf.L0 x0 x1 x5 t132 (x7.set ((wrap64 ((shr .i64 (rd x28 x30) x5) + x30)) : Int).toNat true) x28 x29 (wrap64 (x30 + 1))) else (none)) else (none)))) else (none)) else (none)) else (none)) else ((spec_biSome.F x6).bind fun bt134 => ((spec_biSome.F x7).bind fun bt138 => (some ((x0.length : Int), x1, x5, bt134.1, bt134.2, bt138.1, bt138.2)))) := by
  refine Sup.unique (spec_spOf.L0_sup x0 x1 x5 x6 x7 x28 x29 x30) (Sup.shift (fun k => spec_spOf.mono_l k x0 x1 x5 x6 x7 x28 x29 x30) (Sup.congr (g' := fun k => if x30 < x29 then (if 0 ≤ x30 then (if x30 < (x28.length : Int) then (if 0 ≤ x5 then (if (shl .i64 1 x5) = 0 then (none) else ((spec_biPut.f k x6 (wrap64 (x30 * x5)) x5 (Int.tmod (rd x28 x30) (shl .i64 1 x5))).bind fun t132 => (if 0 ≤ (wrap64 ((shr .i64 (rd x28 x30) x5) + x30)) then (if (wrap64 ((shr .i64 (rd x28 x30) x5) + x30)) < (x7.length : Int) then (spec_spOf.l0 k x0 x1 x5 t132 (x7.set ((wrap64 ((shr .i64 (rd x28 x30) x5) + x30)) : Int).toNat true) x28 x29 (wrap64 (x30 + 1))) else (none)) else (none)))) else (none)) else (none)) else (none)) else ((spec_biSome.f k x6).bind fun bt134 => ((spec_biSome.f k x7).bind fun bt138 => (some ((x0.length : Int), x1, x5, bt134.1, bt134.2, bt138.1, bt138.2))))) (fun k => by first | rfl | simp only [spec_spOf.l0]) ?_))
  repeat' first
    | (with_reducible exact spec_spOf.L0_sup _ _ _ _ _ _ _ _)
    | (with_reducible exact spec_spWidth.F_sup _ _)
    | (with_reducible exact spec_biPut.F_sup _ _ _ _)
    | (with_reducible exact spec_biSome.F_sup _)
    | (with_reducible refine Sup.ite ?_ ?_)
    | (with_reducible refine Sup.bind ?_ (fun _ => ?_))
    | (with_reducible exact Sup.const _)
    | exact spec_spOf.L0_sup _ _ _ _ _ _ _ _
    | exact spec_spWidth.F_sup _ _
    | exact spec_biPut.F_sup _ _ _ _
    | exact spec_biSome.F_sup _
    | exact Sup.const _
theorem spec_spOf.F_eq (l0 : List Int) (a1 : Int) : spec_spOf.F l0 a1 = (spec_spWidth.F (l0.length : Int) a1).bind fun t124 => (if 0 ≤ (wrap64 ((l0.length : Int) * t124)) then (if (wrap64 ((l0.length : Int) * t124) : Int).toNat ≤ 281474976710656 then (if 0 ≤ t124 then (if 0 ≤ (wrap64 ((wrap64 ((l0.length : Int) + (shr .i64 (wrap64 (a1 - 1)) t124))) + 1)) then (if (wrap64 ((wrap64 ((l0.length : Int) + (shr .i64 (wrap64 (a1 - 1)) t124))) + 1) : Int).toNat ≤ 281474976710656 then (spec_spOf.L0 l0 a1 t124 (List.replicate (wrap64 ((l0.length : Int) * t124) : Int).toNat false) (List.replicate (wrap64 ((wrap64 ((l0.length : Int) + (shr .i64 (wrap64 (a1 - 1)) t124))) + 1) : Int).toNat false) l0 (l0.length : Int) 0) else (none)) else (none)) else (none)) else (none)) else (none)) := by
  refine Sup.unique (spec_spOf.F_sup l0 a1) (Sup.congr (g' := fun k => (spec_spWidth.f k (l0.length : Int) a1).bind fun t124 => (if 0 ≤ (wrap64 ((l0.length : Int) * t124)) then (if (wrap64 ((l0.length : Int) * t124) : Int).toNat ≤ 281474976710656 then (if 0 ≤ t124 then (if 0 ≤ (wrap64 ((wrap64 ((l0.length : Int) + (shr .i64 (wrap64 (a1 - 1)) t124))) + 1)) then (if (wrap64 ((wrap64 ((l0.length : Int) + (shr .i64 (wrap64 (a1 - 1)) t124))) + 1) : Int).toNat ≤ 281474976710656 then (spec_spOf.l0 k l0 a1 t124 (List.replicate (wrap64 ((l0.length : Int) * t124) : Int).toNat false) (List.replicate (wrap64 ((wrap64 ((l0.length : Int) + (shr .i64 (wrap64 (a1 - 1)) t124))) + 1) : Int).toNat false) l0 (l0.length : Int) 0) else (none)) else (none)) else (none)) else (none)) else (none))) (fun k => by first | rfl | simp only [spec_spOf.f]) ?_)
  repeat' first
    | (with_reducible exact spec_spOf.L0_sup _ _ _ _ _ _ _ _)
    | (with_reducible exact spec_spWidth.F_sup _ _)
    | (with_reducible exact spec_biPut.F_sup _ _ _ _)
    | (with_reducible exact spec_biSome.F_sup _)
    | (with_reducible refine Sup.ite ?_ ?_)
    | (with_reducible refine Sup.bind ?_ (fun _ => ?_))
    | (with_reducible exact Sup.const _)
    | exact spec_spOf.L0_sup _ _ _ _ _ _ _ _
    | exact spec_spWidth.F_sup _ _
    | exact spec_biPut.F_sup _ _ _ _
    | exact spec_biSome.F_sup _
    | exact Sup.const _
set_option maxHeartbeats 8000000 in
set_option maxRecDepth 100000 in
theorem spec_spOf.calls (k : Nat) (A0 : Option Addr) (c0 : Nat) (l0 : List Int) (a1 : Int) (r1 : Int) (r2 : Int) (r3 : Int) (r4 : Int) (r5 : List Int) (r6 : Int) (r7 : List Int) (w : World) (hr0 : Kd.C (Kd.int .i64) w A0 l0.length l0) (hc0 : l0.length ≤ c0) (h : spec_spOf.f k l0 a1 = some (r1, r2, r3, r4, r5, r6, r7)) :
    Calls Try.prog 13 #[.slice A0 l0.length c0, .int .i64 a1] w fun e w' => ∃ v4_ v6_ : Value, e = .returned (.agg #[.int .i64 r1, .int .i64 r2, .int .i64 r3, .int .i64 r4, v4_, .int .i64 r6, v6_]) ∧ Kd.R (Kd.int .i64) 3 w' w.heap.size (fun k_ => some k_ ≠ (v6_ : Value).ownBlock) v4_ r5 ∧ Kd.R (Kd.int .i64) 3 w' w.heap.size (fun k_ => some k_ ≠ (v4_ : Value).ownBlock) v6_ r7 ∧ Below w.heap.size w w' := by
  have hu30 := Try.underlying30; have HR0 := Qx hr0; have HC0 := Qx hc0; clear hr0 hc0
  have HB := Qx (Below.refl w.heap.size w)
  have H : ((spec_spWidth.f k (l0.length : Int) a1).bind fun t124 => (if 0 ≤ (wrap64 ((l0.length : Int) * t124)) then (if (wrap64 ((l0.length : Int) * t124) : Int).toNat ≤ 281474976710656 then (if 0 ≤ t124 then (if 0 ≤ (wrap64 ((wrap64 ((l0.length : Int) + (shr .i64 (wrap64 (a1 - 1)) t124))) + 1)) then (if (wrap64 ((wrap64 ((l0.length : Int) + (shr .i64 (wrap64 (a1 - 1)) t124))) + 1) : Int).toNat ≤ 281474976710656 then (spec_spOf.l0 k l0 a1 t124 (List.replicate (wrap64 ((l0.length : Int) * t124) : Int).toNat false) (List.replicate (wrap64 ((wrap64 ((l0.length : Int) + (shr .i64 (wrap64 (a1 - 1)) t124))) + 1) : Int).toNat false) l0 (l0.length : Int) 0) else (none)) else (none)) else (none)) else (none)) else (none))) = some (r1, r2, r3, r4, r5, r6, r7) := h
  clear h; replace H := Option.bind_eq_some_iff.mp H; obtain ⟨t124, A30, H⟩ := H
  have A3 := Qx A30; clear A30
  obtain ⟨ji4, hji4⟩ : ∃ j_ : Int, (wrap64 ((l0.length : Int) * t124)) = j_ := ⟨_, rfl⟩
  replace H : (if 0 ≤ (ji4) then (if (ji4 : Int).toNat ≤ 281474976710656 then (if 0 ≤ t124 then (if 0 ≤ (wrap64 ((wrap64 ((l0.length : Int) + (shr .i64 (wrap64 (a1 - 1)) t124))) + 1)) then (if (wrap64 ((wrap64 ((l0.length : Int) + (shr .i64 (wrap64 (a1 - 1)) t124))) + 1) : Int).toNat ≤ 281474976710656 then (spec_spOf.l0 k l0 a1 t124 (List.replicate (ji4 : Int).toNat false) (List.replicate (wrap64 ((wrap64 ((l0.length : Int) + (shr .i64 (wrap64 (a1 - 1)) t124))) + 1) : Int).toNat false) l0 (l0.length : Int) 0) else (none)) else (none)) else (none)) else (none)) else (none)) = some (r1, r2, r3, r4, r5, r6, r7) := by first | (rw [hji4] at H; exact H) | (simp only [hji4] at H ⊢; exact H)
  (try rw [hji4] at A3)
  have hji4w : (IntKind.i64.wrap ((l0.length : Int) * t124)) = ji4 := (i64_w _).trans hji4
  by_cases c5 : 0 ≤ (ji4)
  ·rw [if_pos c5] at H; have c5b0 := eq_true c5
   have c5b1 : decide (0 ≤ (ji4)) = true := decide_eq_true c5
   clear c5
   by_cases c6 : (ji4 : Int).toNat ≤ 281474976710656
   ·rw [if_pos c6] at H; have c6b0 := eq_true c6
    have c6b1 : decide ((ji4 : Int).toNat ≤ 281474976710656) = true := decide_eq_true c6
    clear c6
    obtain ⟨y125, hy125⟩ : ∃ y_ : List Bool, y_ = (List.replicate (ji4 : Int).toNat false) := ⟨_, rfl⟩
    replace H : (if 0 ≤ t124 then (if 0 ≤ (wrap64 ((wrap64 ((l0.length : Int) + (shr .i64 (wrap64 (a1 - 1)) t124))) + 1)) then (if (wrap64 ((wrap64 ((l0.length : Int) + (shr .i64 (wrap64 (a1 - 1)) t124))) + 1) : Int).toNat ≤ 281474976710656 then (spec_spOf.l0 k l0 a1 t124 y125 (List.replicate (wrap64 ((wrap64 ((l0.length : Int) + (shr .i64 (wrap64 (a1 - 1)) t124))) + 1) : Int).toNat false) l0 (l0.length : Int) 0) else (none)) else (none)) else (none)) = some (r1, r2, r3, r4, r5, r6, r7) := by first | (rw [hy125]; with_reducible exact H) | (have H2_ := (Option.bind_some _ _).symm.trans H; rw [hy125]; with_reducible exact H2_) | (have H2_ := (Option.bind_some _ _).symm.trans H; with_reducible exact H2_) | with_reducible exact H | (rw [hy125]; exact H) | exact H
    have Ny125 := Qx hy125; clear hy125
    by_cases c7 : 0 ≤ t124
    ·rw [if_pos c7] at H; have c7b0 := eq_true c7
     have c7b1 : decide (0 ≤ t124) = true := decide_eq_true c7
     clear c7
     obtain ⟨ji8, hji8⟩ : ∃ j_ : Int, (shr .i64 (wrap64 (a1 - 1)) t124) = j_ := ⟨_, rfl⟩
     replace H : (if 0 ≤ (wrap64 ((wrap64 ((l0.length : Int) + (ji8))) + 1)) then (if (wrap64 ((wrap64 ((l0.length : Int) + (ji8))) + 1) : Int).toNat ≤ 281474976710656 then (spec_spOf.l0 k l0 a1 t124 y125 (List.replicate (wrap64 ((wrap64 ((l0.length : Int) + (ji8))) + 1) : Int).toNat false) l0 (l0.length : Int) 0) else (none)) else (none)) = some (r1, r2, r3, r4, r5, r6, r7) := by first | (rw [hji8] at H; exact H) | (simp only [hji8] at H ⊢; exact H)
     (try rw [hji8] at A3)
     have hji8_ : ((wrap64 (a1 - 1)) / 2 ^ min t124.toNat 64) = ji8 := hji8
     have hji8z : t124 ≤ 64 → ((wrap64 (a1 - 1)) / 2 ^ t124.toNat) = ji8 := shr_small hji8
     obtain ⟨ji9, hji9⟩ : ∃ j_ : Int, (wrap64 ((wrap64 ((l0.length : Int) + (ji8))) + 1)) = j_ := ⟨_, rfl⟩
     replace H : (if 0 ≤ (ji9) then (if (ji9 : Int).toNat ≤ 281474976710656 then (spec_spOf.l0 k l0 a1 t124 y125 (List.replicate (ji9 : Int).toNat false) l0 (l0.length : Int) 0) else (none)) else (none)) = some (r1, r2, r3, r4, r5, r6, r7) := by first | (rw [hji9] at H; exact H) | (simp only [hji9] at H ⊢; exact H)
     (try rw [hji9] at A3)
     have hji9w : (IntKind.i64.wrap ((wrap64 ((l0.length : Int) + (ji8))) + 1)) = ji9 := (i64_w _).trans hji9
     by_cases c10 : 0 ≤ (ji9)
     ·rw [if_pos c10] at H; have c10b0 := eq_true c10
      have c10b1 : decide (0 ≤ (ji9)) = true := decide_eq_true c10
      clear c10
      by_cases c11 : (ji9 : Int).toNat ≤ 281474976710656
      ·rw [if_pos c11] at H; have c11b0 := eq_true c11
       have c11b1 : decide ((ji9 : Int).toNat ≤ 281474976710656) = true := decide_eq_true c11
       clear c11
       obtain ⟨y128, hy128⟩ : ∃ y_ : List Bool, y_ = (List.replicate (ji9 : Int).toNat false) := ⟨_, rfl⟩
       replace H : (spec_spOf.l0 k l0 a1 t124 y125 y128 l0 (l0.length : Int) 0) = some (r1, r2, r3, r4, r5, r6, r7) := by first | (rw [hy128]; with_reducible exact H) | (have H2_ := (Option.bind_some _ _).symm.trans H; rw [hy128]; with_reducible exact H2_) | (have H2_ := (Option.bind_some _ _).symm.trans H; with_reducible exact H2_) | with_reducible exact H | (rw [hy128]; exact H) | exact H
       have Ny128 := Qx hy128; clear hy128; have H' := Qx H; clear H
       go_enter Try.func13, Try.ntmps13
       go_wp2_with (first | ((with_reducible refine gate_dst (N := 4) rfl ?_); refine bx_ 4 #[.int .i64 0, .int .i64 0, .int .i64 0, .int .i64 0, .slice none 0 0, .int .i64 0, .slice none 0 0] 30 ?_; intro gb123 hg w12 hbox hb; have BK123 := Qx (hbox); have GW123 := Qx ((ge_ hg)); have GE123 := Qx ((ge_ hg)); replace HB := Qx (Qp hB_ hb); clear hb hbox hg) | ((with_reducible refine gate_callee (f := 28) rfl ?_); refine gl_ 13 Try.func28 #[.int .i64 (l0.length : Int), .int .i64 a1] ?_; (with_reducible refine (spec_spWidth.calls k (l0.length : Int) a1 t124 _ A3.out).mono ?_); rintro e w' ⟨rfl, ⟨nd, rfl⟩⟩; refine ⟨_, rfl, ?_⟩) | ((with_reducible refine gate_dst (N := 18) rfl ?_); refine Kd.R_make Kd.bool _ 4 rfl (N := 18) rfl 55 _ _ rfl ji4 rfl rfl Try.underlying55 (.bool false) 1 info4 rfl (by decide) (by omega) false (ok := fun _ => True) (okp := fun _ => True) rfl (fun _ hk => hk) trivial (of_decide_eq_true as_) (Nat.le_trans (Nat.mul_le_mul_right _ (of_decide_eq_true as_ : ji4.toNat ≤ 281474976710656)) (by omega)) (Below.refl _ _) (Nat.le_refl _) ?_; intro v126 w13 ho14 hb hg_ hnew_; clear hg_ hnew_; (first | rw [← Ny125.out] at ho14 | (simp only [Int.reduceToNat] at ho14; rw [← Ny125.out] at ho14)); have HO127 := Qx (Kd.R_lower ho14 (below_size hB_)); replace BK123 := Qx (Qb (kB_ BK123) hb); replace HB := Qx (Qp hB_ hb); clear hb ho14) | ((with_reducible refine gate_dst (N := 27) rfl ?_); refine Kd.R_make Kd.bool _ 4 rfl (N := 27) rfl 55 _ _ rfl ji9 rfl rfl Try.underlying55 (.bool false) 1 info4 rfl (by decide) (by omega) false (ok := fun _ => True) (okp := fun _ => True) rfl (fun _ hk => hk) trivial (of_decide_eq_true as_) (Nat.le_trans (Nat.mul_le_mul_right _ (of_decide_eq_true as_ : ji9.toNat ≤ 281474976710656)) (by omega)) (Below.refl _ _) (Nat.le_refl _) ?_; intro v129 w15 ho16 hb hg_ hnew_; clear hg_ hnew_; (first | rw [← Ny128.out] at ho16 | (simp only [Int.reduceToNat] at ho16; rw [← Ny128.out] at ho16)); have HO130 := Qx (Kd.R_lower (Kd.R_new' ho16 (Kd.R_lt (kR_ HO127))) (below_size hB_)); replace HO127 := Qx (Kd.R_elder' (kR_ HO127) (Kd.R_base ho16) hb); replace BK123 := Qx (Qb (kB_ BK123) hb); replace HB := Qx (Qp hB_ hb); clear hb ho16))
       go_loopg [30] k (fun kq v30 w' => ∃ (x6_1 : List Bool) (x7_1 : List Bool) (x30_1 : Int), v30 = .int .i64 x30_1 ∧ Aside0 (spec_spOf.l0 kq l0 a1 t124 x6_1 x7_1 l0 (l0.length : Int) x30_1 = some (r1, r2, r3, r4, r5, r6, r7)) ∧ Aside0 (kq ≤ k) ∧ Aside0 (Kd.R Kd.bool 4 w' w.heap.size (fun k_ => some k_ ≠ (v129 : Value).ownBlock) v126 x6_1) ∧ Aside0 (Kd.R Kd.bool 4 w' w.heap.size (fun k_ => some k_ ≠ (v126 : Value).ownBlock) v129 x7_1) ∧ Aside0 (w'.heap[gb123]? = some (.cells #[.int .i64 0, .int .i64 0, .int .i64 0, .int .i64 0, (.slice none 0 0), .int .i64 0, (.slice none 0 0)] 30 (0, 0))) ∧ Aside0 (Below w.heap.size w w'))
       case atStart => exact ⟨(y125), (y128), (0), rg_, H', ⟨Nat.le_refl _⟩, ⟨by (with_reducible repeat (first | apply Qra | apply Qrn | apply Qrd)); exact Qrm HO127.out (fun _ hk => hk.2)⟩, ⟨by (with_reducible repeat (first | apply Qra | apply Qrn | apply Qrd)); exact Qrm HO130.out (fun _ hk => hk.2)⟩, ⟨kB_ BK123⟩, ⟨hB_⟩⟩
       case round =>
        clear H'
        try clear c1
        try clear c2
        try clear p2
        try clear c5
        try clear c5b0
        try clear c5b1
        try clear c6
        try clear c6b0
        try clear c6b1
        try clear p6
        try clear c7
        try clear c7b0
        try clear c7b1
        try clear c10
        try clear c10b0
        try clear c10b1
        try clear c11
        try clear c11b0
        try clear c11b1
        try clear c13
        obtain ⟨x6_1, x7_1, x30_1, rfl, HA, HK1, HO_6, HO_7, BK123, HB⟩ := hrel
        cases gk with
        | zero => exact absurd HA.out (by simp [spec_spOf.l0])
        | succ k1 =>
         have H := HA.out; clear HA; simp only [spec_spOf.l0] at H
         by_cases c17 : x30_1 < (l0.length : Int)
         ·rw [if_pos c17] at H
          have c17b0 : decide (x30_1 < (l0.length : Int)) = true := decide_eq_true c17
          clear c17
          by_cases c18 : 0 ≤ x30_1
          ·rw [if_pos c18] at H
           have c18b0 : decide (0 ≤ x30_1) = true := decide_eq_true c18
           clear c18
           by_cases c19 : x30_1 < (l0.length : Int)
           ·rw [if_pos c19] at H
            have c19b0 : decide (x30_1 < (l0.length : Int)) = true := decide_eq_true c19
            clear c19
            by_cases c20 : 0 ≤ t124
            ·rw [if_pos c20] at H; have c20b0 := eq_true c20
             have c20b1 : decide (0 ≤ t124) = true := decide_eq_true c20
             clear c20
             obtain ⟨ji21, hji21⟩ : ∃ j_ : Int, (shl .i64 1 t124) = j_ := ⟨_, rfl⟩
             replace H : (if (ji21) = 0 then (none) else ((spec_biPut.f k1 x6_1 (wrap64 (x30_1 * t124)) t124 (Int.tmod (rd l0 x30_1) (ji21))).bind fun t132 => (if 0 ≤ (wrap64 ((shr .i64 (rd l0 x30_1) t124) + x30_1)) then (if (wrap64 ((shr .i64 (rd l0 x30_1) t124) + x30_1)) < (x7_1.length : Int) then (spec_spOf.l0 k1 l0 a1 t124 t132 (x7_1.set ((wrap64 ((shr .i64 (rd l0 x30_1) t124) + x30_1)) : Int).toNat true) l0 (l0.length : Int) (wrap64 (x30_1 + 1))) else (none)) else (none)))) = some (r1, r2, r3, r4, r5, r6, r7) := by first | (rw [hji21] at H; exact H) | (simp only [hji21] at H ⊢; exact H)
             have hji21_ : (IntKind.i64.wrap (1 * 2 ^ min t124.toNat 64)) = ji21 := hji21
             have hji21z : t124 ≤ 64 → (IntKind.i64.wrap (1 * 2 ^ t124.toNat)) = ji21 := shl_small hji21
             have hji21u : (IntKind.i64.wrap (2 ^ min t124.toNat 64)) = ji21 := by have h_ := hji21_; rw [Int.one_mul] at h_; exact h_
             have hji21v : t124 ≤ 64 → (IntKind.i64.wrap (2 ^ t124.toNat)) = ji21 := fun hle_ => by have h_ := hji21z hle_; rw [Int.one_mul] at h_; exact h_
             have hji21y : (wrap64 (1 * 2 ^ min t124.toNat 64)) = ji21 := (i64_w _).symm.trans hji21_
             have hji21x : t124 ≤ 64 → (wrap64 (1 * 2 ^ t124.toNat)) = ji21 := fun h_ => (i64_w _).symm.trans (hji21z h_)
             by_cases c22 : (ji21) = 0
             ·rw [if_pos c22] at H
              exact absurd H (by simp)
             ·rw [if_neg c22] at H
              have c22b0 : ((ji21) == 0) = false := beq_eq_false_iff_ne.mpr c22
              have c22b1 : ((ji21) != 0) = true := bne_iff_ne.mpr c22
              replace H := Option.bind_eq_some_iff.mp H; obtain ⟨t132, A230, H⟩ := H
              have A23 := Qx A230; clear A230
              have c24b0 := eq_true (of_decide_eq_true as_ : 0 ≤ t124)
              obtain ⟨ji25, hji25⟩ : ∃ j_ : Int, (shr .i64 (rd l0 x30_1) t124) = j_ := ⟨_, rfl⟩
              replace H : (if 0 ≤ (wrap64 ((ji25) + x30_1)) then (if (wrap64 ((ji25) + x30_1)) < (x7_1.length : Int) then (spec_spOf.l0 k1 l0 a1 t124 t132 (x7_1.set ((wrap64 ((ji25) + x30_1)) : Int).toNat true) l0 (l0.length : Int) (wrap64 (x30_1 + 1))) else (none)) else (none)) = some (r1, r2, r3, r4, r5, r6, r7) := by first | (rw [hji25] at H; exact H) | (simp only [hji25] at H ⊢; exact H)
              (try rw [hji25] at A23)
              have hji25_ : ((rd l0 x30_1) / 2 ^ min t124.toNat 64) = ji25 := hji25
              have hji25z : t124 ≤ 64 → ((rd l0 x30_1) / 2 ^ t124.toNat) = ji25 := shr_small hji25
              obtain ⟨ji26, hji26⟩ : ∃ j_ : Int, (wrap64 ((ji25) + x30_1)) = j_ := ⟨_, rfl⟩
              replace H : (if 0 ≤ (ji26) then (if (ji26) < (x7_1.length : Int) then (spec_spOf.l0 k1 l0 a1 t124 t132 (x7_1.set ((ji26) : Int).toNat true) l0 (l0.length : Int) (wrap64 (x30_1 + 1))) else (none)) else (none)) = some (r1, r2, r3, r4, r5, r6, r7) := by first | (rw [hji26] at H; exact H) | (simp only [hji26] at H ⊢; exact H)
              (try rw [hji26] at A23)
              have hji26w : (IntKind.i64.wrap ((ji25) + x30_1)) = ji26 := (i64_w _).trans hji26
              by_cases c27 : 0 ≤ (ji26)
              ·rw [if_pos c27] at H
               have c27b0 : decide (0 ≤ (ji26)) = true := decide_eq_true c27
               clear c27
               by_cases c28 : (ji26) < (x7_1.length : Int)
               ·rw [if_pos c28] at H
                have c28b0 : decide ((ji26) < (x7_1.length : Int)) = true := decide_eq_true c28
                clear c28
                obtain ⟨y133, hy133⟩ : ∃ y_ : List Bool, y_ = (x7_1.set ((ji26) : Int).toNat true) := ⟨_, rfl⟩
                replace H : (spec_spOf.l0 k1 l0 a1 t124 t132 y133 l0 (l0.length : Int) (wrap64 (x30_1 + 1))) = some (r1, r2, r3, r4, r5, r6, r7) := by first | (rw [hy133]; with_reducible exact H) | (have H2_ := (Option.bind_some _ _).symm.trans H; rw [hy133]; with_reducible exact H2_) | (have H2_ := (Option.bind_some _ _).symm.trans H; with_reducible exact H2_) | with_reducible exact H | (rw [hy133]; exact H) | exact H
                have Ny133 := Qx hy133; clear hy133; have H' := Qx H; clear H
                have p131 : 0 ≤ (x30_1 : Int) := of_decide_eq_true as_
                have q131 : x30_1 < (l0.length : Int) := of_decide_eq_true as_
                obtain ⟨ad131, e131, hx131_0⟩ := Kd.at_int HR0.out x30_1 p131 q131
                cases e131
                replace hx131_0 := (HB.out.cell (World.block_lt_of_cell? w _ hx131_0)).trans hx131_0
                replace p131 := eq_true p131; replace q131 := eq_true q131; obtain ⟨Ao30, co30, eo30⟩ := Kd.R_slice HO_6.out; subst eo30
                go_wp2_with (first | ((with_reducible refine gate_callee (f := 32) rfl ?_); refine goesL_ (some 44) rfl rfl Try.func32 (by kernel_rfl) rfl #[.slice Ao30 x6_1.length co30, .int .i64 (wrap64 (x30_1 * t124)), .int .i64 t124, .int .i64 (Int.tmod (rd l0 x30_1) (ji21))] rfl (by (try simp only [List.map_toArray, List.map_cons, List.map_nil]); first | done | (simp only [hji21]; rfl) | rfl | (simp only [List.length_drop, List.length_take]; rfl)) ?_; (with_reducible refine (spec_biPut.calls k1 (fun k_ => some k_ = (.slice Ao30 x6_1.length co30 : Value).ownBlock) (.slice Ao30 x6_1.length co30) x6_1 (wrap64 (x30_1 * t124)) t124 (Int.tmod (rd l0 x30_1) (ji21)) t132 w _ ?side1 ?side2 A23.out).mono ?_); (case side1 => exact hB_); (case side2 => exact Kd.R_tight rfl HO_6.out); rintro e w31 ⟨rfl, hy0, hb, hkp⟩; refine ⟨_, rfl, ?_⟩; replace HO_7 := Qx (Qrm (ok' := fun k_ => some k_ ≠ (.slice Ao30 x6_1.length co30 : Value).ownBlock) (Kd.R_keptB (HO_7.out) hkp (fun k_ hk_ hs_ => (hk_) hs_)) (fun k_ hk_ => hk_.1)); replace BK123 := Qx (blk_kept (kB_ BK123) hkp (fun hs_ => (fun e_ => (Kd.R_ne HO_6.out BK123.out (by decide)) e_) hs_)); replace HO_6 := Qx (Kd.R_reok rfl hy0 (fun k_ e_ => HO_6.out.1 k_ e_)); replace HB := Qx (hb); (try clear hb); (try clear hkp); (try clear hy0); have p29 : 0 ≤ ((ji26) : Int) := of_decide_eq_true as_; have q29 : ((ji26) : Int) < ((x7_1.length : Int) : Int) := of_decide_eq_true as_; obtain ⟨go29, co29, eo29, gb29, gl29, cl29, HG29⟩ := Kd.R_form HO_7.out (by omega); (first | cases eo29 | (injection eo29 with ea_ en_ ec_; (first | subst ea_ | (injection ea_ with ea_; subst ea_)); subst ec_; clear en_)); have GB29 := Qx gb29; have GG29 := Qx HG29; clear gb29 gl29 HG29; obtain ⟨hx29_0, hf29_0⟩ := Kd.R_celln false HO_7.out ((ji26) : Int) p29 q29; replace p29 := eq_true p29; replace q29 := eq_true q29; obtain ⟨hy32_, hz32_⟩ := Kd.R_celln false HO_7.out ((ji26) : Int) (of_decide_eq_true as_) (of_decide_eq_true as_); have HP32 := Kd.R_putg HO_7.out ((ji26) : Int) true) | ((with_reducible refine gate_store (t := 4) (p := 51) rfl ?_); refine store_event (t := 4) (p := 51) (v := ?vo_w33) (w1 := (w31.setCell ⟨go29, ((ji26) : Int).toNat, none⟩ (.bool true))) ?hg ?ho ?hn ?hr ?_; (case ho => rfl); (case hg => rfl); (case hn => rfl); (case hr => first | (go_simp; done) | (go_simp; rfl)); intro w33 hw; have hg : w31.grownBy w33 (some go29) := (by rw [hw]; exact HP32.2); have hp_ : Kd.R Kd.bool 4 w33 w.heap.size (fun k_ => some k_ ≠ (.slice Ao30 x6_1.length co30 : Value).ownBlock) (.slice (some ⟨go29, 0, none⟩) x7_1.length co29) y133 := (by rw [hw, Ny133.out]; exact HP32.1); clear HP32; replace HO_6 := Qx (Kd.R_after (v := (.slice (some ⟨go29, 0, none⟩) x7_1.length co29)) (v1 := (.slice (some ⟨go29, 0, none⟩) x7_1.length co29)) (ok := (fun _ => True)) (by (with_reducible repeat (first | apply Qra | apply Qrn | apply Qrd)); exact Qrm HO_6.out (fun _ hk => ⟨trivial, hk⟩)) hg (.inl rfl)); replace BK123 := Qx (blk_grown (kB_ BK123) hg (Kd.R_ne HO_7.out BK123.out (by decide))); replace HO_7 := Qx (hp_); replace HB := Qx ((by rw [hw]; exact below_set (HB.out) GB29.out : Below w.heap.size w w33)); clear hg hw hp_))
                go_roundg k1
                case measure => have := HK1.out; omega
                case rel => exact ⟨(t132), (y133), (wrap64 (x30_1 + 1)), rg_, H', ⟨by have := HK1.out; omega⟩, ⟨by (with_reducible repeat (first | apply Qra | apply Qrn | apply Qrd)); exact Qrm HO_6.out (fun _ hk => hk.2)⟩, ⟨kR_ HO_7⟩, ⟨kB_ BK123⟩, ⟨hB_⟩⟩
               ·rw [if_neg c28] at H
                exact absurd H (by simp)
              ·rw [if_neg c27] at H
               exact absurd H (by simp)
            ·rw [if_neg c20] at H
             exact absurd H (by simp)
           ·rw [if_neg c19] at H
            exact absurd H (by simp)
          ·rw [if_neg c18] at H
           exact absurd H (by simp)
         ·rw [if_neg c17] at H
          have c17b0 : decide (x30_1 < (l0.length : Int)) = false := decide_eq_false c17
          clear c17; replace H := Option.bind_eq_some_iff.mp H; obtain ⟨⟨t134, t135⟩, A340, H⟩ := H
          have A34 := Qx A340; clear A340; replace H := Option.bind_eq_some_iff.mp H; obtain ⟨⟨t138, t139⟩, A350, H⟩ := H
          have A35 := Qx A350; clear A350; simp only [Option.some.injEq, Prod.mk.injEq] at H; obtain ⟨rfl, rfl, rfl, rfl, rfl, rfl, rfl⟩ := H; obtain ⟨Ao36, co36, eo36⟩ := Kd.R_slice HO_6.out; subst eo36
          go_wp2_with (first | ((with_reducible refine gate_callee (f := 33) rfl ?_); refine gl_ 58 Try.func33 #[.slice Ao36 x6_1.length co36] ?_; (with_reducible refine (spec_biSome.calls k1 _ _ x6_1 t134 t135 _ ?side1 ?side2 A34.out).mono ?_); (case side1 => exact kD_ HO_6); (case side2 => exact (Kd.R_reads' HO_6.out).2.1); rintro e w37 ⟨v136, rfl, ho0, hb⟩; refine ⟨_, rfl, ?_⟩; have n0_ := Qx (Kd.R_below (kR_ HO_7) hb); have n1_ := Qx (Kd.R_lower ho0 (below_size hB_)); have n2_ := Qx (Qb (kB_ BK123) hb); have n3_ := Qx (Qp hB_ hb); clear HO_7 BK123 HB HO_6; have HO_7 := n0_; have HO137 := n1_; have BK123 := n2_; have HB := n3_; clear n0_ n1_ n2_ n3_; (try clear hb); (try clear hb2); (try clear hk); (try clear hi); (try clear ho0); obtain ⟨Ao38, co38, eo38⟩ := Kd.R_slice HO_7.out; subst eo38) | ((with_reducible refine gate_callee (f := 33) rfl ?_); refine gl_ 60 Try.func33 #[.slice Ao38 x7_1.length co38] ?_; (with_reducible refine (spec_biSome.calls k1 _ _ x7_1 t138 t139 _ ?side1 ?side2 A35.out).mono ?_); (case side1 => exact kD_ HO_7); (case side2 => exact (Kd.R_reads' HO_7.out).2.1); rintro e w39 ⟨v140, rfl, ho0, hb⟩; refine ⟨_, rfl, ?_⟩; have n0_ := Qx (Kd.R_elder' (kR_ HO137) (Kd.R_base ho0) hb); have n1_ := Qx (Kd.R_lower (Kd.R_new' ho0 (Kd.R_lt (kR_ HO137))) (below_size hB_)); have n2_ := Qx (Qb (kB_ BK123) hb); have n3_ := Qx (Qp hB_ hb); clear HO137 BK123 HB HO_7; have HO137 := n0_; have HO141 := n1_; have BK123 := n2_; have HB := n3_; clear n0_ n1_ n2_ n3_; (try clear hb); (try clear hb2); (try clear hk); (try clear hi); (try clear ho0); obtain ⟨Ao40, co40, eo40⟩ := Kd.R_slice HO141.out; subst eo40; obtain ⟨Ao41, co41, eo41⟩ := Kd.R_slice HO137.out; subst eo41; obtain ⟨hcz42_0, hcz42_1, hcz42_2, hcz42_3, hcz42_4, hcz42_5, hcz42_6, hfz42_0, hfz42_1, hfz42_2, hfz42_3, hfz42_4, hfz42_5, hfz42_6⟩ := cellsQ7_g1a (w := w39) BK123.out))
          refine bodyPost_ret (results_cell_row rfl _ _ gb123 30 #[.int .i64 (l0.length : Int), .int .i64 a1, .int .i64 t124, .int .i64 t134, .slice Ao41 t135.length co41, .int .i64 t138, .slice Ao40 t139.length co40] (0, 0) _ rfl (by (with_reducible repeat (first | refine Qm ?_ _ | refine Qw ?_ | refine Qk ?_ _)); refine Qu (cs := #[.int .i64 (l0.length : Int), .int .i64 a1, .int .i64 t124, .int .i64 t134, .slice Ao41 t135.length co41, .int .i64 t138, .slice none 0 0]) ?_ 6 _ rfl; (with_reducible repeat (first | refine Qm ?_ _ | refine Qw ?_ | refine Qk ?_ _)); refine Qu (cs := #[.int .i64 (l0.length : Int), .int .i64 a1, .int .i64 t124, .int .i64 t134, .slice Ao41 t135.length co41, .int .i64 0, .slice none 0 0]) ?_ 5 _ rfl; (with_reducible repeat (first | refine Qm ?_ _ | refine Qw ?_ | refine Qk ?_ _)); refine Qu (cs := #[.int .i64 (l0.length : Int), .int .i64 a1, .int .i64 t124, .int .i64 t134, .slice none 0 0, .int .i64 0, .slice none 0 0]) ?_ 4 _ rfl; (with_reducible repeat (first | refine Qm ?_ _ | refine Qw ?_ | refine Qk ?_ _)); refine Qu (cs := #[.int .i64 (l0.length : Int), .int .i64 a1, .int .i64 t124, .int .i64 0, .slice none 0 0, .int .i64 0, .slice none 0 0]) ?_ 3 _ rfl; (with_reducible repeat (first | refine Qm ?_ _ | refine Qw ?_ | refine Qk ?_ _)); refine Qu (cs := #[.int .i64 (l0.length : Int), .int .i64 a1, .int .i64 0, .int .i64 0, .slice none 0 0, .int .i64 0, .slice none 0 0]) ?_ 2 _ rfl; (with_reducible repeat (first | refine Qm ?_ _ | refine Qw ?_ | refine Qk ?_ _)); refine Qu (cs := #[.int .i64 (l0.length : Int), .int .i64 0, .int .i64 0, .int .i64 0, .slice none 0 0, .int .i64 0, .slice none 0 0]) ?_ 1 _ rfl; (with_reducible repeat (first | refine Qm ?_ _ | refine Qw ?_ | refine Qk ?_ _)); refine Qu (cs := #[.int .i64 0, .int .i64 0, .int .i64 0, .int .i64 0, .slice none 0 0, .int .i64 0, .slice none 0 0]) ?_ 0 _ rfl; (with_reducible repeat (first | refine Qm ?_ _ | refine Qw ?_ | refine Qk ?_ _)); exact BK123.out) Try.underlying30 rfl (by kernel_rfl)) rfl ?_
          exact ⟨_, _, by first | rfl | (simp [errW_none, errW_some] <;> rfl) | (simp only [← hji4, ← hji8, ← hji9]; first | rfl | (simp [errW_none, errW_some] <;> rfl)) | (simp [*, errW_none, errW_some] <;> rfl), by (with_reducible repeat (first | apply Qra | apply Qrn | apply Qrd)); exact Qrm (farsQ7_g1a (Kd.R_types HO137.out BK123.out (by decide)) (fun _ hk => hk.2) (.int .i64 (l0.length : Int)) (.int .i64 a1) (.int .i64 t124) (.int .i64 t134) (.slice Ao41 t135.length co41) (.int .i64 t138) (.slice Ao40 t139.length co40)) (fun _ hk => hk.1.2), by (with_reducible repeat (first | apply Qra | apply Qrn | apply Qrd)); exact Qrm (farsQ7_g1a (Kd.R_types HO141.out BK123.out (by decide)) (fun _ hk => hk.2) (.int .i64 (l0.length : Int)) (.int .i64 a1) (.int .i64 t124) (.int .i64 t134) (.slice Ao41 t135.length co41) (.int .i64 t138) (.slice Ao40 t139.length co40)) (fun _ hk => hk.1.2), hB_⟩
      ·rw [if_neg c11] at H
       exact absurd H (by simp)
     ·rw [if_neg c10] at H
      exact absurd H (by simp)
    ·rw [if_neg c7] at H
     exact absurd H (by simp)
   ·rw [if_neg c6] at H
    exact absurd H (by simp)
  ·rw [if_neg c5] at H
   exact absurd H (by simp)
/-! ### spec_biAt: function 34 -/
def spec_biAt.f (a0_0 : Int) (l0_1 : List Int) (a1 : Int) : Option (Bool) := if 0 ≤ (wrap64 (Int.tdiv a1 16)) then (if (wrap64 (Int.tdiv a1 16)) < (l0_1.length : Int) then (if 0 ≤ (Int.tmod a1 16) then (some ((Go.bits .and .i64 (shr .i64 (rd l0_1 (wrap64 (Int.tdiv a1 16))) (Int.tmod a1 16)) 1) == 1)) else (none)) else (none)) else (none)
set_option maxHeartbeats 8000000 in
set_option maxRecDepth 100000 in
theorem spec_biAt.calls (a0_0 : Int) (A0_1 : Option Addr) (c0_1 : Nat) (l0_1 : List Int) (a1 : Int) (r : Bool) (w : World) (hr0_1 : Kd.C (Kd.int .i64) w A0_1 l0_1.length l0_1) (hc0_1 : l0_1.length ≤ c0_1) (h : spec_biAt.f a0_0 l0_1 a1 = some r) :
    Calls Try.prog 34 #[.agg #[.int .i64 a0_0, .slice A0_1 l0_1.length c0_1], .int .i64 a1] w fun e w' => e = .returned (.bool r) ∧ Below w.heap.size w w' := by
  have hu28 := Try.underlying28; have hu22 := Try.underlying22; have HR0_1 := Qx hr0_1; have HC0_1 := Qx hc0_1; clear hr0_1 hc0_1
  have HB := Qx (Below.refl w.heap.size w)
  have H : (if 0 ≤ (wrap64 (Int.tdiv a1 16)) then (if (wrap64 (Int.tdiv a1 16)) < (l0_1.length : Int) then (if 0 ≤ (Int.tmod a1 16) then (some ((Go.bits .and .i64 (shr .i64 (rd l0_1 (wrap64 (Int.tdiv a1 16))) (Int.tmod a1 16)) 1) == 1)) else (none)) else (none)) else (none)) = some r := h
  clear h
  obtain ⟨ji3, hji3⟩ : ∃ j_ : Int, (wrap64 (Int.tdiv a1 16)) = j_ := ⟨_, rfl⟩
  replace H : (if 0 ≤ (ji3) then (if (ji3) < (l0_1.length : Int) then (if 0 ≤ (Int.tmod a1 16) then (some ((Go.bits .and .i64 (shr .i64 (rd l0_1 (ji3)) (Int.tmod a1 16)) 1) == 1)) else (none)) else (none)) else (none)) = some r := by first | (rw [hji3] at H; exact H) | (simp only [hji3] at H ⊢; exact H)
  have hji3w : (IntKind.i64.wrap (Int.tdiv a1 16)) = ji3 := (i64_w _).trans hji3
  by_cases c4 : 0 ≤ (ji3)
  ·rw [if_pos c4] at H
   have c4b0 : decide (0 ≤ (ji3)) = true := decide_eq_true c4
   clear c4
   by_cases c5 : (ji3) < (l0_1.length : Int)
   ·rw [if_pos c5] at H
    have c5b0 : decide ((ji3) < (l0_1.length : Int)) = true := decide_eq_true c5
    clear c5
    obtain ⟨ji6, hji6⟩ : ∃ j_ : Int, (Int.tmod a1 16) = j_ := ⟨_, rfl⟩
    replace H : (if 0 ≤ (ji6) then (some ((Go.bits .and .i64 (shr .i64 (rd l0_1 (ji3)) (ji6)) 1) == 1)) else (none)) = some r := by first | (rw [hji6] at H; exact H) | (simp only [hji6] at H ⊢; exact H)
    by_cases c7 : 0 ≤ (ji6)
    ·rw [if_pos c7] at H; have c7b0 := eq_true c7
     have c7b1 : decide (0 ≤ (ji6)) = true := decide_eq_true c7
     clear c7
     obtain ⟨ji8, hji8⟩ : ∃ j_ : Int, (shr .i64 (rd l0_1 (ji3)) (ji6)) = j_ := ⟨_, rfl⟩
     replace H : (some ((Go.bits .and .i64 (ji8) 1) == 1)) = some r := by first | (rw [hji8] at H; exact H) | (simp only [hji8] at H ⊢; exact H)
     have hji8_ : ((rd l0_1 (ji3)) / 2 ^ min (ji6).toNat 64) = ji8 := hji8
     have hji8z : (ji6) ≤ 64 → ((rd l0_1 (ji3)) / 2 ^ (ji6).toNat) = ji8 := shr_small hji8
     obtain rfl := Option.some.inj H
     go_enter Try.func34, Try.ntmps34
     go_wp2_with (first | ((with_reducible refine gate_dst (N := 2) rfl ?_); refine bx_ 2 #[.int .i64 a0_0, .slice A0_1 l0_1.length c0_1] 28 ?_; intro gb142 hg w9 hbox hb; have BK142 := Qx (hbox); have GW142 := Qx ((ge_ hg)); have GE142 := Qx ((ge_ hg)); replace HB := Qx (Qp hB_ hb); clear hb hbox hg; obtain ⟨hcz10_0, hcz10_1, hfz10_0, hfz10_1⟩ := cellsQ2_g1a (w := w9) BK142.out; have p143 : 0 ≤ ((ji3) : Int) := of_decide_eq_true as_; have q143 : (ji3) < (l0_1.length : Int) := of_decide_eq_true as_; obtain ⟨ad143, e143, hx143_0⟩ := Kd.at_int HR0_1.out (ji3) p143 q143; cases e143; replace hx143_0 := (HB.out.cell (World.block_lt_of_cell? w _ hx143_0)).trans hx143_0; replace p143 := eq_true p143; replace q143 := eq_true q143))
     go_ret
     exact ⟨by first | rfl | (simp [errW_none, errW_some] <;> rfl) | (simp only [← hji3, ← hji6, ← hji8]; first | rfl | (simp [errW_none, errW_some] <;> rfl)) | (simp [*, errW_none, errW_some] <;> rfl), hB_⟩
    ·rw [if_neg c7] at H
     exact absurd H (by simp)
   ·rw [if_neg c5] at H
    exact absurd H (by simp)
  ·rw [if_neg c4] at H
   exact absurd H (by simp)
/-! ### spec_biField: function 35 -/
def spec_biField.l0 : Nat → Int → Int → Int → Int → List Int → Option (Int)
  | 0, _, _, _, _, _ => none
  | k + 1, x1, x7, x8, x145000, x145001 => if x8 ≥ 0 then ((spec_biAt.f x145000 x145001 (wrap64 (x1 + x8))).bind fun t145 => (if t145 = true then (spec_biField.l0 k x1 (wrap64 ((wrap64 (x7 * 2)) + 1)) (wrap64 (x8 - 1)) x145000 x145001) else (spec_biField.l0 k x1 (wrap64 (x7 * 2)) (wrap64 (x8 - 1)) x145000 x145001))) else (some x7)
def spec_biField.f (k : Nat) (a0_0 : Int) (l0_1 : List Int) (a1 : Int) (a2 : Int) : Option (Int) := spec_biField.l0 k a1 0 (wrap64 (a2 - 1)) a0_0 l0_1
theorem spec_biField.mono_l : ∀ k, (∀ y0 y1 y2 y3 y4, LeO (spec_biField.l0 k y0 y1 y2 y3 y4) (spec_biField.l0 (k + 1) y0 y1 y2 y3 y4))
  | 0 => fun _ _ _ _ _ r h => by simp [spec_biField.l0] at h
  | k + 1 => by
    have ih0 := spec_biField.mono_l k
    · intro y0 y1 y2 y3 y4
      unfold spec_biField.l0
      repeat' first
      | (with_reducible exact ih0 _ _ _ _ _)
      | (with_reducible exact LeO.refl _)
      | (with_reducible exact LeO.none _)
      | (with_reducible refine LeO.ite ?_ ?_)
      | (with_reducible refine LeO.bind ?_ (fun _ => ?_))
      | exact ih0 _ _ _ _ _
      | exact LeO.none _
      | refine LeO.ite ?_ ?_
      | refine LeO.bind ?_ (fun _ => ?_)
theorem spec_biField.mono : ∀ a0 a1 a2 a3 k, LeO (spec_biField.f k a0 a1 a2 a3) (spec_biField.f (k + 1) a0 a1 a2 a3) := by
  intro a0 a1 a2 a3 k
  have ih0 := spec_biField.mono_l k
  unfold spec_biField.f
  repeat' first
      | (with_reducible exact ih0 _ _ _ _ _)
      | (with_reducible exact LeO.refl _)
      | (with_reducible exact LeO.none _)
      | (with_reducible refine LeO.ite ?_ ?_)
      | (with_reducible refine LeO.bind ?_ (fun _ => ?_))
      | exact ih0 _ _ _ _ _
      | exact LeO.none _
      | refine LeO.ite ?_ ?_
      | refine LeO.bind ?_ (fun _ => ?_)
noncomputable def spec_biField.L0 (y0 : Int) (y1 : Int) (y2 : Int) (y3 : Int) (y4 : List Int) : Option (Int) := lim fun k => spec_biField.l0 k y0 y1 y2 y3 y4
theorem spec_biField.L0_sup (y0 : Int) (y1 : Int) (y2 : Int) (y3 : Int) (y4 : List Int) : Sup (fun k => spec_biField.l0 k y0 y1 y2 y3 y4) (spec_biField.L0 y0 y1 y2 y3 y4) := Sup.of_mono fun k => spec_biField.mono_l k y0 y1 y2 y3 y4
noncomputable def spec_biField.F (a0_0 : Int) (l0_1 : List Int) (a1 : Int) (a2 : Int) : Option (Int) := lim fun k => spec_biField.f k a0_0 l0_1 a1 a2
theorem spec_biField.F_sup (a0_0 : Int) (l0_1 : List Int) (a1 : Int) (a2 : Int) : Sup (fun k => spec_biField.f k a0_0 l0_1 a1 a2) (spec_biField.F a0_0 l0_1 a1 a2) := Sup.of_mono fun k => spec_biField.mono a0_0 l0_1 a1 a2 k
theorem spec_biField.L0_eq (x1 : Int) (x7 : Int) (x8 : Int) (x145000 : Int) (x145001 : List Int) : spec_biField.L0 x1 x7 x8 x145000 x145001 = if x8 ≥ 0 then ((spec_biAt.f x145000 x145001 (wrap64 (x1 + x8))).bind fun t145 => (if t145 = true then (spec_biField.L0 x1 (wrap64 ((wrap64 (x7 * 2)) + 1)) (wrap64 (x8 - 1)) x145000 x145001) else (spec_biField.L0 x1 (wrap64 (x7 * 2)) (wrap64 (x8 - 1)) x145000 x145001))) else (some x7) := by
  refine Sup.unique (spec_biField.L0_sup x1 x7 x8 x145000 x145001) (Sup.shift (fun k => spec_biField.mono_l k x1 x7 x8 x145000 x145001) (Sup.congr (g' := fun k => if x8 ≥ 0 then ((spec_biAt.f x145000 x145001 (wrap64 (x1 + x8))).bind fun t145 => (if t145 = true then (spec_biField.l0 k x1 (wrap64 ((wrap64 (x7 * 2)) + 1)) (wrap64 (x8 - 1)) x145000 x145001) else (spec_biField.l0 k x1 (wrap64 (x7 * 2)) (wrap64 (x8 - 1)) x145000 x145001))) else (some x7)) (fun k => by first | rfl | simp only [spec_biField.l0]) ?_))
  repeat' first
    | (with_reducible exact spec_biField.L0_sup _ _ _ _ _)
    | (with_reducible refine Sup.ite ?_ ?_)
    | (with_reducible refine Sup.bind ?_ (fun _ => ?_))
    | (with_reducible exact Sup.const _)
    | exact spec_biField.L0_sup _ _ _ _ _
    | exact Sup.const _
theorem spec_biField.F_eq (a0_0 : Int) (l0_1 : List Int) (a1 : Int) (a2 : Int) : spec_biField.F a0_0 l0_1 a1 a2 = spec_biField.L0 a1 0 (wrap64 (a2 - 1)) a0_0 l0_1 := by
  refine Sup.unique (spec_biField.F_sup a0_0 l0_1 a1 a2) (Sup.congr (g' := fun k => spec_biField.l0 k a1 0 (wrap64 (a2 - 1)) a0_0 l0_1) (fun k => by first | rfl | simp only [spec_biField.f]) ?_)
  repeat' first
    | (with_reducible exact spec_biField.L0_sup _ _ _ _ _)
    | (with_reducible refine Sup.ite ?_ ?_)
    | (with_reducible refine Sup.bind ?_ (fun _ => ?_))
    | (with_reducible exact Sup.const _)
    | exact spec_biField.L0_sup _ _ _ _ _
    | exact Sup.const _
set_option maxHeartbeats 8000000 in
set_option maxRecDepth 100000 in
theorem spec_biField.calls (k : Nat) (a0_0 : Int) (A0_1 : Option Addr) (c0_1 : Nat) (l0_1 : List Int) (a1 : Int) (a2 : Int) (r : Int) (w : World) (hr0_1 : Kd.C (Kd.int .i64) w A0_1 l0_1.length l0_1) (hc0_1 : l0_1.length ≤ c0_1) (h : spec_biField.f k a0_0 l0_1 a1 a2 = some r) :
    Calls Try.prog 35 #[.agg #[.int .i64 a0_0, .slice A0_1 l0_1.length c0_1], .int .i64 a1, .int .i64 a2] w fun e w' => e = .returned (.int .i64 r) ∧ Below w.heap.size w w' := by
  have hu28 := Try.underlying28; have HR0_1 := Qx hr0_1; have HC0_1 := Qx hc0_1; clear hr0_1 hc0_1
  have HB := Qx (Below.refl w.heap.size w)
  have H : (spec_biField.l0 k a1 0 (wrap64 (a2 - 1)) a0_0 l0_1) = some r := h
  clear h; have H' := Qx H; clear H
  go_enter Try.func35, Try.ntmps35
  go_wp2_with (first | ((with_reducible refine gate_dst (N := 3) rfl ?_); refine bx_ 3 #[.int .i64 a0_0, .slice A0_1 l0_1.length c0_1] 28 ?_; intro gb144 hg w4 hbox hb; have BK144 := Qx (hbox); have GW144 := Qx ((ge_ hg)); have GE144 := Qx ((ge_ hg)); replace HB := Qx (Qp hB_ hb); clear hb hbox hg))
  go_loopg [7, 8] k (fun kq v7 v8 w' => ∃ (x7_1 : Int) (x8_1 : Int), v7 = .int .i64 x7_1 ∧ v8 = .int .i64 x8_1 ∧ Aside0 (spec_biField.l0 kq a1 x7_1 x8_1 a0_0 l0_1 = some r) ∧ Aside0 (kq ≤ k) ∧ Aside0 (w'.heap[gb144]? = some (.cells #[.int .i64 a0_0, (.slice A0_1 l0_1.length c0_1)] 28 (0, 0))) ∧ Aside0 (Below w.heap.size w w'))
  case atStart => exact ⟨(0), (wrap64 (a2 - 1)), rg_, rg_, H', ⟨Nat.le_refl _⟩, ⟨kB_ BK144⟩, ⟨hB_⟩⟩
  case round =>
   clear H'
   try clear p2
   try clear c3
   obtain ⟨x7_1, x8_1, rfl, rfl, HA, HK1, BK144, HB⟩ := hrel
   cases gk with
   | zero => exact absurd HA.out (by simp [spec_biField.l0])
   | succ k1 =>
    have H := HA.out; clear HA; simp only [spec_biField.l0] at H
    by_cases c5 : x8_1 ≥ 0
    ·rw [if_pos c5] at H
     have c5b0 : decide (0 ≤ x8_1) = true := decide_eq_true c5
     clear c5; replace H := Option.bind_eq_some_iff.mp H; obtain ⟨t145, A60, H⟩ := H
     have A6 := Qx A60; clear A60
     by_cases c7 : t145 = true
     ·subst c7
      have H1 : (spec_biField.l0 k1 a1 (wrap64 ((wrap64 (x7_1 * 2)) + 1)) (wrap64 (x8_1 - 1)) a0_0 l0_1) = some r := by rw [if_pos rfl] at H; exact H
      clear H; have H := H1; clear H1; have H' := Qx H; clear H
      obtain ⟨hcz8_0, hcz8_1, hfz8_0, hfz8_1⟩ := cellsQ2_g1a (w := wr) BK144.out
      go_wp2_with (first | ((with_reducible refine gate_callee (f := 34) rfl ?_); refine gl_ 21 Try.func34 #[.agg #[.int .i64 a0_0, .slice A0_1 l0_1.length c0_1], .int .i64 (wrap64 (a1 + x8_1))] ?_; (with_reducible refine (spec_biAt.calls a0_0 _ _ l0_1 (wrap64 (a1 + x8_1)) true _ ?side1 ?side2 A6.out).mono ?_); (case side1 => exact kC_ HR0_1); (case side2 => exact HC0_1.out); rintro e w9 ⟨rfl, hb⟩; refine ⟨_, rfl, ?_⟩; replace BK144 := Qx (Qb (kB_ BK144) hb); replace HB := Qx (Qp hB_ hb); (try clear hb); (try clear hb2); (try clear hk); (try clear hi)))
      go_roundg k1
      case measure => have := HK1.out; omega
      case rel => exact ⟨(wrap64 ((wrap64 (x7_1 * 2)) + 1)), (wrap64 (x8_1 - 1)), rg_, rg_, H', ⟨by have := HK1.out; omega⟩, ⟨kB_ BK144⟩, ⟨hB_⟩⟩
     ·replace c7 := Bool.eq_false_iff.mpr c7; subst c7
      have H1 : (spec_biField.l0 k1 a1 (wrap64 (x7_1 * 2)) (wrap64 (x8_1 - 1)) a0_0 l0_1) = some r := by rw [if_neg (show ¬ (false = true) by decide)] at H; exact H
      clear H; have H := H1; clear H1; have H' := Qx H; clear H
      obtain ⟨hcz10_0, hcz10_1, hfz10_0, hfz10_1⟩ := cellsQ2_g1a (w := wr) BK144.out
      go_wp2_with (first | ((with_reducible refine gate_callee (f := 34) rfl ?_); refine gl_ 21 Try.func34 #[.agg #[.int .i64 a0_0, .slice A0_1 l0_1.length c0_1], .int .i64 (wrap64 (a1 + x8_1))] ?_; (with_reducible refine (spec_biAt.calls a0_0 _ _ l0_1 (wrap64 (a1 + x8_1)) false _ ?side1 ?side2 A6.out).mono ?_); (case side1 => exact kC_ HR0_1); (case side2 => exact HC0_1.out); rintro e w11 ⟨rfl, hb⟩; refine ⟨_, rfl, ?_⟩; replace BK144 := Qx (Qb (kB_ BK144) hb); replace HB := Qx (Qp hB_ hb); (try clear hb); (try clear hb2); (try clear hk); (try clear hi)))
      go_roundg k1
      case measure => have := HK1.out; omega
      case rel => exact ⟨(wrap64 (x7_1 * 2)), (wrap64 (x8_1 - 1)), rg_, rg_, H', ⟨by have := HK1.out; omega⟩, ⟨kB_ BK144⟩, ⟨hB_⟩⟩
    ·rw [if_neg c5] at H
     have c5b0 : decide (0 ≤ x8_1) = false := decide_eq_false c5
     clear c5; obtain rfl := Option.some.inj H
     go_wp2
     go_ret
     exact ⟨rf_, hB_⟩
/-! ### spec_spList: function 15 -/
mutual
def spec_spList.l0 : Nat → List Int → Int → Int → Int → Int → Int → List Int → Int → List Int → Option (List Int)
  | 0, _, _, _, _, _, _, _, _, _ => none
  | k + 1, x3, x4, x147000, x147001, x147002, x147003, x147004, x147005, x147006 => if x4 < x147005 then (spec_spList.j1 k x3 x4 (decide ((x3.length : Int) < x147000)) x147000 x147001 x147002 x147003 x147004 x147005 x147006) else (spec_spList.j1 k x3 x4 false x147000 x147001 x147002 x147003 x147004 x147005 x147006)
def spec_spList.j1 : Nat → List Int → Int → Bool → Int → Int → Int → Int → List Int → Int → List Int → Option (List Int)
  | 0, _, _, _, _, _, _, _, _, _, _ => none
  | k + 1, x3, x4, x17, x147000, x147001, x147002, x147003, x147004, x147005, x147006 => if x17 = true then ((spec_biAt.f x147005 x147006 x4).bind fun t147 => (if t147 = true then (if 0 ≤ x147002 then ((spec_biField.f k x147003 x147004 (wrap64 ((x3.length : Int) * x147002)) x147002).bind fun t148 => (if x3.length < 17592186044416 then (spec_spList.l0 k (x3 ++ [wrap64 ((shl .i64 (wrap64 (x4 - (x3.length : Int))) x147002) + t148)]) (wrap64 (x4 + 1)) x147000 x147001 x147002 x147003 x147004 x147005 x147006) else (none))) else (none)) else (spec_spList.l0 k x3 (wrap64 (x4 + 1)) x147000 x147001 x147002 x147003 x147004 x147005 x147006))) else (some x3)
end
def spec_spList.f (k : Nat) (a0_0 : Int) (a0_1 : Int) (a0_2 : Int) (a0_3 : Int) (l0_4 : List Int) (a0_5 : Int) (l0_6 : List Int) : Option (List Int) := spec_spList.l0 k ([] : List Int) 0 a0_0 a0_1 a0_2 a0_3 l0_4 a0_5 l0_6
theorem spec_spList.mono_l : ∀ k, (∀ y0 y1 y2 y3 y4 y5 y6 y7 y8, LeO (spec_spList.l0 k y0 y1 y2 y3 y4 y5 y6 y7 y8) (spec_spList.l0 (k + 1) y0 y1 y2 y3 y4 y5 y6 y7 y8)) ∧ (∀ y0 y1 y2 y3 y4 y5 y6 y7 y8 y9, LeO (spec_spList.j1 k y0 y1 y2 y3 y4 y5 y6 y7 y8 y9) (spec_spList.j1 (k + 1) y0 y1 y2 y3 y4 y5 y6 y7 y8 y9))
  | 0 => ⟨fun _ _ _ _ _ _ _ _ _ r h => by simp [spec_spList.l0] at h, fun _ _ _ _ _ _ _ _ _ _ r h => by simp [spec_spList.j1] at h⟩
  | k + 1 => by
    obtain ⟨ih0, ih1⟩ := spec_spList.mono_l k
    refine ⟨?_, ?_⟩
    · intro y0 y1 y2 y3 y4 y5 y6 y7 y8
      unfold spec_spList.l0
      repeat' first
      | (with_reducible exact ih0 _ _ _ _ _ _ _ _ _)
      | (with_reducible exact ih1 _ _ _ _ _ _ _ _ _ _)
      | (with_reducible exact spec_biField.mono _ _ _ _ _)
      | (with_reducible exact LeO.refl _)
      | (with_reducible exact LeO.none _)
      | (with_reducible refine LeO.ite ?_ ?_)
      | (with_reducible refine LeO.bind ?_ (fun _ => ?_))
      | exact ih0 _ _ _ _ _ _ _ _ _
      | exact ih1 _ _ _ _ _ _ _ _ _ _
      | exact spec_biField.mono _ _ _ _ _
      | exact LeO.none _
      | refine LeO.ite ?_ ?_
      | refine LeO.bind ?_ (fun _ => ?_)
    · intro y0 y1 y2 y3 y4 y5 y6 y7 y8 y9
      unfold spec_spList.j1
      repeat' first
      | (with_reducible exact ih0 _ _ _ _ _ _ _ _ _)
      | (with_reducible exact ih1 _ _ _ _ _ _ _ _ _ _)
      | (with_reducible exact spec_biField.mono _ _ _ _ _)
      | (with_reducible exact LeO.refl _)
      | (with_reducible exact LeO.none _)
      | (with_reducible refine LeO.ite ?_ ?_)
      | (with_reducible refine LeO.bind ?_ (fun _ => ?_))
      | exact ih0 _ _ _ _ _ _ _ _ _
      | exact ih1 _ _ _ _ _ _ _ _ _ _
      | exact spec_biField.mono _ _ _ _ _
      | exact LeO.none _
      | refine LeO.ite ?_ ?_
      | refine LeO.bind ?_ (fun _ => ?_)
theorem spec_spList.mono : ∀ a0 a1 a2 a3 a4 a5 a6 k, LeO (spec_spList.f k a0 a1 a2 a3 a4 a5 a6) (spec_spList.f (k + 1) a0 a1 a2 a3 a4 a5 a6) := by
  intro a0 a1 a2 a3 a4 a5 a6 k
  obtain ⟨ih0, ih1⟩ := spec_spList.mono_l k
  unfold spec_spList.f
  repeat' first
      | (with_reducible exact ih0 _ _ _ _ _ _ _ _ _)
      | (with_reducible exact ih1 _ _ _ _ _ _ _ _ _ _)
      | (with_reducible exact spec_biField.mono _ _ _ _ _)
      | (with_reducible exact LeO.refl _)
      | (with_reducible exact LeO.none _)
      | (with_reducible refine LeO.ite ?_ ?_)
      | (with_reducible refine LeO.bind ?_ (fun _ => ?_))
      | exact ih0 _ _ _ _ _ _ _ _ _
      | exact ih1 _ _ _ _ _ _ _ _ _ _
      | exact spec_biField.mono _ _ _ _ _
      | exact LeO.none _
      | refine LeO.ite ?_ ?_
      | refine LeO.bind ?_ (fun _ => ?_)
noncomputable def spec_spList.L0 (y0 : List Int) (y1 : Int) (y2 : Int) (y3 : Int) (y4 : Int) (y5 : Int) (y6 : List Int) (y7 : Int) (y8 : List Int) : Option (List Int) := lim fun k => spec_spList.l0 k y0 y1 y2 y3 y4 y5 y6 y7 y8
theorem spec_spList.L0_sup (y0 : List Int) (y1 : Int) (y2 : Int) (y3 : Int) (y4 : Int) (y5 : Int) (y6 : List Int) (y7 : Int) (y8 : List Int) : Sup (fun k => spec_spList.l0 k y0 y1 y2 y3 y4 y5 y6 y7 y8) (spec_spList.L0 y0 y1 y2 y3 y4 y5 y6 y7 y8) := Sup.of_mono fun k => (spec_spList.mono_l k).1 y0 y1 y2 y3 y4 y5 y6 y7 y8
noncomputable def spec_spList.J1 (y0 : List Int) (y1 : Int) (y2 : Bool) (y3 : Int) (y4 : Int) (y5 : Int) (y6 : Int) (y7 : List Int) (y8 : Int) (y9 : List Int) : Option (List Int) := lim fun k => spec_spList.j1 k y0 y1 y2 y3 y4 y5 y6 y7 y8 y9
theorem spec_spList.J1_sup (y0 : List Int) (y1 : Int) (y2 : Bool) (y3 : Int) (y4 : Int) (y5 : Int) (y6 : Int) (y7 : List Int) (y8 : Int) (y9 : List Int) : Sup (fun k => spec_spList.j1 k y0 y1 y2 y3 y4 y5 y6 y7 y8 y9) (spec_spList.J1 y0 y1 y2 y3 y4 y5 y6 y7 y8 y9) := Sup.of_mono fun k => (spec_spList.mono_l k).2 y0 y1 y2 y3 y4 y5 y6 y7 y8 y9
noncomputable def spec_spList.F (a0_0 : Int) (a0_1 : Int) (a0_2 : Int) (a0_3 : Int) (l0_4 : List Int) (a0_5 : Int) (l0_6 : List Int) : Option (List Int) := lim fun k => spec_spList.f k a0_0 a0_1 a0_2 a0_3 l0_4 a0_5 l0_6
theorem spec_spList.F_sup (a0_0 : Int) (a0_1 : Int) (a0_2 : Int) (a0_3 : Int) (l0_4 : List Int) (a0_5 : Int) (l0_6 : List Int) : Sup (fun k => spec_spList.f k a0_0 a0_1 a0_2 a0_3 l0_4 a0_5 l0_6) (spec_spList.F a0_0 a0_1 a0_2 a0_3 l0_4 a0_5 l0_6) := Sup.of_mono fun k => spec_spList.mono a0_0 a0_1 a0_2 a0_3 l0_4 a0_5 l0_6 k
theorem spec_spList.L0_eq (x3 : List Int) (x4 : Int) (x147000 : Int) (x147001 : Int) (x147002 : Int) (x147003 : Int) (x147004 : List Int) (x147005 : Int) (x147006 : List Int) : spec_spList.L0 x3 x4 x147000 x147001 x147002 x147003 x147004 x147005 x147006 = if x4 < x147005 then (spec_spList.J1 x3 x4 (decide ((x3.length : Int) < x147000)) x147000 x147001 x147002 x147003 x147004 x147005 x147006) else (spec_spList.J1 x3 x4 false x147000 x147001 x147002 x147003 x147004 x147005 x147006) := by
  refine Sup.unique (spec_spList.L0_sup x3 x4 x147000 x147001 x147002 x147003 x147004 x147005 x147006) (Sup.shift (fun k => (spec_spList.mono_l k).1 x3 x4 x147000 x147001 x147002 x147003 x147004 x147005 x147006) (Sup.congr (g' := fun k => if x4 < x147005 then (spec_spList.j1 k x3 x4 (decide ((x3.length : Int) < x147000)) x147000 x147001 x147002 x147003 x147004 x147005 x147006) else (spec_spList.j1 k x3 x4 false x147000 x147001 x147002 x147003 x147004 x147005 x147006)) (fun k => by first | rfl | simp only [spec_spList.l0]) ?_))
  repeat' first
    | (with_reducible exact spec_spList.L0_sup _ _ _ _ _ _ _ _ _)
    | (with_reducible exact spec_spList.J1_sup _ _ _ _ _ _ _ _ _ _)
    | (with_reducible exact spec_biField.F_sup _ _ _ _)
    | (with_reducible refine Sup.ite ?_ ?_)
    | (with_reducible refine Sup.bind ?_ (fun _ => ?_))
    | (with_reducible exact Sup.const _)
    | exact spec_spList.L0_sup _ _ _ _ _ _ _ _ _
    | exact spec_spList.J1_sup _ _ _ _ _ _ _ _ _ _
    | exact spec_biField.F_sup _ _ _ _
    | exact Sup.const _
theorem spec_spList.J1_eq (x3 : List Int) (x4 : Int) (x17 : Bool) (x147000 : Int) (x147001 : Int) (x147002 : Int) (x147003 : Int) (x147004 : List Int) (x147005 : Int) (x147006 : List Int) : spec_spList.J1 x3 x4 x17 x147000 x147001 x147002 x147003 x147004 x147005 x147006 = if x17 = true then ((spec_biAt.f x147005 x147006 x4).bind fun t147 => (if t147 = true then (if 0 ≤ x147002 then ((spec_biField.F x147003 x147004 (wrap64 ((x3.length : Int) * x147002)) x147002).bind fun t148 => (if x3.length < 17592186044416 then (spec_spList.L0 (x3 ++ [wrap64 ((shl .i64 (wrap64 (x4 - (x3.length : Int))) x147002) + t148)]) (wrap64 (x4 + 1)) x147000 x147001 x147002 x147003 x147004 x147005 x147006) else (none))) else (none)) else (spec_spList.L0 x3 (wrap64 (x4 + 1)) x147000 x147001 x147002 x147003 x147004 x147005 x147006))) else (some x3) := by
  refine Sup.unique (spec_spList.J1_sup x3 x4 x17 x147000 x147001 x147002 x147003 x147004 x147005 x147006) (Sup.shift (fun k => (spec_spList.mono_l k).2 x3 x4 x17 x147000 x147001 x147002 x147003 x147004 x147005 x147006) (Sup.congr (g' := fun k => if x17 = true then ((spec_biAt.f x147005 x147006 x4).bind fun t147 => (if t147 = true then (if 0 ≤ x147002 then ((spec_biField.f k x147003 x147004 (wrap64 ((x3.length : Int) * x147002)) x147002).bind fun t148 => (if x3.length < 17592186044416 then (spec_spList.l0 k (x3 ++ [wrap64 ((shl .i64 (wrap64 (x4 - (x3.length : Int))) x147002) + t148)]) (wrap64 (x4 + 1)) x147000 x147001 x147002 x147003 x147004 x147005 x147006) else (none))) else (none)) else (spec_spList.l0 k x3 (wrap64 (x4 + 1)) x147000 x147001 x147002 x147003 x147004 x147005 x147006))) else (some x3)) (fun k => by first | rfl | simp only [spec_spList.j1]) ?_))
  repeat' first
    | (with_reducible exact spec_spList.L0_sup _ _ _ _ _ _ _ _ _)
    | (with_reducible exact spec_spList.J1_sup _ _ _ _ _ _ _ _ _ _)
    | (with_reducible exact spec_biField.F_sup _ _ _ _)
    | (with_reducible refine Sup.ite ?_ ?_)
    | (with_reducible refine Sup.bind ?_ (fun _ => ?_))
    | (with_reducible exact Sup.const _)
    | exact spec_spList.L0_sup _ _ _ _ _ _ _ _ _
    | exact spec_spList.J1_sup _ _ _ _ _ _ _ _ _ _
    | exact spec_biField.F_sup _ _ _ _
    | exact Sup.const _
theorem spec_spList.F_eq (a0_0 : Int) (a0_1 : Int) (a0_2 : Int) (a0_3 : Int) (l0_4 : List Int) (a0_5 : Int) (l0_6 : List Int) : spec_spList.F a0_0 a0_1 a0_2 a0_3 l0_4 a0_5 l0_6 = spec_spList.L0 ([] : List Int) 0 a0_0 a0_1 a0_2 a0_3 l0_4 a0_5 l0_6 := by
  refine Sup.unique (spec_spList.F_sup a0_0 a0_1 a0_2 a0_3 l0_4 a0_5 l0_6) (Sup.congr (g' := fun k => spec_spList.l0 k ([] : List Int) 0 a0_0 a0_1 a0_2 a0_3 l0_4 a0_5 l0_6) (fun k => by first | rfl | simp only [spec_spList.f]) ?_)
  repeat' first
    | (with_reducible exact spec_spList.L0_sup _ _ _ _ _ _ _ _ _)
    | (with_reducible exact spec_spList.J1_sup _ _ _ _ _ _ _ _ _ _)
    | (with_reducible exact spec_biField.F_sup _ _ _ _)
    | (with_reducible refine Sup.ite ?_ ?_)
    | (with_reducible refine Sup.bind ?_ (fun _ => ?_))
    | (with_reducible exact Sup.const _)
    | exact spec_spList.L0_sup _ _ _ _ _ _ _ _ _
    | exact spec_spList.J1_sup _ _ _ _ _ _ _ _ _ _
    | exact spec_biField.F_sup _ _ _ _
    | exact Sup.const _
def spec_spList.T7 : Bool × List (List Nat × List Nat) := (true, [([], []), ([], []), ([], []), ([1, 2], [1, 2]), ([], []), ([4], [4]), ([3, 5], [3, 5]), ([], []), ([7], [7]), ([], []), ([], []), ([10], [10]), ([9, 11], [9, 11]), ([], []), ([13], [13]), ([8, 12, 14], [8, 12, 14]), ([6, 15], [6, 15]), ([16], [16]), ([0, 17, 15], [0, 17]), ([18, 18, 0, 1, 2, 3, 4, 5, 6, 7, 8, 9, 10, 11, 12, 13, 14, 15, 16, 17, 18], [0, 18])])
def spec_spList.B7 : List Nat := [0, 0, 0, 6, 0, 16, 62, 0, 128, 0, 0, 1024, 3584, 0, 8192, 32640, 65534, 131070, 262143, 524287]
theorem spec_spList.tab7 : rtab .any (opsOf Try.f15 7) = spec_spList.T7 := by kernel_rfl
theorem spec_spList.bits7 : waitsOk spec_spList.T7.2 spec_spList.B7 = true := by kernel_rfl
set_option maxHeartbeats 8000000 in
set_option maxRecDepth 100000 in
theorem spec_spList.calls (k : Nat) (a0_0 : Int) (a0_1 : Int) (a0_2 : Int) (a0_3 : Int) (A0_4 : Option Addr) (c0_4 : Nat) (l0_4 : List Int) (a0_5 : Int) (A0_6 : Option Addr) (c0_6 : Nat) (l0_6 : List Int) (r : List Int) (w : World) (hr0_4 : Kd.C (Kd.int .i64) w A0_4 l0_4.length l0_4) (hc0_4 : l0_4.length ≤ c0_4) (hr0_6 : Kd.C (Kd.int .i64) w A0_6 l0_6.length l0_6) (hc0_6 : l0_6.length ≤ c0_6) (h : spec_spList.f k a0_0 a0_1 a0_2 a0_3 l0_4 a0_5 l0_6 = some r) :
    Calls Try.prog 15 #[.agg #[.int .i64 a0_0, .int .i64 a0_1, .int .i64 a0_2, .int .i64 a0_3, .slice A0_4 l0_4.length c0_4, .int .i64 a0_5, .slice A0_6 l0_6.length c0_6]] w fun e w' => ∃ v0_ : Value, e = .returned (v0_) ∧ Kd.R (Kd.int .i64) 3 w' w.heap.size (fun _ => True) v0_ r ∧ Below w.heap.size w w' := by
  have hu30 := Try.underlying30; have hu28 := Try.underlying28; have HR0_4 := Qx hr0_4; have HC0_4 := Qx hc0_4; clear hr0_4 hc0_4; have HR0_6 := Qx hr0_6; have HC0_6 := Qx hc0_6; clear hr0_6 hc0_6
  have HB := Qx (Below.refl w.heap.size w)
  have H : (spec_spList.l0 k ([] : List Int) 0 a0_0 a0_1 a0_2 a0_3 l0_4 a0_5 l0_6) = some r := h
  clear h; have H' := Qx H; clear H
  go_enter Try.func15, Try.ntmps15
  go_wp2_with (first | ((with_reducible refine gate_dst (N := 1) rfl ?_); (try (refine gate_guard (by rfl) ?_; dsimp only)); refine bx_ 1 #[.int .i64 a0_0, .int .i64 a0_1, .int .i64 a0_2, .int .i64 a0_3, .slice A0_4 l0_4.length c0_4, .int .i64 a0_5, .slice A0_6 l0_6.length c0_6] 30 ?_; intro gb146 hg w2 hbox hb; have BK146 := Qx (hbox); have GW146 := Qx ((ge_ hg)); have GE146 := Qx ((ge_ hg)); replace HB := Qx (Qp hB_ hb); clear hb hbox hg))
  go_loopg [3, 4] k (fun kq v3 v4 w' => ∃ (x3_1 : List Int) (x4_1 : Int), v4 = .int .i64 x4_1 ∧ Aside0 (spec_spList.l0 kq x3_1 x4_1 a0_0 a0_1 a0_2 a0_3 l0_4 a0_5 l0_6 = some r) ∧ Aside0 (kq ≤ k) ∧ Aside0 (Kd.R (Kd.int .i64) 3 w' w.heap.size (fun _ => True) v3 x3_1) ∧ Aside0 (w'.heap[gb146]? = some (.cells #[.int .i64 a0_0, .int .i64 a0_1, .int .i64 a0_2, .int .i64 a0_3, (.slice A0_4 l0_4.length c0_4), .int .i64 a0_5, (.slice A0_6 l0_6.length c0_6)] 30 (0, 0))) ∧ Aside0 (Below w.heap.size w w'))
  case atStart => exact ⟨(([] : List Int)), (0), rg_, H', ⟨Nat.le_refl _⟩, ⟨by first | exact Kd.R_nil _ _ _ _ _ | exact Kd.N_nil _ _ _ _ _ | exact Kd.V_nil _ _ _ _ _ | exact Kd.Q_nil _ _ _ _ _ | exact Kd.S_nil _ _ _ _ _⟩, ⟨kB_ BK146⟩, ⟨hB_⟩⟩
  case round =>
   clear H'
   try clear c1
   try clear p2
   obtain ⟨x3_1, x4_1, rfl, HA, HK1, HO_3, BK146, HB⟩ := hrel
   cases gk with
   | zero => exact absurd HA.out (by simp [spec_spList.l0])
   | succ k1 =>
    have H := HA.out; clear HA; simp only [spec_spList.l0] at H; have HC3 := Qx H; clear H
    go_upto_region 3 with (fail)
    go_cut [17] (fun v17 wc => ∃ (kq : Nat) (x17_2 : Bool), v17 = .bool x17_2 ∧ Aside0 (spec_spList.j1 kq x3_1 x4_1 x17_2 a0_0 a0_1 a0_2 a0_3 l0_4 a0_5 l0_6 = some r) ∧ Aside0 (kq ≤ k1) ∧ Aside0 (Kd.R (Kd.int .i64) 3 wc w.heap.size (fun _ => True) u3 x3_1) ∧ Aside0 (wc.heap[gb146]? = some (.cells #[.int .i64 a0_0, .int .i64 a0_1, .int .i64 a0_2, .int .i64 a0_3, (.slice A0_4 l0_4.length c0_4), .int .i64 a0_5, (.slice A0_6 l0_6.length c0_6)] 30 (0, 0))) ∧ Aside0 (Below w.heap.size w wc))
    case first =>
     have H := HC3.out; clear HC3
     by_cases c4 : x4_1 < a0_5
     ·rw [if_pos c4] at H
      have c4b0 : decide (x4_1 < a0_5) = true := decide_eq_true c4
      clear c4
      (first | rw [c4b0] | (simp only [i64_w, i32_w]; rw [c4b0]) | skip)
      have H' := Qx H; clear H
      obtain ⟨hcz5_0, hcz5_1, hcz5_2, hcz5_3, hcz5_4, hcz5_5, hcz5_6, hfz5_0, hfz5_1, hfz5_2, hfz5_3, hfz5_4, hfz5_5, hfz5_6⟩ := cellsQ7_g1a (w := wr) BK146.out
      obtain ⟨Ao6, co6, eo6⟩ := Kd.R_slice HO_3.out; subst eo6
      go_wp2
      go_meet
      case rel => exact ⟨_, (decide ((x3_1.length : Int) < a0_0)), rg_, H', ⟨by have := HK1.out; first | omega | exact Nat.le_refl _⟩, ⟨kR_ HO_3⟩, ⟨kB_ BK146⟩, ⟨hB_⟩⟩
     ·rw [if_neg c4] at H
      have c4b0 : decide (x4_1 < a0_5) = false := decide_eq_false c4
      clear c4
      (first | rw [c4b0] | (simp only [i64_w, i32_w]; rw [c4b0]) | skip)
      have H' := Qx H; clear H
      obtain ⟨hcz7_0, hcz7_1, hcz7_2, hcz7_3, hcz7_4, hcz7_5, hcz7_6, hfz7_0, hfz7_1, hfz7_2, hfz7_3, hfz7_4, hfz7_5, hfz7_6⟩ := cellsQ7_g1a (w := wr) BK146.out
      go_wp2
      go_meet
      case rel => exact ⟨_, (false), rg_, H', ⟨by have := HK1.out; first | omega | exact Nat.le_refl _⟩, ⟨kR_ HO_3⟩, ⟨kB_ BK146⟩, ⟨hB_⟩⟩
    case rest =>
     clear HC3
     try clear c1
     try clear p2
     try clear c4
     try clear c4b0
     try clear hcz5_0
     try clear hcz5_1
     try clear hcz5_2
     try clear hcz5_3
     try clear hcz5_4
     try clear hcz5_5
     try clear hcz5_6
     try clear hcz7_0
     try clear hcz7_1
     try clear hcz7_2
     try clear hcz7_3
     try clear hcz7_4
     try clear hcz7_5
     try clear hcz7_6
     try clear hfz5_0
     try clear hfz5_1
     try clear hfz5_2
     try clear hfz5_3
     try clear hfz5_4
     try clear hfz5_5
     try clear hfz5_6
     try clear hfz7_0
     try clear hfz7_1
     try clear hfz7_2
     try clear hfz7_3
     try clear hfz7_4
     try clear hfz7_5
     try clear hfz7_6
     try clear p2
     obtain ⟨kq, x17_2, rfl, HA, HJ2, HO_3, BK146, HB⟩ := hcut
     cases kq with
     | zero => exact absurd HA.out (by simp [spec_spList.j1])
     | succ kj2 =>
      have H := HA.out; clear HA; simp only [spec_spList.j1] at H
      by_cases c8 : x17_2 = true
      ·subst c8
       have H1 : ((spec_biAt.f a0_5 l0_6 x4_1).bind fun t147 => (if t147 = true then (if 0 ≤ a0_2 then ((spec_biField.f kj2 a0_3 l0_4 (wrap64 ((x3_1.length : Int) * a0_2)) a0_2).bind fun t148 => (if x3_1.length < 17592186044416 then (spec_spList.l0 kj2 (x3_1 ++ [wrap64 ((shl .i64 (wrap64 (x4_1 - (x3_1.length : Int))) a0_2) + t148)]) (wrap64 (x4_1 + 1)) a0_0 a0_1 a0_2 a0_3 l0_4 a0_5 l0_6) else (none))) else (none)) else (spec_spList.l0 kj2 x3_1 (wrap64 (x4_1 + 1)) a0_0 a0_1 a0_2 a0_3 l0_4 a0_5 l0_6))) = some r := by rw [if_pos rfl] at H; exact H
       clear H; have H := H1; clear H1; replace H := Option.bind_eq_some_iff.mp H; obtain ⟨t147, A90, H⟩ := H
       have A9 := Qx A90; clear A90
       by_cases c10 : t147 = true
       ·subst c10
        have H1 : (if 0 ≤ a0_2 then ((spec_biField.f kj2 a0_3 l0_4 (wrap64 ((x3_1.length : Int) * a0_2)) a0_2).bind fun t148 => (if x3_1.length < 17592186044416 then (spec_spList.l0 kj2 (x3_1 ++ [wrap64 ((shl .i64 (wrap64 (x4_1 - (x3_1.length : Int))) a0_2) + t148)]) (wrap64 (x4_1 + 1)) a0_0 a0_1 a0_2 a0_3 l0_4 a0_5 l0_6) else (none))) else (none)) = some r := by rw [if_pos rfl] at H; exact H
        clear H; have H := H1; clear H1
        by_cases c11 : 0 ≤ a0_2
        ·rw [if_pos c11] at H; have c11b0 := eq_true c11
         have c11b1 : decide (0 ≤ a0_2) = true := decide_eq_true c11
         clear c11
         obtain ⟨ji12, hji12⟩ : ∃ j_ : Int, (shl .i64 (wrap64 (x4_1 - (x3_1.length : Int))) a0_2) = j_ := ⟨_, rfl⟩
         replace H : ((spec_biField.f kj2 a0_3 l0_4 (wrap64 ((x3_1.length : Int) * a0_2)) a0_2).bind fun t148 => (if x3_1.length < 17592186044416 then (spec_spList.l0 kj2 (x3_1 ++ [wrap64 ((ji12) + t148)]) (wrap64 (x4_1 + 1)) a0_0 a0_1 a0_2 a0_3 l0_4 a0_5 l0_6) else (none))) = some r := by first | (rw [hji12] at H; exact H) | (simp only [hji12] at H ⊢; exact H)
         (try rw [hji12] at A9)
         have hji12_ : (IntKind.i64.wrap ((wrap64 (x4_1 - (x3_1.length : Int))) * 2 ^ min a0_2.toNat 64)) = ji12 := hji12
         have hji12z : a0_2 ≤ 64 → (IntKind.i64.wrap ((wrap64 (x4_1 - (x3_1.length : Int))) * 2 ^ a0_2.toNat)) = ji12 := shl_small hji12
         have hji12y : (wrap64 ((wrap64 (x4_1 - (x3_1.length : Int))) * 2 ^ min a0_2.toNat 64)) = ji12 := (i64_w _).symm.trans hji12_
         have hji12x : a0_2 ≤ 64 → (wrap64 ((wrap64 (x4_1 - (x3_1.length : Int))) * 2 ^ a0_2.toNat)) = ji12 := fun h_ => (i64_w _).symm.trans (hji12z h_)
         replace H := Option.bind_eq_some_iff.mp H; obtain ⟨t148, A130, H⟩ := H
         have A13 := Qx A130; clear A130
         by_cases c14 : x3_1.length < 17592186044416
         ·rw [if_pos c14] at H; have LMc14 := Qx c14; clear c14
          obtain ⟨y149, hy149⟩ : ∃ y_ : List Int, y_ = (x3_1 ++ [wrap64 ((ji12) + t148)]) := ⟨_, rfl⟩
          replace H : (spec_spList.l0 kj2 y149 (wrap64 (x4_1 + 1)) a0_0 a0_1 a0_2 a0_3 l0_4 a0_5 l0_6) = some r := by first | (rw [hy149]; with_reducible exact H) | (have H2_ := (Option.bind_some _ _).symm.trans H; rw [hy149]; with_reducible exact H2_) | (have H2_ := (Option.bind_some _ _).symm.trans H; with_reducible exact H2_) | with_reducible exact H | (rw [hy149]; exact H) | exact H
          have Ny149 := Qx hy149; clear hy149; have H' := Qx H; clear H
          obtain ⟨hcz15_0, hcz15_1, hcz15_2, hcz15_3, hcz15_4, hcz15_5, hcz15_6, hfz15_0, hfz15_1, hfz15_2, hfz15_3, hfz15_4, hfz15_5, hfz15_6⟩ := cellsQ7_g1a (w := wc) BK146.out
          try go_wp2_with (first | ((with_reducible refine gate_callee (f := 34) rfl ?_); refine gl_ 23 Try.func34 #[.agg #[.int .i64 a0_5, .slice A0_6 l0_6.length c0_6], .int .i64 x4_1] ?_; (with_reducible refine (spec_biAt.calls a0_5 _ _ l0_6 x4_1 true _ ?side1 ?side2 A9.out).mono ?_); (case side1 => exact kC_ HR0_6); (case side2 => exact HC0_6.out); rintro e w16 ⟨rfl, hb⟩; refine ⟨_, rfl, ?_⟩; replace HO_3 := Qx (Kd.R_below (kR_ HO_3) hb); replace BK146 := Qx (Qb (kB_ BK146) hb); replace HB := Qx (Qp hB_ hb); (try clear hb); (try clear hb2); (try clear hk); (try clear hi); obtain ⟨Ao17, co17, eo17⟩ := Kd.R_slice HO_3.out; subst eo17))
          replace HO_3 := Qx (Qrd HO_3.out)
          replace BK146 := Qx (Qw BK146.out)
          replace HB := Qx (below_drew1 HB.out)
          refine start_ (n := 20) (S := fun w' => w'.cell? ⟨gb146, 0, none⟩ = some (.int .i64 a0_0) ∧ w'.cell? ⟨gb146, 1, none⟩ = some (.int .i64 a0_1) ∧ w'.cell? ⟨gb146, 2, none⟩ = some (.int .i64 a0_2) ∧ w'.cell? ⟨gb146, 3, none⟩ = some (.int .i64 a0_3) ∧ w'.cell? ⟨gb146, 4, none⟩ = some (.slice A0_4 l0_4.length c0_4) ∧ w'.cell? ⟨gb146, 5, none⟩ = some (.int .i64 a0_5) ∧ w'.cell? ⟨gb146, 6, none⟩ = some (.slice A0_6 l0_6.length c0_6)) (ds := []) #[false, false, false, false, false, false, false, false, false, false, false, false, false, false, false, false, false, false, false, false] (by kernel_rfl) rfl rfl ⟨(Qc BK146.out 0).trans rfl, (Qc BK146.out 1).trans rfl, (Qc BK146.out 2).trans rfl, (Qc BK146.out 3).trans rfl, (Qc BK146.out 4).trans rfl, (Qc BK146.out 5).trans rfl, (Qc BK146.out 6).trans rfl⟩ (fun hHeld => ?_); refine with_tabW spec_spList.tab7 spec_spList.bits7 (fun HT_ HW_ => ?_)
          generalize w16.drew = w18 at HO_3 BK146 HB hHeld ⊢
          refine pr_ 0 26 20 1 ?_
          refine pr_ 1 27 20 3 ?_
          refine pr_ 2 28 20 7 ?_
          refine pr_ 3 29 20 15 ?_
          refine pr_ 4 30 20 31 ?_
          refine pr_ 7 33 20 159 ?_
          refine pr_ 9 35 20 671 ?_
          refine pr_ 10 36 20 1695 ?_
          refine pr_ 13 39 20 9887 ?_
          refine tq_ 5 31 20 9919 HT_.out HW_.out (by kernel_rfl) hHeld ?_ rfl (by rintro w' ⟨s0, s1, s2, s3, s4, s5, s6⟩; go_simp; with_reducible rfl)
          refine pr_ 6 32 20 9983 ?_
          refine tq_ 8 34 20 10239 HT_.out HW_.out (by kernel_rfl) hHeld ?_ rfl (by rintro w' ⟨s0, s1, s2, s3, s4, s5, s6⟩; go_simp; with_reducible rfl)
          refine tq_ 11 37 20 12287 HT_.out HW_.out (by kernel_rfl) hHeld ?_ rfl (by rintro w' ⟨s0, s1, s2, s3, s4, s5, s6⟩; go_simp; with_reducible rfl)
          refine pr_ 12 38 20 16383 ?_
          refine tq_ 14 40 20 32767 HT_.out HW_.out (by kernel_rfl) hHeld ?_ rfl (by rintro w' ⟨s0, s1, s2, s3, s4, s5, s6⟩; go_simp; with_reducible rfl)
          refine one_ (i := 15) (N := some 41) (bsA 20 65535) rfl rfl (one_of HT_.out (by kernel_rfl)) (by decide) (fun K hK => ?_)
          refine goes_ Try.func35 (by kernel_rfl) rfl #[.agg #[.int .i64 a0_3, .slice A0_4 l0_4.length c0_4], .int .i64 (wrap64 ((x3_1.length : Int) * a0_2)), .int .i64 a0_2] (by rfl) rfl rfl (by (try simp only [List.map_toArray, List.map_cons, List.map_nil]); first | done | rfl | (simp only [List.length_drop, List.length_take]; rfl)) ?_
          with_reducible refine (spec_biField.calls kj2 a0_3 _ _ l0_4 (wrap64 ((x3_1.length : Int) * a0_2)) a0_2 t148 _ ?side1 ?side2 A13.out).mono ?_
          (case side1 => exact kC_ HR0_4)
          (case side2 => exact HC0_4.out)
          rintro e w19 ⟨rfl, hb⟩
          refine ⟨_, rfl, ?_⟩
          replace HO_3 := Qx (Kd.R_below (kR_ HO_3) hb)
          replace BK146 := Qx (Qb (kB_ BK146) hb)
          replace HB := Qx (Qp hB_ hb)
          (try clear hb); (try clear hb2); (try clear hk); (try clear hi)
          refine hK.out _ _ ⟨(Qc BK146.out 0).trans rfl, (Qc BK146.out 1).trans rfl, (Qc BK146.out 2).trans rfl, (Qc BK146.out 3).trans rfl, (Qc BK146.out 4).trans rfl, (Qc BK146.out 5).trans rfl, (Qc BK146.out 6).trans rfl⟩ (fun hHeld => ?_)
          clear hK K
          refine norm_ (a' := ?_) ?_ ?_
          rotate_left
          ·show Act.put _ (some 41) _ = _
           simp only [Act.put, List.setIfInBounds_toArray, List.set_cons_zero, List.set_cons_succ, i64_w]
           rfl
          refine pr_ 16 42 20 131071 ?_
          refine one_ (i := 17) (N := some 43) (bsA 20 262143) rfl rfl (one_of HT_.out (by kernel_rfl)) (by decide) (fun K hK => ?_)
          refine value_ (w1 := ?_) (v := ?_) (by rfl) rfl ?_ ?_
          rotate_left 2
          ·go_simp
           constructor
           ·rfl
           ·rfl
          refine hK.out _ _ ⟨(Qc (Qk BK146.out _) 0).trans rfl, (Qc (Qk BK146.out _) 1).trans rfl, (Qc (Qk BK146.out _) 2).trans rfl, (Qc (Qk BK146.out _) 3).trans rfl, (Qc (Qk BK146.out _) 4).trans rfl, (Qc (Qk BK146.out _) 5).trans rfl, (Qc (Qk BK146.out _) 6).trans rfl⟩ (fun hHeld => ?_)
          clear hK K
          refine norm_ (a' := ?_) ?_ ?_
          rotate_left
          ·show Act.put _ (some 43) _ = _
           simp only [Act.put, List.setIfInBounds_toArray, List.set_cons_zero, List.set_cons_succ, i64_w]
           rfl
          refine one_ (i := 18) (N := some 44) (bsA 20 524287) rfl rfl (one_of HT_.out (by kernel_rfl)) (by decide) (fun K hK => ?_)
          refine Kd.R_append_step (Kd.int .i64) (w0 := w) w.heap.size (by rfl) (.tmp 26) (.tmp 43) 22 3 (.int .i64 0) 8 rfl Try.underlying22 info3 rfl (by decide) (by omega) (.slice Ao17 x3_1.length co17) x3_1 (wrap64 ((ji12) + t148)) [.int .i64 (wrap64 ((ji12) + t148))] (fun _ => True) (fun _ => False) rfl rfl ?aP (fun _ hk => hk.elim) ?aF ?aO ?aB ?aS ?aL ?_
          (case aP => exact rfl)
          (case aB => exact hB_)
          (case aF => exact (fun _ _ => trivial))
          (case aO => exact (kR_ HO_3))
          (case aS => exact (below_size hB_))
          (case aL => have := LMc14.out; omega)
          intro v150 w20 ho hb hg hat
          rw [← Ny149.out] at ho
          have n0_ := Qx (blk_grown (kB_ BK146) hg (Kd.R_ne HO_3.out BK146.out (by decide)))
          have n1_ := Qx (hb)
          have n2_ := Qx (ho)
          clear BK146 HB HO_3; have BK146 := n0_; have HB := n1_; have HO151 := n2_; clear n0_ n1_ n2_ ho hb hg hat
          refine hK.out _ _ ⟨(Qc BK146.out 0).trans rfl, (Qc BK146.out 1).trans rfl, (Qc BK146.out 2).trans rfl, (Qc BK146.out 3).trans rfl, (Qc BK146.out 4).trans rfl, (Qc BK146.out 5).trans rfl, (Qc BK146.out 6).trans rfl⟩ (fun hHeld => ?_)
          clear hK K
          refine norm_ (a' := ?_) ?_ ?_
          rotate_left
          ·show Act.put _ (some 44) _ = _
           simp only [Act.put, List.setIfInBounds_toArray, List.set_cons_zero, List.set_cons_succ, i64_w]
           rfl
          refine pr_ 19 3 20 1048575 ?_
          refine done_ (done_of HT_.out (by kernel_rfl)) ?_
          try go_wp2
          go_roundg kj2
          case measure => have := HK1.out; have := HJ2.out; omega
          case rel => exact ⟨(y149), (wrap64 (x4_1 + 1)), rg_, H', ⟨by have := HK1.out; have := HJ2.out; omega⟩, ⟨kR_ HO151⟩, ⟨kB_ BK146⟩, ⟨hB_⟩⟩
         ·rw [if_neg c14] at H
          exact absurd H (by simp)
        ·rw [if_neg c11] at H
         exact absurd H (by simp)
       ·replace c10 := Bool.eq_false_iff.mpr c10; subst c10
        have H1 : (spec_spList.l0 kj2 x3_1 (wrap64 (x4_1 + 1)) a0_0 a0_1 a0_2 a0_3 l0_4 a0_5 l0_6) = some r := by rw [if_neg (show ¬ (false = true) by decide)] at H; exact H
        clear H; have H := H1; clear H1; have H' := Qx H; clear H
        obtain ⟨hcz21_0, hcz21_1, hcz21_2, hcz21_3, hcz21_4, hcz21_5, hcz21_6, hfz21_0, hfz21_1, hfz21_2, hfz21_3, hfz21_4, hfz21_5, hfz21_6⟩ := cellsQ7_g1a (w := wc) BK146.out
        go_wp2_with (first | ((with_reducible refine gate_callee (f := 34) rfl ?_); refine gl_ 23 Try.func34 #[.agg #[.int .i64 a0_5, .slice A0_6 l0_6.length c0_6], .int .i64 x4_1] ?_; (with_reducible refine (spec_biAt.calls a0_5 _ _ l0_6 x4_1 false _ ?side1 ?side2 A9.out).mono ?_); (case side1 => exact kC_ HR0_6); (case side2 => exact HC0_6.out); rintro e w22 ⟨rfl, hb⟩; refine ⟨_, rfl, ?_⟩; replace HO_3 := Qx (Kd.R_below (kR_ HO_3) hb); replace BK146 := Qx (Qb (kB_ BK146) hb); replace HB := Qx (Qp hB_ hb); (try clear hb); (try clear hb2); (try clear hk); (try clear hi)))
        go_roundg kj2
        case measure => have := HK1.out; have := HJ2.out; omega
        case rel => exact ⟨(x3_1), (wrap64 (x4_1 + 1)), rg_, H', ⟨by have := HK1.out; have := HJ2.out; omega⟩, ⟨kR_ HO_3⟩, ⟨kB_ BK146⟩, ⟨hB_⟩⟩
      ·replace c8 := Bool.eq_false_iff.mpr c8; subst c8
       have H1 : (some x3_1) = some r := by rw [if_neg (show ¬ (false = true) by decide)] at H; exact H
       clear H; have H := H1; clear H1; obtain rfl := Option.some.inj H
       go_wp2
       go_ret
       exact ⟨_, rf_, kR_ HO_3, hB_⟩
/-! ### spec_l1In: function 26 -/
def spec_l1In.f (a0 : Int) (a1 : Int) (a2 : Int) : Option (Bool) := if a0 ≥ a1 then (some (decide (a0 ≤ a2))) else (some false)
set_option maxHeartbeats 8000000 in
set_option maxRecDepth 100000 in
theorem spec_l1In.calls (a0 : Int) (a1 : Int) (a2 : Int) (r : Bool) (w : World) (h : spec_l1In.f a0 a1 a2 = some r) :
    Calls Try.prog 26 #[.int .i64 a0, .int .i64 a1, .int .i64 a2] w fun e w' => e = .returned (.bool r) ∧ Drawn0 w w' := by
  have H : (if a0 ≥ a1 then (some (decide (a0 ≤ a2))) else (some false)) = some r := h
  clear h
  by_cases c4 : a0 ≥ a1
  ·rw [if_pos c4] at H
   have c4b0 : decide (a1 ≤ a0) = true := decide_eq_true c4
   clear c4; obtain rfl := Option.some.inj H
   go_enter Try.func26, Try.ntmps26
   go_wp2
   go_ret
   exact ⟨rg_, by repeat (first | exact Drawn0.refl _ | apply Drawn0.step)⟩
  ·rw [if_neg c4] at H
   have c4b0 : decide (a1 ≤ a0) = false := decide_eq_false c4
   clear c4; obtain rfl := Option.some.inj H
   go_enter Try.func26, Try.ntmps26
   go_wp2
   go_ret
   exact ⟨rg_, by repeat (first | exact Drawn0.refl _ | apply Drawn0.step)⟩
/-! ### spec_spLimit: function 27 -/
def spec_spLimit.f (a0 : Int) : Option (Bool) := (spec_l1In.f a0 1 100000).bind fun t152 => (some t152)
set_option maxHeartbeats 8000000 in
set_option maxRecDepth 100000 in
theorem spec_spLimit.calls (a0 : Int) (r : Bool) (w : World) (h : spec_spLimit.f a0 = some r) :
    Calls Try.prog 27 #[.int .i64 a0] w fun e w' => e = .returned (.bool r) ∧ Drawn0 w w' := by
  have H : ((spec_l1In.f a0 1 100000).bind fun t152 => (some t152)) = some r := h
  clear h; replace H := Option.bind_eq_some_iff.mp H; obtain ⟨t152, A20, H⟩ := H
  have A2 := Qx A20; clear A20; obtain rfl := Option.some.inj H
  go_enter Try.func27, Try.ntmps27
  go_wp2_with (first | ((with_reducible refine gate_callee (f := 26) rfl ?_); refine gl_ 4 Try.func26 #[.int .i64 a0, .int .i64 1, .int .i64 100000] ?_; (with_reducible refine (spec_l1In.calls a0 1 100000 t152 _ A2.out).mono ?_); rintro e w' ⟨rfl, ⟨nd, rfl⟩⟩; refine ⟨_, rfl, ?_⟩))
  go_ret
  exact ⟨rg_, by repeat (first | exact Drawn0.refl _ | apply Drawn0.step)⟩
/-! ### spec_l1All: function 48 -/
def spec_l1All.l0 : Nat → Int → Int → List Int → Int → Int → Option (Bool)
  | 0, _, _, _, _, _ => none
  | k + 1, x1, x2, x9, x10, x11 => if x11 < x10 then (if 0 ≤ x11 then (if x11 < (x9.length : Int) then ((spec_l1In.f (rd x9 x11) x1 x2).bind fun t154 => (if t154 = true then (spec_l1All.l0 k x1 x2 x9 x10 (wrap64 (x11 + 1))) else (some false))) else (none)) else (none)) else (some true)
def spec_l1All.f (k : Nat) (l0 : List Int) (a1 : Int) (a2 : Int) : Option (Bool) := spec_l1All.l0 k a1 a2 l0 (l0.length : Int) 0
theorem spec_l1All.mono_l : ∀ k, (∀ y0 y1 y2 y3 y4, LeO (spec_l1All.l0 k y0 y1 y2 y3 y4) (spec_l1All.l0 (k + 1) y0 y1 y2 y3 y4))
  | 0 => fun _ _ _ _ _ r h => by simp [spec_l1All.l0] at h
  | k + 1 => by
    have ih0 := spec_l1All.mono_l k
    · intro y0 y1 y2 y3 y4
      unfold spec_l1All.l0
      repeat' first
      | (with_reducible exact ih0 _ _ _ _ _)
      | (with_reducible exact LeO.refl _)
      | (with_reducible exact LeO.none _)
      | (with_reducible refine LeO.ite ?_ ?_)
      | (with_reducible refine LeO.bind ?_ (fun _ => ?_))
      | exact ih0 _ _ _ _ _
      | exact LeO.none _
      | refine LeO.ite ?_ ?_
      | refine LeO.bind ?_ (fun _ => ?_)
theorem spec_l1All.mono : ∀ a0 a1 a2 k, LeO (spec_l1All.f k a0 a1 a2) (spec_l1All.f (k + 1) a0 a1 a2) := by
  intro a0 a1 a2 k
  have ih0 := spec_l1All.mono_l k
  unfold spec_l1All.f
  repeat' first
      | (with_reducible exact ih0 _ _ _ _ _)
      | (with_reducible exact LeO.refl _)
      | (with_reducible exact LeO.none _)
      | (with_reducible refine LeO.ite ?_ ?_)
      | (with_reducible refine LeO.bind ?_ (fun _ => ?_))
      | exact ih0 _ _ _ _ _
      | exact LeO.none _
      | refine LeO.ite ?_ ?_
      | refine LeO.bind ?_ (fun _ => ?_)
noncomputable def spec_l1All.L0 (y0 : Int) (y1 : Int) (y2 : List Int) (y3 : Int) (y4 : Int) : Option (Bool) := lim fun k => spec_l1All.l0 k y0 y1 y2 y3 y4
theorem spec_l1All.L0_sup (y0 : Int) (y1 : Int) (y2 : List Int) (y3 : Int) (y4 : Int) : Sup (fun k => spec_l1All.l0 k y0 y1 y2 y3 y4) (spec_l1All.L0 y0 y1 y2 y3 y4) := Sup.of_mono fun k => spec_l1All.mono_l k y0 y1 y2 y3 y4
noncomputable def spec_l1All.F (l0 : List Int) (a1 : Int) (a2 : Int) : Option (Bool) := lim fun k => spec_l1All.f k l0 a1 a2
theorem spec_l1All.F_sup (l0 : List Int) (a1 : Int) (a2 : Int) : Sup (fun k => spec_l1All.f k l0 a1 a2) (spec_l1All.F l0 a1 a2) := Sup.of_mono fun k => spec_l1All.mono l0 a1 a2 k
theorem spec_l1All.L0_eq (x1 : Int) (x2 : Int) (x9 : List Int) (x10 : Int) (x11 : Int) : spec_l1All.L0 x1 x2 x9 x10 x11 = if x11 < x10 then (if 0 ≤ x11 then (if x11 < (x9.length : Int) then ((spec_l1In.f (rd x9 x11) x1 x2).bind fun t154 => (if t154 = true then (spec_l1All.L0 x1 x2 x9 x10 (wrap64 (x11 + 1))) else (some false))) else (none)) else (none)) else (some true) := by
  refine Sup.unique (spec_l1All.L0_sup x1 x2 x9 x10 x11) (Sup.shift (fun k => spec_l1All.mono_l k x1 x2 x9 x10 x11) (Sup.congr (g' := fun k => if x11 < x10 then (if 0 ≤ x11 then (if x11 < (x9.length : Int) then ((spec_l1In.f (rd x9 x11) x1 x2).bind fun t154 => (if t154 = true then (spec_l1All.l0 k x1 x2 x9 x10 (wrap64 (x11 + 1))) else (some false))) else (none)) else (none)) else (some true)) (fun k => by first | rfl | simp only [spec_l1All.l0]) ?_))
  repeat' first
    | (with_reducible exact spec_l1All.L0_sup _ _ _ _ _)
    | (with_reducible refine Sup.ite ?_ ?_)
    | (with_reducible refine Sup.bind ?_ (fun _ => ?_))
    | (with_reducible exact Sup.const _)
    | exact spec_l1All.L0_sup _ _ _ _ _
    | exact Sup.const _
theorem spec_l1All.F_eq (l0 : List Int) (a1 : Int) (a2 : Int) : spec_l1All.F l0 a1 a2 = spec_l1All.L0 a1 a2 l0 (l0.length : Int) 0 := by
  refine Sup.unique (spec_l1All.F_sup l0 a1 a2) (Sup.congr (g' := fun k => spec_l1All.l0 k a1 a2 l0 (l0.length : Int) 0) (fun k => by first | rfl | simp only [spec_l1All.f]) ?_)
  repeat' first
    | (with_reducible exact spec_l1All.L0_sup _ _ _ _ _)
    | (with_reducible refine Sup.ite ?_ ?_)
    | (with_reducible refine Sup.bind ?_ (fun _ => ?_))
    | (with_reducible exact Sup.const _)
    | exact spec_l1All.L0_sup _ _ _ _ _
    | exact Sup.const _
set_option maxHeartbeats 8000000 in
set_option maxRecDepth 100000 in
theorem spec_l1All.calls (k : Nat) (A0 : Option Addr) (c0 : Nat) (l0 : List Int) (a1 : Int) (a2 : Int) (r : Bool) (w : World) (hr0 : Kd.C (Kd.int .i64) w A0 l0.length l0) (hc0 : l0.length ≤ c0) (h : spec_l1All.f k l0 a1 a2 = some r) :
    Calls Try.prog 48 #[.slice A0 l0.length c0, .int .i64 a1, .int .i64 a2] w fun e w' => e = .returned (.bool r) ∧ Drawn0 w w' := by
  have HR0 := Qx hr0; have HC0 := Qx hc0; clear hr0 hc0
  have H : (spec_l1All.l0 k a1 a2 l0 (l0.length : Int) 0) = some r := h
  clear h; have H' := Qx H; clear H
  go_enter Try.func48, Try.ntmps48
  go_wp2
  go_loopg [11] k (fun kq v11 w' => ∃ (x11_1 : Int), v11 = .int .i64 x11_1 ∧ Aside0 (spec_l1All.l0 kq a1 a2 l0 (l0.length : Int) x11_1 = some r) ∧ Aside0 (kq ≤ k) ∧ Drawn0 w w')
  case atStart => exact ⟨(0), rg_, H', ⟨Nat.le_refl _⟩, by repeat (first | exact Drawn0.refl _ | apply Drawn0.step)⟩
  case round =>
   clear H'
   try clear p2
   obtain ⟨x11_1, rfl, HA, HK1, ⟨m1, rfl⟩⟩ := hrel
   cases gk with
   | zero => exact absurd HA.out (by simp [spec_l1All.l0])
   | succ k1 =>
    have H := HA.out; clear HA; simp only [spec_l1All.l0] at H
    by_cases c4 : x11_1 < (l0.length : Int)
    ·rw [if_pos c4] at H
     have c4b0 : decide (x11_1 < (l0.length : Int)) = true := decide_eq_true c4
     clear c4
     by_cases c5 : 0 ≤ x11_1
     ·rw [if_pos c5] at H
      have c5b0 : decide (0 ≤ x11_1) = true := decide_eq_true c5
      clear c5
      by_cases c6 : x11_1 < (l0.length : Int)
      ·rw [if_pos c6] at H
       have c6b0 : decide (x11_1 < (l0.length : Int)) = true := decide_eq_true c6
       clear c6; replace H := Option.bind_eq_some_iff.mp H; obtain ⟨t154, A70, H⟩ := H
       have A7 := Qx A70; clear A70
       by_cases c8 : t154 = true
       ·subst c8
        have H1 : (spec_l1All.l0 k1 a1 a2 l0 (l0.length : Int) (wrap64 (x11_1 + 1))) = some r := by rw [if_pos rfl] at H; exact H
        clear H; have H := H1; clear H1; have H' := Qx H; clear H
        have p153 : 0 ≤ (x11_1 : Int) := of_decide_eq_true as_
        have q153 : x11_1 < (l0.length : Int) := of_decide_eq_true as_
        obtain ⟨ad153, e153, hx153_0⟩ := Kd.at_int HR0.out x11_1 p153 q153
        cases e153
        replace p153 := eq_true p153; replace q153 := eq_true q153
        go_wp2_with (first | ((with_reducible refine gate_callee (f := 26) rfl ?_); refine gl_ 18 Try.func26 #[.int .i64 (rd l0 x11_1), .int .i64 a1, .int .i64 a2] ?_; (with_reducible refine (spec_l1In.calls (rd l0 x11_1) a1 a2 true _ A7.out).mono ?_); rintro e w' ⟨rfl, ⟨nd, rfl⟩⟩; refine ⟨_, rfl, ?_⟩))
        go_roundg k1
        case measure => have := HK1.out; omega
        case rel => exact ⟨(wrap64 (x11_1 + 1)), rg_, H', ⟨by have := HK1.out; omega⟩, by repeat (first | exact Drawn0.refl _ | apply Drawn0.step)⟩
       ·replace c8 := Bool.eq_false_iff.mpr c8; subst c8
        have H1 : (some false) = some r := by rw [if_neg (show ¬ (false = true) by decide)] at H; exact H
        clear H; have H := H1; clear H1; obtain rfl := Option.some.inj H
        have p153 : 0 ≤ (x11_1 : Int) := of_decide_eq_true as_
        have q153 : x11_1 < (l0.length : Int) := of_decide_eq_true as_
        obtain ⟨ad153, e153, hx153_0⟩ := Kd.at_int HR0.out x11_1 p153 q153
        cases e153
        replace p153 := eq_true p153; replace q153 := eq_true q153
        go_wp2_with (first | ((with_reducible refine gate_callee (f := 26) rfl ?_); refine gl_ 18 Try.func26 #[.int .i64 (rd l0 x11_1), .int .i64 a1, .int .i64 a2] ?_; (with_reducible refine (spec_l1In.calls (rd l0 x11_1) a1 a2 false _ A7.out).mono ?_); rintro e w' ⟨rfl, ⟨nd, rfl⟩⟩; refine ⟨_, rfl, ?_⟩))
        go_ret
        exact ⟨rg_, by repeat (first | exact Drawn0.refl _ | apply Drawn0.step)⟩
      ·rw [if_neg c6] at H
       exact absurd H (by simp)
     ·rw [if_neg c5] at H
      exact absurd H (by simp)
    ·rw [if_neg c4] at H
     have c4b0 : decide (x11_1 < (l0.length : Int)) = false := decide_eq_false c4
     clear c4; obtain rfl := Option.some.inj H
     go_wp2
     go_ret
     exact ⟨rg_, by repeat (first | exact Drawn0.refl _ | apply Drawn0.step)⟩
end Go.Proofs.Ytknofkpmeobhbaa.X
