/- Written by a program of this session: what functions of the given program compute, and that their calls do so. -/
import Derived.Test.YtknofkpmeobhbaaXx0
import Derived.Test.YtknofkpmeobhbaaXg1a
import Derived.Test.YtknofkpmeobhbaaXs
namespace Go.Proofs.Ytknofkpmeobhbaa.X
open Go.RowKit Go.Proofs.YtknofkpmeobhbaaW.PrintWords Go.Proofs.YtknofkpmeobhbaaW.PrintLast Go.Proofs.YtknofkpmeobhbaaW.PrintMore
theorem cellsQ2_g1b {w : World} {g : Nat} {t : TypeId} {a0 a1 : Value} (k : w.heap[g]? = some (.cells #[a0, a1] t (0, 0))) : w.cell? ⟨g, 0, none⟩ = some a0 ∧ w.cell? ⟨g, 1, none⟩ = some a1 ∧ w.frozen? ⟨g, 0, none⟩ = false ∧ w.frozen? ⟨g, 1, none⟩ = false := ⟨(blk_cell k 0).trans rfl, (blk_cell k 1).trans rfl, blk_frozen k 0, blk_frozen k 1⟩
theorem cellsQ7_g1b {w : World} {g : Nat} {t : TypeId} {a0 a1 a2 a3 a4 a5 a6 : Value} (k : w.heap[g]? = some (.cells #[a0, a1, a2, a3, a4, a5, a6] t (0, 0))) : w.cell? ⟨g, 0, none⟩ = some a0 ∧ w.cell? ⟨g, 1, none⟩ = some a1 ∧ w.cell? ⟨g, 2, none⟩ = some a2 ∧ w.cell? ⟨g, 3, none⟩ = some a3 ∧ w.cell? ⟨g, 4, none⟩ = some a4 ∧ w.cell? ⟨g, 5, none⟩ = some a5 ∧ w.cell? ⟨g, 6, none⟩ = some a6 ∧ w.frozen? ⟨g, 0, none⟩ = false ∧ w.frozen? ⟨g, 1, none⟩ = false ∧ w.frozen? ⟨g, 2, none⟩ = false ∧ w.frozen? ⟨g, 3, none⟩ = false ∧ w.frozen? ⟨g, 4, none⟩ = false ∧ w.frozen? ⟨g, 5, none⟩ = false ∧ w.frozen? ⟨g, 6, none⟩ = false := ⟨(blk_cell k 0).trans rfl, (blk_cell k 1).trans rfl, (blk_cell k 2).trans rfl, (blk_cell k 3).trans rfl, (blk_cell k 4).trans rfl, (blk_cell k 5).trans rfl, (blk_cell k 6).trans rfl, blk_frozen k 0, blk_frozen k 1, blk_frozen k 2, blk_frozen k 3, blk_frozen k 4, blk_frozen k 5, blk_frozen k 6⟩
theorem farsQ7_g1b {τ : Type} {d : Kd τ} {e : Nat} {w : World} {base g : Nat} {ok : Nat → Prop} {v : Value} {xs : List τ} (h : d.R e w base ok v xs) (hok : ∀ k, ok k → k ≠ g) (u0 u1 u2 u3 u4 u5 u6 : Value) : d.R e (((((((w.setCell ⟨g, 0, none⟩ u0).setCell ⟨g, 1, none⟩ u1).setCell ⟨g, 2, none⟩ u2).setCell ⟨g, 3, none⟩ u3).setCell ⟨g, 4, none⟩ u4).setCell ⟨g, 5, none⟩ u5).setCell ⟨g, 6, none⟩ u6) base ok v xs := Kd.R_far (p := ⟨g, 6, none⟩) (Kd.R_far (p := ⟨g, 5, none⟩) (Kd.R_far (p := ⟨g, 4, none⟩) (Kd.R_far (p := ⟨g, 3, none⟩) (Kd.R_far (p := ⟨g, 2, none⟩) (Kd.R_far (p := ⟨g, 1, none⟩) (Kd.R_far (p := ⟨g, 0, none⟩) h hok u0) hok u1) hok u2) hok u3) hok u4) hok u5) hok u6
open Go.Proofs.YtknofkpmeobhbaaW.PrintWords renaming blk_cell → Qc, blk_alloc → Qk, blk_drewN → Qm, blk_drew → Qw, below_step → Qp, blk_below → Qb
open Go.Proofs.YtknofkpmeobhbaaW.PrintWords.Aside0 renaming mk → Qx
attribute [local go_sem] max2_int min2_int max_two min_two max_three min_three max_four min_four   -- for this text's walks alone
set_option linter.unusedVariables false
set_option linter.unusedSimpArgs false
/-! ### spec_biGood: function 29 -/
def spec_biGood.f (k : Nat) (a0_0 : Int) (l0_1 : List Int) : Option (Bool) := (spec_l1In.f a0_0 0 4096).bind fun t156 => (if t156 = true then (if (l0_1.length : Int) = (wrap64 (Int.tdiv (wrap64 (a0_0 + 15)) 16)) then ((spec_l1All.f k l0_1 0 65535).bind fun t157 => (if t157 = true then (if (Int.tmod a0_0 16) = 0 then (some true) else (if 0 ≤ (wrap64 ((l0_1.length : Int) - 1)) then (if (wrap64 ((l0_1.length : Int) - 1)) < (l0_1.length : Int) then (if 0 ≤ (Int.tmod a0_0 16) then (some ((shr .i64 (rd l0_1 (wrap64 ((l0_1.length : Int) - 1))) (Int.tmod a0_0 16)) == 0)) else (none)) else (none)) else (none))) else (some false))) else (some false)) else (some false))
theorem spec_biGood.mono : ∀ a0 a1 k, LeO (spec_biGood.f k a0 a1) (spec_biGood.f (k + 1) a0 a1) := by
  intro a0 a1 k
  unfold spec_biGood.f
  repeat' first
      | (with_reducible exact spec_l1All.mono _ _ _ _)
      | (with_reducible exact LeO.refl _)
      | (with_reducible exact LeO.none _)
      | (with_reducible refine LeO.ite ?_ ?_)
      | (with_reducible refine LeO.bind ?_ (fun _ => ?_))
      | exact spec_l1All.mono _ _ _ _
      | exact LeO.none _
      | refine LeO.ite ?_ ?_
      | refine LeO.bind ?_ (fun _ => ?_)
noncomputable def spec_biGood.F (a0_0 : Int) (l0_1 : List Int) : Option (Bool) := lim fun k => spec_biGood.f k a0_0 l0_1
theorem spec_biGood.F_sup (a0_0 : Int) (l0_1 : List Int) : Sup (fun k => spec_biGood.f k a0_0 l0_1) (spec_biGood.F a0_0 l0_1) := Sup.of_mono fun k => spec_biGood.mono a0_0 l0_1 k
theorem spec_biGood.F_eq (a0_0 : Int) (l0_1 : List Int) : spec_biGood.F a0_0 l0_1 = (spec_l1In.f a0_0 0 4096).bind fun t156 => (if t156 = true then (if (l0_1.length : Int) = (wrap64 (Int.tdiv (wrap64 (a0_0 + 15)) 16)) then ((spec_l1All.F l0_1 0 65535).bind fun t157 => (if t157 = true then (if (Int.tmod a0_0 16) = 0 then (some true) else (if 0 ≤ (wrap64 ((l0_1.length : Int) - 1)) then (if (wrap64 ((l0_1.length : Int) - 1)) < (l0_1.length : Int) then (if 0 ≤ (Int.tmod a0_0 16) then (some ((shr .i64 (rd l0_1 (wrap64 ((l0_1.length : Int) - 1))) (Int.tmod a0_0 16)) == 0)) else (none)) else (none)) else (none))) else (some false))) else (some false)) else (some false)) := by
  refine Sup.unique (spec_biGood.F_sup a0_0 l0_1) (Sup.congr (g' := fun k => (spec_l1In.f a0_0 0 4096).bind fun t156 => (if t156 = true then (if (l0_1.length : Int) = (wrap64 (Int.tdiv (wrap64 (a0_0 + 15)) 16)) then ((spec_l1All.f k l0_1 0 65535).bind fun t157 => (if t157 = true then (if (Int.tmod a0_0 16) = 0 then (some true) else (if 0 ≤ (wrap64 ((l0_1.length : Int) - 1)) then (if (wrap64 ((l0_1.length : Int) - 1)) < (l0_1.length : Int) then (if 0 ≤ (Int.tmod a0_0 16) then (some ((shr .i64 (rd l0_1 (wrap64 ((l0_1.length : Int) - 1))) (Int.tmod a0_0 16)) == 0)) else (none)) else (none)) else (none))) else (some false))) else (some false)) else (some false))) (fun k => by first | rfl | simp only [spec_biGood.f]) ?_)
  repeat' first
    | (with_reducible exact spec_l1All.F_sup _ _ _)
    | (with_reducible refine Sup.ite ?_ ?_)
    | (with_reducible refine Sup.bind ?_ (fun _ => ?_))
    | (with_reducible exact Sup.const _)
    | exact spec_l1All.F_sup _ _ _
    | exact Sup.const _
set_option maxHeartbeats 8000000 in
set_option maxRecDepth 100000 in
theorem spec_biGood.calls (k : Nat) (a0_0 : Int) (A0_1 : Option Addr) (c0_1 : Nat) (l0_1 : List Int) (r : Bool) (w : World) (hr0_1 : Kd.C (Kd.int .i64) w A0_1 l0_1.length l0_1) (hc0_1 : l0_1.length ≤ c0_1) (h : spec_biGood.f k a0_0 l0_1 = some r) :
    Calls Try.prog 29 #[.agg #[.int .i64 a0_0, .slice A0_1 l0_1.length c0_1]] w fun e w' => e = .returned (.bool r) ∧ Below w.heap.size w w' := by
  have hu28 := Try.underlying28; have hu22 := Try.underlying22; have HR0_1 := Qx hr0_1; have HC0_1 := Qx hc0_1; clear hr0_1 hc0_1
  have HB := Qx (Below.refl w.heap.size w)
  have H : ((spec_l1In.f a0_0 0 4096).bind fun t156 => (if t156 = true then (if (l0_1.length : Int) = (wrap64 (Int.tdiv (wrap64 (a0_0 + 15)) 16)) then ((spec_l1All.f k l0_1 0 65535).bind fun t157 => (if t157 = true then (if (Int.tmod a0_0 16) = 0 then (some true) else (if 0 ≤ (wrap64 ((l0_1.length : Int) - 1)) then (if (wrap64 ((l0_1.length : Int) - 1)) < (l0_1.length : Int) then (if 0 ≤ (Int.tmod a0_0 16) then (some ((shr .i64 (rd l0_1 (wrap64 ((l0_1.length : Int) - 1))) (Int.tmod a0_0 16)) == 0)) else (none)) else (none)) else (none))) else (some false))) else (some false)) else (some false))) = some r := h
  clear h; replace H := Option.bind_eq_some_iff.mp H; obtain ⟨t156, A20, H⟩ := H
  have A2 := Qx A20; clear A20
  by_cases c3 : t156 = true
  ·subst c3
   have H1 : (if (l0_1.length : Int) = (wrap64 (Int.tdiv (wrap64 (a0_0 + 15)) 16)) then ((spec_l1All.f k l0_1 0 65535).bind fun t157 => (if t157 = true then (if (Int.tmod a0_0 16) = 0 then (some true) else (if 0 ≤ (wrap64 ((l0_1.length : Int) - 1)) then (if (wrap64 ((l0_1.length : Int) - 1)) < (l0_1.length : Int) then (if 0 ≤ (Int.tmod a0_0 16) then (some ((shr .i64 (rd l0_1 (wrap64 ((l0_1.length : Int) - 1))) (Int.tmod a0_0 16)) == 0)) else (none)) else (none)) else (none))) else (some false))) else (some false)) = some r := by rw [if_pos rfl] at H; exact H
   clear H; have H := H1; clear H1
   by_cases c4 : (l0_1.length : Int) = (wrap64 (Int.tdiv (wrap64 (a0_0 + 15)) 16))
   ·rw [if_pos c4] at H
    have c4b0 : ((l0_1.length : Int) == (wrap64 (Int.tdiv (wrap64 (a0_0 + 15)) 16))) = true := beq_iff_eq.mpr c4
    have c4b1 : ((l0_1.length : Int) != (wrap64 (Int.tdiv (wrap64 (a0_0 + 15)) 16))) = false := bne_eq_false_iff_eq.mpr c4
    clear c4; replace H := Option.bind_eq_some_iff.mp H; obtain ⟨t157, A50, H⟩ := H
    have A5 := Qx A50; clear A50
    by_cases c6 : t157 = true
    ·subst c6
     have H1 : (if (Int.tmod a0_0 16) = 0 then (some true) else (if 0 ≤ (wrap64 ((l0_1.length : Int) - 1)) then (if (wrap64 ((l0_1.length : Int) - 1)) < (l0_1.length : Int) then (if 0 ≤ (Int.tmod a0_0 16) then (some ((shr .i64 (rd l0_1 (wrap64 ((l0_1.length : Int) - 1))) (Int.tmod a0_0 16)) == 0)) else (none)) else (none)) else (none))) = some r := by rw [if_pos rfl] at H; exact H
     clear H; have H := H1; clear H1
     by_cases c7 : (Int.tmod a0_0 16) = 0
     ·rw [if_pos c7] at H
      have c7b0 : ((Int.tmod a0_0 16) == 0) = true := beq_iff_eq.mpr c7
      have c7b1 : ((Int.tmod a0_0 16) != 0) = false := bne_eq_false_iff_eq.mpr c7
      clear c7; obtain rfl := Option.some.inj H
      go_enter Try.func29, Try.ntmps29
      go_wp2_with (first | ((with_reducible refine gate_dst (N := 1) rfl ?_); (try (refine gate_guard (by rfl) ?_; dsimp only)); refine bx_ 1 #[.int .i64 a0_0, .slice A0_1 l0_1.length c0_1] 28 ?_; intro gb155 hg w8 hbox hb; have BK155 := Qx (hbox); have GW155 := Qx ((ge_ hg)); have GE155 := Qx ((ge_ hg)); replace HB := Qx (Qp hB_ hb); clear hb hbox hg; obtain ⟨hcz9_0, hcz9_1, hfz9_0, hfz9_1⟩ := cellsQ2_g1b (w := w8) BK155.out) | (go_at_call 26; (with_reducible refine (spec_l1In.calls a0_0 0 4096 true _ A2.out).mono ?_); rintro e w' ⟨rfl, ⟨nd, rfl⟩⟩; (try first | exact ⟨rfl, _, World.drewN_drewN _ _ _⟩ | exact ⟨rfl, _, Eq.trans (World.drewN_drewN _ _ _) (congrArg (World.drewN _) (Nat.add_assoc _ _ _))⟩)) | (go_at_call 48; (with_reducible refine (spec_l1All.calls k _ _ l0_1 0 65535 true _ ?side1 ?side2 A5.out).mono ?_); (case side1 => exact kC_ HR0_1); (case side2 => exact HC0_1.out); rintro e w' ⟨rfl, ⟨nd, rfl⟩⟩; (try first | exact ⟨rfl, _, World.drewN_drewN _ _ _⟩ | exact ⟨rfl, _, Eq.trans (World.drewN_drewN _ _ _) (congrArg (World.drewN _) (Nat.add_assoc _ _ _))⟩)))
      repeat (go_quiet (first | ((with_reducible refine gate_dst (N := 1) rfl ?_); (try (refine gate_guard (by rfl) ?_; dsimp only)); refine bx_ 1 #[.int .i64 a0_0, .slice A0_1 l0_1.length c0_1] 28 ?_; intro gb155 hg w8 hbox hb; have BK155 := Qx (hbox); have GW155 := Qx ((ge_ hg)); have GE155 := Qx ((ge_ hg)); replace HB := Qx (Qp hB_ hb); clear hb hbox hg; obtain ⟨hcz9_0, hcz9_1, hfz9_0, hfz9_1⟩ := cellsQ2_g1b (w := w8) BK155.out) | (go_at_call 26; (with_reducible refine (spec_l1In.calls a0_0 0 4096 true _ A2.out).mono ?_); rintro e w' ⟨rfl, ⟨nd, rfl⟩⟩; (try first | exact ⟨rfl, _, World.drewN_drewN _ _ _⟩ | exact ⟨rfl, _, Eq.trans (World.drewN_drewN _ _ _) (congrArg (World.drewN _) (Nat.add_assoc _ _ _))⟩)) | (go_at_call 48; (with_reducible refine (spec_l1All.calls k _ _ l0_1 0 65535 true _ ?side1 ?side2 A5.out).mono ?_); (case side1 => exact kC_ HR0_1); (case side2 => exact HC0_1.out); rintro e w' ⟨rfl, ⟨nd, rfl⟩⟩; (try first | exact ⟨rfl, _, World.drewN_drewN _ _ _⟩ | exact ⟨rfl, _, Eq.trans (World.drewN_drewN _ _ _) (congrArg (World.drewN _) (Nat.add_assoc _ _ _))⟩))); try go_wp2_with (first | ((with_reducible refine gate_dst (N := 1) rfl ?_); (try (refine gate_guard (by rfl) ?_; dsimp only)); refine bx_ 1 #[.int .i64 a0_0, .slice A0_1 l0_1.length c0_1] 28 ?_; intro gb155 hg w8 hbox hb; have BK155 := Qx (hbox); have GW155 := Qx ((ge_ hg)); have GE155 := Qx ((ge_ hg)); replace HB := Qx (Qp hB_ hb); clear hb hbox hg; obtain ⟨hcz9_0, hcz9_1, hfz9_0, hfz9_1⟩ := cellsQ2_g1b (w := w8) BK155.out) | (go_at_call 26; (with_reducible refine (spec_l1In.calls a0_0 0 4096 true _ A2.out).mono ?_); rintro e w' ⟨rfl, ⟨nd, rfl⟩⟩; (try first | exact ⟨rfl, _, World.drewN_drewN _ _ _⟩ | exact ⟨rfl, _, Eq.trans (World.drewN_drewN _ _ _) (congrArg (World.drewN _) (Nat.add_assoc _ _ _))⟩)) | (go_at_call 48; (with_reducible refine (spec_l1All.calls k _ _ l0_1 0 65535 true _ ?side1 ?side2 A5.out).mono ?_); (case side1 => exact kC_ HR0_1); (case side2 => exact HC0_1.out); rintro e w' ⟨rfl, ⟨nd, rfl⟩⟩; (try first | exact ⟨rfl, _, World.drewN_drewN _ _ _⟩ | exact ⟨rfl, _, Eq.trans (World.drewN_drewN _ _ _) (congrArg (World.drewN _) (Nat.add_assoc _ _ _))⟩))))
      go_ret
      exact ⟨rf_, hB_⟩
     ·rw [if_neg c7] at H
      have c7b0 : ((Int.tmod a0_0 16) == 0) = false := beq_eq_false_iff_ne.mpr c7
      have c7b1 : ((Int.tmod a0_0 16) != 0) = true := bne_iff_ne.mpr c7
      obtain ⟨ji10, hji10⟩ : ∃ j_ : Int, (wrap64 ((l0_1.length : Int) - 1)) = j_ := ⟨_, rfl⟩
      replace H : (if 0 ≤ (ji10) then (if (ji10) < (l0_1.length : Int) then (if 0 ≤ (Int.tmod a0_0 16) then (some ((shr .i64 (rd l0_1 (ji10)) (Int.tmod a0_0 16)) == 0)) else (none)) else (none)) else (none)) = some r := by first | (rw [hji10] at H; exact H) | (simp only [hji10] at H ⊢; exact H)
      (try rw [hji10] at A2)
      (try rw [hji10] at A5)
      have hji10w : (IntKind.i64.wrap ((l0_1.length : Int) - 1)) = ji10 := (i64_w _).trans hji10
      by_cases c11 : 0 ≤ (ji10)
      ·rw [if_pos c11] at H
       have c11b0 : decide (0 ≤ (ji10)) = true := decide_eq_true c11
       clear c11
       by_cases c12 : (ji10) < (l0_1.length : Int)
       ·rw [if_pos c12] at H
        have c12b0 : decide ((ji10) < (l0_1.length : Int)) = true := decide_eq_true c12
        clear c12
        obtain ⟨ji13, hji13⟩ : ∃ j_ : Int, (Int.tmod a0_0 16) = j_ := ⟨_, rfl⟩
        replace H : (if 0 ≤ (ji13) then (some ((shr .i64 (rd l0_1 (ji10)) (ji13)) == 0)) else (none)) = some r := by first | (rw [hji13] at H; exact H) | (simp only [hji13] at H ⊢; exact H)
        (try rw [hji13] at c7b0)
        (try rw [hji13] at c7b1)
        (try rw [hji13] at A2)
        (try rw [hji13] at A5)
        by_cases c14 : 0 ≤ (ji13)
        ·rw [if_pos c14] at H; have c14b0 := eq_true c14
         have c14b1 : decide (0 ≤ (ji13)) = true := decide_eq_true c14
         clear c14
         obtain ⟨ji15, hji15⟩ : ∃ j_ : Int, (shr .i64 (rd l0_1 (ji10)) (ji13)) = j_ := ⟨_, rfl⟩
         replace H : (some ((ji15) == 0)) = some r := by first | (rw [hji15] at H; exact H) | (simp only [hji15] at H ⊢; exact H)
         (try rw [hji15] at A2)
         (try rw [hji15] at A5)
         have hji15_ : ((rd l0_1 (ji10)) / 2 ^ min (ji13).toNat 64) = ji15 := hji15
         have hji15z : (ji13) ≤ 64 → ((rd l0_1 (ji10)) / 2 ^ (ji13).toNat) = ji15 := shr_small hji15
         obtain rfl := Option.some.inj H
         go_enter Try.func29, Try.ntmps29
         go_wp2_with (first | ((with_reducible refine gate_dst (N := 1) rfl ?_); (try (refine gate_guard (by rfl) ?_; dsimp only)); refine bx_ 1 #[.int .i64 a0_0, .slice A0_1 l0_1.length c0_1] 28 ?_; intro gb155 hg w16 hbox hb; have BK155 := Qx (hbox); have GW155 := Qx ((ge_ hg)); have GE155 := Qx ((ge_ hg)); replace HB := Qx (Qp hB_ hb); clear hb hbox hg; obtain ⟨hcz17_0, hcz17_1, hfz17_0, hfz17_1⟩ := cellsQ2_g1b (w := w16) BK155.out) | (go_at_call 26; (with_reducible refine (spec_l1In.calls a0_0 0 4096 true _ A2.out).mono ?_); rintro e w' ⟨rfl, ⟨nd, rfl⟩⟩; (try first | exact ⟨rfl, _, World.drewN_drewN _ _ _⟩ | exact ⟨rfl, _, Eq.trans (World.drewN_drewN _ _ _) (congrArg (World.drewN _) (Nat.add_assoc _ _ _))⟩)) | (go_at_call 48; (with_reducible refine (spec_l1All.calls k _ _ l0_1 0 65535 true _ ?side1 ?side2 A5.out).mono ?_); (case side1 => exact kC_ HR0_1); (case side2 => exact HC0_1.out); rintro e w' ⟨rfl, ⟨nd, rfl⟩⟩; (try first | exact ⟨rfl, _, World.drewN_drewN _ _ _⟩ | exact ⟨rfl, _, Eq.trans (World.drewN_drewN _ _ _) (congrArg (World.drewN _) (Nat.add_assoc _ _ _))⟩); have p158 : 0 ≤ ((ji10) : Int) := of_decide_eq_true as_; have q158 : (ji10) < (l0_1.length : Int) := of_decide_eq_true as_; obtain ⟨ad158, e158, hx158_0⟩ := Kd.at_int HR0_1.out (ji10) p158 q158; cases e158; replace hx158_0 := (HB.out.cell (World.block_lt_of_cell? w _ hx158_0)).trans hx158_0; replace p158 := eq_true p158; replace q158 := eq_true q158))
         repeat (go_quiet (first | ((with_reducible refine gate_dst (N := 1) rfl ?_); (try (refine gate_guard (by rfl) ?_; dsimp only)); refine bx_ 1 #[.int .i64 a0_0, .slice A0_1 l0_1.length c0_1] 28 ?_; intro gb155 hg w16 hbox hb; have BK155 := Qx (hbox); have GW155 := Qx ((ge_ hg)); have GE155 := Qx ((ge_ hg)); replace HB := Qx (Qp hB_ hb); clear hb hbox hg; obtain ⟨hcz17_0, hcz17_1, hfz17_0, hfz17_1⟩ := cellsQ2_g1b (w := w16) BK155.out) | (go_at_call 26; (with_reducible refine (spec_l1In.calls a0_0 0 4096 true _ A2.out).mono ?_); rintro e w' ⟨rfl, ⟨nd, rfl⟩⟩; (try first | exact ⟨rfl, _, World.drewN_drewN _ _ _⟩ | exact ⟨rfl, _, Eq.trans (World.drewN_drewN _ _ _) (congrArg (World.drewN _) (Nat.add_assoc _ _ _))⟩)) | (go_at_call 48; (with_reducible refine (spec_l1All.calls k _ _ l0_1 0 65535 true _ ?side1 ?side2 A5.out).mono ?_); (case side1 => exact kC_ HR0_1); (case side2 => exact HC0_1.out); rintro e w' ⟨rfl, ⟨nd, rfl⟩⟩; (try first | exact ⟨rfl, _, World.drewN_drewN _ _ _⟩ | exact ⟨rfl, _, Eq.trans (World.drewN_drewN _ _ _) (congrArg (World.drewN _) (Nat.add_assoc _ _ _))⟩); have p158 : 0 ≤ ((ji10) : Int) := of_decide_eq_true as_; have q158 : (ji10) < (l0_1.length : Int) := of_decide_eq_true as_; obtain ⟨ad158, e158, hx158_0⟩ := Kd.at_int HR0_1.out (ji10) p158 q158; cases e158; replace hx158_0 := (HB.out.cell (World.block_lt_of_cell? w _ hx158_0)).trans hx158_0; replace p158 := eq_true p158; replace q158 := eq_true q158)); try go_wp2_with (first | ((with_reducible refine gate_dst (N := 1) rfl ?_); (try (refine gate_guard (by rfl) ?_; dsimp only)); refine bx_ 1 #[.int .i64 a0_0, .slice A0_1 l0_1.length c0_1] 28 ?_; intro gb155 hg w16 hbox hb; have BK155 := Qx (hbox); have GW155 := Qx ((ge_ hg)); have GE155 := Qx ((ge_ hg)); replace HB := Qx (Qp hB_ hb); clear hb hbox hg; obtain ⟨hcz17_0, hcz17_1, hfz17_0, hfz17_1⟩ := cellsQ2_g1b (w := w16) BK155.out) | (go_at_call 26; (with_reducible refine (spec_l1In.calls a0_0 0 4096 true _ A2.out).mono ?_); rintro e w' ⟨rfl, ⟨nd, rfl⟩⟩; (try first | exact ⟨rfl, _, World.drewN_drewN _ _ _⟩ | exact ⟨rfl, _, Eq.trans (World.drewN_drewN _ _ _) (congrArg (World.drewN _) (Nat.add_assoc _ _ _))⟩)) | (go_at_call 48; (with_reducible refine (spec_l1All.calls k _ _ l0_1 0 65535 true _ ?side1 ?side2 A5.out).mono ?_); (case side1 => exact kC_ HR0_1); (case side2 => exact HC0_1.out); rintro e w' ⟨rfl, ⟨nd, rfl⟩⟩; (try first | exact ⟨rfl, _, World.drewN_drewN _ _ _⟩ | exact ⟨rfl, _, Eq.trans (World.drewN_drewN _ _ _) (congrArg (World.drewN _) (Nat.add_assoc _ _ _))⟩); have p158 : 0 ≤ ((ji10) : Int) := of_decide_eq_true as_; have q158 : (ji10) < (l0_1.length : Int) := of_decide_eq_true as_; obtain ⟨ad158, e158, hx158_0⟩ := Kd.at_int HR0_1.out (ji10) p158 q158; cases e158; replace hx158_0 := (HB.out.cell (World.block_lt_of_cell? w _ hx158_0)).trans hx158_0; replace p158 := eq_true p158; replace q158 := eq_true q158)))
         go_ret
         exact ⟨by first | rfl | (simp [errW_none, errW_some] <;> rfl) | (simp only [← hji10, ← hji13, ← hji15]; first | rfl | (simp [errW_none, errW_some] <;> rfl)) | (simp [*, errW_none, errW_some] <;> rfl), hB_⟩
        ·rw [if_neg c14] at H
         exact absurd H (by simp)
       ·rw [if_neg c12] at H
        exact absurd H (by simp)
      ·rw [if_neg c11] at H
       exact absurd H (by simp)
    ·replace c6 := Bool.eq_false_iff.mpr c6; subst c6
     have H1 : (some false) = some r := by rw [if_neg (show ¬ (false = true) by decide)] at H; exact H
     clear H; have H := H1; clear H1; obtain rfl := Option.some.inj H
     go_enter Try.func29, Try.ntmps29
     go_wp2_with (first | ((with_reducible refine gate_dst (N := 1) rfl ?_); (try (refine gate_guard (by rfl) ?_; dsimp only)); refine bx_ 1 #[.int .i64 a0_0, .slice A0_1 l0_1.length c0_1] 28 ?_; intro gb155 hg w18 hbox hb; have BK155 := Qx (hbox); have GW155 := Qx ((ge_ hg)); have GE155 := Qx ((ge_ hg)); replace HB := Qx (Qp hB_ hb); clear hb hbox hg; obtain ⟨hcz19_0, hcz19_1, hfz19_0, hfz19_1⟩ := cellsQ2_g1b (w := w18) BK155.out) | (go_at_call 26; (with_reducible refine (spec_l1In.calls a0_0 0 4096 true _ A2.out).mono ?_); rintro e w' ⟨rfl, ⟨nd, rfl⟩⟩; (try first | exact ⟨rfl, _, World.drewN_drewN _ _ _⟩ | exact ⟨rfl, _, Eq.trans (World.drewN_drewN _ _ _) (congrArg (World.drewN _) (Nat.add_assoc _ _ _))⟩)) | (go_at_call 48; (with_reducible refine (spec_l1All.calls k _ _ l0_1 0 65535 false _ ?side1 ?side2 A5.out).mono ?_); (case side1 => exact kC_ HR0_1); (case side2 => exact HC0_1.out); rintro e w' ⟨rfl, ⟨nd, rfl⟩⟩; (try first | exact ⟨rfl, _, World.drewN_drewN _ _ _⟩ | exact ⟨rfl, _, Eq.trans (World.drewN_drewN _ _ _) (congrArg (World.drewN _) (Nat.add_assoc _ _ _))⟩)))
     repeat (go_quiet (first | ((with_reducible refine gate_dst (N := 1) rfl ?_); (try (refine gate_guard (by rfl) ?_; dsimp only)); refine bx_ 1 #[.int .i64 a0_0, .slice A0_1 l0_1.length c0_1] 28 ?_; intro gb155 hg w18 hbox hb; have BK155 := Qx (hbox); have GW155 := Qx ((ge_ hg)); have GE155 := Qx ((ge_ hg)); replace HB := Qx (Qp hB_ hb); clear hb hbox hg; obtain ⟨hcz19_0, hcz19_1, hfz19_0, hfz19_1⟩ := cellsQ2_g1b (w := w18) BK155.out) | (go_at_call 26; (with_reducible refine (spec_l1In.calls a0_0 0 4096 true _ A2.out).mono ?_); rintro e w' ⟨rfl, ⟨nd, rfl⟩⟩; (try first | exact ⟨rfl, _, World.drewN_drewN _ _ _⟩ | exact ⟨rfl, _, Eq.trans (World.drewN_drewN _ _ _) (congrArg (World.drewN _) (Nat.add_assoc _ _ _))⟩)) | (go_at_call 48; (with_reducible refine (spec_l1All.calls k _ _ l0_1 0 65535 false _ ?side1 ?side2 A5.out).mono ?_); (case side1 => exact kC_ HR0_1); (case side2 => exact HC0_1.out); rintro e w' ⟨rfl, ⟨nd, rfl⟩⟩; (try first | exact ⟨rfl, _, World.drewN_drewN _ _ _⟩ | exact ⟨rfl, _, Eq.trans (World.drewN_drewN _ _ _) (congrArg (World.drewN _) (Nat.add_assoc _ _ _))⟩))); try go_wp2_with (first | ((with_reducible refine gate_dst (N := 1) rfl ?_); (try (refine gate_guard (by rfl) ?_; dsimp only)); refine bx_ 1 #[.int .i64 a0_0, .slice A0_1 l0_1.length c0_1] 28 ?_; intro gb155 hg w18 hbox hb; have BK155 := Qx (hbox); have GW155 := Qx ((ge_ hg)); have GE155 := Qx ((ge_ hg)); replace HB := Qx (Qp hB_ hb); clear hb hbox hg; obtain ⟨hcz19_0, hcz19_1, hfz19_0, hfz19_1⟩ := cellsQ2_g1b (w := w18) BK155.out) | (go_at_call 26; (with_reducible refine (spec_l1In.calls a0_0 0 4096 true _ A2.out).mono ?_); rintro e w' ⟨rfl, ⟨nd, rfl⟩⟩; (try first | exact ⟨rfl, _, World.drewN_drewN _ _ _⟩ | exact ⟨rfl, _, Eq.trans (World.drewN_drewN _ _ _) (congrArg (World.drewN _) (Nat.add_assoc _ _ _))⟩)) | (go_at_call 48; (with_reducible refine (spec_l1All.calls k _ _ l0_1 0 65535 false _ ?side1 ?side2 A5.out).mono ?_); (case side1 => exact kC_ HR0_1); (case side2 => exact HC0_1.out); rintro e w' ⟨rfl, ⟨nd, rfl⟩⟩; (try first | exact ⟨rfl, _, World.drewN_drewN _ _ _⟩ | exact ⟨rfl, _, Eq.trans (World.drewN_drewN _ _ _) (congrArg (World.drewN _) (Nat.add_assoc _ _ _))⟩))))
     go_ret
     exact ⟨rf_, hB_⟩
   ·rw [if_neg c4] at H
    have c4b0 : ((l0_1.length : Int) == (wrap64 (Int.tdiv (wrap64 (a0_0 + 15)) 16))) = false := beq_eq_false_iff_ne.mpr c4
    have c4b1 : ((l0_1.length : Int) != (wrap64 (Int.tdiv (wrap64 (a0_0 + 15)) 16))) = true := bne_iff_ne.mpr c4
    obtain rfl := Option.some.inj H
    go_enter Try.func29, Try.ntmps29
    go_wp2_with (first | ((with_reducible refine gate_dst (N := 1) rfl ?_); (try (refine gate_guard (by rfl) ?_; dsimp only)); refine bx_ 1 #[.int .i64 a0_0, .slice A0_1 l0_1.length c0_1] 28 ?_; intro gb155 hg w20 hbox hb; have BK155 := Qx (hbox); have GW155 := Qx ((ge_ hg)); have GE155 := Qx ((ge_ hg)); replace HB := Qx (Qp hB_ hb); clear hb hbox hg; obtain ⟨hcz21_0, hcz21_1, hfz21_0, hfz21_1⟩ := cellsQ2_g1b (w := w20) BK155.out) | (go_at_call 26; (with_reducible refine (spec_l1In.calls a0_0 0 4096 true _ A2.out).mono ?_); rintro e w' ⟨rfl, ⟨nd, rfl⟩⟩; (try first | exact ⟨rfl, _, World.drewN_drewN _ _ _⟩ | exact ⟨rfl, _, Eq.trans (World.drewN_drewN _ _ _) (congrArg (World.drewN _) (Nat.add_assoc _ _ _))⟩)))
    repeat (go_quiet (first | ((with_reducible refine gate_dst (N := 1) rfl ?_); (try (refine gate_guard (by rfl) ?_; dsimp only)); refine bx_ 1 #[.int .i64 a0_0, .slice A0_1 l0_1.length c0_1] 28 ?_; intro gb155 hg w20 hbox hb; have BK155 := Qx (hbox); have GW155 := Qx ((ge_ hg)); have GE155 := Qx ((ge_ hg)); replace HB := Qx (Qp hB_ hb); clear hb hbox hg; obtain ⟨hcz21_0, hcz21_1, hfz21_0, hfz21_1⟩ := cellsQ2_g1b (w := w20) BK155.out) | (go_at_call 26; (with_reducible refine (spec_l1In.calls a0_0 0 4096 true _ A2.out).mono ?_); rintro e w' ⟨rfl, ⟨nd, rfl⟩⟩; (try first | exact ⟨rfl, _, World.drewN_drewN _ _ _⟩ | exact ⟨rfl, _, Eq.trans (World.drewN_drewN _ _ _) (congrArg (World.drewN _) (Nat.add_assoc _ _ _))⟩))); try go_wp2_with (first | ((with_reducible refine gate_dst (N := 1) rfl ?_); (try (refine gate_guard (by rfl) ?_; dsimp only)); refine bx_ 1 #[.int .i64 a0_0, .slice A0_1 l0_1.length c0_1] 28 ?_; intro gb155 hg w20 hbox hb; have BK155 := Qx (hbox); have GW155 := Qx ((ge_ hg)); have GE155 := Qx ((ge_ hg)); replace HB := Qx (Qp hB_ hb); clear hb hbox hg; obtain ⟨hcz21_0, hcz21_1, hfz21_0, hfz21_1⟩ := cellsQ2_g1b (w := w20) BK155.out) | (go_at_call 26; (with_reducible refine (spec_l1In.calls a0_0 0 4096 true _ A2.out).mono ?_); rintro e w' ⟨rfl, ⟨nd, rfl⟩⟩; (try first | exact ⟨rfl, _, World.drewN_drewN _ _ _⟩ | exact ⟨rfl, _, Eq.trans (World.drewN_drewN _ _ _) (congrArg (World.drewN _) (Nat.add_assoc _ _ _))⟩))))
    go_ret
    exact ⟨rf_, hB_⟩
  ·replace c3 := Bool.eq_false_iff.mpr c3; subst c3
   have H1 : (some false) = some r := by rw [if_neg (show ¬ (false = true) by decide)] at H; exact H
   clear H; have H := H1; clear H1; obtain rfl := Option.some.inj H
   go_enter Try.func29, Try.ntmps29
   go_wp2_with (first | ((with_reducible refine gate_dst (N := 1) rfl ?_); (try (refine gate_guard (by rfl) ?_; dsimp only)); refine bx_ 1 #[.int .i64 a0_0, .slice A0_1 l0_1.length c0_1] 28 ?_; intro gb155 hg w22 hbox hb; have BK155 := Qx (hbox); have GW155 := Qx ((ge_ hg)); have GE155 := Qx ((ge_ hg)); replace HB := Qx (Qp hB_ hb); clear hb hbox hg; obtain ⟨hcz23_0, hcz23_1, hfz23_0, hfz23_1⟩ := cellsQ2_g1b (w := w22) BK155.out) | (go_at_call 26; (with_reducible refine (spec_l1In.calls a0_0 0 4096 false _ A2.out).mono ?_); rintro e w' ⟨rfl, ⟨nd, rfl⟩⟩; (try first | exact ⟨rfl, _, World.drewN_drewN _ _ _⟩ | exact ⟨rfl, _, Eq.trans (World.drewN_drewN _ _ _) (congrArg (World.drewN _) (Nat.add_assoc _ _ _))⟩)))
   repeat (go_quiet (first | ((with_reducible refine gate_dst (N := 1) rfl ?_); (try (refine gate_guard (by rfl) ?_; dsimp only)); refine bx_ 1 #[.int .i64 a0_0, .slice A0_1 l0_1.length c0_1] 28 ?_; intro gb155 hg w22 hbox hb; have BK155 := Qx (hbox); have GW155 := Qx ((ge_ hg)); have GE155 := Qx ((ge_ hg)); replace HB := Qx (Qp hB_ hb); clear hb hbox hg; obtain ⟨hcz23_0, hcz23_1, hfz23_0, hfz23_1⟩ := cellsQ2_g1b (w := w22) BK155.out) | (go_at_call 26; (with_reducible refine (spec_l1In.calls a0_0 0 4096 false _ A2.out).mono ?_); rintro e w' ⟨rfl, ⟨nd, rfl⟩⟩; (try first | exact ⟨rfl, _, World.drewN_drewN _ _ _⟩ | exact ⟨rfl, _, Eq.trans (World.drewN_drewN _ _ _) (congrArg (World.drewN _) (Nat.add_assoc _ _ _))⟩))); try go_wp2_with (first | ((with_reducible refine gate_dst (N := 1) rfl ?_); (try (refine gate_guard (by rfl) ?_; dsimp only)); refine bx_ 1 #[.int .i64 a0_0, .slice A0_1 l0_1.length c0_1] 28 ?_; intro gb155 hg w22 hbox hb; have BK155 := Qx (hbox); have GW155 := Qx ((ge_ hg)); have GE155 := Qx ((ge_ hg)); replace HB := Qx (Qp hB_ hb); clear hb hbox hg; obtain ⟨hcz23_0, hcz23_1, hfz23_0, hfz23_1⟩ := cellsQ2_g1b (w := w22) BK155.out) | (go_at_call 26; (with_reducible refine (spec_l1In.calls a0_0 0 4096 false _ A2.out).mono ?_); rintro e w' ⟨rfl, ⟨nd, rfl⟩⟩; (try first | exact ⟨rfl, _, World.drewN_drewN _ _ _⟩ | exact ⟨rfl, _, Eq.trans (World.drewN_drewN _ _ _) (congrArg (World.drewN _) (Nat.add_assoc _ _ _))⟩))))
   go_ret
   exact ⟨rf_, hB_⟩
/-! ### spec_spSorted: function 30 -/
def spec_spSorted.l0 : Nat → List Int → Int → List Int → Int → Int → Option (Bool)
  | 0, _, _, _, _, _ => none
  | k + 1, x0, x1, x7, x8, x9 => if x9 < x8 then (if 0 ≤ x9 then (if x9 < (x7.length : Int) then ((spec_l1In.f (rd x7 x9) 0 (wrap64 (x1 - 1))).bind fun t160 => (if t160 = true then (if x9 > 0 then (if 0 ≤ (wrap64 (x9 - 1)) then (if (wrap64 (x9 - 1)) < (x0.length : Int) then (if (rd x0 (wrap64 (x9 - 1))) > (rd x7 x9) then (some false) else (spec_spSorted.l0 k x0 x1 x7 x8 (wrap64 (x9 + 1)))) else (none)) else (none)) else (spec_spSorted.l0 k x0 x1 x7 x8 (wrap64 (x9 + 1)))) else (some false))) else (none)) else (none)) else (if (x0.length : Int) ≤ 60 then ((spec_spLimit.f x1).bind fun t162 => (some t162)) else (some false))
def spec_spSorted.f (k : Nat) (l0 : List Int) (a1 : Int) : Option (Bool) := spec_spSorted.l0 k l0 a1 l0 (l0.length : Int) 0
theorem spec_spSorted.mono_l : ∀ k, (∀ y0 y1 y2 y3 y4, LeO (spec_spSorted.l0 k y0 y1 y2 y3 y4) (spec_spSorted.l0 (k + 1) y0 y1 y2 y3 y4))
  | 0 => fun _ _ _ _ _ r h => by simp [spec_spSorted.l0] at h
  | k + 1 => by
    have ih0 := spec_spSorted.mono_l k
    · intro y0 y1 y2 y3 y4
      unfold spec_spSorted.l0
      repeat' first
      | (with_reducible exact ih0 _ _ _ _ _)
      | (with_reducible exact LeO.refl _)
      | (with_reducible exact LeO.none _)
      | (with_reducible refine LeO.ite ?_ ?_)
      | (with_reducible refine LeO.bind ?_ (fun _ => ?_))
      | exact ih0 _ _ _ _ _
      | exact LeO.none _
      | refine LeO.ite ?_ ?_
      | refine LeO.bind ?_ (fun _ => ?_)
theorem spec_spSorted.mono : ∀ a0 a1 k, LeO (spec_spSorted.f k a0 a1) (spec_spSorted.f (k + 1) a0 a1) := by
  intro a0 a1 k
  have ih0 := spec_spSorted.mono_l k
  unfold spec_spSorted.f
  repeat' first
      | (with_reducible exact ih0 _ _ _ _ _)
      | (with_reducible exact LeO.refl _)
      | (with_reducible exact LeO.none _)
      | (with_reducible refine LeO.ite ?_ ?_)
      | (with_reducible refine LeO.bind ?_ (fun _ => ?_))
      | exact ih0 _ _ _ _ _
      | exact LeO.none _
      | refine LeO.ite ?_ ?_
      | refine LeO.bind ?_ (fun _ => ?_)
noncomputable def spec_spSorted.L0 (y0 : List Int) (y1 : Int) (y2 : List Int) (y3 : Int) (y4 : Int) : Option (Bool) := lim fun k => spec_spSorted.l0 k y0 y1 y2 y3 y4
theorem spec_spSorted.L0_sup (y0 : List Int) (y1 : Int) (y2 : List Int) (y3 : Int) (y4 : Int) : Sup (fun k => spec_spSorted.l0 k y0 y1 y2 y3 y4) (spec_spSorted.L0 y0 y1 y2 y3 y4) := Sup.of_mono fun k => spec_spSorted.mono_l k y0 y1 y2 y3 y4
noncomputable def spec_spSorted.F (l0 : List Int) (a1 : Int) : Option (Bool) := lim fun k => spec_spSorted.f k l0 a1
theorem spec_spSorted.F_sup (l0 : List Int) (a1 : Int) : Sup (fun k => spec_spSorted.f k l0 a1) (spec_spSorted.F l0 a1) := Sup.of_mono fun k => spec_spSorted.mono l0 a1 k
theorem spec_spSorted.L0_eq (x0 : List Int) (x1 : Int) (x7 : List Int) (x8 : Int) (x9 : Int) : spec_spSorted.L0 x0 x1 x7 x8 x9 = if x9 < x8 then (if 0 ≤ x9 then (if x9 < (x7.length : Int) then ((spec_l1In.f (rd x7 x9) 0 (wrap64 (x1 - 1))).bind fun t160 => (if t160 = true then (if x9 > 0 then (if 0 ≤ (wrap64 (x9 - 1)) then (if (wrap64 (x9 - 1)) < (x0.length : Int) then (if (rd x0 (wrap64 (x9 - 1))) > (rd x7 x9) then (some false) else (spec_spSorted.L0 x0 x1 x7 x8 (wrap64 (x9 + 1)))) else (none)) else (none)) else (spec_spSorted.L0 x0 x1 x7 x8 (wrap64 (x9 + 1)))) else (some false))) else (none)) else (none)) else (if (x0.length : Int) ≤ 60 then ((spec_spLimit.f x1).bind fun t162 => (some t162)) else (some false)) := by
  refine Sup.unique (spec_spSorted.L0_sup x0 x1 x7 x8 x9) (Sup.shift (fun k => spec_spSorted.mono_l k x0 x1 x7 x8 x9) (Sup.congr (g' := fun k => if x9 < x8 then (if 0 ≤ x9 then (if x9 < (x7.length : Int) then ((spec_l1In.f (rd x7 x9) 0 (wrap64 (x1 - 1))).bind fun t160 => (if t160 = true then (if x9 > 0 then (if 0 ≤ (wrap64 (x9 - 1)) then (if (wrap64 (x9 - 1)) < (x0.length : Int) then (if (rd x0 (wrap64 (x9 - 1))) > (rd x7 x9) then (some false) else (spec_spSorted.l0 k x0 x1 x7 x8 (wrap64 (x9 + 1)))) else (none)) else (none)) else (spec_spSorted.l0 k x0 x1 x7 x8 (wrap64 (x9 + 1)))) else (some false))) else (none)) else (none)) else (if (x0.length : Int) ≤ 60 then ((spec_spLimit.f x1).bind fun t162 => (some t162)) else (some false))) (fun k => by first | rfl | simp only [spec_spSorted.l0]) ?_))
  repeat' first
    | (with_reducible exact spec_spSorted.L0_sup _ _ _ _ _)
    | (with_reducible refine Sup.ite ?_ ?_)
    | (with_reducible refine Sup.bind ?_ (fun _ => ?_))
    | (with_reducible exact Sup.const _)
    | exact spec_spSorted.L0_sup _ _ _ _ _
    | exact Sup.const _
theorem spec_spSorted.F_eq (l0 : List Int) (a1 : Int) : spec_spSorted.F l0 a1 = spec_spSorted.L0 l0 a1 l0 (l0.length : Int) 0 := by
  refine Sup.unique (spec_spSorted.F_sup l0 a1) (Sup.congr (g' := fun k => spec_spSorted.l0 k l0 a1 l0 (l0.length : Int) 0) (fun k => by first | rfl | simp only [spec_spSorted.f]) ?_)
  repeat' first
    | (with_reducible exact spec_spSorted.L0_sup _ _ _ _ _)
    | (with_reducible refine Sup.ite ?_ ?_)
    | (with_reducible refine Sup.bind ?_ (fun _ => ?_))
    | (with_reducible exact Sup.const _)
    | exact spec_spSorted.L0_sup _ _ _ _ _
    | exact Sup.const _
set_option maxHeartbeats 8000000 in
set_option maxRecDepth 100000 in
theorem spec_spSorted.calls (k : Nat) (A0 : Option Addr) (c0 : Nat) (l0 : List Int) (a1 : Int) (r : Bool) (w : World) (hr0 : Kd.C (Kd.int .i64) w A0 l0.length l0) (hc0 : l0.length ≤ c0) (h : spec_spSorted.f k l0 a1 = some r) :
    Calls Try.prog 30 #[.slice A0 l0.length c0, .int .i64 a1] w fun e w' => e = .returned (.bool r) ∧ Drawn0 w w' := by
  have HR0 := Qx hr0; have HC0 := Qx hc0; clear hr0 hc0
  have H : (spec_spSorted.l0 k l0 a1 l0 (l0.length : Int) 0) = some r := h
  clear h; have H' := Qx H; clear H
  go_enter Try.func30, Try.ntmps30
  go_wp2
  go_loopg [9] k (fun kq v9 w' => ∃ (x9_1 : Int), v9 = .int .i64 x9_1 ∧ Aside0 (spec_spSorted.l0 kq l0 a1 l0 (l0.length : Int) x9_1 = some r) ∧ Aside0 (kq ≤ k) ∧ Drawn0 w w')
  case atStart => exact ⟨(0), rg_, H', ⟨Nat.le_refl _⟩, by repeat (first | exact Drawn0.refl _ | apply Drawn0.step)⟩
  case round =>
   clear H'
   try clear p2
   obtain ⟨x9_1, rfl, HA, HK1, ⟨m1, rfl⟩⟩ := hrel
   cases gk with
   | zero => exact absurd HA.out (by simp [spec_spSorted.l0])
   | succ k1 =>
    have H := HA.out; clear HA; simp only [spec_spSorted.l0] at H
    by_cases c3 : x9_1 < (l0.length : Int)
    ·rw [if_pos c3] at H
     have c3b0 : decide (x9_1 < (l0.length : Int)) = true := decide_eq_true c3
     clear c3
     by_cases c4 : 0 ≤ x9_1
     ·rw [if_pos c4] at H
      have c4b0 : decide (0 ≤ x9_1) = true := decide_eq_true c4
      clear c4
      by_cases c5 : x9_1 < (l0.length : Int)
      ·rw [if_pos c5] at H
       have c5b0 : decide (x9_1 < (l0.length : Int)) = true := decide_eq_true c5
       clear c5; replace H := Option.bind_eq_some_iff.mp H; obtain ⟨t160, A60, H⟩ := H
       have A6 := Qx A60; clear A60
       by_cases c7 : t160 = true
       ·subst c7
        have H1 : (if x9_1 > 0 then (if 0 ≤ (wrap64 (x9_1 - 1)) then (if (wrap64 (x9_1 - 1)) < (l0.length : Int) then (if (rd l0 (wrap64 (x9_1 - 1))) > (rd l0 x9_1) then (some false) else (spec_spSorted.l0 k1 l0 a1 l0 (l0.length : Int) (wrap64 (x9_1 + 1)))) else (none)) else (none)) else (spec_spSorted.l0 k1 l0 a1 l0 (l0.length : Int) (wrap64 (x9_1 + 1)))) = some r := by rw [if_pos rfl] at H; exact H
        clear H; have H := H1; clear H1
        by_cases c8 : x9_1 > 0
        ·rw [if_pos c8] at H
         have c8b0 : decide (0 < x9_1) = true := decide_eq_true c8
         clear c8
         obtain ⟨ji9, hji9⟩ : ∃ j_ : Int, (wrap64 (x9_1 - 1)) = j_ := ⟨_, rfl⟩
         replace H : (if 0 ≤ (ji9) then (if (ji9) < (l0.length : Int) then (if (rd l0 (ji9)) > (rd l0 x9_1) then (some false) else (spec_spSorted.l0 k1 l0 a1 l0 (l0.length : Int) (wrap64 (x9_1 + 1)))) else (none)) else (none)) = some r := by first | (rw [hji9] at H; exact H) | (simp only [hji9] at H ⊢; exact H)
         (try rw [hji9] at A6)
         have hji9w : (IntKind.i64.wrap (x9_1 - 1)) = ji9 := (i64_w _).trans hji9
         by_cases c10 : 0 ≤ (ji9)
         ·rw [if_pos c10] at H
          have c10b0 : decide (0 ≤ (ji9)) = true := decide_eq_true c10
          clear c10
          by_cases c11 : (ji9) < (l0.length : Int)
          ·rw [if_pos c11] at H
           have c11b0 : decide ((ji9) < (l0.length : Int)) = true := decide_eq_true c11
           clear c11
           by_cases c12 : (rd l0 (ji9)) > (rd l0 x9_1)
           ·rw [if_pos c12] at H
            have c12b0 : decide ((rd l0 x9_1) < (rd l0 (ji9))) = true := decide_eq_true c12
            clear c12; obtain rfl := Option.some.inj H
            have p159 : 0 ≤ (x9_1 : Int) := of_decide_eq_true as_
            have q159 : x9_1 < (l0.length : Int) := of_decide_eq_true as_
            obtain ⟨ad159, e159, hx159_0⟩ := Kd.at_int HR0.out x9_1 p159 q159
            cases e159
            replace p159 := eq_true p159; replace q159 := eq_true q159
            go_wp2_with (first | ((with_reducible refine gate_callee (f := 26) rfl ?_); refine gl_ 17 Try.func26 #[.int .i64 (rd l0 x9_1), .int .i64 0, .int .i64 (wrap64 (a1 - 1))] ?_; (with_reducible refine (spec_l1In.calls (rd l0 x9_1) 0 (wrap64 (a1 - 1)) true _ A6.out).mono ?_); rintro e w' ⟨rfl, ⟨nd, rfl⟩⟩; refine ⟨_, rfl, ?_⟩; have p161 : 0 ≤ ((ji9) : Int) := of_decide_eq_true as_; have q161 : (ji9) < (l0.length : Int) := of_decide_eq_true as_; obtain ⟨ad161, e161, hx161_0⟩ := Kd.at_int HR0.out (ji9) p161 q161; obtain rfl : ad159 = ad161 := (by injection e161); replace p161 := eq_true p161; replace q161 := eq_true q161))
            go_ret
            exact ⟨by first | rfl | (simp; done) | (simp only [← hji9] <;> (first | rfl | simp)) | (simp [*]; done), by repeat (first | exact Drawn0.refl _ | apply Drawn0.step)⟩
           ·rw [if_neg c12] at H
            have c12b0 : decide ((rd l0 x9_1) < (rd l0 (ji9))) = false := decide_eq_false c12
            clear c12; have H' := Qx H; clear H
            have p159 : 0 ≤ (x9_1 : Int) := of_decide_eq_true as_
            have q159 : x9_1 < (l0.length : Int) := of_decide_eq_true as_
            obtain ⟨ad159, e159, hx159_0⟩ := Kd.at_int HR0.out x9_1 p159 q159
            cases e159
            replace p159 := eq_true p159; replace q159 := eq_true q159
            go_wp2_with (first | ((with_reducible refine gate_callee (f := 26) rfl ?_); refine gl_ 17 Try.func26 #[.int .i64 (rd l0 x9_1), .int .i64 0, .int .i64 (wrap64 (a1 - 1))] ?_; (with_reducible refine (spec_l1In.calls (rd l0 x9_1) 0 (wrap64 (a1 - 1)) true _ A6.out).mono ?_); rintro e w' ⟨rfl, ⟨nd, rfl⟩⟩; refine ⟨_, rfl, ?_⟩; have p161 : 0 ≤ ((ji9) : Int) := of_decide_eq_true as_; have q161 : (ji9) < (l0.length : Int) := of_decide_eq_true as_; obtain ⟨ad161, e161, hx161_0⟩ := Kd.at_int HR0.out (ji9) p161 q161; obtain rfl : ad159 = ad161 := (by injection e161); replace p161 := eq_true p161; replace q161 := eq_true q161))
            go_roundg k1
            case measure => have := HK1.out; omega
            case rel => exact ⟨(wrap64 (x9_1 + 1)), rg_, H', ⟨by have := HK1.out; omega⟩, by repeat (first | exact Drawn0.refl _ | apply Drawn0.step)⟩
          ·rw [if_neg c11] at H
           exact absurd H (by simp)
         ·rw [if_neg c10] at H
          exact absurd H (by simp)
        ·rw [if_neg c8] at H
         have c8b0 : decide (0 < x9_1) = false := decide_eq_false c8
         clear c8; have H' := Qx H; clear H
         have p159 : 0 ≤ (x9_1 : Int) := of_decide_eq_true as_
         have q159 : x9_1 < (l0.length : Int) := of_decide_eq_true as_
         obtain ⟨ad159, e159, hx159_0⟩ := Kd.at_int HR0.out x9_1 p159 q159
         cases e159
         replace p159 := eq_true p159; replace q159 := eq_true q159
         go_wp2_with (first | ((with_reducible refine gate_callee (f := 26) rfl ?_); refine gl_ 17 Try.func26 #[.int .i64 (rd l0 x9_1), .int .i64 0, .int .i64 (wrap64 (a1 - 1))] ?_; (with_reducible refine (spec_l1In.calls (rd l0 x9_1) 0 (wrap64 (a1 - 1)) true _ A6.out).mono ?_); rintro e w' ⟨rfl, ⟨nd, rfl⟩⟩; refine ⟨_, rfl, ?_⟩))
         go_roundg k1
         case measure => have := HK1.out; omega
         case rel => exact ⟨(wrap64 (x9_1 + 1)), rg_, H', ⟨by have := HK1.out; omega⟩, by repeat (first | exact Drawn0.refl _ | apply Drawn0.step)⟩
       ·replace c7 := Bool.eq_false_iff.mpr c7; subst c7
        have H1 : (some false) = some r := by rw [if_neg (show ¬ (false = true) by decide)] at H; exact H
        clear H; have H := H1; clear H1; obtain rfl := Option.some.inj H
        have p159 : 0 ≤ (x9_1 : Int) := of_decide_eq_true as_
        have q159 : x9_1 < (l0.length : Int) := of_decide_eq_true as_
        obtain ⟨ad159, e159, hx159_0⟩ := Kd.at_int HR0.out x9_1 p159 q159
        cases e159
        replace p159 := eq_true p159; replace q159 := eq_true q159
        go_wp2_with (first | ((with_reducible refine gate_callee (f := 26) rfl ?_); refine gl_ 17 Try.func26 #[.int .i64 (rd l0 x9_1), .int .i64 0, .int .i64 (wrap64 (a1 - 1))] ?_; (with_reducible refine (spec_l1In.calls (rd l0 x9_1) 0 (wrap64 (a1 - 1)) false _ A6.out).mono ?_); rintro e w' ⟨rfl, ⟨nd, rfl⟩⟩; refine ⟨_, rfl, ?_⟩))
        go_ret
        exact ⟨rg_, by repeat (first | exact Drawn0.refl _ | apply Drawn0.step)⟩
      ·rw [if_neg c5] at H
       exact absurd H (by simp)
     ·rw [if_neg c4] at H
      exact absurd H (by simp)
    ·rw [if_neg c3] at H
     have c3b0 : decide (x9_1 < (l0.length : Int)) = false := decide_eq_false c3
     clear c3
     by_cases c13 : (l0.length : Int) ≤ 60
     ·rw [if_pos c13] at H
      have c13b0 : decide ((l0.length : Int) ≤ 60) = true := decide_eq_true c13
      have c13b1 : decide (l0.length ≤ 60) = true := decide_eq_true (by omega)
      clear c13; replace H := Option.bind_eq_some_iff.mp H; obtain ⟨t162, A140, H⟩ := H
      have A14 := Qx A140; clear A140; obtain rfl := Option.some.inj H
      go_wp2_with (first | (go_at_call 27; (with_reducible refine (spec_spLimit.calls a1 t162 _ A14.out).mono ?_); rintro e w' ⟨rfl, ⟨nd, rfl⟩⟩))
      go_ret
      exact ⟨rg_, by repeat (first | exact Drawn0.refl _ | apply Drawn0.step)⟩
     ·rw [if_neg c13] at H
      have c13b0 : decide ((l0.length : Int) ≤ 60) = false := decide_eq_false c13
      have c13b1 : decide (l0.length ≤ 60) = false := decide_eq_false (by omega)
      clear c13; obtain rfl := Option.some.inj H
      go_wp2
      go_ret
      exact ⟨rg_, by repeat (first | exact Drawn0.refl _ | apply Drawn0.step)⟩
/-! ### spec_l1Same: function 49 -/
def spec_l1Same.l0 : Nat → List Int → List Int → Int → Int → Option (Bool)
  | 0, _, _, _, _ => none
  | k + 1, x0, x1, x12, x13 => if x13 < x12 then (if 0 ≤ x13 then (if x13 < (x0.length : Int) then (if x13 < (x1.length : Int) then (if (rd x0 x13) = (rd x1 x13) then (spec_l1Same.l0 k x0 x1 x12 (wrap64 (x13 + 1))) else (some false)) else (none)) else (none)) else (none)) else (some true)
def spec_l1Same.f (k : Nat) (l0 : List Int) (l1 : List Int) : Option (Bool) := if (l0.length : Int) = (l1.length : Int) then (spec_l1Same.l0 k l0 l1 (l0.length : Int) 0) else (some false)
theorem spec_l1Same.mono_l : ∀ k, (∀ y0 y1 y2 y3, LeO (spec_l1Same.l0 k y0 y1 y2 y3) (spec_l1Same.l0 (k + 1) y0 y1 y2 y3))
  | 0 => fun _ _ _ _ r h => by simp [spec_l1Same.l0] at h
  | k + 1 => by
    have ih0 := spec_l1Same.mono_l k
    · intro y0 y1 y2 y3
      unfold spec_l1Same.l0
      repeat' first
      | (with_reducible exact ih0 _ _ _ _)
      | (with_reducible exact LeO.refl _)
      | (with_reducible exact LeO.none _)
      | (with_reducible refine LeO.ite ?_ ?_)
      | (with_reducible refine LeO.bind ?_ (fun _ => ?_))
      | exact ih0 _ _ _ _
      | exact LeO.none _
      | refine LeO.ite ?_ ?_
      | refine LeO.bind ?_ (fun _ => ?_)
theorem spec_l1Same.mono : ∀ a0 a1 k, LeO (spec_l1Same.f k a0 a1) (spec_l1Same.f (k + 1) a0 a1) := by
  intro a0 a1 k
  have ih0 := spec_l1Same.mono_l k
  unfold spec_l1Same.f
  repeat' first
      | (with_reducible exact ih0 _ _ _ _)
      | (with_reducible exact LeO.refl _)
      | (with_reducible exact LeO.none _)
      | (with_reducible refine LeO.ite ?_ ?_)
      | (with_reducible refine LeO.bind ?_ (fun _ => ?_))
      | exact ih0 _ _ _ _
      | exact LeO.none _
      | refine LeO.ite ?_ ?_
      | refine LeO.bind ?_ (fun _ => ?_)
noncomputable def spec_l1Same.L0 (y0 : List Int) (y1 : List Int) (y2 : Int) (y3 : Int) : Option (Bool) := lim fun k => spec_l1Same.l0 k y0 y1 y2 y3
theorem spec_l1Same.L0_sup (y0 : List Int) (y1 : List Int) (y2 : Int) (y3 : Int) : Sup (fun k => spec_l1Same.l0 k y0 y1 y2 y3) (spec_l1Same.L0 y0 y1 y2 y3) := Sup.of_mono fun k => spec_l1Same.mono_l k y0 y1 y2 y3
noncomputable def spec_l1Same.F (l0 : List Int) (l1 : List Int) : Option (Bool) := lim fun k => spec_l1Same.f k l0 l1
theorem spec_l1Same.F_sup (l0 : List Int) (l1 : List Int) : Sup (fun k => spec_l1Same.f k l0 l1) (spec_l1Same.F l0 l1) := Sup.of_mono fun k => spec_l1Same.mono l0 l1 k
theorem spec_l1Same.L0_eq (x0 : List Int) (x1 : List Int) (x12 : Int) (x13 : Int) : spec_l1Same.L0 x0 x1 x12 x13 = if x13 < x12 then (if 0 ≤ x13 then (if x13 < (x0.length : Int) then (if x13 < (x1.length : Int) then (if (rd x0 x13) = (rd x1 x13) then (spec_l1Same.L0 x0 x1 x12 (wrap64 (x13 + 1))) else (some false)) else (none)) else (none)) else (none)) else (some true) := by
  refine Sup.unique (spec_l1Same.L0_sup x0 x1 x12 x13) (Sup.shift (fun k => spec_l1Same.mono_l k x0 x1 x12 x13) (Sup.congr (g' := fun k => if x13 < x12 then (if 0 ≤ x13 then (if x13 < (x0.length : Int) then (if x13 < (x1.length : Int) then (if (rd x0 x13) = (rd x1 x13) then (spec_l1Same.l0 k x0 x1 x12 (wrap64 (x13 + 1))) else (some false)) else (none)) else (none)) else (none)) else (some true)) (fun k => by first | rfl | simp only [spec_l1Same.l0]) ?_))
  repeat' first
    | (with_reducible exact spec_l1Same.L0_sup _ _ _ _)
    | (with_reducible refine Sup.ite ?_ ?_)
    | (with_reducible refine Sup.bind ?_ (fun _ => ?_))
    | (with_reducible exact Sup.const _)
    | exact spec_l1Same.L0_sup _ _ _ _
    | exact Sup.const _
theorem spec_l1Same.F_eq (l0 : List Int) (l1 : List Int) : spec_l1Same.F l0 l1 = if (l0.length : Int) = (l1.length : Int) then (spec_l1Same.L0 l0 l1 (l0.length : Int) 0) else (some false) := by
  refine Sup.unique (spec_l1Same.F_sup l0 l1) (Sup.congr (g' := fun k => if (l0.length : Int) = (l1.length : Int) then (spec_l1Same.l0 k l0 l1 (l0.length : Int) 0) else (some false)) (fun k => by first | rfl | simp only [spec_l1Same.f]) ?_)
  repeat' first
    | (with_reducible exact spec_l1Same.L0_sup _ _ _ _)
    | (with_reducible refine Sup.ite ?_ ?_)
    | (with_reducible refine Sup.bind ?_ (fun _ => ?_))
    | (with_reducible exact Sup.const _)
    | exact spec_l1Same.L0_sup _ _ _ _
    | exact Sup.const _
set_option maxHeartbeats 8000000 in
set_option maxRecDepth 100000 in
theorem spec_l1Same.calls (k : Nat) (A0 : Option Addr) (c0 : Nat) (l0 : List Int) (A1 : Option Addr) (c1 : Nat) (l1 : List Int) (r : Bool) (w : World) (hr0 : Kd.C (Kd.int .i64) w A0 l0.length l0) (hc0 : l0.length ≤ c0) (hr1 : Kd.C (Kd.int .i64) w A1 l1.length l1) (hc1 : l1.length ≤ c1) (h : spec_l1Same.f k l0 l1 = some r) :
    Calls Try.prog 49 #[.slice A0 l0.length c0, .slice A1 l1.length c1] w fun e w' => e = .returned (.bool r) ∧ Drawn0 w w' := by
  have HR0 := Qx hr0; have HC0 := Qx hc0; clear hr0 hc0; have HR1 := Qx hr1; have HC1 := Qx hc1; clear hr1 hc1
  have H : (if (l0.length : Int) = (l1.length : Int) then (spec_l1Same.l0 k l0 l1 (l0.length : Int) 0) else (some false)) = some r := h
  clear h
  by_cases c3 : (l0.length : Int) = (l1.length : Int)
  ·rw [if_pos c3] at H
   have c3b0 : ((l0.length : Int) == (l1.length : Int)) = true := beq_iff_eq.mpr c3
   have c3b1 : ((l0.length : Int) != (l1.length : Int)) = false := bne_eq_false_iff_eq.mpr c3
   have c3b2 : (l0.length == l1.length) = true := by first | simpa using c3 | (simp at c3 ⊢; omega)
   clear c3; have H' := Qx H; clear H
   go_enter Try.func49, Try.ntmps49
   go_wp2
   repeat (go_quiet (fail); try go_wp2)
   go_loopg [13] k (fun kq v13 w' => ∃ (x13_1 : Int), v13 = .int .i64 x13_1 ∧ Aside0 (spec_l1Same.l0 kq l0 l1 (l0.length : Int) x13_1 = some r) ∧ Aside0 (kq ≤ k) ∧ Drawn0 w w')
   case atStart => exact ⟨(0), rg_, H', ⟨Nat.le_refl _⟩, by repeat (first | exact Drawn0.refl _ | apply Drawn0.step)⟩
   case round =>
    clear H'
    try clear c1
    try clear p2
    try clear c3
    try clear c3b0
    try clear c3b1
    try clear c3b2
    obtain ⟨x13_1, rfl, HA, HK1, ⟨m1, rfl⟩⟩ := hrel
    cases gk with
    | zero => exact absurd HA.out (by simp [spec_l1Same.l0])
    | succ k1 =>
     have H := HA.out; clear HA; simp only [spec_l1Same.l0] at H
     by_cases c4 : x13_1 < (l0.length : Int)
     ·rw [if_pos c4] at H
      have c4b0 : decide (x13_1 < (l0.length : Int)) = true := decide_eq_true c4
      clear c4
      by_cases c5 : 0 ≤ x13_1
      ·rw [if_pos c5] at H
       have c5b0 : decide (0 ≤ x13_1) = true := decide_eq_true c5
       clear c5
       by_cases c6 : x13_1 < (l0.length : Int)
       ·rw [if_pos c6] at H
        have c6b0 : decide (x13_1 < (l0.length : Int)) = true := decide_eq_true c6
        clear c6
        by_cases c7 : x13_1 < (l1.length : Int)
        ·rw [if_pos c7] at H
         have c7b0 : decide (x13_1 < (l1.length : Int)) = true := decide_eq_true c7
         clear c7
         by_cases c8 : (rd l0 x13_1) = (rd l1 x13_1)
         ·rw [if_pos c8] at H
          have c8b0 : ((rd l0 x13_1) == (rd l1 x13_1)) = true := beq_iff_eq.mpr c8
          have c8b1 : ((rd l0 x13_1) != (rd l1 x13_1)) = false := bne_eq_false_iff_eq.mpr c8
          clear c8; have H' := Qx H; clear H
          have p163 : 0 ≤ (x13_1 : Int) := of_decide_eq_true as_
          have q163 : x13_1 < (l0.length : Int) := of_decide_eq_true as_
          obtain ⟨ad163, e163, hx163_0⟩ := Kd.at_int HR0.out x13_1 p163 q163
          cases e163
          replace p163 := eq_true p163; replace q163 := eq_true q163
          have p164 : 0 ≤ (x13_1 : Int) := of_decide_eq_true as_
          have q164 : x13_1 < (l1.length : Int) := of_decide_eq_true as_
          obtain ⟨ad164, e164, hx164_0⟩ := Kd.at_int HR1.out x13_1 p164 q164
          cases e164
          replace p164 := eq_true p164; replace q164 := eq_true q164
          go_wp2
          repeat (go_quiet (fail); try go_wp2)
          go_roundg k1
          case measure => have := HK1.out; omega
          case rel => exact ⟨(wrap64 (x13_1 + 1)), rg_, H', ⟨by have := HK1.out; omega⟩, by repeat (first | exact Drawn0.refl _ | apply Drawn0.step)⟩
         ·rw [if_neg c8] at H
          have c8b0 : ((rd l0 x13_1) == (rd l1 x13_1)) = false := beq_eq_false_iff_ne.mpr c8
          have c8b1 : ((rd l0 x13_1) != (rd l1 x13_1)) = true := bne_iff_ne.mpr c8
          obtain rfl := Option.some.inj H
          have p163 : 0 ≤ (x13_1 : Int) := of_decide_eq_true as_
          have q163 : x13_1 < (l0.length : Int) := of_decide_eq_true as_
          obtain ⟨ad163, e163, hx163_0⟩ := Kd.at_int HR0.out x13_1 p163 q163
          cases e163
          replace p163 := eq_true p163; replace q163 := eq_true q163
          have p164 : 0 ≤ (x13_1 : Int) := of_decide_eq_true as_
          have q164 : x13_1 < (l1.length : Int) := of_decide_eq_true as_
          obtain ⟨ad164, e164, hx164_0⟩ := Kd.at_int HR1.out x13_1 p164 q164
          cases e164
          replace p164 := eq_true p164; replace q164 := eq_true q164
          go_wp2
          repeat (go_quiet (fail); try go_wp2)
          go_ret
          exact ⟨rg_, by repeat (first | exact Drawn0.refl _ | apply Drawn0.step)⟩
        ·rw [if_neg c7] at H
         exact absurd H (by simp)
       ·rw [if_neg c6] at H
        exact absurd H (by simp)
      ·rw [if_neg c5] at H
       exact absurd H (by simp)
     ·rw [if_neg c4] at H
      have c4b0 : decide (x13_1 < (l0.length : Int)) = false := decide_eq_false c4
      clear c4; obtain rfl := Option.some.inj H
      go_wp2
      repeat (go_quiet (fail); try go_wp2)
      go_ret
      exact ⟨rg_, by repeat (first | exact Drawn0.refl _ | apply Drawn0.step)⟩
  ·rw [if_neg c3] at H
   have c3b0 : ((l0.length : Int) == (l1.length : Int)) = false := beq_eq_false_iff_ne.mpr c3
   have c3b1 : ((l0.length : Int) != (l1.length : Int)) = true := bne_iff_ne.mpr c3
   have c3b2 : (l0.length == l1.length) = false := by first | simpa using c3 | (simp at c3 ⊢; omega)
   obtain rfl := Option.some.inj H
   go_enter Try.func49, Try.ntmps49
   go_wp2
   repeat (go_quiet (fail); try go_wp2)
   go_ret
   exact ⟨rg_, by repeat (first | exact Drawn0.refl _ | apply Drawn0.step)⟩
/-! ### spec_biSame: function 31 -/
def spec_biSame.f (k : Nat) (a0_0 : Int) (l0_1 : List Int) (a1_0 : Int) (l1_1 : List Int) : Option (Bool) := if a0_0 = a1_0 then ((spec_l1Same.f k l0_1 l1_1).bind fun t167 => (some t167)) else (some false)
theorem spec_biSame.mono : ∀ a0 a1 a2 a3 k, LeO (spec_biSame.f k a0 a1 a2 a3) (spec_biSame.f (k + 1) a0 a1 a2 a3) := by
  intro a0 a1 a2 a3 k
  unfold spec_biSame.f
  repeat' first
      | (with_reducible exact spec_l1Same.mono _ _ _)
      | (with_reducible exact LeO.refl _)
      | (with_reducible exact LeO.none _)
      | (with_reducible refine LeO.ite ?_ ?_)
      | (with_reducible refine LeO.bind ?_ (fun _ => ?_))
      | exact spec_l1Same.mono _ _ _
      | exact LeO.none _
      | refine LeO.ite ?_ ?_
      | refine LeO.bind ?_ (fun _ => ?_)
noncomputable def spec_biSame.F (a0_0 : Int) (l0_1 : List Int) (a1_0 : Int) (l1_1 : List Int) : Option (Bool) := lim fun k => spec_biSame.f k a0_0 l0_1 a1_0 l1_1
theorem spec_biSame.F_sup (a0_0 : Int) (l0_1 : List Int) (a1_0 : Int) (l1_1 : List Int) : Sup (fun k => spec_biSame.f k a0_0 l0_1 a1_0 l1_1) (spec_biSame.F a0_0 l0_1 a1_0 l1_1) := Sup.of_mono fun k => spec_biSame.mono a0_0 l0_1 a1_0 l1_1 k
theorem spec_biSame.F_eq (a0_0 : Int) (l0_1 : List Int) (a1_0 : Int) (l1_1 : List Int) : spec_biSame.F a0_0 l0_1 a1_0 l1_1 = if a0_0 = a1_0 then ((spec_l1Same.F l0_1 l1_1).bind fun t167 => (some t167)) else (some false) := by
  refine Sup.unique (spec_biSame.F_sup a0_0 l0_1 a1_0 l1_1) (Sup.congr (g' := fun k => if a0_0 = a1_0 then ((spec_l1Same.f k l0_1 l1_1).bind fun t167 => (some t167)) else (some false)) (fun k => by first | rfl | simp only [spec_biSame.f]) ?_)
  repeat' first
    | (with_reducible exact spec_l1Same.F_sup _ _)
    | (with_reducible refine Sup.ite ?_ ?_)
    | (with_reducible refine Sup.bind ?_ (fun _ => ?_))
    | (with_reducible exact Sup.const _)
    | exact spec_l1Same.F_sup _ _
    | exact Sup.const _
set_option maxHeartbeats 8000000 in
set_option maxRecDepth 100000 in
theorem spec_biSame.calls (k : Nat) (a0_0 : Int) (A0_1 : Option Addr) (c0_1 : Nat) (l0_1 : List Int) (a1_0 : Int) (A1_1 : Option Addr) (c1_1 : Nat) (l1_1 : List Int) (r : Bool) (w : World) (hr0_1 : Kd.C (Kd.int .i64) w A0_1 l0_1.length l0_1) (hc0_1 : l0_1.length ≤ c0_1) (hr1_1 : Kd.C (Kd.int .i64) w A1_1 l1_1.length l1_1) (hc1_1 : l1_1.length ≤ c1_1) (h : spec_biSame.f k a0_0 l0_1 a1_0 l1_1 = some r) :
    Calls Try.prog 31 #[.agg #[.int .i64 a0_0, .slice A0_1 l0_1.length c0_1], .agg #[.int .i64 a1_0, .slice A1_1 l1_1.length c1_1]] w fun e w' => e = .returned (.bool r) ∧ Below w.heap.size w w' := by
  have hu28 := Try.underlying28; have hu22 := Try.underlying22; have HR0_1 := Qx hr0_1; have HC0_1 := Qx hc0_1; clear hr0_1 hc0_1; have HR1_1 := Qx hr1_1; have HC1_1 := Qx hc1_1; clear hr1_1 hc1_1
  have HB := Qx (Below.refl w.heap.size w)
  have H : (if a0_0 = a1_0 then ((spec_l1Same.f k l0_1 l1_1).bind fun t167 => (some t167)) else (some false)) = some r := h
  clear h
  by_cases c3 : a0_0 = a1_0
  ·rw [if_pos c3] at H
   have c3b0 : (a0_0 == a1_0) = true := beq_iff_eq.mpr c3
   have c3b1 : (a0_0 != a1_0) = false := bne_eq_false_iff_eq.mpr c3
   clear c3; replace H := Option.bind_eq_some_iff.mp H; obtain ⟨t167, A40, H⟩ := H
   have A4 := Qx A40; clear A40; obtain rfl := Option.some.inj H
   go_enter Try.func31, Try.ntmps31
   go_wp2_with (first | ((with_reducible refine gate_dst (N := 2) rfl ?_); refine bx_ 2 #[.int .i64 a0_0, .slice A0_1 l0_1.length c0_1] 28 ?_; intro gb165 hg w5 hbox hb; have BK165 := Qx (hbox); have GW165 := Qx ((ge_ hg)); have GE165 := Qx ((ge_ hg)); replace HB := Qx (Qp hB_ hb); clear hb hbox hg) | ((with_reducible refine gate_dst (N := 3) rfl ?_); refine bx_ 3 #[.int .i64 a1_0, .slice A1_1 l1_1.length c1_1] 28 ?_; intro gb166 hg w6 hbox hb; have BK166 := Qx (hbox); have GW166 := Qx ((ge_ hg)); have GE166 := Qx ((ge_ hg)); replace HB := Qx (Qp hB_ hb); have NB165_166 := Qx ((ne_ hg BK165)); have NB166_165 := Qx ((nf_ hg BK165)); replace BK165 := Qx (Qb (kB_ BK165) hb); clear hb hbox hg; have hnb7 := NB165_166.out; have hnc7 := NB166_165.out; obtain ⟨hcz8_0, hcz8_1, hfz8_0, hfz8_1⟩ := cellsQ2_g1b (w := w6) BK165.out; obtain ⟨hcz9_0, hcz9_1, hfz9_0, hfz9_1⟩ := cellsQ2_g1b (w := w6) BK166.out) | (go_at_call 49; (with_reducible refine (spec_l1Same.calls k _ _ l0_1 _ _ l1_1 t167 _ ?side1 ?side2 ?side3 ?side4 A4.out).mono ?_); (case side1 => exact kC_ HR0_1); (case side2 => exact HC0_1.out); (case side3 => exact kC_ HR1_1); (case side4 => exact HC1_1.out); rintro e w' ⟨rfl, ⟨nd, rfl⟩⟩))
   go_ret
   exact ⟨rf_, hB_⟩
  ·rw [if_neg c3] at H
   have c3b0 : (a0_0 == a1_0) = false := beq_eq_false_iff_ne.mpr c3
   have c3b1 : (a0_0 != a1_0) = true := bne_iff_ne.mpr c3
   obtain rfl := Option.some.inj H
   go_enter Try.func31, Try.ntmps31
   go_wp2_with (first | ((with_reducible refine gate_dst (N := 2) rfl ?_); refine bx_ 2 #[.int .i64 a0_0, .slice A0_1 l0_1.length c0_1] 28 ?_; intro gb165 hg w10 hbox hb; have BK165 := Qx (hbox); have GW165 := Qx ((ge_ hg)); have GE165 := Qx ((ge_ hg)); replace HB := Qx (Qp hB_ hb); clear hb hbox hg) | ((with_reducible refine gate_dst (N := 3) rfl ?_); refine bx_ 3 #[.int .i64 a1_0, .slice A1_1 l1_1.length c1_1] 28 ?_; intro gb166 hg w11 hbox hb; have BK166 := Qx (hbox); have GW166 := Qx ((ge_ hg)); have GE166 := Qx ((ge_ hg)); replace HB := Qx (Qp hB_ hb); have NB165_166 := Qx ((ne_ hg BK165)); have NB166_165 := Qx ((nf_ hg BK165)); replace BK165 := Qx (Qb (kB_ BK165) hb); clear hb hbox hg; have hnb12 := NB165_166.out; have hnc12 := NB166_165.out; obtain ⟨hcz13_0, hcz13_1, hfz13_0, hfz13_1⟩ := cellsQ2_g1b (w := w11) BK165.out; obtain ⟨hcz14_0, hcz14_1, hfz14_0, hfz14_1⟩ := cellsQ2_g1b (w := w11) BK166.out))
   go_ret
   exact ⟨rf_, hB_⟩
/-! ### spec_spGood: function 12 -/
mutual
def spec_spGood.j0 : Nat → Bool → Int → Int → Int → Int → List Int → Int → List Int → Option (Bool)
  | 0, _, _, _, _, _, _, _, _ => none
  | k + 1, x24, x169000, x169001, x169002, x169003, x169004, x169005, x169006 => if x24 = true then (some false) else ((spec_biGood.f k x169003 x169004).bind fun t172 => (if t172 = true then ((spec_biGood.f k x169005 x169006).bind fun t173 => (if t173 = true then (if x169003 = (wrap64 (x169000 * x169002)) then (if 0 ≤ x169002 then (spec_spGood.j1 k (x169005 != (wrap64 ((wrap64 (x169000 + (shr .i64 (wrap64 (x169001 - 1)) x169002))) + 1))) x169000 x169001 x169002 x169003 x169004 x169005 x169006) else (none)) else (spec_spGood.j1 k true x169000 x169001 x169002 x169003 x169004 x169005 x169006)) else (spec_spGood.j1 k true x169000 x169001 x169002 x169003 x169004 x169005 x169006))) else (spec_spGood.j1 k true x169000 x169001 x169002 x169003 x169004 x169005 x169006)))
def spec_spGood.j1 : Nat → Bool → Int → Int → Int → Int → List Int → Int → List Int → Option (Bool)
  | 0, _, _, _, _, _, _, _, _ => none
  | k + 1, x61, x169000, x169001, x169002, x169003, x169004, x169005, x169006 => if x61 = true then (some false) else ((spec_spList.f k x169000 x169001 x169002 x169003 x169004 x169005 x169006).bind fun t174 => (if (t174.length : Int) = x169000 then ((spec_spSorted.f k t174 x169001).bind fun t177 => (spec_spGood.j2 k t174 (!t177) x169000 x169001 x169002 x169003 x169004 x169005 x169006)) else (spec_spGood.j2 k t174 true x169000 x169001 x169002 x169003 x169004 x169005 x169006)))
def spec_spGood.j2 : Nat → List Int → Bool → Int → Int → Int → Int → List Int → Int → List Int → Option (Bool)
  | 0, _, _, _, _, _, _, _, _, _ => none
  | k + 1, x3, x75, x169000, x169001, x169002, x169003, x169004, x169005, x169006 => if x75 = true then (some false) else ((spec_spOf.f k x3 x169001).bind fun bt178 => ((spec_biSame.f k x169003 x169004 bt178.2.2.2.1 bt178.2.2.2.2.1).bind fun t190 => (if t190 = true then ((spec_biSame.f k x169005 x169006 bt178.2.2.2.2.2.1 bt178.2.2.2.2.2.2).bind fun t191 => (some t191)) else (some false))))
end
def spec_spGood.f (k : Nat) (a0_0 : Int) (a0_1 : Int) (a0_2 : Int) (a0_3 : Int) (l0_4 : List Int) (a0_5 : Int) (l0_6 : List Int) : Option (Bool) := (spec_l1In.f a0_0 0 60).bind fun t169 => (if t169 = true then ((spec_spLimit.f a0_1).bind fun t170 => (if t170 = true then ((spec_spWidth.f k a0_0 a0_1).bind fun t171 => (spec_spGood.j0 k (a0_2 != t171) a0_0 a0_1 a0_2 a0_3 l0_4 a0_5 l0_6)) else (spec_spGood.j0 k true a0_0 a0_1 a0_2 a0_3 l0_4 a0_5 l0_6))) else (spec_spGood.j0 k true a0_0 a0_1 a0_2 a0_3 l0_4 a0_5 l0_6))
theorem spec_spGood.mono_l : ∀ k, (∀ y0 y1 y2 y3 y4 y5 y6 y7, LeO (spec_spGood.j0 k y0 y1 y2 y3 y4 y5 y6 y7) (spec_spGood.j0 (k + 1) y0 y1 y2 y3 y4 y5 y6 y7)) ∧ (∀ y0 y1 y2 y3 y4 y5 y6 y7, LeO (spec_spGood.j1 k y0 y1 y2 y3 y4 y5 y6 y7) (spec_spGood.j1 (k + 1) y0 y1 y2 y3 y4 y5 y6 y7)) ∧ (∀ y0 y1 y2 y3 y4 y5 y6 y7 y8, LeO (spec_spGood.j2 k y0 y1 y2 y3 y4 y5 y6 y7 y8) (spec_spGood.j2 (k + 1) y0 y1 y2 y3 y4 y5 y6 y7 y8))
  | 0 => ⟨fun _ _ _ _ _ _ _ _ r h => by simp [spec_spGood.j0] at h, fun _ _ _ _ _ _ _ _ r h => by simp [spec_spGood.j1] at h, fun _ _ _ _ _ _ _ _ _ r h => by simp [spec_spGood.j2] at h⟩
  | k + 1 => by
    obtain ⟨ih0, ih1, ih2⟩ := spec_spGood.mono_l k
    refine ⟨?_, ?_, ?_⟩
    · intro y0 y1 y2 y3 y4 y5 y6 y7
      unfold spec_spGood.j0
      repeat' first
      | (with_reducible exact ih0 _ _ _ _ _ _ _ _)
      | (with_reducible exact ih1 _ _ _ _ _ _ _ _)
      | (with_reducible exact ih2 _ _ _ _ _ _ _ _ _)
      | (with_reducible exact spec_biGood.mono _ _ _)
      | (with_reducible exact spec_biSame.mono _ _ _ _ _)
      | (with_reducible exact spec_spList.mono _ _ _ _ _ _ _ _)
      | (with_reducible exact spec_spOf.mono _ _ _)
      | (with_reducible exact spec_spSorted.mono _ _ _)
      | (with_reducible exact spec_spWidth.mono _ _ _)
      | (with_reducible exact LeO.refl _)
      | (with_reducible exact LeO.none _)
      | (with_reducible refine LeO.ite ?_ ?_)
      | (with_reducible refine LeO.bind ?_ (fun _ => ?_))
      | exact ih0 _ _ _ _ _ _ _ _
      | exact ih1 _ _ _ _ _ _ _ _
      | exact ih2 _ _ _ _ _ _ _ _ _
      | exact spec_biGood.mono _ _ _
      | exact spec_biSame.mono _ _ _ _ _
      | exact spec_spList.mono _ _ _ _ _ _ _ _
      | exact spec_spOf.mono _ _ _
      | exact spec_spSorted.mono _ _ _
      | exact spec_spWidth.mono _ _ _
      | exact LeO.none _
      | refine LeO.ite ?_ ?_
      | refine LeO.bind ?_ (fun _ => ?_)
    · intro y0 y1 y2 y3 y4 y5 y6 y7
      unfold spec_spGood.j1
      repeat' first
      | (with_reducible exact ih0 _ _ _ _ _ _ _ _)
      | (with_reducible exact ih1 _ _ _ _ _ _ _ _)
      | (with_reducible exact ih2 _ _ _ _ _ _ _ _ _)
      | (with_reducible exact spec_biGood.mono _ _ _)
      | (with_reducible exact spec_biSame.mono _ _ _ _ _)
      | (with_reducible exact spec_spList.mono _ _ _ _ _ _ _ _)
      | (with_reducible exact spec_spOf.mono _ _ _)
      | (with_reducible exact spec_spSorted.mono _ _ _)
      | (with_reducible exact spec_spWidth.mono _ _ _)
      | (with_reducible exact LeO.refl _)
      | (with_reducible exact LeO.none _)
      | (with_reducible refine LeO.ite ?_ ?_)
      | (with_reducible refine LeO.bind ?_ (fun _ => ?_))
      | exact ih0 _ _ _ _ _ _ _ _
      | exact ih1 _ _ _ _ _ _ _ _
      | exact ih2 _ _ _ _ _ _ _ _ _
      | exact spec_biGood.mono _ _ _
      | exact spec_biSame.mono _ _ _ _ _
      | exact spec_spList.mono _ _ _ _ _ _ _ _
      | exact spec_spOf.mono _ _ _
      | exact spec_spSorted.mono _ _ _
      | exact spec_spWidth.mono _ _ _
      | exact LeO.none _
      | refine LeO.ite ?_ ?_
      | refine LeO.bind ?_ (fun _ => ?_)
    · intro y0 y1 y2 y3 y4 y5 y6 y7 y8
      unfold spec_spGood.j2
      repeat' first
      | (with_reducible exact ih0 _ _ _ _ _ _ _ _)
      | (with_reducible exact ih1 _ _ _ _ _ _ _ _)
      | (with_reducible exact ih2 _ _ _ _ _ _ _ _ _)
      | (with_reducible exact spec_biGood.mono _ _ _)
      | (with_reducible exact spec_biSame.mono _ _ _ _ _)
      | (with_reducible exact spec_spList.mono _ _ _ _ _ _ _ _)
      | (with_reducible exact spec_spOf.mono _ _ _)
      | (with_reducible exact spec_spSorted.mono _ _ _)
      | (with_reducible exact spec_spWidth.mono _ _ _)
      | (with_reducible exact LeO.refl _)
      | (with_reducible exact LeO.none _)
      | (with_reducible refine LeO.ite ?_ ?_)
      | (with_reducible refine LeO.bind ?_ (fun _ => ?_))
      | exact ih0 _ _ _ _ _ _ _ _
      | exact ih1 _ _ _ _ _ _ _ _
      | exact ih2 _ _ _ _ _ _ _ _ _
      | exact spec_biGood.mono _ _ _
      | exact spec_biSame.mono _ _ _ _ _
      | exact spec_spList.mono _ _ _ _ _ _ _ _
      | exact spec_spOf.mono _ _ _
      | exact spec_spSorted.mono _ _ _
      | exact spec_spWidth.mono _ _ _
      | exact LeO.none _
      | refine LeO.ite ?_ ?_
      | refine LeO.bind ?_ (fun _ => ?_)
theorem spec_spGood.mono : ∀ a0 a1 a2 a3 a4 a5 a6 k, LeO (spec_spGood.f k a0 a1 a2 a3 a4 a5 a6) (spec_spGood.f (k + 1) a0 a1 a2 a3 a4 a5 a6) := by
  intro a0 a1 a2 a3 a4 a5 a6 k
  obtain ⟨ih0, ih1, ih2⟩ := spec_spGood.mono_l k
  unfold spec_spGood.f
  repeat' first
      | (with_reducible exact ih0 _ _ _ _ _ _ _ _)
      | (with_reducible exact ih1 _ _ _ _ _ _ _ _)
      | (with_reducible exact ih2 _ _ _ _ _ _ _ _ _)
      | (with_reducible exact spec_biGood.mono _ _ _)
      | (with_reducible exact spec_biSame.mono _ _ _ _ _)
      | (with_reducible exact spec_spList.mono _ _ _ _ _ _ _ _)
      | (with_reducible exact spec_spOf.mono _ _ _)
      | (with_reducible exact spec_spSorted.mono _ _ _)
      | (with_reducible exact spec_spWidth.mono _ _ _)
      | (with_reducible exact LeO.refl _)
      | (with_reducible exact LeO.none _)
      | (with_reducible refine LeO.ite ?_ ?_)
      | (with_reducible refine LeO.bind ?_ (fun _ => ?_))
      | exact ih0 _ _ _ _ _ _ _ _
      | exact ih1 _ _ _ _ _ _ _ _
      | exact ih2 _ _ _ _ _ _ _ _ _
      | exact spec_biGood.mono _ _ _
      | exact spec_biSame.mono _ _ _ _ _
      | exact spec_spList.mono _ _ _ _ _ _ _ _
      | exact spec_spOf.mono _ _ _
      | exact spec_spSorted.mono _ _ _
      | exact spec_spWidth.mono _ _ _
      | exact LeO.none _
      | refine LeO.ite ?_ ?_
      | refine LeO.bind ?_ (fun _ => ?_)
noncomputable def spec_spGood.J0 (y0 : Bool) (y1 : Int) (y2 : Int) (y3 : Int) (y4 : Int) (y5 : List Int) (y6 : Int) (y7 : List Int) : Option (Bool) := lim fun k => spec_spGood.j0 k y0 y1 y2 y3 y4 y5 y6 y7
theorem spec_spGood.J0_sup (y0 : Bool) (y1 : Int) (y2 : Int) (y3 : Int) (y4 : Int) (y5 : List Int) (y6 : Int) (y7 : List Int) : Sup (fun k => spec_spGood.j0 k y0 y1 y2 y3 y4 y5 y6 y7) (spec_spGood.J0 y0 y1 y2 y3 y4 y5 y6 y7) := Sup.of_mono fun k => (spec_spGood.mono_l k).1 y0 y1 y2 y3 y4 y5 y6 y7
noncomputable def spec_spGood.J1 (y0 : Bool) (y1 : Int) (y2 : Int) (y3 : Int) (y4 : Int) (y5 : List Int) (y6 : Int) (y7 : List Int) : Option (Bool) := lim fun k => spec_spGood.j1 k y0 y1 y2 y3 y4 y5 y6 y7
theorem spec_spGood.J1_sup (y0 : Bool) (y1 : Int) (y2 : Int) (y3 : Int) (y4 : Int) (y5 : List Int) (y6 : Int) (y7 : List Int) : Sup (fun k => spec_spGood.j1 k y0 y1 y2 y3 y4 y5 y6 y7) (spec_spGood.J1 y0 y1 y2 y3 y4 y5 y6 y7) := Sup.of_mono fun k => (spec_spGood.mono_l k).2.1 y0 y1 y2 y3 y4 y5 y6 y7
noncomputable def spec_spGood.J2 (y0 : List Int) (y1 : Bool) (y2 : Int) (y3 : Int) (y4 : Int) (y5 : Int) (y6 : List Int) (y7 : Int) (y8 : List Int) : Option (Bool) := lim fun k => spec_spGood.j2 k y0 y1 y2 y3 y4 y5 y6 y7 y8
theorem spec_spGood.J2_sup (y0 : List Int) (y1 : Bool) (y2 : Int) (y3 : Int) (y4 : Int) (y5 : Int) (y6 : List Int) (y7 : Int) (y8 : List Int) : Sup (fun k => spec_spGood.j2 k y0 y1 y2 y3 y4 y5 y6 y7 y8) (spec_spGood.J2 y0 y1 y2 y3 y4 y5 y6 y7 y8) := Sup.of_mono fun k => (spec_spGood.mono_l k).2.2 y0 y1 y2 y3 y4 y5 y6 y7 y8
noncomputable def spec_spGood.F (a0_0 : Int) (a0_1 : Int) (a0_2 : Int) (a0_3 : Int) (l0_4 : List Int) (a0_5 : Int) (l0_6 : List Int) : Option (Bool) := lim fun k => spec_spGood.f k a0_0 a0_1 a0_2 a0_3 l0_4 a0_5 l0_6
theorem spec_spGood.F_sup (a0_0 : Int) (a0_1 : Int) (a0_2 : Int) (a0_3 : Int) (l0_4 : List Int) (a0_5 : Int) (l0_6 : List Int) : Sup (fun k => spec_spGood.f k a0_0 a0_1 a0_2 a0_3 l0_4 a0_5 l0_6) (spec_spGood.F a0_0 a0_1 a0_2 a0_3 l0_4 a0_5 l0_6) := Sup.of_mono fun k => spec_spGood.mono a0_0 a0_1 a0_2 a0_3 l0_4 a0_5 l0_6 k
theorem spec_spGood.J0_eq (x24 : Bool) (x169000 : Int) (x169001 : Int) (x169002 : Int) (x169003 : Int) (x169004 : List Int) (x169005 : Int) (x169006 : List Int) : spec_spGood.J0 x24 x169000 x169001 x169002 x169003 x169004 x169005 x169006 = if x24 = true then (some false) else ((spec_biGood.F x169003 x169004).bind fun t172 => (if t172 = true then ((spec_biGood.F x169005 x169006).bind fun t173 => (if t173 = true then (if x169003 = (wrap64 (x169000 * x169002)) then (if 0 ≤ x169002 then (spec_spGood.J1 (x169005 != (wrap64 ((wrap64 (x169000 + (shr .i64 (wrap64 (x169001 - 1)) x169002))) + 1))) x169000 x169001 x169002 x169003 x169004 x169005 x169006) else (none)) else (spec_spGood.J1 true x169000 x169001 x169002 x169003 x169004 x169005 x169006)) else (spec_spGood.J1 true x169000 x169001 x169002 x169003 x169004 x169005 x169006))) else (spec_spGood.J1 true x169000 x169001 x169002 x169003 x169004 x169005 x169006))) := by
  refine Sup.unique (spec_spGood.J0_sup x24 x169000 x169001 x169002 x169003 x169004 x169005 x169006) (Sup.shift (fun k => (spec_spGood.mono_l k).1 x24 x169000 x169001 x169002 x169003 x169004 x169005 x169006) (Sup.congr (g' := fun k => if x24 = true then (some false) else ((spec_biGood.f k x169003 x169004).bind fun t172 => (if t172 = true then ((spec_biGood.f k x169005 x169006).bind fun t173 => (if t173 = true then (if x169003 = (wrap64 (x169000 * x169002)) then (if 0 ≤ x169002 then (spec_spGood.j1 k (x169005 != (wrap64 ((wrap64 (x169000 + (shr .i64 (wrap64 (x169001 - 1)) x169002))) + 1))) x169000 x169001 x169002 x169003 x169004 x169005 x169006) else (none)) else (spec_spGood.j1 k true x169000 x169001 x169002 x169003 x169004 x169005 x169006)) else (spec_spGood.j1 k true x169000 x169001 x169002 x169003 x169004 x169005 x169006))) else (spec_spGood.j1 k true x169000 x169001 x169002 x169003 x169004 x169005 x169006)))) (fun k => by first | rfl | simp only [spec_spGood.j0]) ?_))
  repeat' first
    | (with_reducible exact spec_spGood.J0_sup _ _ _ _ _ _ _ _)
    | (with_reducible exact spec_spGood.J1_sup _ _ _ _ _ _ _ _)
    | (with_reducible exact spec_spGood.J2_sup _ _ _ _ _ _ _ _ _)
    | (with_reducible exact spec_spOf.F_sup _ _)
    | (with_reducible exact spec_spList.F_sup _ _ _ _ _ _ _)
    | (with_reducible exact spec_spWidth.F_sup _ _)
    | (with_reducible exact spec_biGood.F_sup _ _)
    | (with_reducible exact spec_spSorted.F_sup _ _)
    | (with_reducible exact spec_biSame.F_sup _ _ _ _)
    | (with_reducible refine Sup.ite ?_ ?_)
    | (with_reducible refine Sup.bind ?_ (fun _ => ?_))
    | (with_reducible exact Sup.const _)
    | exact spec_spGood.J0_sup _ _ _ _ _ _ _ _
    | exact spec_spGood.J1_sup _ _ _ _ _ _ _ _
    | exact spec_spGood.J2_sup _ _ _ _ _ _ _ _ _
    | exact spec_spOf.F_sup _ _
    | exact spec_spList.F_sup _ _ _ _ _ _ _
    | exact spec_spWidth.F_sup _ _
    | exact spec_biGood.F_sup _ _
    | exact spec_spSorted.F_sup _ _
    | exact spec_biSame.F_sup _ _ _ _
    | exact Sup.const _
theorem spec_spGood.J1_eq (x61 : Bool) (x169000 : Int) (x169001 : Int) (x169002 : Int) (x169003 : Int) (x169004 : List Int) (x169005 : Int) (x169006 : List Int) : spec_spGood.J1 x61 x169000 x169001 x169002 x169003 x169004 x169005 x169006 = if x61 = true then (some false) else ((spec_spList.F x169000 x169001 x169002 x169003 x169004 x169005 x169006).bind fun t174 => (if (t174.length : Int) = x169000 then ((spec_spSorted.F t174 x169001).bind fun t177 => (spec_spGood.J2 t174 (!t177) x169000 x169001 x169002 x169003 x169004 x169005 x169006)) else (spec_spGood.J2 t174 true x169000 x169001 x169002 x169003 x169004 x169005 x169006))) := by
  refine Sup.unique (spec_spGood.J1_sup x61 x169000 x169001 x169002 x169003 x169004 x169005 x169006) (Sup.shift (fun k => (spec_spGood.mono_l k).2.1 x61 x169000 x169001 x169002 x169003 x169004 x169005 x169006) (Sup.congr (g' := fun k => if x61 = true then (some false) else ((spec_spList.f k x169000 x169001 x169002 x169003 x169004 x169005 x169006).bind fun t174 => (if (t174.length : Int) = x169000 then ((spec_spSorted.f k t174 x169001).bind fun t177 => (spec_spGood.j2 k t174 (!t177) x169000 x169001 x169002 x169003 x169004 x169005 x169006)) else (spec_spGood.j2 k t174 true x169000 x169001 x169002 x169003 x169004 x169005 x169006)))) (fun k => by first | rfl | simp only [spec_spGood.j1]) ?_))
  repeat' first
    | (with_reducible exact spec_spGood.J0_sup _ _ _ _ _ _ _ _)
    | (with_reducible exact spec_spGood.J1_sup _ _ _ _ _ _ _ _)
    | (with_reducible exact spec_spGood.J2_sup _ _ _ _ _ _ _ _ _)
    | (with_reducible exact spec_spOf.F_sup _ _)
    | (with_reducible exact spec_spList.F_sup _ _ _ _ _ _ _)
    | (with_reducible exact spec_spWidth.F_sup _ _)
    | (with_reducible exact spec_biGood.F_sup _ _)
    | (with_reducible exact spec_spSorted.F_sup _ _)
    | (with_reducible exact spec_biSame.F_sup _ _ _ _)
    | (with_reducible refine Sup.ite ?_ ?_)
    | (with_reducible refine Sup.bind ?_ (fun _ => ?_))
    | (with_reducible exact Sup.const _)
    | exact spec_spGood.J0_sup _ _ _ _ _ _ _ _
    | exact spec_spGood.J1_sup _ _ _ _ _ _ _ _
    | exact spec_spGood.J2_sup _ _ _ _ _ _ _ _ _
    | exact spec_spOf.F_sup _ _
    | exact spec_spList.F_sup _ _ _ _ _ _ _
    | exact spec_spWidth.F_sup _ _
    | exact spec_biGood.F_sup _ _
    | exact spec_spSorted.F_sup _ _
    | exact spec_biSame.F_sup _ _ _ _
    | exact Sup.const _
theorem spec_spGood.J2_eq (x3 : List Int) (x75 : Bool) (x169000 : Int) (x169001 : Int) (x169002 : Int) (x169003 : Int) (x169004 : List Int) (x169005 : Int) (x169006 : List Int) : spec_spGood.J2 x3 x75 x169000 x169001 x169002 x169003 x169004 x169005 x169006 = if x75 = true then (some false) else ((spec_spOf.F x3 x169001).bind fun bt178 => ((spec_biSame.F x169003 x169004 bt178.2.2.2.1 bt178.2.2.2.2.1).bind fun t190 => (if t190 = true then ((spec_biSame.F x169005 x169006 bt178.2.2.2.2.2.1 bt178.2.2.2.2.2.2).bind fun t191 => (some t191)) else (some false)))) := by
  refine Sup.unique (spec_spGood.J2_sup x3 x75 x169000 x169001 x169002 x169003 x169004 x169005 x169006) (Sup.shift (fun k => (spec_spGood.mono_l k).2.2 x3 x75 x169000 x169001 x169002 x169003 x169004 x169005 x169006) (Sup.congr (g' := fun k => if x75 = true then (some false) else ((spec_spOf.f k x3 x169001).bind fun bt178 => ((spec_biSame.f k x169003 x169004 bt178.2.2.2.1 bt178.2.2.2.2.1).bind fun t190 => (if t190 = true then ((spec_biSame.f k x169005 x169006 bt178.2.2.2.2.2.1 bt178.2.2.2.2.2.2).bind fun t191 => (some t191)) else (some false))))) (fun k => by first | rfl | simp only [spec_spGood.j2]) ?_))
  repeat' first
    | (with_reducible exact spec_spGood.J0_sup _ _ _ _ _ _ _ _)
    | (with_reducible exact spec_spGood.J1_sup _ _ _ _ _ _ _ _)
    | (with_reducible exact spec_spGood.J2_sup _ _ _ _ _ _ _ _ _)
    | (with_reducible exact spec_spOf.F_sup _ _)
    | (with_reducible exact spec_spList.F_sup _ _ _ _ _ _ _)
    | (with_reducible exact spec_spWidth.F_sup _ _)
    | (with_reducible exact spec_biGood.F_sup _ _)
    | (with_reducible exact spec_spSorted.F_sup _ _)
    | (with_reducible exact spec_biSame.F_sup _ _ _ _)
    | (with_reducible refine Sup.ite ?_ ?_)
    | (with_reducible refine Sup.bind ?_ (fun _ => ?_))
    | (with_reducible exact Sup.const _)
    | exact spec_spGood.J0_sup _ _ _ _ _ _ _ _
    | exact spec_spGood.J1_sup _ _ _ _ _ _ _ _
    | exact spec_spGood.J2_sup _ _ _ _ _ _ _ _ _
    | exact spec_spOf.F_sup _ _
    | exact spec_spList.F_sup _ _ _ _ _ _ _
    | exact spec_spWidth.F_sup _ _
    | exact spec_biGood.F_sup _ _
    | exact spec_spSorted.F_sup _ _
    | exact spec_biSame.F_sup _ _ _ _
    | exact Sup.const _
theorem spec_spGood.F_eq (a0_0 : Int) (a0_1 : Int) (a0_2 : Int) (a0_3 : Int) (l0_4 : List Int) (a0_5 : Int) (l0_6 : List Int) : spec_spGood.F a0_0 a0_1 a0_2 a0_3 l0_4 a0_5 l0_6 = (spec_l1In.f a0_0 0 60).bind fun t169 => (if t169 = true then ((spec_spLimit.f a0_1).bind fun t170 => (if t170 = true then ((spec_spWidth.F a0_0 a0_1).bind fun t171 => (spec_spGood.J0 (a0_2 != t171) a0_0 a0_1 a0_2 a0_3 l0_4 a0_5 l0_6)) else (spec_spGood.J0 true a0_0 a0_1 a0_2 a0_3 l0_4 a0_5 l0_6))) else (spec_spGood.J0 true a0_0 a0_1 a0_2 a0_3 l0_4 a0_5 l0_6)) := by
  refine Sup.unique (spec_spGood.F_sup a0_0 a0_1 a0_2 a0_3 l0_4 a0_5 l0_6) (Sup.congr (g' := fun k => (spec_l1In.f a0_0 0 60).bind fun t169 => (if t169 = true then ((spec_spLimit.f a0_1).bind fun t170 => (if t170 = true then ((spec_spWidth.f k a0_0 a0_1).bind fun t171 => (spec_spGood.j0 k (a0_2 != t171) a0_0 a0_1 a0_2 a0_3 l0_4 a0_5 l0_6)) else (spec_spGood.j0 k true a0_0 a0_1 a0_2 a0_3 l0_4 a0_5 l0_6))) else (spec_spGood.j0 k true a0_0 a0_1 a0_2 a0_3 l0_4 a0_5 l0_6))) (fun k => by first | rfl | simp only [spec_spGood.f]) ?_)
  repeat' first
    | (with_reducible exact spec_spGood.J0_sup _ _ _ _ _ _ _ _)
    | (with_reducible exact spec_spGood.J1_sup _ _ _ _ _ _ _ _)
    | (with_reducible exact spec_spGood.J2_sup _ _ _ _ _ _ _ _ _)
    | (with_reducible exact spec_spOf.F_sup _ _)
    | (with_reducible exact spec_spList.F_sup _ _ _ _ _ _ _)
    | (with_reducible exact spec_spWidth.F_sup _ _)
    | (with_reducible exact spec_biGood.F_sup _ _)
    | (with_reducible exact spec_spSorted.F_sup _ _)
    | (with_reducible exact spec_biSame.F_sup _ _ _ _)
    | (with_reducible refine Sup.ite ?_ ?_)
    | (with_reducible refine Sup.bind ?_ (fun _ => ?_))
    | (with_reducible exact Sup.const _)
    | exact spec_spGood.J0_sup _ _ _ _ _ _ _ _
    | exact spec_spGood.J1_sup _ _ _ _ _ _ _ _
    | exact spec_spGood.J2_sup _ _ _ _ _ _ _ _ _
    | exact spec_spOf.F_sup _ _
    | exact spec_spList.F_sup _ _ _ _ _ _ _
    | exact spec_spWidth.F_sup _ _
    | exact spec_biGood.F_sup _ _
    | exact spec_spSorted.F_sup _ _
    | exact spec_biSame.F_sup _ _ _ _
    | exact Sup.const _
def spec_spGood.T1 : Bool × List (List Nat × List Nat) := (true, [([], []), ([0], [0]), ([1], [1]), ([2], [2]), ([3, 2], [3]), ([4], [4]), ([5, 4], [4, 5]), ([6, 4, 4], [4, 6]), ([7, 4], [4, 7]), ([4, 8], [4, 8]), ([9, 7], [9]), ([10], [10]), ([11, 10], [10, 11]), ([10], [10]), ([13, 10], [10, 13]), ([10], [10]), ([15, 10], [10, 15]), ([14, 16, 10, 10], [10, 14, 16]), ([12, 17, 10], [10, 12, 17]), ([10, 18], [10, 18])])
def spec_spGood.B1 : List Nat := [0, 1, 3, 7, 15, 31, 63, 127, 255, 511, 1023, 2047, 4095, 2047, 10239, 2047, 34815, 124927, 262143, 524287]
theorem spec_spGood.tab1 : rtab .any (opsOf Try.f12 1) = spec_spGood.T1 := by kernel_rfl
theorem spec_spGood.bits1 : waitsOk spec_spGood.T1.2 spec_spGood.B1 = true := by kernel_rfl
def spec_spGood.T3 : Bool × List (List Nat × List Nat) := (true, [([], []), ([0], [0]), ([1], [1]), ([2], [2]), ([3, 2], [3]), ([4], [4]), ([5, 4], [4, 5]), ([6, 4, 4], [4, 6]), ([7, 4], [4, 7]), ([4, 8], [4, 8]), ([9, 7], [9]), ([10], [10]), ([11, 10], [10, 11]), ([12, 10], [10, 12]), ([10], [10]), ([14, 10], [10, 14]), ([10], [10]), ([16, 10], [10, 16]), ([15, 17, 10], [10, 15, 17]), ([13, 18, 10], [10, 13, 18]), ([10, 19], [10, 19]), ([20, 10], [20]), ([21], [21]), ([22, 21], [21, 22]), ([23, 21], [21, 23]), ([21], [21]), ([25, 21], [21, 25]), ([21], [21]), ([27, 21], [21, 27]), ([28, 21], [21, 28]), ([21], [21]), ([30, 21], [21, 30]), ([29, 31, 21], [21, 29, 31]), ([26, 32, 21], [21, 26, 32]), ([33, 21], [21, 33]), ([24, 34, 21], [21, 24, 34]), ([21, 35], [21, 35])])
def spec_spGood.B3 : List Nat := [0, 1, 3, 7, 15, 31, 63, 127, 255, 511, 1023, 2047, 4095, 8191, 2047, 18431, 2047, 67583, 247807, 524287, 1048575, 2097151, 4194303, 8388607, 16777215, 4194303, 37748735, 4194303, 138412031, 406847487, 4194303, 1077936127, 4164943871, 8560574463, 17150509055, 34359738367, 68719476735]
theorem spec_spGood.tab3 : rtab .any (opsOf Try.f12 3) = spec_spGood.T3 := by kernel_rfl
theorem spec_spGood.bits3 : waitsOk spec_spGood.T3.2 spec_spGood.B3 = true := by kernel_rfl
set_option maxHeartbeats 8000000 in
set_option maxRecDepth 100000 in
theorem spec_spGood.calls (k : Nat) (a0_0 : Int) (a0_1 : Int) (a0_2 : Int) (a0_3 : Int) (A0_4 : Option Addr) (c0_4 : Nat) (l0_4 : List Int) (a0_5 : Int) (A0_6 : Option Addr) (c0_6 : Nat) (l0_6 : List Int) (r : Bool) (w : World) (hr0_4 : Kd.C (Kd.int .i64) w A0_4 l0_4.length l0_4) (hc0_4 : l0_4.length ≤ c0_4) (hr0_6 : Kd.C (Kd.int .i64) w A0_6 l0_6.length l0_6) (hc0_6 : l0_6.length ≤ c0_6) (h : spec_spGood.f k a0_0 a0_1 a0_2 a0_3 l0_4 a0_5 l0_6 = some r) :
    Calls Try.prog 12 #[.agg #[.int .i64 a0_0, .int .i64 a0_1, .int .i64 a0_2, .int .i64 a0_3, .slice A0_4 l0_4.length c0_4, .int .i64 a0_5, .slice A0_6 l0_6.length c0_6]] w fun e w' => e = .returned (.bool r) ∧ Below w.heap.size w w' := by
  have hu30 := Try.underlying30; have hu28 := Try.underlying28; have HR0_4 := Qx hr0_4; have HC0_4 := Qx hc0_4; clear hr0_4 hc0_4; have HR0_6 := Qx hr0_6; have HC0_6 := Qx hc0_6; clear hr0_6 hc0_6
  have HB := Qx (Below.refl w.heap.size w)
  have H : ((spec_l1In.f a0_0 0 60).bind fun t169 => (if t169 = true then ((spec_spLimit.f a0_1).bind fun t170 => (if t170 = true then ((spec_spWidth.f k a0_0 a0_1).bind fun t171 => (spec_spGood.j0 k (a0_2 != t171) a0_0 a0_1 a0_2 a0_3 l0_4 a0_5 l0_6)) else (spec_spGood.j0 k true a0_0 a0_1 a0_2 a0_3 l0_4 a0_5 l0_6))) else (spec_spGood.j0 k true a0_0 a0_1 a0_2 a0_3 l0_4 a0_5 l0_6))) = some r := h
  clear h; have HC2 := Qx H; clear H
  go_enter Try.func12, Try.ntmps12
  go_upto_region 1 with (first | ((with_reducible refine gate_dst (N := 1) rfl ?_); refine bx_ 1 #[.int .i64 a0_0, .int .i64 a0_1, .int .i64 a0_2, .int .i64 a0_3, .slice A0_4 l0_4.length c0_4, .int .i64 a0_5, .slice A0_6 l0_6.length c0_6] 30 ?_; intro gb168 hg w3 hbox hb; have BK168 := Qx (hbox); have GW168 := Qx ((ge_ hg)); have GE168 := Qx ((ge_ hg)); replace HB := Qx (Qp hB_ hb); clear hb hbox hg))
  (try simp only [Act.put, List.setIfInBounds_toArray, List.set_cons_zero, List.set_cons_succ])
  go_cut [24] (fun v24 wc => ∃ (kq : Nat) (x24_1 : Bool), v24 = .bool x24_1 ∧ Aside0 (spec_spGood.j0 kq x24_1 a0_0 a0_1 a0_2 a0_3 l0_4 a0_5 l0_6 = some r) ∧ Aside0 (kq ≤ k) ∧ Aside0 (wc.heap[gb168]? = some (.cells #[.int .i64 a0_0, .int .i64 a0_1, .int .i64 a0_2, .int .i64 a0_3, (.slice A0_4 l0_4.length c0_4), .int .i64 a0_5, (.slice A0_6 l0_6.length c0_6)] 30 (0, 0))) ∧ Aside0 (Below w.heap.size w wc))
  case first =>
   have H := HC2.out; clear HC2; replace H := Option.bind_eq_some_iff.mp H; obtain ⟨t169, A40, H⟩ := H
   have A4 := Qx A40; clear A40
   by_cases c5 : t169 = true
   ·subst c5
    have H1 : ((spec_spLimit.f a0_1).bind fun t170 => (if t170 = true then ((spec_spWidth.f k a0_0 a0_1).bind fun t171 => (spec_spGood.j0 k (a0_2 != t171) a0_0 a0_1 a0_2 a0_3 l0_4 a0_5 l0_6)) else (spec_spGood.j0 k true a0_0 a0_1 a0_2 a0_3 l0_4 a0_5 l0_6))) = some r := by rw [if_pos rfl] at H; exact H
    clear H; have H := H1; clear H1; replace H := Option.bind_eq_some_iff.mp H; obtain ⟨t170, A60, H⟩ := H
    have A6 := Qx A60; clear A60
    by_cases c7 : t170 = true
    ·subst c7
     have H1 : ((spec_spWidth.f k a0_0 a0_1).bind fun t171 => (spec_spGood.j0 k (a0_2 != t171) a0_0 a0_1 a0_2 a0_3 l0_4 a0_5 l0_6)) = some r := by rw [if_pos rfl] at H; exact H
     clear H; have H := H1; clear H1; replace H := Option.bind_eq_some_iff.mp H; obtain ⟨t171, A80, H⟩ := H
     have A8 := Qx A80; clear A80; have H' := Qx H; clear H
     try go_wp2
     replace BK168 := Qx (Qw BK168.out)
     replace HB := Qx (below_drew1 HB.out)
     refine start_ (n := 20) (S := fun w' => w'.cell? ⟨gb168, 0, none⟩ = some (.int .i64 a0_0) ∧ w'.cell? ⟨gb168, 1, none⟩ = some (.int .i64 a0_1) ∧ w'.cell? ⟨gb168, 2, none⟩ = some (.int .i64 a0_2) ∧ w'.cell? ⟨gb168, 3, none⟩ = some (.int .i64 a0_3) ∧ w'.cell? ⟨gb168, 4, none⟩ = some (.slice A0_4 l0_4.length c0_4) ∧ w'.cell? ⟨gb168, 5, none⟩ = some (.int .i64 a0_5) ∧ w'.cell? ⟨gb168, 6, none⟩ = some (.slice A0_6 l0_6.length c0_6)) (ds := []) #[false, false, false, false, false, false, false, false, false, false, false, false, false, false, false, false, false, false, false, false] (by kernel_rfl) rfl rfl ⟨(Qc BK168.out 0).trans rfl, (Qc BK168.out 1).trans rfl, (Qc BK168.out 2).trans rfl, (Qc BK168.out 3).trans rfl, (Qc BK168.out 4).trans rfl, (Qc BK168.out 5).trans rfl, (Qc BK168.out 6).trans rfl⟩ (fun hHeld => ?_); refine with_tabW spec_spGood.tab1 spec_spGood.bits1 (fun HT_ HW_ => ?_)
     generalize w3.drew = w9 at BK168 HB hHeld ⊢
     refine pr_ 0 5 20 1 ?_
     refine tq_ 1 6 20 3 HT_.out HW_.out (by kernel_rfl) hHeld ?_ rfl (by rintro w' ⟨s0, s1, s2, s3, s4, s5, s6⟩; go_simp; with_reducible rfl)
     refine one_ (i := 2) (N := some 7) (bsA 20 7) rfl rfl (one_of HT_.out (by kernel_rfl)) (by decide) (fun K hK => ?_)
     refine goes_ Try.func26 (by kernel_rfl) rfl #[.int .i64 a0_0, .int .i64 0, .int .i64 60] (by rfl) rfl rfl (by (try simp only [List.map_toArray, List.map_cons, List.map_nil]); first | done | rfl | (simp only [List.length_drop, List.length_take]; rfl)) ?_
     with_reducible refine (spec_l1In.calls a0_0 0 60 true _ A4.out).mono ?_
     rintro e w' ⟨rfl, ⟨nd, rfl⟩⟩
     refine ⟨_, rfl, ?_⟩
     refine hK.out _ _ ⟨(Qc BK168.out 0).trans rfl, (Qc BK168.out 1).trans rfl, (Qc BK168.out 2).trans rfl, (Qc BK168.out 3).trans rfl, (Qc BK168.out 4).trans rfl, (Qc BK168.out 5).trans rfl, (Qc BK168.out 6).trans rfl⟩ (fun hHeld => ?_)
     clear hK K
     refine norm_ (a' := ?_) ?_ ?_
     rotate_left
     ·show Act.put _ (some 7) _ = _
      simp only [Act.put, List.setIfInBounds_toArray, List.set_cons_zero, List.set_cons_succ, i64_w]
      rfl
     refine pr_ 3 8 20 15 ?_
     refine pr_ 4 9 20 31 ?_
     refine pr_ 5 10 20 63 ?_
     refine tq_ 6 11 20 127 HT_.out HW_.out (by kernel_rfl) hHeld ?_ rfl (by rintro w' ⟨s0, s1, s2, s3, s4, s5, s6⟩; go_simp; with_reducible rfl)
     refine one_ (i := 7) (N := some 12) (bsA 20 255) rfl rfl (one_of HT_.out (by kernel_rfl)) (by decide) (fun K hK => ?_)
     refine goes_ Try.func27 (by kernel_rfl) rfl #[.int .i64 a0_1] (by rfl) rfl rfl (by (try simp only [List.map_toArray, List.map_cons, List.map_nil]); first | done | rfl | (simp only [List.length_drop, List.length_take]; rfl)) ?_
     with_reducible refine (spec_spLimit.calls a0_1 true _ A6.out).mono ?_
     rintro e w' ⟨rfl, ⟨nd, rfl⟩⟩
     refine ⟨_, rfl, ?_⟩
     refine hK.out _ _ ⟨(Qc BK168.out 0).trans rfl, (Qc BK168.out 1).trans rfl, (Qc BK168.out 2).trans rfl, (Qc BK168.out 3).trans rfl, (Qc BK168.out 4).trans rfl, (Qc BK168.out 5).trans rfl, (Qc BK168.out 6).trans rfl⟩ (fun hHeld => ?_)
     clear hK K
     refine norm_ (a' := ?_) ?_ ?_
     rotate_left
     ·show Act.put _ (some 12) _ = _
      simp only [Act.put, List.setIfInBounds_toArray, List.set_cons_zero, List.set_cons_succ, i64_w]
      rfl
     refine pr_ 8 13 20 511 ?_
     refine pr_ 9 14 20 1023 ?_
     refine pr_ 10 15 20 2047 ?_
     refine pr_ 11 16 20 4095 ?_
     refine pr_ 13 18 20 12287 ?_
     refine pr_ 15 20 20 45055 ?_
     refine tq_ 12 17 20 49151 HT_.out HW_.out (by kernel_rfl) hHeld ?_ rfl (by rintro w' ⟨s0, s1, s2, s3, s4, s5, s6⟩; go_simp; with_reducible rfl)
     refine tq_ 14 19 20 65535 HT_.out HW_.out (by kernel_rfl) hHeld ?_ rfl (by rintro w' ⟨s0, s1, s2, s3, s4, s5, s6⟩; go_simp; with_reducible rfl)
     refine tq_ 16 21 20 131071 HT_.out HW_.out (by kernel_rfl) hHeld ?_ rfl (by rintro w' ⟨s0, s1, s2, s3, s4, s5, s6⟩; go_simp; with_reducible rfl)
     refine one_ (i := 17) (N := some 22) (bsA 20 262143) rfl rfl (one_of HT_.out (by kernel_rfl)) (by decide) (fun K hK => ?_)
     refine goes_ Try.func28 (by kernel_rfl) rfl #[.int .i64 a0_0, .int .i64 a0_1] (by rfl) rfl rfl (by (try simp only [List.map_toArray, List.map_cons, List.map_nil]); first | done | rfl | (simp only [List.length_drop, List.length_take]; rfl)) ?_
     with_reducible refine (spec_spWidth.calls k a0_0 a0_1 t171 _ A8.out).mono ?_
     rintro e w' ⟨rfl, ⟨nd, rfl⟩⟩
     refine ⟨_, rfl, ?_⟩
     refine hK.out _ _ ⟨(Qc BK168.out 0).trans rfl, (Qc BK168.out 1).trans rfl, (Qc BK168.out 2).trans rfl, (Qc BK168.out 3).trans rfl, (Qc BK168.out 4).trans rfl, (Qc BK168.out 5).trans rfl, (Qc BK168.out 6).trans rfl⟩ (fun hHeld => ?_)
     clear hK K
     refine norm_ (a' := ?_) ?_ ?_
     rotate_left
     ·show Act.put _ (some 22) _ = _
      simp only [Act.put, List.setIfInBounds_toArray, List.set_cons_zero, List.set_cons_succ, i64_w]
      rfl
     refine pr_ 18 23 20 524287 ?_
     refine pr_ 19 24 20 1048575 ?_
     refine done_ (done_of HT_.out (by kernel_rfl)) ?_
     try go_wp2
     go_meet
     case rel => exact ⟨_, ((a0_2 != t171)), rg_, H', ⟨by first | omega | exact Nat.le_refl _⟩, ⟨kB_ BK168⟩, ⟨hB_⟩⟩
    ·replace c7 := Bool.eq_false_iff.mpr c7; subst c7
     have H1 : (spec_spGood.j0 k true a0_0 a0_1 a0_2 a0_3 l0_4 a0_5 l0_6) = some r := by rw [if_neg (show ¬ (false = true) by decide)] at H; exact H
     clear H; have H := H1; clear H1; have H' := Qx H; clear H
     try go_wp2
     replace BK168 := Qx (Qw BK168.out)
     replace HB := Qx (below_drew1 HB.out)
     refine start_ (n := 20) (S := fun w' => w'.cell? ⟨gb168, 0, none⟩ = some (.int .i64 a0_0) ∧ w'.cell? ⟨gb168, 1, none⟩ = some (.int .i64 a0_1) ∧ w'.cell? ⟨gb168, 2, none⟩ = some (.int .i64 a0_2) ∧ w'.cell? ⟨gb168, 3, none⟩ = some (.int .i64 a0_3) ∧ w'.cell? ⟨gb168, 4, none⟩ = some (.slice A0_4 l0_4.length c0_4) ∧ w'.cell? ⟨gb168, 5, none⟩ = some (.int .i64 a0_5) ∧ w'.cell? ⟨gb168, 6, none⟩ = some (.slice A0_6 l0_6.length c0_6)) (ds := []) #[false, false, false, false, false, false, false, false, false, false, false, false, false, false, false, false, false, false, false, false] (by kernel_rfl) rfl rfl ⟨(Qc BK168.out 0).trans rfl, (Qc BK168.out 1).trans rfl, (Qc BK168.out 2).trans rfl, (Qc BK168.out 3).trans rfl, (Qc BK168.out 4).trans rfl, (Qc BK168.out 5).trans rfl, (Qc BK168.out 6).trans rfl⟩ (fun hHeld => ?_); refine with_tabW spec_spGood.tab1 spec_spGood.bits1 (fun HT_ HW_ => ?_)
     generalize w3.drew = w10 at BK168 HB hHeld ⊢
     refine pr_ 0 5 20 1 ?_
     refine tq_ 1 6 20 3 HT_.out HW_.out (by kernel_rfl) hHeld ?_ rfl (by rintro w' ⟨s0, s1, s2, s3, s4, s5, s6⟩; go_simp; with_reducible rfl)
     refine one_ (i := 2) (N := some 7) (bsA 20 7) rfl rfl (one_of HT_.out (by kernel_rfl)) (by decide) (fun K hK => ?_)
     refine goes_ Try.func26 (by kernel_rfl) rfl #[.int .i64 a0_0, .int .i64 0, .int .i64 60] (by rfl) rfl rfl (by (try simp only [List.map_toArray, List.map_cons, List.map_nil]); first | done | rfl | (simp only [List.length_drop, List.length_take]; rfl)) ?_
     with_reducible refine (spec_l1In.calls a0_0 0 60 true _ A4.out).mono ?_
     rintro e w' ⟨rfl, ⟨nd, rfl⟩⟩
     refine ⟨_, rfl, ?_⟩
     refine hK.out _ _ ⟨(Qc BK168.out 0).trans rfl, (Qc BK168.out 1).trans rfl, (Qc BK168.out 2).trans rfl, (Qc BK168.out 3).trans rfl, (Qc BK168.out 4).trans rfl, (Qc BK168.out 5).trans rfl, (Qc BK168.out 6).trans rfl⟩ (fun hHeld => ?_)
     clear hK K
     refine norm_ (a' := ?_) ?_ ?_
     rotate_left
     ·show Act.put _ (some 7) _ = _
      simp only [Act.put, List.setIfInBounds_toArray, List.set_cons_zero, List.set_cons_succ, i64_w]
      rfl
     refine pr_ 3 8 20 15 ?_
     refine pr_ 4 9 20 31 ?_
     refine pr_ 5 10 20 63 ?_
     refine tq_ 6 11 20 127 HT_.out HW_.out (by kernel_rfl) hHeld ?_ rfl (by rintro w' ⟨s0, s1, s2, s3, s4, s5, s6⟩; go_simp; with_reducible rfl)
     refine one_ (i := 7) (N := some 12) (bsA 20 255) rfl rfl (one_of HT_.out (by kernel_rfl)) (by decide) (fun K hK => ?_)
     refine goes_ Try.func27 (by kernel_rfl) rfl #[.int .i64 a0_1] (by rfl) rfl rfl (by (try simp only [List.map_toArray, List.map_cons, List.map_nil]); first | done | rfl | (simp only [List.length_drop, List.length_take]; rfl)) ?_
     with_reducible refine (spec_spLimit.calls a0_1 false _ A6.out).mono ?_
     rintro e w' ⟨rfl, ⟨nd, rfl⟩⟩
     refine ⟨_, rfl, ?_⟩
     refine hK.out _ _ ⟨(Qc BK168.out 0).trans rfl, (Qc BK168.out 1).trans rfl, (Qc BK168.out 2).trans rfl, (Qc BK168.out 3).trans rfl, (Qc BK168.out 4).trans rfl, (Qc BK168.out 5).trans rfl, (Qc BK168.out 6).trans rfl⟩ (fun hHeld => ?_)
     clear hK K
     refine norm_ (a' := ?_) ?_ ?_
     rotate_left
     ·show Act.put _ (some 12) _ = _
      simp only [Act.put, List.setIfInBounds_toArray, List.set_cons_zero, List.set_cons_succ, i64_w]
      rfl
     refine pr_ 8 13 20 511 ?_
     refine pr_ 9 14 20 1023 ?_
     refine pr_ 10 15 20 2047 ?_
     refine ur_ 11 16 20 4095 ?_
     refine ur_ 12 17 20 8191 ?_
     refine ur_ 13 18 20 16383 ?_
     refine ur_ 14 19 20 32767 ?_
     refine ur_ 15 20 20 65535 ?_
     refine ur_ 16 21 20 131071 ?_
     refine ur_ 17 22 20 262143 ?_
     refine ur_ 18 23 20 524287 ?_
     refine pr_ 19 24 20 1048575 ?_
     refine done_ (done_of HT_.out (by kernel_rfl)) ?_
     try go_wp2
     go_meet
     case rel => exact ⟨_, (true), rg_, H', ⟨by first | omega | exact Nat.le_refl _⟩, ⟨kB_ BK168⟩, ⟨hB_⟩⟩
   ·replace c5 := Bool.eq_false_iff.mpr c5; subst c5
    have H1 : (spec_spGood.j0 k true a0_0 a0_1 a0_2 a0_3 l0_4 a0_5 l0_6) = some r := by rw [if_neg (show ¬ (false = true) by decide)] at H; exact H
    clear H; have H := H1; clear H1; have H' := Qx H; clear H
    try go_wp2
    replace BK168 := Qx (Qw BK168.out)
    replace HB := Qx (below_drew1 HB.out)
    refine start_ (n := 20) (S := fun w' => w'.cell? ⟨gb168, 0, none⟩ = some (.int .i64 a0_0) ∧ w'.cell? ⟨gb168, 1, none⟩ = some (.int .i64 a0_1) ∧ w'.cell? ⟨gb168, 2, none⟩ = some (.int .i64 a0_2) ∧ w'.cell? ⟨gb168, 3, none⟩ = some (.int .i64 a0_3) ∧ w'.cell? ⟨gb168, 4, none⟩ = some (.slice A0_4 l0_4.length c0_4) ∧ w'.cell? ⟨gb168, 5, none⟩ = some (.int .i64 a0_5) ∧ w'.cell? ⟨gb168, 6, none⟩ = some (.slice A0_6 l0_6.length c0_6)) (ds := []) #[false, false, false, false, false, false, false, false, false, false, false, false, false, false, false, false, false, false, false, false] (by kernel_rfl) rfl rfl ⟨(Qc BK168.out 0).trans rfl, (Qc BK168.out 1).trans rfl, (Qc BK168.out 2).trans rfl, (Qc BK168.out 3).trans rfl, (Qc BK168.out 4).trans rfl, (Qc BK168.out 5).trans rfl, (Qc BK168.out 6).trans rfl⟩ (fun hHeld => ?_); refine with_tabW spec_spGood.tab1 spec_spGood.bits1 (fun HT_ HW_ => ?_)
    generalize w3.drew = w11 at BK168 HB hHeld ⊢
    refine pr_ 0 5 20 1 ?_
    refine tq_ 1 6 20 3 HT_.out HW_.out (by kernel_rfl) hHeld ?_ rfl (by rintro w' ⟨s0, s1, s2, s3, s4, s5, s6⟩; go_simp; with_reducible rfl)
    refine one_ (i := 2) (N := some 7) (bsA 20 7) rfl rfl (one_of HT_.out (by kernel_rfl)) (by decide) (fun K hK => ?_)
    refine goes_ Try.func26 (by kernel_rfl) rfl #[.int .i64 a0_0, .int .i64 0, .int .i64 60] (by rfl) rfl rfl (by (try simp only [List.map_toArray, List.map_cons, List.map_nil]); first | done | rfl | (simp only [List.length_drop, List.length_take]; rfl)) ?_
    with_reducible refine (spec_l1In.calls a0_0 0 60 false _ A4.out).mono ?_
    rintro e w' ⟨rfl, ⟨nd, rfl⟩⟩
    refine ⟨_, rfl, ?_⟩
    refine hK.out _ _ ⟨(Qc BK168.out 0).trans rfl, (Qc BK168.out 1).trans rfl, (Qc BK168.out 2).trans rfl, (Qc BK168.out 3).trans rfl, (Qc BK168.out 4).trans rfl, (Qc BK168.out 5).trans rfl, (Qc BK168.out 6).trans rfl⟩ (fun hHeld => ?_)
    clear hK K
    refine norm_ (a' := ?_) ?_ ?_
    rotate_left
    ·show Act.put _ (some 7) _ = _
     simp only [Act.put, List.setIfInBounds_toArray, List.set_cons_zero, List.set_cons_succ, i64_w]
     rfl
    refine pr_ 3 8 20 15 ?_
    refine pr_ 4 9 20 31 ?_
    refine ur_ 5 10 20 63 ?_
    refine ur_ 6 11 20 127 ?_
    refine ur_ 7 12 20 255 ?_
    refine ur_ 8 13 20 511 ?_
    refine pr_ 9 14 20 1023 ?_
    refine pr_ 10 15 20 2047 ?_
    refine ur_ 11 16 20 4095 ?_
    refine ur_ 12 17 20 8191 ?_
    refine ur_ 13 18 20 16383 ?_
    refine ur_ 14 19 20 32767 ?_
    refine ur_ 15 20 20 65535 ?_
    refine ur_ 16 21 20 131071 ?_
    refine ur_ 17 22 20 262143 ?_
    refine ur_ 18 23 20 524287 ?_
    refine pr_ 19 24 20 1048575 ?_
    refine done_ (done_of HT_.out (by kernel_rfl)) ?_
    try go_wp2
    go_meet
    case rel => exact ⟨_, (true), rg_, H', ⟨by first | omega | exact Nat.le_refl _⟩, ⟨kB_ BK168⟩, ⟨hB_⟩⟩
  case rest =>
   clear HC2
   try clear c1
   try clear c2
   try clear p2
   try clear c5
   try clear c7
   obtain ⟨kq, x24_1, rfl, HA, HJ1, BK168, HB⟩ := hcut
   cases kq with
   | zero => exact absurd HA.out (by simp [spec_spGood.j0])
   | succ kj1 =>
    have H := HA.out; clear HA; simp only [spec_spGood.j0] at H
    by_cases c12 : x24_1 = true
    ·subst c12
     have H1 : (some false) = some r := by rw [if_pos rfl] at H; exact H
     clear H; have H := H1; clear H1; obtain rfl := Option.some.inj H
     go_wp2
     go_ret
     exact ⟨rf_, hB_⟩
    ·replace c12 := Bool.eq_false_iff.mpr c12; subst c12
     have H1 : ((spec_biGood.f kj1 a0_3 l0_4).bind fun t172 => (if t172 = true then ((spec_biGood.f kj1 a0_5 l0_6).bind fun t173 => (if t173 = true then (if a0_3 = (wrap64 (a0_0 * a0_2)) then (if 0 ≤ a0_2 then (spec_spGood.j1 kj1 (a0_5 != (wrap64 ((wrap64 (a0_0 + (shr .i64 (wrap64 (a0_1 - 1)) a0_2))) + 1))) a0_0 a0_1 a0_2 a0_3 l0_4 a0_5 l0_6) else (none)) else (spec_spGood.j1 kj1 true a0_0 a0_1 a0_2 a0_3 l0_4 a0_5 l0_6)) else (spec_spGood.j1 kj1 true a0_0 a0_1 a0_2 a0_3 l0_4 a0_5 l0_6))) else (spec_spGood.j1 kj1 true a0_0 a0_1 a0_2 a0_3 l0_4 a0_5 l0_6))) = some r := by rw [if_neg (show ¬ (false = true) by decide)] at H; exact H
     clear H; have H := H1; clear H1; have HC13 := Qx H; clear H
     go_upto_region 3 with (fail)
     go_cut [61] (fun v61 wc => ∃ (kq : Nat) (x61_12 : Bool), v61 = .bool x61_12 ∧ Aside0 (spec_spGood.j1 kq x61_12 a0_0 a0_1 a0_2 a0_3 l0_4 a0_5 l0_6 = some r) ∧ Aside0 (kq ≤ kj1) ∧ Aside0 (wc.heap[gb168]? = some (.cells #[.int .i64 a0_0, .int .i64 a0_1, .int .i64 a0_2, .int .i64 a0_3, (.slice A0_4 l0_4.length c0_4), .int .i64 a0_5, (.slice A0_6 l0_6.length c0_6)] 30 (0, 0))) ∧ Aside0 (Below w.heap.size w wc))
     case first =>
      have H := HC13.out; clear HC13; replace H := Option.bind_eq_some_iff.mp H; obtain ⟨t172, A140, H⟩ := H
      have A14 := Qx A140; clear A140
      by_cases c15 : t172 = true
      ·subst c15
       have H1 : ((spec_biGood.f kj1 a0_5 l0_6).bind fun t173 => (if t173 = true then (if a0_3 = (wrap64 (a0_0 * a0_2)) then (if 0 ≤ a0_2 then (spec_spGood.j1 kj1 (a0_5 != (wrap64 ((wrap64 (a0_0 + (shr .i64 (wrap64 (a0_1 - 1)) a0_2))) + 1))) a0_0 a0_1 a0_2 a0_3 l0_4 a0_5 l0_6) else (none)) else (spec_spGood.j1 kj1 true a0_0 a0_1 a0_2 a0_3 l0_4 a0_5 l0_6)) else (spec_spGood.j1 kj1 true a0_0 a0_1 a0_2 a0_3 l0_4 a0_5 l0_6))) = some r := by rw [if_pos rfl] at H; exact H
       clear H; have H := H1; clear H1; replace H := Option.bind_eq_some_iff.mp H; obtain ⟨t173, A160, H⟩ := H
       have A16 := Qx A160; clear A160
       by_cases c17 : t173 = true
       ·subst c17
        have H1 : (if a0_3 = (wrap64 (a0_0 * a0_2)) then (if 0 ≤ a0_2 then (spec_spGood.j1 kj1 (a0_5 != (wrap64 ((wrap64 (a0_0 + (shr .i64 (wrap64 (a0_1 - 1)) a0_2))) + 1))) a0_0 a0_1 a0_2 a0_3 l0_4 a0_5 l0_6) else (none)) else (spec_spGood.j1 kj1 true a0_0 a0_1 a0_2 a0_3 l0_4 a0_5 l0_6)) = some r := by rw [if_pos rfl] at H; exact H
        clear H; have H := H1; clear H1
        by_cases c18 : a0_3 = (wrap64 (a0_0 * a0_2))
        ·rw [if_pos c18] at H
         have c18b0 : (a0_3 == (wrap64 (a0_0 * a0_2))) = true := beq_iff_eq.mpr c18
         have c18b1 : (a0_3 != (wrap64 (a0_0 * a0_2))) = false := bne_eq_false_iff_eq.mpr c18
         clear c18
         (first | rw [c18b0] | (simp only [i64_w, i32_w]; rw [c18b0]) | skip)
         by_cases c19 : 0 ≤ a0_2
         ·rw [if_pos c19] at H; have c19b0 := eq_true c19
          have c19b1 : decide (0 ≤ a0_2) = true := decide_eq_true c19
          clear c19
          obtain ⟨ji20, hji20⟩ : ∃ j_ : Int, (shr .i64 (wrap64 (a0_1 - 1)) a0_2) = j_ := ⟨_, rfl⟩
          replace H : (spec_spGood.j1 kj1 (a0_5 != (wrap64 ((wrap64 (a0_0 + (ji20))) + 1))) a0_0 a0_1 a0_2 a0_3 l0_4 a0_5 l0_6) = some r := by first | (rw [hji20] at H; exact H) | (simp only [hji20] at H ⊢; exact H)
          (try rw [hji20] at A14)
          (try rw [hji20] at A16)
          have hji20_ : ((wrap64 (a0_1 - 1)) / 2 ^ min a0_2.toNat 64) = ji20 := hji20
          have hji20z : a0_2 ≤ 64 → ((wrap64 (a0_1 - 1)) / 2 ^ a0_2.toNat) = ji20 := shr_small hji20
          have H' := Qx H; clear H
          try go_wp2
          replace BK168 := Qx (Qw BK168.out)
          replace HB := Qx (below_drew1 HB.out)
          refine start_ (n := 37) (S := fun w' => w'.cell? ⟨gb168, 0, none⟩ = some (.int .i64 a0_0) ∧ w'.cell? ⟨gb168, 1, none⟩ = some (.int .i64 a0_1) ∧ w'.cell? ⟨gb168, 2, none⟩ = some (.int .i64 a0_2) ∧ w'.cell? ⟨gb168, 3, none⟩ = some (.int .i64 a0_3) ∧ w'.cell? ⟨gb168, 4, none⟩ = some (.slice A0_4 l0_4.length c0_4) ∧ w'.cell? ⟨gb168, 5, none⟩ = some (.int .i64 a0_5) ∧ w'.cell? ⟨gb168, 6, none⟩ = some (.slice A0_6 l0_6.length c0_6)) (ds := []) #[false, false, false, false, false, false, false, false, false, false, false, false, false, false, false, false, false, false, false, false, false, false, false, false, false, false, false, false, false, false, false, false, false, false, false, false, false] (by kernel_rfl) rfl rfl ⟨(Qc BK168.out 0).trans rfl, (Qc BK168.out 1).trans rfl, (Qc BK168.out 2).trans rfl, (Qc BK168.out 3).trans rfl, (Qc BK168.out 4).trans rfl, (Qc BK168.out 5).trans rfl, (Qc BK168.out 6).trans rfl⟩ (fun hHeld => ?_); refine with_tabW spec_spGood.tab3 spec_spGood.bits3 (fun HT_ HW_ => ?_)
          generalize wc.drew = w21 at BK168 HB hHeld ⊢
          refine pr_ 0 25 37 1 ?_
          refine tq_ 1 26 37 3 HT_.out HW_.out (by kernel_rfl) hHeld ?_ rfl (by rintro w' ⟨s0, s1, s2, s3, s4, s5, s6⟩; go_simp; with_reducible rfl)
          refine one_ (i := 2) (N := some 27) (bsA 37 7) rfl rfl (one_of HT_.out (by kernel_rfl)) (by decide) (fun K hK => ?_)
          refine goes_ Try.func29 (by kernel_rfl) rfl #[.agg #[.int .i64 a0_3, .slice A0_4 l0_4.length c0_4]] (by rfl) rfl rfl (by (try simp only [List.map_toArray, List.map_cons, List.map_nil]); first | done | rfl | (simp only [List.length_drop, List.length_take]; rfl)) ?_
          with_reducible refine (spec_biGood.calls kj1 a0_3 _ _ l0_4 true _ ?side1 ?side2 A14.out).mono ?_
          (case side1 => exact kC_ HR0_4)
          (case side2 => exact HC0_4.out)
          rintro e w22 ⟨rfl, hb⟩
          refine ⟨_, rfl, ?_⟩
          replace BK168 := Qx (Qb (kB_ BK168) hb)
          replace HB := Qx (Qp hB_ hb)
          (try clear hb); (try clear hb2); (try clear hk); (try clear hi)
          refine hK.out _ _ ⟨(Qc BK168.out 0).trans rfl, (Qc BK168.out 1).trans rfl, (Qc BK168.out 2).trans rfl, (Qc BK168.out 3).trans rfl, (Qc BK168.out 4).trans rfl, (Qc BK168.out 5).trans rfl, (Qc BK168.out 6).trans rfl⟩ (fun hHeld => ?_)
          clear hK K
          refine norm_ (a' := ?_) ?_ ?_
          rotate_left
          ·show Act.put _ (some 27) _ = _
           simp only [Act.put, List.setIfInBounds_toArray, List.set_cons_zero, List.set_cons_succ, i64_w]
           rfl
          refine pr_ 3 28 37 15 ?_
          refine pr_ 4 29 37 31 ?_
          refine pr_ 5 30 37 63 ?_
          refine tq_ 6 31 37 127 HT_.out HW_.out (by kernel_rfl) hHeld ?_ rfl (by rintro w' ⟨s0, s1, s2, s3, s4, s5, s6⟩; go_simp; with_reducible rfl)
          refine one_ (i := 7) (N := some 32) (bsA 37 255) rfl rfl (one_of HT_.out (by kernel_rfl)) (by decide) (fun K hK => ?_)
          refine goes_ Try.func29 (by kernel_rfl) rfl #[.agg #[.int .i64 a0_5, .slice A0_6 l0_6.length c0_6]] (by rfl) rfl rfl (by (try simp only [List.map_toArray, List.map_cons, List.map_nil]); first | done | rfl | (simp only [List.length_drop, List.length_take]; rfl)) ?_
          with_reducible refine (spec_biGood.calls kj1 a0_5 _ _ l0_6 true _ ?side1 ?side2 A16.out).mono ?_
          (case side1 => exact kC_ HR0_6)
          (case side2 => exact HC0_6.out)
          rintro e w23 ⟨rfl, hb⟩
          refine ⟨_, rfl, ?_⟩
          replace BK168 := Qx (Qb (kB_ BK168) hb)
          replace HB := Qx (Qp hB_ hb)
          (try clear hb); (try clear hb2); (try clear hk); (try clear hi)
          refine hK.out _ _ ⟨(Qc BK168.out 0).trans rfl, (Qc BK168.out 1).trans rfl, (Qc BK168.out 2).trans rfl, (Qc BK168.out 3).trans rfl, (Qc BK168.out 4).trans rfl, (Qc BK168.out 5).trans rfl, (Qc BK168.out 6).trans rfl⟩ (fun hHeld => ?_)
          clear hK K
          refine norm_ (a' := ?_) ?_ ?_
          rotate_left
          ·show Act.put _ (some 32) _ = _
           simp only [Act.put, List.setIfInBounds_toArray, List.set_cons_zero, List.set_cons_succ, i64_w]
           rfl
          refine pr_ 8 33 37 511 ?_
          refine pr_ 9 34 37 1023 ?_
          refine pr_ 10 35 37 2047 ?_
          refine pr_ 11 36 37 4095 ?_
          refine pr_ 12 37 37 8191 ?_
          refine pr_ 14 39 37 24575 ?_
          refine pr_ 16 41 37 90111 ?_
          refine tq_ 13 38 37 98303 HT_.out HW_.out (by kernel_rfl) hHeld ?_ rfl (by rintro w' ⟨s0, s1, s2, s3, s4, s5, s6⟩; go_simp; with_reducible rfl)
          refine tq_ 15 40 37 131071 HT_.out HW_.out (by kernel_rfl) hHeld ?_ rfl (by rintro w' ⟨s0, s1, s2, s3, s4, s5, s6⟩; go_simp; with_reducible rfl)
          refine tq_ 17 42 37 262143 HT_.out HW_.out (by kernel_rfl) hHeld ?_ rfl (by rintro w' ⟨s0, s1, s2, s3, s4, s5, s6⟩; go_simp; with_reducible rfl)
          refine pr_ 18 43 37 524287 ?_
          refine pr_ 19 44 37 1048575 ?_
          refine pr_ 20 45 37 2097151 ?_
          refine pr_ 21 46 37 4194303 ?_
          refine pr_ 22 47 37 8388607 ?_
          refine pr_ 23 48 37 16777215 ?_
          refine pr_ 25 50 37 50331647 ?_
          refine pr_ 27 52 37 184549375 ?_
          refine pr_ 30 55 37 1258291199 ?_
          refine tq_ 24 49 37 1275068415 HT_.out HW_.out (by kernel_rfl) hHeld ?_ rfl (by rintro w' ⟨s0, s1, s2, s3, s4, s5, s6⟩; go_simp; with_reducible rfl)
          refine tq_ 26 51 37 1342177279 HT_.out HW_.out (by kernel_rfl) hHeld ?_ rfl (by rintro w' ⟨s0, s1, s2, s3, s4, s5, s6⟩; go_simp; with_reducible rfl)
          refine tq_ 28 53 37 1610612735 HT_.out HW_.out (by kernel_rfl) hHeld ?_ rfl (by rintro w' ⟨s0, s1, s2, s3, s4, s5, s6⟩; go_simp; with_reducible rfl)
          refine pr_ 29 54 37 2147483647 ?_
          refine tq_ 31 56 37 4294967295 HT_.out HW_.out (by kernel_rfl) hHeld ?_ rfl (by rintro w' ⟨s0, s1, s2, s3, s4, s5, s6⟩; go_simp; with_reducible rfl)
          refine pr_ 32 57 37 8589934591 ?_
          refine pr_ 33 58 37 17179869183 ?_
          refine pr_ 34 59 37 34359738367 ?_
          refine pr_ 35 60 37 68719476735 ?_
          refine pr_ 36 61 37 137438953471 ?_
          refine done_ (done_of HT_.out (by kernel_rfl)) ?_
          try go_wp2
          go_meet
          case rel => exact ⟨_, ((a0_5 != (wrap64 ((wrap64 (a0_0 + (ji20))) + 1)))), (by first | rfl | (simp; done) | (simp only [← hji20] <;> (first | rfl | simp)) | (simp [*]; done)), H', ⟨by have := HJ1.out; first | omega | exact Nat.le_refl _⟩, ⟨kB_ BK168⟩, ⟨hB_⟩⟩
         ·rw [if_neg c19] at H
          exact absurd H (by simp)
        ·rw [if_neg c18] at H
         have c18b0 : (a0_3 == (wrap64 (a0_0 * a0_2))) = false := beq_eq_false_iff_ne.mpr c18
         have c18b1 : (a0_3 != (wrap64 (a0_0 * a0_2))) = true := bne_iff_ne.mpr c18
         (first | rw [c18b0] | (simp only [i64_w, i32_w]; rw [c18b0]) | skip)
         have H' := Qx H; clear H
         try go_wp2
         replace BK168 := Qx (Qw BK168.out)
         replace HB := Qx (below_drew1 HB.out)
         refine start_ (n := 37) (S := fun w' => w'.cell? ⟨gb168, 0, none⟩ = some (.int .i64 a0_0) ∧ w'.cell? ⟨gb168, 1, none⟩ = some (.int .i64 a0_1) ∧ w'.cell? ⟨gb168, 2, none⟩ = some (.int .i64 a0_2) ∧ w'.cell? ⟨gb168, 3, none⟩ = some (.int .i64 a0_3) ∧ w'.cell? ⟨gb168, 4, none⟩ = some (.slice A0_4 l0_4.length c0_4) ∧ w'.cell? ⟨gb168, 5, none⟩ = some (.int .i64 a0_5) ∧ w'.cell? ⟨gb168, 6, none⟩ = some (.slice A0_6 l0_6.length c0_6)) (ds := []) #[false, false, false, false, false, false, false, false, false, false, false, false, false, false, false, false, false, false, false, false, false, false, false, false, false, false, false, false, false, false, false, false, false, false, false, false, false] (by kernel_rfl) rfl rfl ⟨(Qc BK168.out 0).trans rfl, (Qc BK168.out 1).trans rfl, (Qc BK168.out 2).trans rfl, (Qc BK168.out 3).trans rfl, (Qc BK168.out 4).trans rfl, (Qc BK168.out 5).trans rfl, (Qc BK168.out 6).trans rfl⟩ (fun hHeld => ?_); refine with_tabW spec_spGood.tab3 spec_spGood.bits3 (fun HT_ HW_ => ?_)
         generalize wc.drew = w24 at BK168 HB hHeld ⊢
         refine pr_ 0 25 37 1 ?_
         refine tq_ 1 26 37 3 HT_.out HW_.out (by kernel_rfl) hHeld ?_ rfl (by rintro w' ⟨s0, s1, s2, s3, s4, s5, s6⟩; go_simp; with_reducible rfl)
         refine one_ (i := 2) (N := some 27) (bsA 37 7) rfl rfl (one_of HT_.out (by kernel_rfl)) (by decide) (fun K hK => ?_)
         refine goes_ Try.func29 (by kernel_rfl) rfl #[.agg #[.int .i64 a0_3, .slice A0_4 l0_4.length c0_4]] (by rfl) rfl rfl (by (try simp only [List.map_toArray, List.map_cons, List.map_nil]); first | done | rfl | (simp only [List.length_drop, List.length_take]; rfl)) ?_
         with_reducible refine (spec_biGood.calls kj1 a0_3 _ _ l0_4 true _ ?side1 ?side2 A14.out).mono ?_
         (case side1 => exact kC_ HR0_4)
         (case side2 => exact HC0_4.out)
         rintro e w25 ⟨rfl, hb⟩
         refine ⟨_, rfl, ?_⟩
         replace BK168 := Qx (Qb (kB_ BK168) hb)
         replace HB := Qx (Qp hB_ hb)
         (try clear hb); (try clear hb2); (try clear hk); (try clear hi)
         refine hK.out _ _ ⟨(Qc BK168.out 0).trans rfl, (Qc BK168.out 1).trans rfl, (Qc BK168.out 2).trans rfl, (Qc BK168.out 3).trans rfl, (Qc BK168.out 4).trans rfl, (Qc BK168.out 5).trans rfl, (Qc BK168.out 6).trans rfl⟩ (fun hHeld => ?_)
         clear hK K
         refine norm_ (a' := ?_) ?_ ?_
         rotate_left
         ·show Act.put _ (some 27) _ = _
          simp only [Act.put, List.setIfInBounds_toArray, List.set_cons_zero, List.set_cons_succ, i64_w]
          rfl
         refine pr_ 3 28 37 15 ?_
         refine pr_ 4 29 37 31 ?_
         refine pr_ 5 30 37 63 ?_
         refine tq_ 6 31 37 127 HT_.out HW_.out (by kernel_rfl) hHeld ?_ rfl (by rintro w' ⟨s0, s1, s2, s3, s4, s5, s6⟩; go_simp; with_reducible rfl)
         refine one_ (i := 7) (N := some 32) (bsA 37 255) rfl rfl (one_of HT_.out (by kernel_rfl)) (by decide) (fun K hK => ?_)
         refine goes_ Try.func29 (by kernel_rfl) rfl #[.agg #[.int .i64 a0_5, .slice A0_6 l0_6.length c0_6]] (by rfl) rfl rfl (by (try simp only [List.map_toArray, List.map_cons, List.map_nil]); first | done | rfl | (simp only [List.length_drop, List.length_take]; rfl)) ?_
         with_reducible refine (spec_biGood.calls kj1 a0_5 _ _ l0_6 true _ ?side1 ?side2 A16.out).mono ?_
         (case side1 => exact kC_ HR0_6)
         (case side2 => exact HC0_6.out)
         rintro e w26 ⟨rfl, hb⟩
         refine ⟨_, rfl, ?_⟩
         replace BK168 := Qx (Qb (kB_ BK168) hb)
         replace HB := Qx (Qp hB_ hb)
         (try clear hb); (try clear hb2); (try clear hk); (try clear hi)
         refine hK.out _ _ ⟨(Qc BK168.out 0).trans rfl, (Qc BK168.out 1).trans rfl, (Qc BK168.out 2).trans rfl, (Qc BK168.out 3).trans rfl, (Qc BK168.out 4).trans rfl, (Qc BK168.out 5).trans rfl, (Qc BK168.out 6).trans rfl⟩ (fun hHeld => ?_)
         clear hK K
         refine norm_ (a' := ?_) ?_ ?_
         rotate_left
         ·show Act.put _ (some 32) _ = _
          simp only [Act.put, List.setIfInBounds_toArray, List.set_cons_zero, List.set_cons_succ, i64_w]
          rfl
         refine pr_ 8 33 37 511 ?_
         refine pr_ 9 34 37 1023 ?_
         refine pr_ 10 35 37 2047 ?_
         refine pr_ 11 36 37 4095 ?_
         refine pr_ 12 37 37 8191 ?_
         refine pr_ 14 39 37 24575 ?_
         refine pr_ 16 41 37 90111 ?_
         refine tq_ 13 38 37 98303 HT_.out HW_.out (by kernel_rfl) hHeld ?_ rfl (by rintro w' ⟨s0, s1, s2, s3, s4, s5, s6⟩; go_simp; with_reducible rfl)
         refine tq_ 15 40 37 131071 HT_.out HW_.out (by kernel_rfl) hHeld ?_ rfl (by rintro w' ⟨s0, s1, s2, s3, s4, s5, s6⟩; go_simp; with_reducible rfl)
         refine tq_ 17 42 37 262143 HT_.out HW_.out (by kernel_rfl) hHeld ?_ rfl (by rintro w' ⟨s0, s1, s2, s3, s4, s5, s6⟩; go_simp; with_reducible rfl)
         refine pr_ 18 43 37 524287 ?_
         refine pr_ 19 44 37 1048575 ?_
         refine pr_ 20 45 37 2097151 ?_
         refine pr_ 21 46 37 4194303 ?_
         refine ur_ 22 47 37 8388607 ?_
         refine ur_ 23 48 37 16777215 ?_
         refine ur_ 24 49 37 33554431 ?_
         refine ur_ 25 50 37 67108863 ?_
         refine ur_ 26 51 37 134217727 ?_
         refine ur_ 27 52 37 268435455 ?_
         refine ur_ 28 53 37 536870911 ?_
         refine ur_ 29 54 37 1073741823 ?_
         refine ur_ 30 55 37 2147483647 ?_
         refine ur_ 31 56 37 4294967295 ?_
         refine ur_ 32 57 37 8589934591 ?_
         refine ur_ 33 58 37 17179869183 ?_
         refine ur_ 34 59 37 34359738367 ?_
         refine ur_ 35 60 37 68719476735 ?_
         refine pr_ 36 61 37 137438953471 ?_
         refine done_ (done_of HT_.out (by kernel_rfl)) ?_
         try go_wp2
         go_meet
         case rel => exact ⟨_, (true), rg_, H', ⟨by have := HJ1.out; first | omega | exact Nat.le_refl _⟩, ⟨kB_ BK168⟩, ⟨hB_⟩⟩
       ·replace c17 := Bool.eq_false_iff.mpr c17; subst c17
        have H1 : (spec_spGood.j1 kj1 true a0_0 a0_1 a0_2 a0_3 l0_4 a0_5 l0_6) = some r := by rw [if_neg (show ¬ (false = true) by decide)] at H; exact H
        clear H; have H := H1; clear H1; have H' := Qx H; clear H
        try go_wp2
        replace BK168 := Qx (Qw BK168.out)
        replace HB := Qx (below_drew1 HB.out)
        refine start_ (n := 37) (S := fun w' => w'.cell? ⟨gb168, 0, none⟩ = some (.int .i64 a0_0) ∧ w'.cell? ⟨gb168, 1, none⟩ = some (.int .i64 a0_1) ∧ w'.cell? ⟨gb168, 2, none⟩ = some (.int .i64 a0_2) ∧ w'.cell? ⟨gb168, 3, none⟩ = some (.int .i64 a0_3) ∧ w'.cell? ⟨gb168, 4, none⟩ = some (.slice A0_4 l0_4.length c0_4) ∧ w'.cell? ⟨gb168, 5, none⟩ = some (.int .i64 a0_5) ∧ w'.cell? ⟨gb168, 6, none⟩ = some (.slice A0_6 l0_6.length c0_6)) (ds := []) #[false, false, false, false, false, false, false, false, false, false, false, false, false, false, false, false, false, false, false, false, false, false, false, false, false, false, false, false, false, false, false, false, false, false, false, false, false] (by kernel_rfl) rfl rfl ⟨(Qc BK168.out 0).trans rfl, (Qc BK168.out 1).trans rfl, (Qc BK168.out 2).trans rfl, (Qc BK168.out 3).trans rfl, (Qc BK168.out 4).trans rfl, (Qc BK168.out 5).trans rfl, (Qc BK168.out 6).trans rfl⟩ (fun hHeld => ?_); refine with_tabW spec_spGood.tab3 spec_spGood.bits3 (fun HT_ HW_ => ?_)
        generalize wc.drew = w27 at BK168 HB hHeld ⊢
        refine pr_ 0 25 37 1 ?_
        refine tq_ 1 26 37 3 HT_.out HW_.out (by kernel_rfl) hHeld ?_ rfl (by rintro w' ⟨s0, s1, s2, s3, s4, s5, s6⟩; go_simp; with_reducible rfl)
        refine one_ (i := 2) (N := some 27) (bsA 37 7) rfl rfl (one_of HT_.out (by kernel_rfl)) (by decide) (fun K hK => ?_)
        refine goes_ Try.func29 (by kernel_rfl) rfl #[.agg #[.int .i64 a0_3, .slice A0_4 l0_4.length c0_4]] (by rfl) rfl rfl (by (try simp only [List.map_toArray, List.map_cons, List.map_nil]); first | done | rfl | (simp only [List.length_drop, List.length_take]; rfl)) ?_
        with_reducible refine (spec_biGood.calls kj1 a0_3 _ _ l0_4 true _ ?side1 ?side2 A14.out).mono ?_
        (case side1 => exact kC_ HR0_4)
        (case side2 => exact HC0_4.out)
        rintro e w28 ⟨rfl, hb⟩
        refine ⟨_, rfl, ?_⟩
        replace BK168 := Qx (Qb (kB_ BK168) hb)
        replace HB := Qx (Qp hB_ hb)
        (try clear hb); (try clear hb2); (try clear hk); (try clear hi)
        refine hK.out _ _ ⟨(Qc BK168.out 0).trans rfl, (Qc BK168.out 1).trans rfl, (Qc BK168.out 2).trans rfl, (Qc BK168.out 3).trans rfl, (Qc BK168.out 4).trans rfl, (Qc BK168.out 5).trans rfl, (Qc BK168.out 6).trans rfl⟩ (fun hHeld => ?_)
        clear hK K
        refine norm_ (a' := ?_) ?_ ?_
        rotate_left
        ·show Act.put _ (some 27) _ = _
         simp only [Act.put, List.setIfInBounds_toArray, List.set_cons_zero, List.set_cons_succ, i64_w]
         rfl
        refine pr_ 3 28 37 15 ?_
        refine pr_ 4 29 37 31 ?_
        refine pr_ 5 30 37 63 ?_
        refine tq_ 6 31 37 127 HT_.out HW_.out (by kernel_rfl) hHeld ?_ rfl (by rintro w' ⟨s0, s1, s2, s3, s4, s5, s6⟩; go_simp; with_reducible rfl)
        refine one_ (i := 7) (N := some 32) (bsA 37 255) rfl rfl (one_of HT_.out (by kernel_rfl)) (by decide) (fun K hK => ?_)
        refine goes_ Try.func29 (by kernel_rfl) rfl #[.agg #[.int .i64 a0_5, .slice A0_6 l0_6.length c0_6]] (by rfl) rfl rfl (by (try simp only [List.map_toArray, List.map_cons, List.map_nil]); first | done | rfl | (simp only [List.length_drop, List.length_take]; rfl)) ?_
        with_reducible refine (spec_biGood.calls kj1 a0_5 _ _ l0_6 false _ ?side1 ?side2 A16.out).mono ?_
        (case side1 => exact kC_ HR0_6)
        (case side2 => exact HC0_6.out)
        rintro e w29 ⟨rfl, hb⟩
        refine ⟨_, rfl, ?_⟩
        replace BK168 := Qx (Qb (kB_ BK168) hb)
        replace HB := Qx (Qp hB_ hb)
        (try clear hb); (try clear hb2); (try clear hk); (try clear hi)
        refine hK.out _ _ ⟨(Qc BK168.out 0).trans rfl, (Qc BK168.out 1).trans rfl, (Qc BK168.out 2).trans rfl, (Qc BK168.out 3).trans rfl, (Qc BK168.out 4).trans rfl, (Qc BK168.out 5).trans rfl, (Qc BK168.out 6).trans rfl⟩ (fun hHeld => ?_)
        clear hK K
        refine norm_ (a' := ?_) ?_ ?_
        rotate_left
        ·show Act.put _ (some 32) _ = _
         simp only [Act.put, List.setIfInBounds_toArray, List.set_cons_zero, List.set_cons_succ, i64_w]
         rfl
        refine pr_ 8 33 37 511 ?_
        refine pr_ 9 34 37 1023 ?_
        refine pr_ 10 35 37 2047 ?_
        refine ur_ 11 36 37 4095 ?_
        refine ur_ 12 37 37 8191 ?_
        refine ur_ 13 38 37 16383 ?_
        refine ur_ 14 39 37 32767 ?_
        refine ur_ 15 40 37 65535 ?_
        refine ur_ 16 41 37 131071 ?_
        refine ur_ 17 42 37 262143 ?_
        refine ur_ 18 43 37 524287 ?_
        refine ur_ 19 44 37 1048575 ?_
        refine pr_ 20 45 37 2097151 ?_
        refine pr_ 21 46 37 4194303 ?_
        refine ur_ 22 47 37 8388607 ?_
        refine ur_ 23 48 37 16777215 ?_
        refine ur_ 24 49 37 33554431 ?_
        refine ur_ 25 50 37 67108863 ?_
        refine ur_ 26 51 37 134217727 ?_
        refine ur_ 27 52 37 268435455 ?_
        refine ur_ 28 53 37 536870911 ?_
        refine ur_ 29 54 37 1073741823 ?_
        refine ur_ 30 55 37 2147483647 ?_
        refine ur_ 31 56 37 4294967295 ?_
        refine ur_ 32 57 37 8589934591 ?_
        refine ur_ 33 58 37 17179869183 ?_
        refine ur_ 34 59 37 34359738367 ?_
        refine ur_ 35 60 37 68719476735 ?_
        refine pr_ 36 61 37 137438953471 ?_
        refine done_ (done_of HT_.out (by kernel_rfl)) ?_
        try go_wp2
        go_meet
        case rel => exact ⟨_, (true), rg_, H', ⟨by have := HJ1.out; first | omega | exact Nat.le_refl _⟩, ⟨kB_ BK168⟩, ⟨hB_⟩⟩
      ·replace c15 := Bool.eq_false_iff.mpr c15; subst c15
       have H1 : (spec_spGood.j1 kj1 true a0_0 a0_1 a0_2 a0_3 l0_4 a0_5 l0_6) = some r := by rw [if_neg (show ¬ (false = true) by decide)] at H; exact H
       clear H; have H := H1; clear H1; have H' := Qx H; clear H
       try go_wp2
       replace BK168 := Qx (Qw BK168.out)
       replace HB := Qx (below_drew1 HB.out)
       refine start_ (n := 37) (S := fun w' => w'.cell? ⟨gb168, 0, none⟩ = some (.int .i64 a0_0) ∧ w'.cell? ⟨gb168, 1, none⟩ = some (.int .i64 a0_1) ∧ w'.cell? ⟨gb168, 2, none⟩ = some (.int .i64 a0_2) ∧ w'.cell? ⟨gb168, 3, none⟩ = some (.int .i64 a0_3) ∧ w'.cell? ⟨gb168, 4, none⟩ = some (.slice A0_4 l0_4.length c0_4) ∧ w'.cell? ⟨gb168, 5, none⟩ = some (.int .i64 a0_5) ∧ w'.cell? ⟨gb168, 6, none⟩ = some (.slice A0_6 l0_6.length c0_6)) (ds := []) #[false, false, false, false, false, false, false, false, false, false, false, false, false, false, false, false, false, false, false, false, false, false, false, false, false, false, false, false, false, false, false, false, false, false, false, false, false] (by kernel_rfl) rfl rfl ⟨(Qc BK168.out 0).trans rfl, (Qc BK168.out 1).trans rfl, (Qc BK168.out 2).trans rfl, (Qc BK168.out 3).trans rfl, (Qc BK168.out 4).trans rfl, (Qc BK168.out 5).trans rfl, (Qc BK168.out 6).trans rfl⟩ (fun hHeld => ?_); refine with_tabW spec_spGood.tab3 spec_spGood.bits3 (fun HT_ HW_ => ?_)
       generalize wc.drew = w30 at BK168 HB hHeld ⊢
       refine pr_ 0 25 37 1 ?_
       refine tq_ 1 26 37 3 HT_.out HW_.out (by kernel_rfl) hHeld ?_ rfl (by rintro w' ⟨s0, s1, s2, s3, s4, s5, s6⟩; go_simp; with_reducible rfl)
       refine one_ (i := 2) (N := some 27) (bsA 37 7) rfl rfl (one_of HT_.out (by kernel_rfl)) (by decide) (fun K hK => ?_)
       refine goes_ Try.func29 (by kernel_rfl) rfl #[.agg #[.int .i64 a0_3, .slice A0_4 l0_4.length c0_4]] (by rfl) rfl rfl (by (try simp only [List.map_toArray, List.map_cons, List.map_nil]); first | done | rfl | (simp only [List.length_drop, List.length_take]; rfl)) ?_
       with_reducible refine (spec_biGood.calls kj1 a0_3 _ _ l0_4 false _ ?side1 ?side2 A14.out).mono ?_
       (case side1 => exact kC_ HR0_4)
       (case side2 => exact HC0_4.out)
       rintro e w31 ⟨rfl, hb⟩
       refine ⟨_, rfl, ?_⟩
       replace BK168 := Qx (Qb (kB_ BK168) hb)
       replace HB := Qx (Qp hB_ hb)
       (try clear hb); (try clear hb2); (try clear hk); (try clear hi)
       refine hK.out _ _ ⟨(Qc BK168.out 0).trans rfl, (Qc BK168.out 1).trans rfl, (Qc BK168.out 2).trans rfl, (Qc BK168.out 3).trans rfl, (Qc BK168.out 4).trans rfl, (Qc BK168.out 5).trans rfl, (Qc BK168.out 6).trans rfl⟩ (fun hHeld => ?_)
       clear hK K
       refine norm_ (a' := ?_) ?_ ?_
       rotate_left
       ·show Act.put _ (some 27) _ = _
        simp only [Act.put, List.setIfInBounds_toArray, List.set_cons_zero, List.set_cons_succ, i64_w]
        rfl
       refine pr_ 3 28 37 15 ?_
       refine pr_ 4 29 37 31 ?_
       refine ur_ 5 30 37 63 ?_
       refine ur_ 6 31 37 127 ?_
       refine ur_ 7 32 37 255 ?_
       refine ur_ 8 33 37 511 ?_
       refine pr_ 9 34 37 1023 ?_
       refine pr_ 10 35 37 2047 ?_
       refine ur_ 11 36 37 4095 ?_
       refine ur_ 12 37 37 8191 ?_
       refine ur_ 13 38 37 16383 ?_
       refine ur_ 14 39 37 32767 ?_
       refine ur_ 15 40 37 65535 ?_
       refine ur_ 16 41 37 131071 ?_
       refine ur_ 17 42 37 262143 ?_
       refine ur_ 18 43 37 524287 ?_
       refine ur_ 19 44 37 1048575 ?_
       refine pr_ 20 45 37 2097151 ?_
       refine pr_ 21 46 37 4194303 ?_
       refine ur_ 22 47 37 8388607 ?_
       refine ur_ 23 48 37 16777215 ?_
       refine ur_ 24 49 37 33554431 ?_
       refine ur_ 25 50 37 67108863 ?_
       refine ur_ 26 51 37 134217727 ?_
       refine ur_ 27 52 37 268435455 ?_
       refine ur_ 28 53 37 536870911 ?_
       refine ur_ 29 54 37 1073741823 ?_
       refine ur_ 30 55 37 2147483647 ?_
       refine ur_ 31 56 37 4294967295 ?_
       refine ur_ 32 57 37 8589934591 ?_
       refine ur_ 33 58 37 17179869183 ?_
       refine ur_ 34 59 37 34359738367 ?_
       refine ur_ 35 60 37 68719476735 ?_
       refine pr_ 36 61 37 137438953471 ?_
       refine done_ (done_of HT_.out (by kernel_rfl)) ?_
       try go_wp2
       go_meet
       case rel => exact ⟨_, (true), rg_, H', ⟨by have := HJ1.out; first | omega | exact Nat.le_refl _⟩, ⟨kB_ BK168⟩, ⟨hB_⟩⟩
     case rest =>
      clear HC13
      try clear c1
      try clear c2
      try clear p2
      try clear c15
      try clear c17
      try clear c29
      obtain ⟨kq, x61_12, rfl, HA, HJ12, BK168, HB⟩ := hcut
      cases kq with
      | zero => exact absurd HA.out (by simp [spec_spGood.j1])
      | succ kj12 =>
       have H := HA.out; clear HA; simp only [spec_spGood.j1] at H
       by_cases c32 : x61_12 = true
       ·subst c32
        have H1 : (some false) = some r := by rw [if_pos rfl] at H; exact H
        clear H; have H := H1; clear H1; obtain rfl := Option.some.inj H
        go_wp2
        go_ret
        exact ⟨rf_, hB_⟩
       ·replace c32 := Bool.eq_false_iff.mpr c32; subst c32
        have H1 : ((spec_spList.f kj12 a0_0 a0_1 a0_2 a0_3 l0_4 a0_5 l0_6).bind fun t174 => (if (t174.length : Int) = a0_0 then ((spec_spSorted.f kj12 t174 a0_1).bind fun t177 => (spec_spGood.j2 kj12 t174 (!t177) a0_0 a0_1 a0_2 a0_3 l0_4 a0_5 l0_6)) else (spec_spGood.j2 kj12 t174 true a0_0 a0_1 a0_2 a0_3 l0_4 a0_5 l0_6))) = some r := by rw [if_neg (show ¬ (false = true) by decide)] at H; exact H
        clear H; have H := H1; clear H1; replace H := Option.bind_eq_some_iff.mp H; obtain ⟨t174, A330, H⟩ := H
        have A33 := Qx A330; clear A330; have HC34 := Qx H; clear H
        obtain ⟨hcz35_0, hcz35_1, hcz35_2, hcz35_3, hcz35_4, hcz35_5, hcz35_6, hfz35_0, hfz35_1, hfz35_2, hfz35_3, hfz35_4, hfz35_5, hfz35_6⟩ := cellsQ7_g1b (w := wc) BK168.out
        go_upto_region 6 with (first | ((with_reducible refine gate_callee (f := 15) rfl ?_); refine gl_ 63 Try.func15 #[.agg #[.int .i64 a0_0, .int .i64 a0_1, .int .i64 a0_2, .int .i64 a0_3, .slice A0_4 l0_4.length c0_4, .int .i64 a0_5, .slice A0_6 l0_6.length c0_6]] ?_; (with_reducible refine (spec_spList.calls kj12 a0_0 a0_1 a0_2 a0_3 _ _ l0_4 a0_5 _ _ l0_6 t174 _ ?side1 ?side2 ?side3 ?side4 A33.out).mono ?_); (case side1 => exact kC_ HR0_4); (case side2 => exact HC0_4.out); (case side3 => exact kC_ HR0_6); (case side4 => exact HC0_6.out); rintro e w36 ⟨v175, rfl, ho0, hb⟩; refine ⟨_, rfl, ?_⟩; have HO176 := Qx (Kd.R_lower ho0 (below_size hB_)); replace BK168 := Qx (Qb (kB_ BK168) hb); replace HB := Qx (Qp hB_ hb); (try clear hb); (try clear hb2); (try clear hk); (try clear hi); (try clear ho0)))
        (try simp only [Act.put, List.setIfInBounds_toArray, List.set_cons_zero, List.set_cons_succ])
        go_cut [75] (fun v75 wc => ∃ (kq : Nat) (x75_33 : Bool), v75 = .bool x75_33 ∧ Aside0 (spec_spGood.j2 kq t174 x75_33 a0_0 a0_1 a0_2 a0_3 l0_4 a0_5 l0_6 = some r) ∧ Aside0 (kq ≤ kj12) ∧ Aside0 (Kd.R (Kd.int .i64) 3 wc w.heap.size (fun _ => True) v175 t174) ∧ Aside0 (wc.heap[gb168]? = some (.cells #[.int .i64 a0_0, .int .i64 a0_1, .int .i64 a0_2, .int .i64 a0_3, (.slice A0_4 l0_4.length c0_4), .int .i64 a0_5, (.slice A0_6 l0_6.length c0_6)] 30 (0, 0))) ∧ Aside0 (Below w.heap.size w wc))
        case first =>
         have H := HC34.out; clear HC34
         by_cases c37 : (t174.length : Int) = a0_0
         ·rw [if_pos c37] at H
          have c37b0 : ((t174.length : Int) == a0_0) = true := beq_iff_eq.mpr c37
          have c37b1 : ((t174.length : Int) != a0_0) = false := bne_eq_false_iff_eq.mpr c37
          clear c37
          (first | rw [c37b0] | (simp only [i64_w, i32_w]; rw [c37b0]) | skip)
          replace H := Option.bind_eq_some_iff.mp H; obtain ⟨t177, A380, H⟩ := H
          have A38 := Qx A380; clear A380; have H' := Qx H; clear H; obtain ⟨Ao39, co39, eo39⟩ := Kd.R_slice HO176.out; subst eo39
          obtain ⟨hcz40_0, hcz40_1, hcz40_2, hcz40_3, hcz40_4, hcz40_5, hcz40_6, hfz40_0, hfz40_1, hfz40_2, hfz40_3, hfz40_4, hfz40_5, hfz40_6⟩ := cellsQ7_g1b (w := w36) BK168.out
          go_wp2_with (first | (go_at_call 30; (with_reducible refine (spec_spSorted.calls kj12 _ _ t174 a0_1 t177 _ ?side1 ?side2 A38.out).mono ?_); (case side1 => exact kD_ HO176); (case side2 => exact (Kd.R_reads' HO176.out).2.1); rintro e w' ⟨rfl, ⟨nd, rfl⟩⟩))
          go_meet
          case rel => exact ⟨_, (!t177), rg_, H', ⟨by have := HJ1.out; have := HJ12.out; first | omega | exact Nat.le_refl _⟩, ⟨kR_ HO176⟩, ⟨kB_ BK168⟩, ⟨hB_⟩⟩
         ·rw [if_neg c37] at H
          have c37b0 : ((t174.length : Int) == a0_0) = false := beq_eq_false_iff_ne.mpr c37
          have c37b1 : ((t174.length : Int) != a0_0) = true := bne_iff_ne.mpr c37
          (first | rw [c37b0] | (simp only [i64_w, i32_w]; rw [c37b0]) | skip)
          have H' := Qx H; clear H; obtain ⟨Ao41, co41, eo41⟩ := Kd.R_slice HO176.out; subst eo41
          obtain ⟨hcz42_0, hcz42_1, hcz42_2, hcz42_3, hcz42_4, hcz42_5, hcz42_6, hfz42_0, hfz42_1, hfz42_2, hfz42_3, hfz42_4, hfz42_5, hfz42_6⟩ := cellsQ7_g1b (w := w36) BK168.out
          go_wp2
          go_meet
          case rel => exact ⟨_, (true), rg_, H', ⟨by have := HJ1.out; have := HJ12.out; first | omega | exact Nat.le_refl _⟩, ⟨kR_ HO176⟩, ⟨kB_ BK168⟩, ⟨hB_⟩⟩
        case rest =>
         clear HC34
         try clear c1
         try clear c2
         try clear p2
         try clear c3
         try clear c15
         try clear c17
         try clear c29
         try clear c32
         try clear c37
         try clear c37b0
         try clear c37b1
         try clear hcz35_0
         try clear hcz35_1
         try clear hcz35_2
         try clear hcz35_3
         try clear hcz35_4
         try clear hcz35_5
         try clear hcz35_6
         try clear hcz40_0
         try clear hcz40_1
         try clear hcz40_2
         try clear hcz40_3
         try clear hcz40_4
         try clear hcz40_5
         try clear hcz40_6
         try clear hcz42_0
         try clear hcz42_1
         try clear hcz42_2
         try clear hcz42_3
         try clear hcz42_4
         try clear hcz42_5
         try clear hcz42_6
         try clear hfz35_0
         try clear hfz35_1
         try clear hfz35_2
         try clear hfz35_3
         try clear hfz35_4
         try clear hfz35_5
         try clear hfz35_6
         try clear hfz40_0
         try clear hfz40_1
         try clear hfz40_2
         try clear hfz40_3
         try clear hfz40_4
         try clear hfz40_5
         try clear hfz40_6
         try clear hfz42_0
         try clear hfz42_1
         try clear hfz42_2
         try clear hfz42_3
         try clear hfz42_4
         try clear hfz42_5
         try clear hfz42_6
         try clear p2
         obtain ⟨kq, x75_33, rfl, HA, HJ33, HO_3, BK168, HB⟩ := hcut
         cases kq with
         | zero => exact absurd HA.out (by simp [spec_spGood.j2])
         | succ kj33 =>
          have H := HA.out; clear HA; simp only [spec_spGood.j2] at H
          by_cases c43 : x75_33 = true
          ·subst c43
           have H1 : (some false) = some r := by rw [if_pos rfl] at H; exact H
           clear H; have H := H1; clear H1; obtain rfl := Option.some.inj H
           go_wp2
           go_ret
           exact ⟨rf_, hB_⟩
          ·replace c43 := Bool.eq_false_iff.mpr c43; subst c43
           have H1 : ((spec_spOf.f kj33 t174 a0_1).bind fun bt178 => ((spec_biSame.f kj33 a0_3 l0_4 bt178.2.2.2.1 bt178.2.2.2.2.1).bind fun t190 => (if t190 = true then ((spec_biSame.f kj33 a0_5 l0_6 bt178.2.2.2.2.2.1 bt178.2.2.2.2.2.2).bind fun t191 => (some t191)) else (some false)))) = some r := by rw [if_neg (show ¬ (false = true) by decide)] at H; exact H
           clear H; have H := H1; clear H1; replace H := Option.bind_eq_some_iff.mp H; obtain ⟨⟨t178, t179, t180, t181, t182, t185, t186⟩, A440, H⟩ := H
           have A44 := Qx A440; clear A440; replace H := Option.bind_eq_some_iff.mp H; obtain ⟨t190, A450, H⟩ := H
           have A45 := Qx A450; clear A450
           by_cases c46 : t190 = true
           ·subst c46
            have H1 : ((spec_biSame.f kj33 a0_5 l0_6 t185 t186).bind fun t191 => (some t191)) = some r := by rw [if_pos rfl] at H; exact H
            clear H; have H := H1; clear H1; replace H := Option.bind_eq_some_iff.mp H; obtain ⟨t191, A470, H⟩ := H
            have A47 := Qx A470; clear A470; obtain rfl := Option.some.inj H
            obtain ⟨hcz48_0, hcz48_1, hcz48_2, hcz48_3, hcz48_4, hcz48_5, hcz48_6, hfz48_0, hfz48_1, hfz48_2, hfz48_3, hfz48_4, hfz48_5, hfz48_6⟩ := cellsQ7_g1b (w := wc) BK168.out
            obtain ⟨Ao49, co49, eo49⟩ := Kd.R_slice HO_3.out; subst eo49
            go_wp2_with (first | ((with_reducible refine gate_callee (f := 13) rfl ?_); refine gl_ 79 Try.func13 #[.slice Ao49 t174.length co49, .int .i64 a0_1] ?_; (with_reducible refine (spec_spOf.calls kj33 _ _ t174 a0_1 t178 t179 t180 t181 t182 t185 t186 _ ?side1 ?side2 A44.out).mono ?_); (case side1 => exact kD_ HO_3); (case side2 => exact (Kd.R_reads' HO_3.out).2.1); rintro e w50 ⟨v183, v187, rfl, ho0, ho1, hb⟩; refine ⟨_, rfl, ?_⟩; have n0_ := Qx (Kd.R_lower (Kd.R_new' ho0 (Kd.R_lt (kR_ HO_3))) (below_size hB_)); have n1_ := Qx (Kd.R_lower (Kd.R_new' ho1 (Kd.R_lt (kR_ HO_3))) (below_size hB_)); have n2_ := Qx (Qb (kB_ BK168) hb); have n3_ := Qx (Qp hB_ hb); clear BK168 HB HO_3; have HO184 := n0_; have HO188 := n1_; have BK168 := n2_; have HB := n3_; clear n0_ n1_ n2_ n3_; (try clear hb); (try clear hb2); (try clear hk); (try clear hi); (try clear ho0); (try clear ho1)) | ((with_reducible refine gate_dst (N := 4) rfl ?_); refine bx_ 4 #[.int .i64 0, .int .i64 0, .int .i64 0, .int .i64 0, .slice none 0 0, .int .i64 0, .slice none 0 0] 30 ?_; intro gb189 hg w51 hbox hb; replace HO184 := Qx (Kd.R_below (kR_ HO184) hb); replace HO188 := Qx (Kd.R_below (kR_ HO188) hb); have BK189 := Qx (hbox); have GW189 := Qx ((ge_ hg)); have GE189 := Qx ((ge_ hg)); replace HB := Qx (Qp hB_ hb); have NB168_189 := Qx ((ne_ hg BK168)); have NB189_168 := Qx ((nf_ hg BK168)); replace BK168 := Qx (Qb (kB_ BK168) hb); clear hb hbox hg; have hnb52 := NB189_168.out; have hnc52 := NB168_189.out; obtain ⟨hcz53_0, hcz53_1, hcz53_2, hcz53_3, hcz53_4, hcz53_5, hcz53_6, hfz53_0, hfz53_1, hfz53_2, hfz53_3, hfz53_4, hfz53_5, hfz53_6⟩ := cellsQ7_g1b (w := w51) BK189.out; obtain ⟨Ao54, co54, eo54⟩ := Kd.R_slice HO184.out; subst eo54; obtain ⟨Ao55, co55, eo55⟩ := Kd.R_slice HO188.out; subst eo55; obtain ⟨hcz56_0, hcz56_1, hcz56_2, hcz56_3, hcz56_4, hcz56_5, hcz56_6, hfz56_0, hfz56_1, hfz56_2, hfz56_3, hfz56_4, hfz56_5, hfz56_6⟩ := cellsQ7_g1b (w := w51) BK168.out) | ((with_reducible refine gate_callee (f := 31) rfl ?_); refine gl_ 84 Try.func31 #[.agg #[.int .i64 a0_3, .slice A0_4 l0_4.length c0_4], .agg #[.int .i64 t181, .slice Ao54 t182.length co54]] ?_; (with_reducible refine (spec_biSame.calls kj33 a0_3 _ _ l0_4 t181 _ _ t182 true _ ?side1 ?side2 ?side3 ?side4 A45.out).mono ?_); (case side1 => exact Kd.C_below HR0_4.out hB_); (case side2 => exact HC0_4.out); (case side3 => refine (Kd.R_reads' (e := 3) (base := w.heap.size) (ok := fun k_ => (some k_ ≠ (.slice Ao55 t186.length co55 : Value).ownBlock ∧ some k_ ≠ (.slice Ao49 t174.length co49 : Value).ownBlock)) (n := t182.length) (c := co54) ?_).2.2; exact (by (with_reducible repeat (first | apply Kd.R_alloc | apply Kd.R_drewN | apply Kd.R_drew)); exact (Kd.R_mono (farsQ7_g1b (Kd.R_types HO184.out BK189.out (by decide)) (fun _ hk => hk.2) (.int .i64 t178) (.int .i64 t179) (.int .i64 t180) (.int .i64 t181) (.slice Ao54 t182.length co54) (.int .i64 t185) (.slice Ao55 t186.length co55)) (fun _ h_ => h_.1)))); (case side4 => exact (Kd.R_reads' HO184.out).2.1); rintro e w57 ⟨rfl, hb⟩; refine ⟨_, rfl, ?_⟩; have n0_ := Qx (Kd.R_below (by (with_reducible repeat (first | apply Kd.R_alloc | apply Kd.R_drewN | apply Kd.R_drew)); exact (Kd.R_mono (farsQ7_g1b (Kd.R_types HO188.out BK189.out (by decide)) (fun _ hk => hk.2) (.int .i64 t178) (.int .i64 t179) (.int .i64 t180) (.int .i64 t181) (.slice Ao54 t182.length co54) (.int .i64 t185) (.slice Ao55 t186.length co55)) (fun _ h_ => h_.1))) hb); have n1_ := Qx (Qb (g := gb168) (o := .cells #[.int .i64 a0_0, .int .i64 a0_1, .int .i64 a0_2, .int .i64 a0_3, .slice A0_4 l0_4.length c0_4, .int .i64 a0_5, .slice A0_6 l0_6.length c0_6] 30 (0, 0)) (by (with_reducible repeat (first | refine Qm ?_ _ | refine Qw ?_ | refine Qk ?_ _)); refine blk_far ?_ NB168_189.out _; (with_reducible repeat (first | refine Qm ?_ _ | refine Qw ?_ | refine Qk ?_ _)); refine blk_far ?_ NB168_189.out _; (with_reducible repeat (first | refine Qm ?_ _ | refine Qw ?_ | refine Qk ?_ _)); refine blk_far ?_ NB168_189.out _; (with_reducible repeat (first | refine Qm ?_ _ | refine Qw ?_ | refine Qk ?_ _)); refine blk_far ?_ NB168_189.out _; (with_reducible repeat (first | refine Qm ?_ _ | refine Qw ?_ | refine Qk ?_ _)); refine blk_far ?_ NB168_189.out _; (with_reducible repeat (first | refine Qm ?_ _ | refine Qw ?_ | refine Qk ?_ _)); refine blk_far ?_ NB168_189.out _; (with_reducible repeat (first | refine Qm ?_ _ | refine Qw ?_ | refine Qk ?_ _)); refine blk_far ?_ NB168_189.out _; (with_reducible repeat (first | refine Qm ?_ _ | refine Qw ?_ | refine Qk ?_ _)); exact BK168.out) hb); have n2_ := Qx (Qb (g := gb189) (o := .cells #[.int .i64 t178, .int .i64 t179, .int .i64 t180, .int .i64 t181, .slice Ao54 t182.length co54, .int .i64 t185, .slice Ao55 t186.length co55] 30 (0, 0)) (by (with_reducible repeat (first | refine Qm ?_ _ | refine Qw ?_ | refine Qk ?_ _)); refine blk_put (cs := #[.int .i64 t178, .int .i64 t179, .int .i64 t180, .int .i64 t181, .slice Ao54 t182.length co54, .int .i64 t185, .slice none 0 0]) ?_ 6 _ rfl; (with_reducible repeat (first | refine Qm ?_ _ | refine Qw ?_ | refine Qk ?_ _)); refine blk_put (cs := #[.int .i64 t178, .int .i64 t179, .int .i64 t180, .int .i64 t181, .slice Ao54 t182.length co54, .int .i64 0, .slice none 0 0]) ?_ 5 _ rfl; (with_reducible repeat (first | refine Qm ?_ _ | refine Qw ?_ | refine Qk ?_ _)); refine blk_put (cs := #[.int .i64 t178, .int .i64 t179, .int .i64 t180, .int .i64 t181, .slice none 0 0, .int .i64 0, .slice none 0 0]) ?_ 4 _ rfl; (with_reducible repeat (first | refine Qm ?_ _ | refine Qw ?_ | refine Qk ?_ _)); refine blk_put (cs := #[.int .i64 t178, .int .i64 t179, .int .i64 t180, .int .i64 0, .slice none 0 0, .int .i64 0, .slice none 0 0]) ?_ 3 _ rfl; (with_reducible repeat (first | refine Qm ?_ _ | refine Qw ?_ | refine Qk ?_ _)); refine blk_put (cs := #[.int .i64 t178, .int .i64 t179, .int .i64 0, .int .i64 0, .slice none 0 0, .int .i64 0, .slice none 0 0]) ?_ 2 _ rfl; (with_reducible repeat (first | refine Qm ?_ _ | refine Qw ?_ | refine Qk ?_ _)); refine blk_put (cs := #[.int .i64 t178, .int .i64 0, .int .i64 0, .int .i64 0, .slice none 0 0, .int .i64 0, .slice none 0 0]) ?_ 1 _ rfl; (with_reducible repeat (first | refine Qm ?_ _ | refine Qw ?_ | refine Qk ?_ _)); refine blk_put (cs := #[.int .i64 0, .int .i64 0, .int .i64 0, .int .i64 0, .slice none 0 0, .int .i64 0, .slice none 0 0]) ?_ 0 _ rfl; (with_reducible repeat (first | refine Qm ?_ _ | refine Qw ?_ | refine Qk ?_ _)); exact BK189.out) hb); have n3_ := Qx (Qp hB_ hb); clear HO188 BK168 BK189 HB HO184; have HO188 := n0_; have BK168 := n1_; have BK189 := n2_; have HB := n3_; clear n0_ n1_ n2_ n3_; (try clear hb); (try clear hb2); (try clear hk); (try clear hi); obtain ⟨hcz58_0, hcz58_1, hcz58_2, hcz58_3, hcz58_4, hcz58_5, hcz58_6, hfz58_0, hfz58_1, hfz58_2, hfz58_3, hfz58_4, hfz58_5, hfz58_6⟩ := cellsQ7_g1b (w := w57) BK168.out; obtain ⟨hcz59_0, hcz59_1, hcz59_2, hcz59_3, hcz59_4, hcz59_5, hcz59_6, hfz59_0, hfz59_1, hfz59_2, hfz59_3, hfz59_4, hfz59_5, hfz59_6⟩ := cellsQ7_g1b (w := w57) BK189.out) | (go_at_call 31; (with_reducible refine (spec_biSame.calls kj33 a0_5 _ _ l0_6 t185 _ _ t186 t191 _ ?side1 ?side2 ?side3 ?side4 A47.out).mono ?_); (case side1 => exact kC_ HR0_6); (case side2 => exact HC0_6.out); (case side3 => exact kD_ HO188); (case side4 => exact (Kd.R_reads' HO188.out).2.1); rintro e w60 ⟨rfl, hb⟩; have n0_ := Qx (Qp hB_ hb); clear HB BK168 BK189 HO188; have HB := n0_; clear n0_; (try clear hb); (try clear hb2); (try clear hk); (try clear hi)))
            go_ret
            exact ⟨rf_, hB_⟩
           ·replace c46 := Bool.eq_false_iff.mpr c46; subst c46
            have H1 : (some false) = some r := by rw [if_neg (show ¬ (false = true) by decide)] at H; exact H
            clear H; have H := H1; clear H1; obtain rfl := Option.some.inj H
            obtain ⟨hcz61_0, hcz61_1, hcz61_2, hcz61_3, hcz61_4, hcz61_5, hcz61_6, hfz61_0, hfz61_1, hfz61_2, hfz61_3, hfz61_4, hfz61_5, hfz61_6⟩ := cellsQ7_g1b (w := wc) BK168.out
            obtain ⟨Ao62, co62, eo62⟩ := Kd.R_slice HO_3.out; subst eo62
            go_wp2_with (first | ((with_reducible refine gate_callee (f := 13) rfl ?_); refine gl_ 79 Try.func13 #[.slice Ao62 t174.length co62, .int .i64 a0_1] ?_; (with_reducible refine (spec_spOf.calls kj33 _ _ t174 a0_1 t178 t179 t180 t181 t182 t185 t186 _ ?side1 ?side2 A44.out).mono ?_); (case side1 => exact kD_ HO_3); (case side2 => exact (Kd.R_reads' HO_3.out).2.1); rintro e w63 ⟨v183, v187, rfl, ho0, ho1, hb⟩; refine ⟨_, rfl, ?_⟩; have n0_ := Qx (Kd.R_lower (Kd.R_new' ho0 (Kd.R_lt (kR_ HO_3))) (below_size hB_)); have n1_ := Qx (Kd.R_lower (Kd.R_new' ho1 (Kd.R_lt (kR_ HO_3))) (below_size hB_)); have n2_ := Qx (Qb (kB_ BK168) hb); have n3_ := Qx (Qp hB_ hb); clear BK168 HB HO_3; have HO184 := n0_; have HO188 := n1_; have BK168 := n2_; have HB := n3_; clear n0_ n1_ n2_ n3_; (try clear hb); (try clear hb2); (try clear hk); (try clear hi); (try clear ho0); (try clear ho1)) | ((with_reducible refine gate_dst (N := 4) rfl ?_); refine bx_ 4 #[.int .i64 0, .int .i64 0, .int .i64 0, .int .i64 0, .slice none 0 0, .int .i64 0, .slice none 0 0] 30 ?_; intro gb189 hg w64 hbox hb; replace HO184 := Qx (Kd.R_below (kR_ HO184) hb); replace HO188 := Qx (Kd.R_below (kR_ HO188) hb); have BK189 := Qx (hbox); have GW189 := Qx ((ge_ hg)); have GE189 := Qx ((ge_ hg)); replace HB := Qx (Qp hB_ hb); have NB168_189 := Qx ((ne_ hg BK168)); have NB189_168 := Qx ((nf_ hg BK168)); replace BK168 := Qx (Qb (kB_ BK168) hb); clear hb hbox hg; have hnb65 := NB189_168.out; have hnc65 := NB168_189.out; obtain ⟨hcz66_0, hcz66_1, hcz66_2, hcz66_3, hcz66_4, hcz66_5, hcz66_6, hfz66_0, hfz66_1, hfz66_2, hfz66_3, hfz66_4, hfz66_5, hfz66_6⟩ := cellsQ7_g1b (w := w64) BK189.out; obtain ⟨Ao67, co67, eo67⟩ := Kd.R_slice HO184.out; subst eo67; obtain ⟨Ao68, co68, eo68⟩ := Kd.R_slice HO188.out; subst eo68; obtain ⟨hcz69_0, hcz69_1, hcz69_2, hcz69_3, hcz69_4, hcz69_5, hcz69_6, hfz69_0, hfz69_1, hfz69_2, hfz69_3, hfz69_4, hfz69_5, hfz69_6⟩ := cellsQ7_g1b (w := w64) BK168.out) | ((with_reducible refine gate_callee (f := 31) rfl ?_); refine gl_ 84 Try.func31 #[.agg #[.int .i64 a0_3, .slice A0_4 l0_4.length c0_4], .agg #[.int .i64 t181, .slice Ao67 t182.length co67]] ?_; (with_reducible refine (spec_biSame.calls kj33 a0_3 _ _ l0_4 t181 _ _ t182 false _ ?side1 ?side2 ?side3 ?side4 A45.out).mono ?_); (case side1 => exact Kd.C_below HR0_4.out hB_); (case side2 => exact HC0_4.out); (case side3 => refine (Kd.R_reads' (e := 3) (base := w.heap.size) (ok := fun k_ => (some k_ ≠ (.slice Ao68 t186.length co68 : Value).ownBlock ∧ some k_ ≠ (.slice Ao62 t174.length co62 : Value).ownBlock)) (n := t182.length) (c := co67) ?_).2.2; exact (by (with_reducible repeat (first | apply Kd.R_alloc | apply Kd.R_drewN | apply Kd.R_drew)); exact (Kd.R_mono (farsQ7_g1b (Kd.R_types HO184.out BK189.out (by decide)) (fun _ hk => hk.2) (.int .i64 t178) (.int .i64 t179) (.int .i64 t180) (.int .i64 t181) (.slice Ao67 t182.length co67) (.int .i64 t185) (.slice Ao68 t186.length co68)) (fun _ h_ => h_.1)))); (case side4 => exact (Kd.R_reads' HO184.out).2.1); rintro e w70 ⟨rfl, hb⟩; refine ⟨_, rfl, ?_⟩; have n0_ := Qx (Qp hB_ hb); clear HB BK168 BK189 HO184 HO188; have HB := n0_; clear n0_; (try clear hb); (try clear hb2); (try clear hk); (try clear hi)))
            go_ret
            exact ⟨rf_, hB_⟩
end Go.Proofs.Ytknofkpmeobhbaa.X
