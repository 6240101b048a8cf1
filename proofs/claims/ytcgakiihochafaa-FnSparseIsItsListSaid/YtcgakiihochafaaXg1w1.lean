/- Written by a program of this session: what functions of the given program compute, and that their calls do so. -/
import Derived.Test.YtcgakiihochafaaXx0
import Derived.Test.YtcgakiihochafaaXg1a
import Derived.Test.YtcgakiihochafaaXg1b
import Derived.Test.YtcgakiihochafaaXg1c
import Derived.Test.YtcgakiihochafaaXg1d
import Derived.Test.YtcgakiihochafaaXg1e
import Derived.Test.YtcgakiihochafaaXs
import Derived.Test.YtcgakiihochafaaXg1wP
namespace Go.Proofs.Ytcgakiihochafaa.X
open Go.RowKit Go.Proofs.YtcgakiihochafaaW.PrintWords Go.Proofs.YtcgakiihochafaaW.PrintLast Go.Proofs.YtcgakiihochafaaW.PrintMore
theorem cellsQ7_g1w1 {w : World} {g : Nat} {t : TypeId} {a0 a1 a2 a3 a4 a5 a6 : Value} (k : w.heap[g]? = some (.cells #[a0, a1, a2, a3, a4, a5, a6] t (0, 0))) : w.cell? ⟨g, 0, none⟩ = some a0 ∧ w.cell? ⟨g, 1, none⟩ = some a1 ∧ w.cell? ⟨g, 2, none⟩ = some a2 ∧ w.cell? ⟨g, 3, none⟩ = some a3 ∧ w.cell? ⟨g, 4, none⟩ = some a4 ∧ w.cell? ⟨g, 5, none⟩ = some a5 ∧ w.cell? ⟨g, 6, none⟩ = some a6 ∧ w.frozen? ⟨g, 0, none⟩ = false ∧ w.frozen? ⟨g, 1, none⟩ = false ∧ w.frozen? ⟨g, 2, none⟩ = false ∧ w.frozen? ⟨g, 3, none⟩ = false ∧ w.frozen? ⟨g, 4, none⟩ = false ∧ w.frozen? ⟨g, 5, none⟩ = false ∧ w.frozen? ⟨g, 6, none⟩ = false := ⟨(blk_cell k 0).trans rfl, (blk_cell k 1).trans rfl, (blk_cell k 2).trans rfl, (blk_cell k 3).trans rfl, (blk_cell k 4).trans rfl, (blk_cell k 5).trans rfl, (blk_cell k 6).trans rfl, blk_frozen k 0, blk_frozen k 1, blk_frozen k 2, blk_frozen k 3, blk_frozen k 4, blk_frozen k 5, blk_frozen k 6⟩
theorem farsQ7_g1w1 {τ : Type} {d : Kd τ} {e : Nat} {w : World} {base g : Nat} {ok : Nat → Prop} {v : Value} {xs : List τ} (h : d.R e w base ok v xs) (hok : ∀ k, ok k → k ≠ g) (u0 u1 u2 u3 u4 u5 u6 : Value) : d.R e (((((((w.setCell ⟨g, 0, none⟩ u0).setCell ⟨g, 1, none⟩ u1).setCell ⟨g, 2, none⟩ u2).setCell ⟨g, 3, none⟩ u3).setCell ⟨g, 4, none⟩ u4).setCell ⟨g, 5, none⟩ u5).setCell ⟨g, 6, none⟩ u6) base ok v xs := Kd.R_far (p := ⟨g, 6, none⟩) (Kd.R_far (p := ⟨g, 5, none⟩) (Kd.R_far (p := ⟨g, 4, none⟩) (Kd.R_far (p := ⟨g, 3, none⟩) (Kd.R_far (p := ⟨g, 2, none⟩) (Kd.R_far (p := ⟨g, 1, none⟩) (Kd.R_far (p := ⟨g, 0, none⟩) h hok u0) hok u1) hok u2) hok u3) hok u4) hok u5) hok u6
open Go.Proofs.YtcgakiihochafaaW.PrintWords renaming blk_alloc → Qk, blk_drewN → Qm, blk_drew → Qw, below_step → Qp, blk_below → Qb, blk_put → Qu
open Go.Proofs.YtcgakiihochafaaW.PrintWords.Kd renaming R_drewN → Qrn, R_alloc → Qra, R_drew → Qrd, R_mono → Qrm, R_below → Qrb
open Go.Proofs.YtcgakiihochafaaW.PrintWords.Aside0 renaming mk → Qx
attribute [local go_sem] max2_int min2_int max_two min_two max_three min_three max_four min_four   -- for this text's walks alone
set_option linter.unusedVariables false
set_option linter.unusedSimpArgs false
set_option maxHeartbeats 16000000 in
set_option maxRecDepth 100000 in
theorem laws_FnSparseIsItsList.way1 (k : Nat) (A0 : Option Addr) (c0 : Nat) (l0 : List Int) (A1 : Option Addr) (c1 : Nat) (l1 : List Int) (r : Bool) (w : World)
    (HR0 : Aside0 (Kd.C (Kd.int .u8) w A0 l0.length l0)) (HC0 : Aside0 (l0.length ≤ c0)) (HR1 : Aside0 (Kd.C (Kd.int .u8) w A1 l1.length l1)) (HC1 : Aside0 (l1.length ≤ c1))
    (t427 : List Int) (t428 t431 t432 t433 t434 : Int) (t435 : List Int) (t438 : Int) (t439 : List Int) (t442 : Bool) (t444 t445 t446 t447 : Int) (t448 : List Int) (t451 : Int) (t452 t458 : List Int) (t462 : Int)
    (A3 : Aside0 (laws_big.f l0 l1 = some false)) (A5 : Aside0 (spec_DrawBuildSparse.f k l0 = some (t427, t428))) (A6 : Aside0 (impl_BuildSparse.f k t427 t428 = some (t431, t432, t433, t434, t435, t438, t439, t442))) (A7 : Aside0 (spec_BuildSparse.f k t427 t428 = some (t444, t445, t446, t447, t448, t451, t452, true)))
    (c8b0 : (t442 != true) = false) (A9 : Aside0 (laws_pSameSparse.f k t431 t432 t433 t434 t435 t438 t439 t444 t445 t446 t447 t448 t451 t452 = some true)) (A12 : Aside0 (impl_SparseList.f k t431 t432 t433 t434 t435 t438 t439 = some (t458, true))) (A13 : Aside0 (impl_SparseBits.f k t431 t432 t433 t434 t435 t438 t439 = some (t462, true))) (A16 : Aside0 (laws_pSameInts.f k t458 t427 = some true)) (H : (laws_FnSparseIsItsList.l0 k t427 t427 (t427.length : Int) 0 t431 t432 t433 t434 t435 t438 t439) = some r) (c18b0 : decide (0 < (t427.length : Int)) = true) (c18b1 : decide (0 < t427.length) = true) (c19b0 : decide ((t427.length : Int) ≤ t428) = true) (c20b0 : decide ((wrap64 ((t427.length : Int) * (wrap64 (t433 + 3)))) < t462) = false) :
    Calls Try.prog 3 #[.slice A0 l0.length c0, .slice A1 l1.length c1] w fun e w' => e = .returned (.bool r) ∧ Below w.heap.size w w' := by
  have hu30 := Try.underlying30
  have HB := Qx (Below.refl w.heap.size w)
  (try (have c8b1 : decide (t442 = true) = true := by simpa using c8b0))
  (try (have c8b2 : (t442 == true) = true := by simpa using c8b0))
  have H' := Qx H; clear H
  go_enter Try.func3, Try.ntmps3
  go_wp2_with (first | ((with_reducible refine gate_callee (f := 4) rfl ?_); refine gl_ 27 Try.func4 #[.slice A0 l0.length c0, .slice A1 l1.length c1] ?_; (with_reducible refine (laws_big.calls _ _ l0 _ _ l1 false _ ?side1 ?side2 ?side3 ?side4 A3.out).mono ?_); (case side1 => exact kE_ HR0); (case side2 => exact HC0.out); (case side3 => exact kE_ HR1); (case side4 => exact HC1.out); rintro e w' ⟨rfl, ⟨nd, rfl⟩⟩; refine ⟨_, rfl, ?_⟩) | ((with_reducible refine gate_callee (f := 5) rfl ?_); refine gl_ 30 Try.func5 #[.slice A0 l0.length c0] ?_; (with_reducible refine (spec_DrawBuildSparse.calls k _ _ l0 t427 t428 _ ?side1 ?side2 A5.out).mono ?_); (case side1 => exact kE_ HR0); (case side2 => exact HC0.out); rintro e w21 ⟨v429, rfl, ho0, hb⟩; refine ⟨_, rfl, ?_⟩; have HO430 := Qx (Kd.R_lower ho0 (below_size hB_)); replace HB := Qx (Qp hB_ hb); (try clear hb); (try clear hb2); (try clear hk); (try clear hi); (try clear ho0); obtain ⟨Ao22, co22, eo22⟩ := Kd.R_slice HO430.out; subst eo22) | ((with_reducible refine gate_callee (f := 6) rfl ?_); refine gl_ 36 Try.func6 #[.slice Ao22 t427.length co22, .int .i64 t428] ?_; (with_reducible refine (impl_BuildSparse.calls k _ _ t427 t428 t431 t432 t433 t434 t435 t438 t439 t442 _ ?side1 ?side2 A6.out).mono ?_); (case side1 => exact kD_ HO430); (case side2 => exact (Kd.R_reads' HO430.out).2.1); rintro e w23 ⟨v436, v440, rfl, ho0, ho1, hb⟩; refine ⟨_, rfl, ?_⟩; have HO437 := Qx (Kd.R_lower (Kd.R_new' ho0 (Kd.R_lt (kR_ HO430))) (below_size hB_)); have HO441 := Qx (Kd.R_lower (Kd.R_new' ho1 (Kd.R_lt (kR_ HO430))) (below_size hB_)); replace HO430 := Qx (Qrm (Kd.R_told (Kd.R_told (Kd.R_old (kR_ HO430) hb) (Kd.R_base ho0)) (Kd.R_base ho1)) (fun _ h_ => h_.1)); replace HB := Qx (Qp hB_ hb); (try clear hb); (try clear hb2); (try clear hk); (try clear hi); (try clear ho0); (try clear ho1)) | ((with_reducible refine gate_dst (N := 7) rfl ?_); (try (refine gate_guard (by rfl) ?_; dsimp only)); refine bx_ 7 #[.int .i64 0, .int .i64 0, .int .i64 0, .int .i64 0, .slice none 0 0, .int .i64 0, .slice none 0 0] 30 ?_; intro gb443 hg w24 hbox hb; replace HO430 := Qx (Qrb (kR_ HO430) hb); replace HO437 := Qx (Qrb (kR_ HO437) hb); replace HO441 := Qx (Qrb (kR_ HO441) hb); have BK443 := Qx (hbox); have GW443 := Qx ((ge_ hg)); have GE443 := Qx ((ge_ hg)); replace HB := Qx (Qp hB_ hb); clear hb hbox hg; obtain ⟨hcz25_0, hcz25_1, hcz25_2, hcz25_3, hcz25_4, hcz25_5, hcz25_6, hfz25_0, hfz25_1, hfz25_2, hfz25_3, hfz25_4, hfz25_5, hfz25_6⟩ := cellsQ7_g1w1 (w := w24) BK443.out; obtain ⟨Ao26, co26, eo26⟩ := Kd.R_slice HO437.out; subst eo26; obtain ⟨Ao27, co27, eo27⟩ := Kd.R_slice HO441.out; subst eo27) | ((with_reducible refine gate_callee (f := 7) rfl ?_); refine gl_ 42 Try.func7 #[.slice Ao22 t427.length co22, .int .i64 t428] ?_; (with_reducible refine (spec_BuildSparse.calls k _ _ t427 t428 t444 t445 t446 t447 t448 t451 t452 true _ ?side1 ?side2 A7.out).mono ?_); (case side1 => refine (Kd.R_reads' (e := 3) (base := w.heap.size) (ok := fun k_ => ((True ∧ some k_ ≠ (.slice Ao26 t435.length co26 : Value).ownBlock) ∧ some k_ ≠ (.slice Ao27 t439.length co27 : Value).ownBlock)) (n := t427.length) (c := co22) ?_).2.2; exact (by (with_reducible repeat (first | apply Qra | apply Qrn | apply Qrd)); exact (Qrm (farsQ7_g1w1 (Kd.R_types HO430.out BK443.out (by decide)) (fun _ hk => hk.2) (.int .i64 t431) (.int .i64 t432) (.int .i64 t433) (.int .i64 t434) (.slice Ao26 t435.length co26) (.int .i64 t438) (.slice Ao27 t439.length co27)) (fun _ h_ => h_.1)))); (case side2 => exact (Kd.R_reads' HO430.out).2.1); rintro e w28 ⟨v449, v453, rfl, ho0, ho1, hb⟩; refine ⟨_, rfl, ?_⟩; have HO450 := Qx (Kd.R_lower (Kd.R_new' (Kd.R_new' (Kd.R_new' ho0 (Kd.R_lt (by (with_reducible repeat (first | apply Qra | apply Qrn | apply Qrd)); exact (Qrm (farsQ7_g1w1 (Kd.R_types HO430.out BK443.out (by decide)) (fun _ hk => hk.2) (.int .i64 t431) (.int .i64 t432) (.int .i64 t433) (.int .i64 t434) (.slice Ao26 t435.length co26) (.int .i64 t438) (.slice Ao27 t439.length co27)) (fun _ h_ => h_.1))))) (Kd.R_lt (by (with_reducible repeat (first | apply Qra | apply Qrn | apply Qrd)); exact (Qrm (farsQ7_g1w1 (Kd.R_types HO437.out BK443.out (by decide)) (fun _ hk => hk.2) (.int .i64 t431) (.int .i64 t432) (.int .i64 t433) (.int .i64 t434) (.slice Ao26 t435.length co26) (.int .i64 t438) (.slice Ao27 t439.length co27)) (fun _ h_ => h_.1))))) (Kd.R_lt (by (with_reducible repeat (first | apply Qra | apply Qrn | apply Qrd)); exact (Qrm (farsQ7_g1w1 (Kd.R_types HO441.out BK443.out (by decide)) (fun _ hk => hk.2) (.int .i64 t431) (.int .i64 t432) (.int .i64 t433) (.int .i64 t434) (.slice Ao26 t435.length co26) (.int .i64 t438) (.slice Ao27 t439.length co27)) (fun _ h_ => h_.1))))) (below_size hB_)); have HO454 := Qx (Kd.R_lower (Kd.R_new' (Kd.R_new' (Kd.R_new' ho1 (Kd.R_lt (by (with_reducible repeat (first | apply Qra | apply Qrn | apply Qrd)); exact (Qrm (farsQ7_g1w1 (Kd.R_types HO430.out BK443.out (by decide)) (fun _ hk => hk.2) (.int .i64 t431) (.int .i64 t432) (.int .i64 t433) (.int .i64 t434) (.slice Ao26 t435.length co26) (.int .i64 t438) (.slice Ao27 t439.length co27)) (fun _ h_ => h_.1))))) (Kd.R_lt (by (with_reducible repeat (first | apply Qra | apply Qrn | apply Qrd)); exact (Qrm (farsQ7_g1w1 (Kd.R_types HO437.out BK443.out (by decide)) (fun _ hk => hk.2) (.int .i64 t431) (.int .i64 t432) (.int .i64 t433) (.int .i64 t434) (.slice Ao26 t435.length co26) (.int .i64 t438) (.slice Ao27 t439.length co27)) (fun _ h_ => h_.1))))) (Kd.R_lt (by (with_reducible repeat (first | apply Qra | apply Qrn | apply Qrd)); exact (Qrm (farsQ7_g1w1 (Kd.R_types HO441.out BK443.out (by decide)) (fun _ hk => hk.2) (.int .i64 t431) (.int .i64 t432) (.int .i64 t433) (.int .i64 t434) (.slice Ao26 t435.length co26) (.int .i64 t438) (.slice Ao27 t439.length co27)) (fun _ h_ => h_.1))))) (below_size hB_)); replace HO430 := Qx (Qrm (Kd.R_told (Kd.R_told (Kd.R_old (by (with_reducible repeat (first | apply Qra | apply Qrn | apply Qrd)); exact (Qrm (farsQ7_g1w1 (Kd.R_types HO430.out BK443.out (by decide)) (fun _ hk => hk.2) (.int .i64 t431) (.int .i64 t432) (.int .i64 t433) (.int .i64 t434) (.slice Ao26 t435.length co26) (.int .i64 t438) (.slice Ao27 t439.length co27)) (fun _ h_ => h_.1))) hb) (Kd.R_base ho0)) (Kd.R_base ho1)) (fun _ h_ => h_.1)); replace HO437 := Qx (Qrm (Kd.R_told (Kd.R_told (Kd.R_old (by (with_reducible repeat (first | apply Qra | apply Qrn | apply Qrd)); exact (Qrm (farsQ7_g1w1 (Kd.R_types HO437.out BK443.out (by decide)) (fun _ hk => hk.2) (.int .i64 t431) (.int .i64 t432) (.int .i64 t433) (.int .i64 t434) (.slice Ao26 t435.length co26) (.int .i64 t438) (.slice Ao27 t439.length co27)) (fun _ h_ => h_.1))) hb) (Kd.R_base ho0)) (Kd.R_base ho1)) (fun _ h_ => h_.1)); replace HO441 := Qx (Qrm (Kd.R_told (Kd.R_told (Kd.R_old (by (with_reducible repeat (first | apply Qra | apply Qrn | apply Qrd)); exact (Qrm (farsQ7_g1w1 (Kd.R_types HO441.out BK443.out (by decide)) (fun _ hk => hk.2) (.int .i64 t431) (.int .i64 t432) (.int .i64 t433) (.int .i64 t434) (.slice Ao26 t435.length co26) (.int .i64 t438) (.slice Ao27 t439.length co27)) (fun _ h_ => h_.1))) hb) (Kd.R_base ho0)) (Kd.R_base ho1)) (fun _ h_ => h_.1)); replace BK443 := Qx (Qb (g := gb443) (o := .cells #[.int .i64 t431, .int .i64 t432, .int .i64 t433, .int .i64 t434, .slice Ao26 t435.length co26, .int .i64 t438, .slice Ao27 t439.length co27] 30 (0, 0)) (by (with_reducible repeat (first | refine Qm ?_ _ | refine Qw ?_ | refine Qk ?_ _)); refine Qu (cs := #[.int .i64 t431, .int .i64 t432, .int .i64 t433, .int .i64 t434, .slice Ao26 t435.length co26, .int .i64 t438, .slice none 0 0]) ?_ 6 _ rfl; (with_reducible repeat (first | refine Qm ?_ _ | refine Qw ?_ | refine Qk ?_ _)); refine Qu (cs := #[.int .i64 t431, .int .i64 t432, .int .i64 t433, .int .i64 t434, .slice Ao26 t435.length co26, .int .i64 0, .slice none 0 0]) ?_ 5 _ rfl; (with_reducible repeat (first | refine Qm ?_ _ | refine Qw ?_ | refine Qk ?_ _)); refine Qu (cs := #[.int .i64 t431, .int .i64 t432, .int .i64 t433, .int .i64 t434, .slice none 0 0, .int .i64 0, .slice none 0 0]) ?_ 4 _ rfl; (with_reducible repeat (first | refine Qm ?_ _ | refine Qw ?_ | refine Qk ?_ _)); refine Qu (cs := #[.int .i64 t431, .int .i64 t432, .int .i64 t433, .int .i64 0, .slice none 0 0, .int .i64 0, .slice none 0 0]) ?_ 3 _ rfl; (with_reducible repeat (first | refine Qm ?_ _ | refine Qw ?_ | refine Qk ?_ _)); refine Qu (cs := #[.int .i64 t431, .int .i64 t432, .int .i64 0, .int .i64 0, .slice none 0 0, .int .i64 0, .slice none 0 0]) ?_ 2 _ rfl; (with_reducible repeat (first | refine Qm ?_ _ | refine Qw ?_ | refine Qk ?_ _)); refine Qu (cs := #[.int .i64 t431, .int .i64 0, .int .i64 0, .int .i64 0, .slice none 0 0, .int .i64 0, .slice none 0 0]) ?_ 1 _ rfl; (with_reducible repeat (first | refine Qm ?_ _ | refine Qw ?_ | refine Qk ?_ _)); refine Qu (cs := #[.int .i64 0, .int .i64 0, .int .i64 0, .int .i64 0, .slice none 0 0, .int .i64 0, .slice none 0 0]) ?_ 0 _ rfl; (with_reducible repeat (first | refine Qm ?_ _ | refine Qw ?_ | refine Qk ?_ _)); exact BK443.out) hb); replace HB := Qx (Qp hB_ hb); (try clear hb); (try clear hb2); (try clear hk); (try clear hi); (try clear ho0); (try clear ho1)) | ((with_reducible refine gate_dst (N := 9) rfl ?_); (try (refine gate_guard (by rfl) ?_; dsimp only)); refine bx_ 9 #[.int .i64 0, .int .i64 0, .int .i64 0, .int .i64 0, .slice none 0 0, .int .i64 0, .slice none 0 0] 30 ?_; intro gb456 hg w29 hbox hb; replace HO430 := Qx (Qrb (kR_ HO430) hb); replace HO437 := Qx (Qrb (kR_ HO437) hb); replace HO441 := Qx (Qrb (kR_ HO441) hb); replace HO450 := Qx (Qrb (kR_ HO450) hb); replace HO454 := Qx (Qrb (kR_ HO454) hb); have BK456 := Qx (hbox); have GW456 := Qx ((ge_ hg)); have GE456 := Qx ((ge_ hg)); replace HB := Qx (Qp hB_ hb); have NB443_456 := Qx ((ne_ hg BK443)); have NB456_443 := Qx ((nf_ hg BK443)); replace BK443 := Qx (Qb (kB_ BK443) hb); clear hb hbox hg; have hnb30 := NB456_443.out; have hnc30 := NB443_456.out; obtain ⟨hcz31_0, hcz31_1, hcz31_2, hcz31_3, hcz31_4, hcz31_5, hcz31_6, hfz31_0, hfz31_1, hfz31_2, hfz31_3, hfz31_4, hfz31_5, hfz31_6⟩ := cellsQ7_g1w1 (w := w29) BK456.out; obtain ⟨Ao32, co32, eo32⟩ := Kd.R_slice HO450.out; subst eo32; obtain ⟨Ao33, co33, eo33⟩ := Kd.R_slice HO454.out; subst eo33; obtain ⟨hcz34_0, hcz34_1, hcz34_2, hcz34_3, hcz34_4, hcz34_5, hcz34_6, hfz34_0, hfz34_1, hfz34_2, hfz34_3, hfz34_4, hfz34_5, hfz34_6⟩ := cellsQ7_g1w1 (w := w29) BK443.out) | (go_at_call 8; (with_reducible refine (laws_pSameSparse.calls k t431 t432 t433 t434 _ _ t435 t438 _ _ t439 t444 t445 t446 t447 _ _ t448 t451 _ _ t452 true _ ?side1 ?side2 ?side3 ?side4 ?side5 ?side6 ?side7 ?side8 A9.out).mono ?_); (case side1 => refine (Kd.R_reads' (e := 3) (base := w.heap.size) (ok := fun k_ => (((some k_ ≠ (.slice Ao27 t439.length co27 : Value).ownBlock ∧ some k_ ≠ (.slice Ao22 t427.length co22 : Value).ownBlock) ∧ some k_ ≠ (.slice Ao32 t448.length co32 : Value).ownBlock) ∧ some k_ ≠ (.slice Ao33 t452.length co33 : Value).ownBlock)) (n := t435.length) (c := co26) ?_).2.2; exact (by (with_reducible repeat (first | apply Qra | apply Qrn | apply Qrd)); exact (Qrm (farsQ7_g1w1 (Kd.R_types HO437.out BK456.out (by decide)) (fun _ hk => hk.2) (.int .i64 t444) (.int .i64 t445) (.int .i64 t446) (.int .i64 t447) (.slice Ao32 t448.length co32) (.int .i64 t451) (.slice Ao33 t452.length co33)) (fun _ h_ => h_.1)))); (case side2 => exact (Kd.R_reads' HO437.out).2.1); (case side3 => refine (Kd.R_reads' (e := 3) (base := w.heap.size) (ok := fun k_ => (((some k_ ≠ (.slice Ao26 t435.length co26 : Value).ownBlock ∧ some k_ ≠ (.slice Ao22 t427.length co22 : Value).ownBlock) ∧ some k_ ≠ (.slice Ao32 t448.length co32 : Value).ownBlock) ∧ some k_ ≠ (.slice Ao33 t452.length co33 : Value).ownBlock)) (n := t439.length) (c := co27) ?_).2.2; exact (by (with_reducible repeat (first | apply Qra | apply Qrn | apply Qrd)); exact (Qrm (farsQ7_g1w1 (Kd.R_types HO441.out BK456.out (by decide)) (fun _ hk => hk.2) (.int .i64 t444) (.int .i64 t445) (.int .i64 t446) (.int .i64 t447) (.slice Ao32 t448.length co32) (.int .i64 t451) (.slice Ao33 t452.length co33)) (fun _ h_ => h_.1)))); (case side4 => exact (Kd.R_reads' HO441.out).2.1); (case side5 => refine (Kd.R_reads' (e := 3) (base := w.heap.size) (ok := fun k_ => (((some k_ ≠ (.slice Ao33 t452.length co33 : Value).ownBlock ∧ some k_ ≠ (.slice Ao22 t427.length co22 : Value).ownBlock) ∧ some k_ ≠ (.slice Ao26 t435.length co26 : Value).ownBlock) ∧ some k_ ≠ (.slice Ao27 t439.length co27 : Value).ownBlock)) (n := t448.length) (c := co32) ?_).2.2; exact (by (with_reducible repeat (first | apply Qra | apply Qrn | apply Qrd)); exact (Qrm (farsQ7_g1w1 (Kd.R_types HO450.out BK456.out (by decide)) (fun _ hk => hk.2) (.int .i64 t444) (.int .i64 t445) (.int .i64 t446) (.int .i64 t447) (.slice Ao32 t448.length co32) (.int .i64 t451) (.slice Ao33 t452.length co33)) (fun _ h_ => h_.1)))); (case side6 => exact (Kd.R_reads' HO450.out).2.1); (case side7 => refine (Kd.R_reads' (e := 3) (base := w.heap.size) (ok := fun k_ => (((some k_ ≠ (.slice Ao32 t448.length co32 : Value).ownBlock ∧ some k_ ≠ (.slice Ao22 t427.length co22 : Value).ownBlock) ∧ some k_ ≠ (.slice Ao26 t435.length co26 : Value).ownBlock) ∧ some k_ ≠ (.slice Ao27 t439.length co27 : Value).ownBlock)) (n := t452.length) (c := co33) ?_).2.2; exact (by (with_reducible repeat (first | apply Qra | apply Qrn | apply Qrd)); exact (Qrm (farsQ7_g1w1 (Kd.R_types HO454.out BK456.out (by decide)) (fun _ hk => hk.2) (.int .i64 t444) (.int .i64 t445) (.int .i64 t446) (.int .i64 t447) (.slice Ao32 t448.length co32) (.int .i64 t451) (.slice Ao33 t452.length co33)) (fun _ h_ => h_.1)))); (case side8 => exact (Kd.R_reads' HO454.out).2.1); rintro e w35 ⟨rfl, hb⟩; replace HO430 := Qx (Qrb (by (with_reducible repeat (first | apply Qra | apply Qrn | apply Qrd)); exact (Qrm (farsQ7_g1w1 (Kd.R_types HO430.out BK456.out (by decide)) (fun _ hk => hk.2) (.int .i64 t444) (.int .i64 t445) (.int .i64 t446) (.int .i64 t447) (.slice Ao32 t448.length co32) (.int .i64 t451) (.slice Ao33 t452.length co33)) (fun _ h_ => h_.1))) hb); replace HO437 := Qx (Qrb (by (with_reducible repeat (first | apply Qra | apply Qrn | apply Qrd)); exact (Qrm (farsQ7_g1w1 (Kd.R_types HO437.out BK456.out (by decide)) (fun _ hk => hk.2) (.int .i64 t444) (.int .i64 t445) (.int .i64 t446) (.int .i64 t447) (.slice Ao32 t448.length co32) (.int .i64 t451) (.slice Ao33 t452.length co33)) (fun _ h_ => h_.1))) hb); replace HO441 := Qx (Qrb (by (with_reducible repeat (first | apply Qra | apply Qrn | apply Qrd)); exact (Qrm (farsQ7_g1w1 (Kd.R_types HO441.out BK456.out (by decide)) (fun _ hk => hk.2) (.int .i64 t444) (.int .i64 t445) (.int .i64 t446) (.int .i64 t447) (.slice Ao32 t448.length co32) (.int .i64 t451) (.slice Ao33 t452.length co33)) (fun _ h_ => h_.1))) hb); replace HO450 := Qx (Qrb (by (with_reducible repeat (first | apply Qra | apply Qrn | apply Qrd)); exact (Qrm (farsQ7_g1w1 (Kd.R_types HO450.out BK456.out (by decide)) (fun _ hk => hk.2) (.int .i64 t444) (.int .i64 t445) (.int .i64 t446) (.int .i64 t447) (.slice Ao32 t448.length co32) (.int .i64 t451) (.slice Ao33 t452.length co33)) (fun _ h_ => h_.1))) hb); replace HO454 := Qx (Qrb (by (with_reducible repeat (first | apply Qra | apply Qrn | apply Qrd)); exact (Qrm (farsQ7_g1w1 (Kd.R_types HO454.out BK456.out (by decide)) (fun _ hk => hk.2) (.int .i64 t444) (.int .i64 t445) (.int .i64 t446) (.int .i64 t447) (.slice Ao32 t448.length co32) (.int .i64 t451) (.slice Ao33 t452.length co33)) (fun _ h_ => h_.1))) hb); replace BK443 := Qx (Qb (g := gb443) (o := .cells #[.int .i64 t431, .int .i64 t432, .int .i64 t433, .int .i64 t434, .slice Ao26 t435.length co26, .int .i64 t438, .slice Ao27 t439.length co27] 30 (0, 0)) (by (with_reducible repeat (first | refine Qm ?_ _ | refine Qw ?_ | refine Qk ?_ _)); refine blk_far ?_ NB443_456.out _; (with_reducible repeat (first | refine Qm ?_ _ | refine Qw ?_ | refine Qk ?_ _)); refine blk_far ?_ NB443_456.out _; (with_reducible repeat (first | refine Qm ?_ _ | refine Qw ?_ | refine Qk ?_ _)); refine blk_far ?_ NB443_456.out _; (with_reducible repeat (first | refine Qm ?_ _ | refine Qw ?_ | refine Qk ?_ _)); refine blk_far ?_ NB443_456.out _; (with_reducible repeat (first | refine Qm ?_ _ | refine Qw ?_ | refine Qk ?_ _)); refine blk_far ?_ NB443_456.out _; (with_reducible repeat (first | refine Qm ?_ _ | refine Qw ?_ | refine Qk ?_ _)); refine blk_far ?_ NB443_456.out _; (with_reducible repeat (first | refine Qm ?_ _ | refine Qw ?_ | refine Qk ?_ _)); refine blk_far ?_ NB443_456.out _; (with_reducible repeat (first | refine Qm ?_ _ | refine Qw ?_ | refine Qk ?_ _)); exact BK443.out) hb); replace BK456 := Qx (Qb (g := gb456) (o := .cells #[.int .i64 t444, .int .i64 t445, .int .i64 t446, .int .i64 t447, .slice Ao32 t448.length co32, .int .i64 t451, .slice Ao33 t452.length co33] 30 (0, 0)) (by (with_reducible repeat (first | refine Qm ?_ _ | refine Qw ?_ | refine Qk ?_ _)); refine Qu (cs := #[.int .i64 t444, .int .i64 t445, .int .i64 t446, .int .i64 t447, .slice Ao32 t448.length co32, .int .i64 t451, .slice none 0 0]) ?_ 6 _ rfl; (with_reducible repeat (first | refine Qm ?_ _ | refine Qw ?_ | refine Qk ?_ _)); refine Qu (cs := #[.int .i64 t444, .int .i64 t445, .int .i64 t446, .int .i64 t447, .slice Ao32 t448.length co32, .int .i64 0, .slice none 0 0]) ?_ 5 _ rfl; (with_reducible repeat (first | refine Qm ?_ _ | refine Qw ?_ | refine Qk ?_ _)); refine Qu (cs := #[.int .i64 t444, .int .i64 t445, .int .i64 t446, .int .i64 t447, .slice none 0 0, .int .i64 0, .slice none 0 0]) ?_ 4 _ rfl; (with_reducible repeat (first | refine Qm ?_ _ | refine Qw ?_ | refine Qk ?_ _)); refine Qu (cs := #[.int .i64 t444, .int .i64 t445, .int .i64 t446, .int .i64 0, .slice none 0 0, .int .i64 0, .slice none 0 0]) ?_ 3 _ rfl; (with_reducible repeat (first | refine Qm ?_ _ | refine Qw ?_ | refine Qk ?_ _)); refine Qu (cs := #[.int .i64 t444, .int .i64 t445, .int .i64 0, .int .i64 0, .slice none 0 0, .int .i64 0, .slice none 0 0]) ?_ 2 _ rfl; (with_reducible repeat (first | refine Qm ?_ _ | refine Qw ?_ | refine Qk ?_ _)); refine Qu (cs := #[.int .i64 t444, .int .i64 0, .int .i64 0, .int .i64 0, .slice none 0 0, .int .i64 0, .slice none 0 0]) ?_ 1 _ rfl; (with_reducible repeat (first | refine Qm ?_ _ | refine Qw ?_ | refine Qk ?_ _)); refine Qu (cs := #[.int .i64 0, .int .i64 0, .int .i64 0, .int .i64 0, .slice none 0 0, .int .i64 0, .slice none 0 0]) ?_ 0 _ rfl; (with_reducible repeat (first | refine Qm ?_ _ | refine Qw ?_ | refine Qk ?_ _)); exact BK456.out) hb); replace HB := Qx (Qp hB_ hb); (try clear hb); (try clear hb2); (try clear hk); (try clear hi); obtain ⟨hcz36_0, hcz36_1, hcz36_2, hcz36_3, hcz36_4, hcz36_5, hcz36_6, hfz36_0, hfz36_1, hfz36_2, hfz36_3, hfz36_4, hfz36_5, hfz36_6⟩ := cellsQ7_g1w1 (w := w35) BK443.out) | ((with_reducible refine gate_callee (f := 9) rfl ?_); refine gl_ 58 Try.func9 #[.agg #[.int .i64 t431, .int .i64 t432, .int .i64 t433, .int .i64 t434, .slice Ao26 t435.length co26, .int .i64 t438, .slice Ao27 t439.length co27]] ?_; (with_reducible refine (impl_SparseList.calls k t431 t432 t433 t434 _ _ t435 t438 _ _ t439 t458 true _ ?side1 ?side2 ?side3 ?side4 A12.out).mono ?_); (case side1 => exact kD_ HO437); (case side2 => exact (Kd.R_reads' HO437.out).2.1); (case side3 => exact kD_ HO441); (case side4 => exact (Kd.R_reads' HO441.out).2.1); rintro e w37 ⟨v459, rfl, ho0, hb⟩; refine ⟨_, rfl, ?_⟩; have HO460 := Qx (Kd.R_lower (Kd.R_new' (Kd.R_new' (Kd.R_new' (Kd.R_new' (Kd.R_new' ho0 (Kd.R_lt (kR_ HO430))) (Kd.R_lt (kR_ HO437))) (Kd.R_lt (kR_ HO441))) (Kd.R_lt (kR_ HO450))) (Kd.R_lt (kR_ HO454))) (below_size hB_)); replace HO430 := Qx (Kd.R_elder' (kR_ HO430) (Kd.R_base ho0) hb); replace HO437 := Qx (Kd.R_elder' (kR_ HO437) (Kd.R_base ho0) hb); replace HO441 := Qx (Kd.R_elder' (kR_ HO441) (Kd.R_base ho0) hb); replace HO450 := Qx (Kd.R_elder' (kR_ HO450) (Kd.R_base ho0) hb); replace HO454 := Qx (Kd.R_elder' (kR_ HO454) (Kd.R_base ho0) hb); replace BK443 := Qx (Qb (kB_ BK443) hb); replace BK456 := Qx (Qb (kB_ BK456) hb); replace HB := Qx (Qp hB_ hb); (try clear hb); (try clear hb2); (try clear hk); (try clear hi); (try clear ho0); obtain ⟨hcz38_0, hcz38_1, hcz38_2, hcz38_3, hcz38_4, hcz38_5, hcz38_6, hfz38_0, hfz38_1, hfz38_2, hfz38_3, hfz38_4, hfz38_5, hfz38_6⟩ := cellsQ7_g1w1 (w := w37) BK443.out) | ((with_reducible refine gate_callee (f := 10) rfl ?_); refine gl_ 63 Try.func10 #[.agg #[.int .i64 t431, .int .i64 t432, .int .i64 t433, .int .i64 t434, .slice Ao26 t435.length co26, .int .i64 t438, .slice Ao27 t439.length co27]] ?_; (with_reducible refine (impl_SparseBits.calls k t431 t432 t433 t434 _ _ t435 t438 _ _ t439 t462 true _ ?side1 ?side2 ?side3 ?side4 A13.out).mono ?_); (case side1 => exact kD_ HO437); (case side2 => exact (Kd.R_reads' HO437.out).2.1); (case side3 => exact kD_ HO441); (case side4 => exact (Kd.R_reads' HO441.out).2.1); rintro e w39 ⟨rfl, hb⟩; refine ⟨_, rfl, ?_⟩; replace HO430 := Qx (Qrb (kR_ HO430) hb); replace HO437 := Qx (Qrb (kR_ HO437) hb); replace HO441 := Qx (Qrb (kR_ HO441) hb); replace HO450 := Qx (Qrb (kR_ HO450) hb); replace HO454 := Qx (Qrb (kR_ HO454) hb); replace HO460 := Qx (Qrb (kR_ HO460) hb); replace BK443 := Qx (Qb (kB_ BK443) hb); replace BK456 := Qx (Qb (kB_ BK456) hb); replace HB := Qx (Qp hB_ hb); (try clear hb); (try clear hb2); (try clear hk); (try clear hi); obtain ⟨Ao40, co40, eo40⟩ := Kd.R_slice HO460.out; subst eo40) | (go_at_call 11; (with_reducible refine (laws_pSameInts.calls k _ _ t458 _ _ t427 true _ ?side1 ?side2 ?side3 ?side4 A16.out).mono ?_); (case side1 => exact kD_ HO460); (case side2 => exact (Kd.R_reads' HO460.out).2.1); (case side3 => exact kD_ HO430); (case side4 => exact (Kd.R_reads' HO430.out).2.1); rintro e w' ⟨rfl, ⟨nd, rfl⟩⟩; obtain ⟨hcz41_0, hcz41_1, hcz41_2, hcz41_3, hcz41_4, hcz41_5, hcz41_6, hfz41_0, hfz41_1, hfz41_2, hfz41_3, hfz41_4, hfz41_5, hfz41_6⟩ := cellsQ7_g1w1 (w := w39) BK443.out))
  go_loopg [101] k (fun kq v101 w' => ∃ (x101_1 : Int), v101 = .int .i64 x101_1 ∧ Aside0 (laws_FnSparseIsItsList.l0 kq t427 t427 (t427.length : Int) x101_1 t431 t432 t433 t434 t435 t438 t439 = some r) ∧ Aside0 (kq ≤ k) ∧ Aside0 (Kd.R (Kd.int .i64) 3 w' w.heap.size (fun k_ => some k_ ≠ ((.slice Ao26 t435.length co26) : Value).ownBlock ∧ some k_ ≠ ((.slice Ao27 t439.length co27) : Value).ownBlock ∧ some k_ ≠ ((.slice Ao32 t448.length co32) : Value).ownBlock ∧ some k_ ≠ ((.slice Ao33 t452.length co33) : Value).ownBlock) (.slice Ao22 t427.length co22) t427) ∧ Aside0 (Kd.R (Kd.int .i64) 3 w' w.heap.size (fun k_ => some k_ ≠ ((.slice Ao22 t427.length co22) : Value).ownBlock ∧ some k_ ≠ ((.slice Ao27 t439.length co27) : Value).ownBlock ∧ some k_ ≠ ((.slice Ao32 t448.length co32) : Value).ownBlock ∧ some k_ ≠ ((.slice Ao33 t452.length co33) : Value).ownBlock) (.slice Ao26 t435.length co26) t435) ∧ Aside0 (Kd.R (Kd.int .i64) 3 w' w.heap.size (fun k_ => some k_ ≠ ((.slice Ao22 t427.length co22) : Value).ownBlock ∧ some k_ ≠ ((.slice Ao26 t435.length co26) : Value).ownBlock ∧ some k_ ≠ ((.slice Ao32 t448.length co32) : Value).ownBlock ∧ some k_ ≠ ((.slice Ao33 t452.length co33) : Value).ownBlock) (.slice Ao27 t439.length co27) t439) ∧ Aside0 (Kd.R (Kd.int .i64) 3 w' w.heap.size (fun k_ => some k_ ≠ ((.slice Ao22 t427.length co22) : Value).ownBlock ∧ some k_ ≠ ((.slice Ao26 t435.length co26) : Value).ownBlock ∧ some k_ ≠ ((.slice Ao27 t439.length co27) : Value).ownBlock ∧ some k_ ≠ ((.slice Ao33 t452.length co33) : Value).ownBlock) (.slice Ao32 t448.length co32) t448) ∧ Aside0 (Kd.R (Kd.int .i64) 3 w' w.heap.size (fun k_ => some k_ ≠ ((.slice Ao22 t427.length co22) : Value).ownBlock ∧ some k_ ≠ ((.slice Ao26 t435.length co26) : Value).ownBlock ∧ some k_ ≠ ((.slice Ao27 t439.length co27) : Value).ownBlock ∧ some k_ ≠ ((.slice Ao32 t448.length co32) : Value).ownBlock) (.slice Ao33 t452.length co33) t452) ∧ Aside0 (w'.heap[gb443]? = some (.cells #[.int .i64 t431, .int .i64 t432, .int .i64 t433, .int .i64 t434, (.slice Ao26 t435.length co26), .int .i64 t438, (.slice Ao27 t439.length co27)] 30 (0, 0))) ∧ Aside0 (w'.heap[gb456]? = some (.cells #[.int .i64 t444, .int .i64 t445, .int .i64 t446, .int .i64 t447, (.slice Ao32 t448.length co32), .int .i64 t451, (.slice Ao33 t452.length co33)] 30 (0, 0))) ∧ Aside0 (Below w.heap.size w w'))
  case atStart => exact ⟨(0), rg_, H', ⟨Nat.le_refl _⟩, ⟨by (with_reducible repeat (first | apply Qra | apply Qrn | apply Qrd)); exact Qrm HO430.out (fun _ hk => ⟨hk.1.1.1.1.2, ⟨hk.1.1.1.2, ⟨hk.1.1.2, hk.1.2⟩⟩⟩)⟩, ⟨by (with_reducible repeat (first | apply Qra | apply Qrn | apply Qrd)); exact Qrm HO437.out (fun _ hk => ⟨hk.1.1.1.2, ⟨hk.1.1.1.1, ⟨hk.1.1.2, hk.1.2⟩⟩⟩)⟩, ⟨by (with_reducible repeat (first | apply Qra | apply Qrn | apply Qrd)); exact Qrm HO441.out (fun _ hk => ⟨hk.1.1.1.2, ⟨hk.1.1.1.1, ⟨hk.1.1.2, hk.1.2⟩⟩⟩)⟩, ⟨by (with_reducible repeat (first | apply Qra | apply Qrn | apply Qrd)); exact Qrm HO450.out (fun _ hk => ⟨hk.1.1.1.2, ⟨hk.1.1.2, ⟨hk.1.2, hk.1.1.1.1⟩⟩⟩)⟩, ⟨by (with_reducible repeat (first | apply Qra | apply Qrn | apply Qrd)); exact Qrm HO454.out (fun _ hk => ⟨hk.1.1.1.2, ⟨hk.1.1.2, ⟨hk.1.2, hk.1.1.1.1⟩⟩⟩)⟩, ⟨kB_ BK443⟩, ⟨kB_ BK456⟩, ⟨hB_⟩⟩
  case round =>
   clear H'
   try clear c1
   try clear c2
   try clear p2
   try clear c3
   try clear c4
   try clear c5
   try clear c6
   try clear p6
   try clear c7
   try clear c8
   try clear c8b0
   try clear c8b1
   try clear c8b2
   try clear c9
   try clear c10
   try clear c11
   try clear c14
   try clear c15
   try clear c17
   try clear c18
   try clear c18b0
   try clear c18b1
   try clear c19
   try clear c19b0
   try clear c20
   try clear c20b0
   try clear c30
   try clear hcz25_0
   try clear hcz25_1
   try clear hcz25_2
   try clear hcz25_3
   try clear hcz25_4
   try clear hcz25_5
   try clear hcz25_6
   try clear hcz31_0
   try clear hcz31_1
   try clear hcz31_2
   try clear hcz31_3
   try clear hcz31_4
   try clear hcz31_5
   try clear hcz31_6
   try clear hcz34_0
   try clear hcz34_1
   try clear hcz34_2
   try clear hcz34_3
   try clear hcz34_4
   try clear hcz34_5
   try clear hcz34_6
   try clear hcz36_0
   try clear hcz36_1
   try clear hcz36_2
   try clear hcz36_3
   try clear hcz36_4
   try clear hcz36_5
   try clear hcz36_6
   try clear hcz38_0
   try clear hcz38_1
   try clear hcz38_2
   try clear hcz38_3
   try clear hcz38_4
   try clear hcz38_5
   try clear hcz38_6
   try clear hcz41_0
   try clear hcz41_1
   try clear hcz41_2
   try clear hcz41_3
   try clear hcz41_4
   try clear hcz41_5
   try clear hcz41_6
   try clear hfz25_0
   try clear hfz25_1
   try clear hfz25_2
   try clear hfz25_3
   try clear hfz25_4
   try clear hfz25_5
   try clear hfz25_6
   try clear hfz31_0
   try clear hfz31_1
   try clear hfz31_2
   try clear hfz31_3
   try clear hfz31_4
   try clear hfz31_5
   try clear hfz31_6
   try clear hfz34_0
   try clear hfz34_1
   try clear hfz34_2
   try clear hfz34_3
   try clear hfz34_4
   try clear hfz34_5
   try clear hfz34_6
   try clear hfz36_0
   try clear hfz36_1
   try clear hfz36_2
   try clear hfz36_3
   try clear hfz36_4
   try clear hfz36_5
   try clear hfz36_6
   try clear hfz38_0
   try clear hfz38_1
   try clear hfz38_2
   try clear hfz38_3
   try clear hfz38_4
   try clear hfz38_5
   try clear hfz38_6
   try clear hfz41_0
   try clear hfz41_1
   try clear hfz41_2
   try clear hfz41_3
   try clear hfz41_4
   try clear hfz41_5
   try clear hfz41_6
   obtain ⟨x101_1, rfl, HA, HK1, HO_5, HO_444004, HO_444006, HO_457004, HO_457006, BK443, BK456, HB⟩ := hrel
   cases gk with
   | zero => exact absurd HA.out (by simp [laws_FnSparseIsItsList.l0])
   | succ k1 =>
    have H := HA.out; clear HA; simp only [laws_FnSparseIsItsList.l0] at H
    by_cases c42 : x101_1 < (t427.length : Int)
    ·rw [if_pos c42] at H
     have c42b0 : decide (x101_1 < (t427.length : Int)) = true := decide_eq_true c42
     clear c42
     by_cases c43 : 0 ≤ x101_1
     ·rw [if_pos c43] at H
      have c43b0 : decide (0 ≤ x101_1) = true := decide_eq_true c43
      clear c43
      by_cases c44 : x101_1 < (t427.length : Int)
      ·rw [if_pos c44] at H
       have c44b0 : decide (x101_1 < (t427.length : Int)) = true := decide_eq_true c44
       clear c44; replace H := Option.bind_eq_some_iff.mp H; obtain ⟨⟨t466, t467⟩, A450, H⟩ := H
       have A45 := Qx A450; clear A450; replace H := Option.bind_eq_some_iff.mp H; obtain ⟨⟨t468, t469⟩, A460, H⟩ := H
       have A46 := Qx A460; clear A460; replace H := Option.bind_eq_some_iff.mp H; obtain ⟨⟨t470, t471⟩, A470, H⟩ := H
       have A47 := Qx A470; clear A470; replace H := Option.bind_eq_some_iff.mp H; obtain ⟨⟨t472, t473⟩, A480, H⟩ := H
       have A48 := Qx A480; clear A480
       by_cases c49 : t467 = true
       ·subst c49
        have H1 : (if t469 = true then (if t471 = true then (if t473 = true then (if t466 = (rd t427 x101_1) then (if t468 = t472 then (if t472 > x101_1 then (none) else (if t470 < x101_1 then (none) else (if 0 ≤ t472 then (if t472 < (t427.length : Int) then (if (rd t427 t472) = (rd t427 x101_1) then (if 0 ≤ t470 then (if t470 < (t427.length : Int) then (if (rd t427 t470) = (rd t427 x101_1) then (if t472 > 0 then (if 0 ≤ (wrap64 (t472 - 1)) then (if (wrap64 (t472 - 1)) < (t427.length : Int) then (if (rd t427 (wrap64 (t472 - 1))) = (rd t427 x101_1) then (none) else (if (wrap64 (t470 + 1)) < (t427.length : Int) then (if 0 ≤ (wrap64 (t470 + 1)) then (if (rd t427 (wrap64 (t470 + 1))) = (rd t427 x101_1) then (none) else (laws_FnSparseIsItsList.l0 k1 t427 t427 (t427.length : Int) (wrap64 (x101_1 + 1)) t431 t432 t433 t434 t435 t438 t439)) else (none)) else (laws_FnSparseIsItsList.l0 k1 t427 t427 (t427.length : Int) (wrap64 (x101_1 + 1)) t431 t432 t433 t434 t435 t438 t439))) else (none)) else (none)) else (if (wrap64 (t470 + 1)) < (t427.length : Int) then (if 0 ≤ (wrap64 (t470 + 1)) then (if (rd t427 (wrap64 (t470 + 1))) = (rd t427 x101_1) then (none) else (laws_FnSparseIsItsList.l0 k1 t427 t427 (t427.length : Int) (wrap64 (x101_1 + 1)) t431 t432 t433 t434 t435 t438 t439)) else (none)) else (laws_FnSparseIsItsList.l0 k1 t427 t427 (t427.length : Int) (wrap64 (x101_1 + 1)) t431 t432 t433 t434 t435 t438 t439))) else (none)) else (none)) else (none)) else (none)) else (none)) else (none)))) else (none)) else (none)) else (none)) else (none)) else (none)) = some r := by rw [if_pos rfl] at H; exact H
        clear H; have H := H1; clear H1
        by_cases c50 : t469 = true
        ·subst c50
         have H1 : (if t471 = true then (if t473 = true then (if t466 = (rd t427 x101_1) then (if t468 = t472 then (if t472 > x101_1 then (none) else (if t470 < x101_1 then (none) else (if 0 ≤ t472 then (if t472 < (t427.length : Int) then (if (rd t427 t472) = (rd t427 x101_1) then (if 0 ≤ t470 then (if t470 < (t427.length : Int) then (if (rd t427 t470) = (rd t427 x101_1) then (if t472 > 0 then (if 0 ≤ (wrap64 (t472 - 1)) then (if (wrap64 (t472 - 1)) < (t427.length : Int) then (if (rd t427 (wrap64 (t472 - 1))) = (rd t427 x101_1) then (none) else (if (wrap64 (t470 + 1)) < (t427.length : Int) then (if 0 ≤ (wrap64 (t470 + 1)) then (if (rd t427 (wrap64 (t470 + 1))) = (rd t427 x101_1) then (none) else (laws_FnSparseIsItsList.l0 k1 t427 t427 (t427.length : Int) (wrap64 (x101_1 + 1)) t431 t432 t433 t434 t435 t438 t439)) else (none)) else (laws_FnSparseIsItsList.l0 k1 t427 t427 (t427.length : Int) (wrap64 (x101_1 + 1)) t431 t432 t433 t434 t435 t438 t439))) else (none)) else (none)) else (if (wrap64 (t470 + 1)) < (t427.length : Int) then (if 0 ≤ (wrap64 (t470 + 1)) then (if (rd t427 (wrap64 (t470 + 1))) = (rd t427 x101_1) then (none) else (laws_FnSparseIsItsList.l0 k1 t427 t427 (t427.length : Int) (wrap64 (x101_1 + 1)) t431 t432 t433 t434 t435 t438 t439)) else (none)) else (laws_FnSparseIsItsList.l0 k1 t427 t427 (t427.length : Int) (wrap64 (x101_1 + 1)) t431 t432 t433 t434 t435 t438 t439))) else (none)) else (none)) else (none)) else (none)) else (none)) else (none)))) else (none)) else (none)) else (none)) else (none)) = some r := by rw [if_pos rfl] at H; exact H
         clear H; have H := H1; clear H1
         by_cases c51 : t471 = true
         ·subst c51
          have H1 : (if t473 = true then (if t466 = (rd t427 x101_1) then (if t468 = t472 then (if t472 > x101_1 then (none) else (if t470 < x101_1 then (none) else (if 0 ≤ t472 then (if t472 < (t427.length : Int) then (if (rd t427 t472) = (rd t427 x101_1) then (if 0 ≤ t470 then (if t470 < (t427.length : Int) then (if (rd t427 t470) = (rd t427 x101_1) then (if t472 > 0 then (if 0 ≤ (wrap64 (t472 - 1)) then (if (wrap64 (t472 - 1)) < (t427.length : Int) then (if (rd t427 (wrap64 (t472 - 1))) = (rd t427 x101_1) then (none) else (if (wrap64 (t470 + 1)) < (t427.length : Int) then (if 0 ≤ (wrap64 (t470 + 1)) then (if (rd t427 (wrap64 (t470 + 1))) = (rd t427 x101_1) then (none) else (laws_FnSparseIsItsList.l0 k1 t427 t427 (t427.length : Int) (wrap64 (x101_1 + 1)) t431 t432 t433 t434 t435 t438 t439)) else (none)) else (laws_FnSparseIsItsList.l0 k1 t427 t427 (t427.length : Int) (wrap64 (x101_1 + 1)) t431 t432 t433 t434 t435 t438 t439))) else (none)) else (none)) else (if (wrap64 (t470 + 1)) < (t427.length : Int) then (if 0 ≤ (wrap64 (t470 + 1)) then (if (rd t427 (wrap64 (t470 + 1))) = (rd t427 x101_1) then (none) else (laws_FnSparseIsItsList.l0 k1 t427 t427 (t427.length : Int) (wrap64 (x101_1 + 1)) t431 t432 t433 t434 t435 t438 t439)) else (none)) else (laws_FnSparseIsItsList.l0 k1 t427 t427 (t427.length : Int) (wrap64 (x101_1 + 1)) t431 t432 t433 t434 t435 t438 t439))) else (none)) else (none)) else (none)) else (none)) else (none)) else (none)))) else (none)) else (none)) else (none)) = some r := by rw [if_pos rfl] at H; exact H
          clear H; have H := H1; clear H1
          by_cases c52 : t473 = true
          ·subst c52
           have H1 : (if t466 = (rd t427 x101_1) then (if t468 = t472 then (if t472 > x101_1 then (none) else (if t470 < x101_1 then (none) else (if 0 ≤ t472 then (if t472 < (t427.length : Int) then (if (rd t427 t472) = (rd t427 x101_1) then (if 0 ≤ t470 then (if t470 < (t427.length : Int) then (if (rd t427 t470) = (rd t427 x101_1) then (if t472 > 0 then (if 0 ≤ (wrap64 (t472 - 1)) then (if (wrap64 (t472 - 1)) < (t427.length : Int) then (if (rd t427 (wrap64 (t472 - 1))) = (rd t427 x101_1) then (none) else (if (wrap64 (t470 + 1)) < (t427.length : Int) then (if 0 ≤ (wrap64 (t470 + 1)) then (if (rd t427 (wrap64 (t470 + 1))) = (rd t427 x101_1) then (none) else (laws_FnSparseIsItsList.l0 k1 t427 t427 (t427.length : Int) (wrap64 (x101_1 + 1)) t431 t432 t433 t434 t435 t438 t439)) else (none)) else (laws_FnSparseIsItsList.l0 k1 t427 t427 (t427.length : Int) (wrap64 (x101_1 + 1)) t431 t432 t433 t434 t435 t438 t439))) else (none)) else (none)) else (if (wrap64 (t470 + 1)) < (t427.length : Int) then (if 0 ≤ (wrap64 (t470 + 1)) then (if (rd t427 (wrap64 (t470 + 1))) = (rd t427 x101_1) then (none) else (laws_FnSparseIsItsList.l0 k1 t427 t427 (t427.length : Int) (wrap64 (x101_1 + 1)) t431 t432 t433 t434 t435 t438 t439)) else (none)) else (laws_FnSparseIsItsList.l0 k1 t427 t427 (t427.length : Int) (wrap64 (x101_1 + 1)) t431 t432 t433 t434 t435 t438 t439))) else (none)) else (none)) else (none)) else (none)) else (none)) else (none)))) else (none)) else (none)) = some r := by rw [if_pos rfl] at H; exact H
           clear H; have H := H1; clear H1
           by_cases c53 : t466 = (rd t427 x101_1)
           ·rw [if_pos c53] at H
            have c53b0 : (t466 == (rd t427 x101_1)) = true := beq_iff_eq.mpr c53
            have c53b1 : (t466 != (rd t427 x101_1)) = false := bne_eq_false_iff_eq.mpr c53
            clear c53
            by_cases c54 : t468 = t472
            ·rw [if_pos c54] at H
             have c54b0 : (t468 == t472) = true := beq_iff_eq.mpr c54
             have c54b1 : (t468 != t472) = false := bne_eq_false_iff_eq.mpr c54
             clear c54
             by_cases c55 : t472 > x101_1
             ·rw [if_pos c55] at H
              exact absurd H (by simp)
             ·rw [if_neg c55] at H
              have c55b0 : decide (x101_1 < t472) = false := decide_eq_false c55
              clear c55
              by_cases c56 : t470 < x101_1
              ·rw [if_pos c56] at H
               exact absurd H (by simp)
              ·rw [if_neg c56] at H
               have c56b0 : decide (t470 < x101_1) = false := decide_eq_false c56
               clear c56
               by_cases c57 : 0 ≤ t472
               ·rw [if_pos c57] at H
                have c57b0 : decide (0 ≤ t472) = true := decide_eq_true c57
                clear c57
                by_cases c58 : t472 < (t427.length : Int)
                ·rw [if_pos c58] at H
                 have c58b0 : decide (t472 < (t427.length : Int)) = true := decide_eq_true c58
                 clear c58
                 by_cases c59 : (rd t427 t472) = (rd t427 x101_1)
                 ·rw [if_pos c59] at H
                  have c59b0 : ((rd t427 t472) == (rd t427 x101_1)) = true := beq_iff_eq.mpr c59
                  have c59b1 : ((rd t427 t472) != (rd t427 x101_1)) = false := bne_eq_false_iff_eq.mpr c59
                  clear c59
                  by_cases c60 : 0 ≤ t470
                  ·rw [if_pos c60] at H
                   have c60b0 : decide (0 ≤ t470) = true := decide_eq_true c60
                   clear c60
                   by_cases c61 : t470 < (t427.length : Int)
                   ·rw [if_pos c61] at H
                    have c61b0 : decide (t470 < (t427.length : Int)) = true := decide_eq_true c61
                    clear c61
                    by_cases c62 : (rd t427 t470) = (rd t427 x101_1)
                    ·rw [if_pos c62] at H
                     have c62b0 : ((rd t427 t470) == (rd t427 x101_1)) = true := beq_iff_eq.mpr c62
                     have c62b1 : ((rd t427 t470) != (rd t427 x101_1)) = false := bne_eq_false_iff_eq.mpr c62
                     clear c62
                     by_cases c63 : t472 > 0
                     ·rw [if_pos c63] at H
                      have c63b0 : decide (0 < t472) = true := decide_eq_true c63
                      clear c63
                      obtain ⟨ji64, hji64⟩ : ∃ j_ : Int, (wrap64 (t472 - 1)) = j_ := ⟨_, rfl⟩
                      replace H : (if 0 ≤ (ji64) then (if (ji64) < (t427.length : Int) then (if (rd t427 (ji64)) = (rd t427 x101_1) then (none) else (if (wrap64 (t470 + 1)) < (t427.length : Int) then (if 0 ≤ (wrap64 (t470 + 1)) then (if (rd t427 (wrap64 (t470 + 1))) = (rd t427 x101_1) then (none) else (laws_FnSparseIsItsList.l0 k1 t427 t427 (t427.length : Int) (wrap64 (x101_1 + 1)) t431 t432 t433 t434 t435 t438 t439)) else (none)) else (laws_FnSparseIsItsList.l0 k1 t427 t427 (t427.length : Int) (wrap64 (x101_1 + 1)) t431 t432 t433 t434 t435 t438 t439))) else (none)) else (none)) = some r := by first | (rw [hji64] at H; exact H) | (simp only [hji64] at H ⊢; exact H)
                      (try rw [hji64] at A45)
                      (try rw [hji64] at A46)
                      (try rw [hji64] at A47)
                      (try rw [hji64] at A48)
                      have hji64w : (IntKind.i64.wrap (t472 - 1)) = ji64 := (i64_w _).trans hji64
                      by_cases c65 : 0 ≤ (ji64)
                      ·rw [if_pos c65] at H
                       have c65b0 : decide (0 ≤ (ji64)) = true := decide_eq_true c65
                       clear c65
                       by_cases c66 : (ji64) < (t427.length : Int)
                       ·rw [if_pos c66] at H
                        have c66b0 : decide ((ji64) < (t427.length : Int)) = true := decide_eq_true c66
                        clear c66
                        by_cases c67 : (rd t427 (ji64)) = (rd t427 x101_1)
                        ·rw [if_pos c67] at H
                         exact absurd H (by simp)
                        ·rw [if_neg c67] at H
                         have c67b0 : ((rd t427 (ji64)) == (rd t427 x101_1)) = false := beq_eq_false_iff_ne.mpr c67
                         have c67b1 : ((rd t427 (ji64)) != (rd t427 x101_1)) = true := bne_iff_ne.mpr c67
                         by_cases c68 : (wrap64 (t470 + 1)) < (t427.length : Int)
                         ·rw [if_pos c68] at H
                          have c68b0 : decide ((wrap64 (t470 + 1)) < (t427.length : Int)) = true := decide_eq_true c68
                          clear c68
                          obtain ⟨ji69, hji69⟩ : ∃ j_ : Int, (wrap64 (t470 + 1)) = j_ := ⟨_, rfl⟩
                          replace H : (if 0 ≤ (ji69) then (if (rd t427 (ji69)) = (rd t427 x101_1) then (none) else (laws_FnSparseIsItsList.l0 k1 t427 t427 (t427.length : Int) (wrap64 (x101_1 + 1)) t431 t432 t433 t434 t435 t438 t439)) else (none)) = some r := by first | (rw [hji69] at H; exact H) | (simp only [hji69] at H ⊢; exact H)
                          (try rw [hji69] at c68b0)
                          (try rw [hji69] at A45)
                          (try rw [hji69] at A46)
                          (try rw [hji69] at A47)
                          (try rw [hji69] at A48)
                          have hji69w : (IntKind.i64.wrap (t470 + 1)) = ji69 := (i64_w _).trans hji69
                          by_cases c70 : 0 ≤ (ji69)
                          ·rw [if_pos c70] at H
                           have c70b0 : decide (0 ≤ (ji69)) = true := decide_eq_true c70
                           clear c70
                           by_cases c71 : (rd t427 (ji69)) = (rd t427 x101_1)
                           ·rw [if_pos c71] at H
                            exact absurd H (by simp)
                           ·rw [if_neg c71] at H
                            have c71b0 : ((rd t427 (ji69)) == (rd t427 x101_1)) = false := beq_eq_false_iff_ne.mpr c71
                            have c71b1 : ((rd t427 (ji69)) != (rd t427 x101_1)) = true := bne_iff_ne.mpr c71
                            have H' := Qx H; clear H
                            have p465 : 0 ≤ (x101_1 : Int) := of_decide_eq_true as_
                            have q465 : x101_1 < (t427.length : Int) := of_decide_eq_true as_
                            obtain ⟨ad465, e465, hx465_0⟩ := Kd.at_int (Kd.R_reads' HO_5.out).2.2 x101_1 p465 q465
                            cases e465
                            replace p465 := eq_true p465; replace q465 := eq_true q465; have hnb72 := NB443_456.out; have hnc72 := NB456_443.out
                            obtain ⟨hcz73_0, hcz73_1, hcz73_2, hcz73_3, hcz73_4, hcz73_5, hcz73_6, hfz73_0, hfz73_1, hfz73_2, hfz73_3, hfz73_4, hfz73_5, hfz73_6⟩ := cellsQ7_g1w1 (w := wr) BK443.out
                            go_wp2_with (first | ((with_reducible refine gate_callee (f := 12) rfl ?_); refine gl_ 109 Try.func12 #[.agg #[.int .i64 t431, .int .i64 t432, .int .i64 t433, .int .i64 t434, .slice Ao26 t435.length co26, .int .i64 t438, .slice Ao27 t439.length co27], .int .i64 x101_1] ?_; (with_reducible refine (impl_SparseAt.calls k1 t431 t432 t433 t434 _ _ t435 t438 _ _ t439 x101_1 t466 true _ ?side1 ?side2 ?side3 ?side4 A45.out).mono ?_); (case side1 => exact kD_ HO_444004); (case side2 => exact (Kd.R_reads' HO_444004.out).2.1); (case side3 => exact kD_ HO_444006); (case side4 => exact (Kd.R_reads' HO_444006.out).2.1); rintro e w74 ⟨rfl, hb⟩; refine ⟨_, rfl, ?_⟩; replace HO_5 := Qx (Qrb (kR_ HO_5) hb); replace HO_444004 := Qx (Qrb (kR_ HO_444004) hb); replace HO_444006 := Qx (Qrb (kR_ HO_444006) hb); replace HO_457004 := Qx (Qrb (kR_ HO_457004) hb); replace HO_457006 := Qx (Qrb (kR_ HO_457006) hb); replace BK443 := Qx (Qb (kB_ BK443) hb); replace BK456 := Qx (Qb (kB_ BK456) hb); replace HB := Qx (Qp hB_ hb); (try clear hb); (try clear hb2); (try clear hk); (try clear hi); obtain ⟨hcz75_0, hcz75_1, hcz75_2, hcz75_3, hcz75_4, hcz75_5, hcz75_6, hfz75_0, hfz75_1, hfz75_2, hfz75_3, hfz75_4, hfz75_5, hfz75_6⟩ := cellsQ7_g1w1 (w := w74) BK443.out) | ((with_reducible refine gate_callee (f := 13) rfl ?_); refine gl_ 115 Try.func13 #[.agg #[.int .i64 t431, .int .i64 t432, .int .i64 t433, .int .i64 t434, .slice Ao26 t435.length co26, .int .i64 t438, .slice Ao27 t439.length co27], .int .i64 (rd t427 x101_1)] ?_; (with_reducible refine (impl_CountBelow.calls k1 t431 t432 t433 t434 _ _ t435 t438 _ _ t439 (rd t427 x101_1) t468 true _ ?side1 ?side2 ?side3 ?side4 A46.out).mono ?_); (case side1 => exact kD_ HO_444004); (case side2 => exact (Kd.R_reads' HO_444004.out).2.1); (case side3 => exact kD_ HO_444006); (case side4 => exact (Kd.R_reads' HO_444006.out).2.1); rintro e w76 ⟨rfl, hb⟩; refine ⟨_, rfl, ?_⟩; replace HO_5 := Qx (Qrb (kR_ HO_5) hb); replace HO_444004 := Qx (Qrb (kR_ HO_444004) hb); replace HO_444006 := Qx (Qrb (kR_ HO_444006) hb); replace HO_457004 := Qx (Qrb (kR_ HO_457004) hb); replace HO_457006 := Qx (Qrb (kR_ HO_457006) hb); replace BK443 := Qx (Qb (kB_ BK443) hb); replace BK456 := Qx (Qb (kB_ BK456) hb); replace HB := Qx (Qp hB_ hb); (try clear hb); (try clear hb2); (try clear hk); (try clear hi); obtain ⟨hcz77_0, hcz77_1, hcz77_2, hcz77_3, hcz77_4, hcz77_5, hcz77_6, hfz77_0, hfz77_1, hfz77_2, hfz77_3, hfz77_4, hfz77_5, hfz77_6⟩ := cellsQ7_g1w1 (w := w76) BK443.out) | ((with_reducible refine gate_callee (f := 14) rfl ?_); refine gl_ 121 Try.func14 #[.agg #[.int .i64 t431, .int .i64 t432, .int .i64 t433, .int .i64 t434, .slice Ao26 t435.length co26, .int .i64 t438, .slice Ao27 t439.length co27], .int .i64 (rd t427 x101_1)] ?_; (with_reducible refine (impl_LastAtMost.calls k1 t431 t432 t433 t434 _ _ t435 t438 _ _ t439 (rd t427 x101_1) t470 true _ ?side1 ?side2 ?side3 ?side4 A47.out).mono ?_); (case side1 => exact kD_ HO_444004); (case side2 => exact (Kd.R_reads' HO_444004.out).2.1); (case side3 => exact kD_ HO_444006); (case side4 => exact (Kd.R_reads' HO_444006.out).2.1); rintro e w78 ⟨rfl, hb⟩; refine ⟨_, rfl, ?_⟩; replace HO_5 := Qx (Qrb (kR_ HO_5) hb); replace HO_444004 := Qx (Qrb (kR_ HO_444004) hb); replace HO_444006 := Qx (Qrb (kR_ HO_444006) hb); replace HO_457004 := Qx (Qrb (kR_ HO_457004) hb); replace HO_457006 := Qx (Qrb (kR_ HO_457006) hb); replace BK443 := Qx (Qb (kB_ BK443) hb); replace BK456 := Qx (Qb (kB_ BK456) hb); replace HB := Qx (Qp hB_ hb); (try clear hb); (try clear hb2); (try clear hk); (try clear hi); obtain ⟨hcz79_0, hcz79_1, hcz79_2, hcz79_3, hcz79_4, hcz79_5, hcz79_6, hfz79_0, hfz79_1, hfz79_2, hfz79_3, hfz79_4, hfz79_5, hfz79_6⟩ := cellsQ7_g1w1 (w := w78) BK443.out) | ((with_reducible refine gate_callee (f := 15) rfl ?_); refine gl_ 127 Try.func15 #[.agg #[.int .i64 t431, .int .i64 t432, .int .i64 t433, .int .i64 t434, .slice Ao26 t435.length co26, .int .i64 t438, .slice Ao27 t439.length co27], .int .i64 (rd t427 x101_1)] ?_; (with_reducible refine (impl_FirstAtLeast.calls k1 t431 t432 t433 t434 _ _ t435 t438 _ _ t439 (rd t427 x101_1) t472 true _ ?side1 ?side2 ?side3 ?side4 A48.out).mono ?_); (case side1 => exact kD_ HO_444004); (case side2 => exact (Kd.R_reads' HO_444004.out).2.1); (case side3 => exact kD_ HO_444006); (case side4 => exact (Kd.R_reads' HO_444006.out).2.1); rintro e w80 ⟨rfl, hb⟩; refine ⟨_, rfl, ?_⟩; replace HO_5 := Qx (Qrb (kR_ HO_5) hb); replace HO_444004 := Qx (Qrb (kR_ HO_444004) hb); replace HO_444006 := Qx (Qrb (kR_ HO_444006) hb); replace HO_457004 := Qx (Qrb (kR_ HO_457004) hb); replace HO_457006 := Qx (Qrb (kR_ HO_457006) hb); replace BK443 := Qx (Qb (kB_ BK443) hb); replace BK456 := Qx (Qb (kB_ BK456) hb); replace HB := Qx (Qp hB_ hb); (try clear hb); (try clear hb2); (try clear hk); (try clear hi); have p474 : 0 ≤ (t472 : Int) := of_decide_eq_true as_; have q474 : t472 < (t427.length : Int) := of_decide_eq_true as_; obtain ⟨ad474, e474, hx474_0⟩ := Kd.at_int (Kd.R_reads' HO_5.out).2.2 t472 p474 q474; obtain rfl : ad465 = ad474 := (by injection e474); replace p474 := eq_true p474; replace q474 := eq_true q474; have p475 : 0 ≤ (t470 : Int) := of_decide_eq_true as_; have q475 : t470 < (t427.length : Int) := of_decide_eq_true as_; obtain ⟨ad475, e475, hx475_0⟩ := Kd.at_int (Kd.R_reads' HO_5.out).2.2 t470 p475 q475; obtain rfl : ad465 = ad475 := (by injection e475); replace p475 := eq_true p475; replace q475 := eq_true q475; have p476 : 0 ≤ ((ji64) : Int) := of_decide_eq_true as_; have q476 : (ji64) < (t427.length : Int) := of_decide_eq_true as_; obtain ⟨ad476, e476, hx476_0⟩ := Kd.at_int (Kd.R_reads' HO_5.out).2.2 (ji64) p476 q476; obtain rfl : ad465 = ad476 := (by injection e476); replace p476 := eq_true p476; replace q476 := eq_true q476; have p477 : 0 ≤ ((ji69) : Int) := of_decide_eq_true as_; have q477 : (ji69) < (t427.length : Int) := of_decide_eq_true as_; obtain ⟨ad477, e477, hx477_0⟩ := Kd.at_int (Kd.R_reads' HO_5.out).2.2 (ji69) p477 q477; obtain rfl : ad465 = ad477 := (by injection e477); replace p477 := eq_true p477; replace q477 := eq_true q477))
                            go_roundg k1
                            case measure => have := HK1.out; omega
                            case rel => exact ⟨(wrap64 (x101_1 + 1)), rg_, H', ⟨by have := HK1.out; omega⟩, ⟨kR_ HO_5⟩, ⟨kR_ HO_444004⟩, ⟨kR_ HO_444006⟩, ⟨kR_ HO_457004⟩, ⟨kR_ HO_457006⟩, ⟨kB_ BK443⟩, ⟨kB_ BK456⟩, ⟨hB_⟩⟩
                          ·rw [if_neg c70] at H
                           exact absurd H (by simp)
                         ·rw [if_neg c68] at H
                          have c68b0 : decide ((wrap64 (t470 + 1)) < (t427.length : Int)) = false := decide_eq_false c68
                          clear c68; have H' := Qx H; clear H
                          have p465 : 0 ≤ (x101_1 : Int) := of_decide_eq_true as_
                          have q465 : x101_1 < (t427.length : Int) := of_decide_eq_true as_
                          obtain ⟨ad465, e465, hx465_0⟩ := Kd.at_int (Kd.R_reads' HO_5.out).2.2 x101_1 p465 q465
                          cases e465
                          replace p465 := eq_true p465; replace q465 := eq_true q465; have hnb81 := NB443_456.out; have hnc81 := NB456_443.out
                          obtain ⟨hcz82_0, hcz82_1, hcz82_2, hcz82_3, hcz82_4, hcz82_5, hcz82_6, hfz82_0, hfz82_1, hfz82_2, hfz82_3, hfz82_4, hfz82_5, hfz82_6⟩ := cellsQ7_g1w1 (w := wr) BK443.out
                          go_wp2_with (first | ((with_reducible refine gate_callee (f := 12) rfl ?_); refine gl_ 109 Try.func12 #[.agg #[.int .i64 t431, .int .i64 t432, .int .i64 t433, .int .i64 t434, .slice Ao26 t435.length co26, .int .i64 t438, .slice Ao27 t439.length co27], .int .i64 x101_1] ?_; (with_reducible refine (impl_SparseAt.calls k1 t431 t432 t433 t434 _ _ t435 t438 _ _ t439 x101_1 t466 true _ ?side1 ?side2 ?side3 ?side4 A45.out).mono ?_); (case side1 => exact kD_ HO_444004); (case side2 => exact (Kd.R_reads' HO_444004.out).2.1); (case side3 => exact kD_ HO_444006); (case side4 => exact (Kd.R_reads' HO_444006.out).2.1); rintro e w83 ⟨rfl, hb⟩; refine ⟨_, rfl, ?_⟩; replace HO_5 := Qx (Qrb (kR_ HO_5) hb); replace HO_444004 := Qx (Qrb (kR_ HO_444004) hb); replace HO_444006 := Qx (Qrb (kR_ HO_444006) hb); replace HO_457004 := Qx (Qrb (kR_ HO_457004) hb); replace HO_457006 := Qx (Qrb (kR_ HO_457006) hb); replace BK443 := Qx (Qb (kB_ BK443) hb); replace BK456 := Qx (Qb (kB_ BK456) hb); replace HB := Qx (Qp hB_ hb); (try clear hb); (try clear hb2); (try clear hk); (try clear hi); obtain ⟨hcz84_0, hcz84_1, hcz84_2, hcz84_3, hcz84_4, hcz84_5, hcz84_6, hfz84_0, hfz84_1, hfz84_2, hfz84_3, hfz84_4, hfz84_5, hfz84_6⟩ := cellsQ7_g1w1 (w := w83) BK443.out) | ((with_reducible refine gate_callee (f := 13) rfl ?_); refine gl_ 115 Try.func13 #[.agg #[.int .i64 t431, .int .i64 t432, .int .i64 t433, .int .i64 t434, .slice Ao26 t435.length co26, .int .i64 t438, .slice Ao27 t439.length co27], .int .i64 (rd t427 x101_1)] ?_; (with_reducible refine (impl_CountBelow.calls k1 t431 t432 t433 t434 _ _ t435 t438 _ _ t439 (rd t427 x101_1) t468 true _ ?side1 ?side2 ?side3 ?side4 A46.out).mono ?_); (case side1 => exact kD_ HO_444004); (case side2 => exact (Kd.R_reads' HO_444004.out).2.1); (case side3 => exact kD_ HO_444006); (case side4 => exact (Kd.R_reads' HO_444006.out).2.1); rintro e w85 ⟨rfl, hb⟩; refine ⟨_, rfl, ?_⟩; replace HO_5 := Qx (Qrb (kR_ HO_5) hb); replace HO_444004 := Qx (Qrb (kR_ HO_444004) hb); replace HO_444006 := Qx (Qrb (kR_ HO_444006) hb); replace HO_457004 := Qx (Qrb (kR_ HO_457004) hb); replace HO_457006 := Qx (Qrb (kR_ HO_457006) hb); replace BK443 := Qx (Qb (kB_ BK443) hb); replace BK456 := Qx (Qb (kB_ BK456) hb); replace HB := Qx (Qp hB_ hb); (try clear hb); (try clear hb2); (try clear hk); (try clear hi); obtain ⟨hcz86_0, hcz86_1, hcz86_2, hcz86_3, hcz86_4, hcz86_5, hcz86_6, hfz86_0, hfz86_1, hfz86_2, hfz86_3, hfz86_4, hfz86_5, hfz86_6⟩ := cellsQ7_g1w1 (w := w85) BK443.out) | ((with_reducible refine gate_callee (f := 14) rfl ?_); refine gl_ 121 Try.func14 #[.agg #[.int .i64 t431, .int .i64 t432, .int .i64 t433, .int .i64 t434, .slice Ao26 t435.length co26, .int .i64 t438, .slice Ao27 t439.length co27], .int .i64 (rd t427 x101_1)] ?_; (with_reducible refine (impl_LastAtMost.calls k1 t431 t432 t433 t434 _ _ t435 t438 _ _ t439 (rd t427 x101_1) t470 true _ ?side1 ?side2 ?side3 ?side4 A47.out).mono ?_); (case side1 => exact kD_ HO_444004); (case side2 => exact (Kd.R_reads' HO_444004.out).2.1); (case side3 => exact kD_ HO_444006); (case side4 => exact (Kd.R_reads' HO_444006.out).2.1); rintro e w87 ⟨rfl, hb⟩; refine ⟨_, rfl, ?_⟩; replace HO_5 := Qx (Qrb (kR_ HO_5) hb); replace HO_444004 := Qx (Qrb (kR_ HO_444004) hb); replace HO_444006 := Qx (Qrb (kR_ HO_444006) hb); replace HO_457004 := Qx (Qrb (kR_ HO_457004) hb); replace HO_457006 := Qx (Qrb (kR_ HO_457006) hb); replace BK443 := Qx (Qb (kB_ BK443) hb); replace BK456 := Qx (Qb (kB_ BK456) hb); replace HB := Qx (Qp hB_ hb); (try clear hb); (try clear hb2); (try clear hk); (try clear hi); obtain ⟨hcz88_0, hcz88_1, hcz88_2, hcz88_3, hcz88_4, hcz88_5, hcz88_6, hfz88_0, hfz88_1, hfz88_2, hfz88_3, hfz88_4, hfz88_5, hfz88_6⟩ := cellsQ7_g1w1 (w := w87) BK443.out) | ((with_reducible refine gate_callee (f := 15) rfl ?_); refine gl_ 127 Try.func15 #[.agg #[.int .i64 t431, .int .i64 t432, .int .i64 t433, .int .i64 t434, .slice Ao26 t435.length co26, .int .i64 t438, .slice Ao27 t439.length co27], .int .i64 (rd t427 x101_1)] ?_; (with_reducible refine (impl_FirstAtLeast.calls k1 t431 t432 t433 t434 _ _ t435 t438 _ _ t439 (rd t427 x101_1) t472 true _ ?side1 ?side2 ?side3 ?side4 A48.out).mono ?_); (case side1 => exact kD_ HO_444004); (case side2 => exact (Kd.R_reads' HO_444004.out).2.1); (case side3 => exact kD_ HO_444006); (case side4 => exact (Kd.R_reads' HO_444006.out).2.1); rintro e w89 ⟨rfl, hb⟩; refine ⟨_, rfl, ?_⟩; replace HO_5 := Qx (Qrb (kR_ HO_5) hb); replace HO_444004 := Qx (Qrb (kR_ HO_444004) hb); replace HO_444006 := Qx (Qrb (kR_ HO_444006) hb); replace HO_457004 := Qx (Qrb (kR_ HO_457004) hb); replace HO_457006 := Qx (Qrb (kR_ HO_457006) hb); replace BK443 := Qx (Qb (kB_ BK443) hb); replace BK456 := Qx (Qb (kB_ BK456) hb); replace HB := Qx (Qp hB_ hb); (try clear hb); (try clear hb2); (try clear hk); (try clear hi); have p474 : 0 ≤ (t472 : Int) := of_decide_eq_true as_; have q474 : t472 < (t427.length : Int) := of_decide_eq_true as_; obtain ⟨ad474, e474, hx474_0⟩ := Kd.at_int (Kd.R_reads' HO_5.out).2.2 t472 p474 q474; obtain rfl : ad465 = ad474 := (by injection e474); replace p474 := eq_true p474; replace q474 := eq_true q474; have p475 : 0 ≤ (t470 : Int) := of_decide_eq_true as_; have q475 : t470 < (t427.length : Int) := of_decide_eq_true as_; obtain ⟨ad475, e475, hx475_0⟩ := Kd.at_int (Kd.R_reads' HO_5.out).2.2 t470 p475 q475; obtain rfl : ad465 = ad475 := (by injection e475); replace p475 := eq_true p475; replace q475 := eq_true q475; have p476 : 0 ≤ ((ji64) : Int) := of_decide_eq_true as_; have q476 : (ji64) < (t427.length : Int) := of_decide_eq_true as_; obtain ⟨ad476, e476, hx476_0⟩ := Kd.at_int (Kd.R_reads' HO_5.out).2.2 (ji64) p476 q476; obtain rfl : ad465 = ad476 := (by injection e476); replace p476 := eq_true p476; replace q476 := eq_true q476))
                          go_roundg k1
                          case measure => have := HK1.out; omega
                          case rel => exact ⟨(wrap64 (x101_1 + 1)), rg_, H', ⟨by have := HK1.out; omega⟩, ⟨kR_ HO_5⟩, ⟨kR_ HO_444004⟩, ⟨kR_ HO_444006⟩, ⟨kR_ HO_457004⟩, ⟨kR_ HO_457006⟩, ⟨kB_ BK443⟩, ⟨kB_ BK456⟩, ⟨hB_⟩⟩
                       ·rw [if_neg c66] at H
                        exact absurd H (by simp)
                      ·rw [if_neg c65] at H
                       exact absurd H (by simp)
                     ·rw [if_neg c63] at H
                      have c63b0 : decide (0 < t472) = false := decide_eq_false c63
                      clear c63
                      by_cases c90 : (wrap64 (t470 + 1)) < (t427.length : Int)
                      ·rw [if_pos c90] at H
                       have c90b0 : decide ((wrap64 (t470 + 1)) < (t427.length : Int)) = true := decide_eq_true c90
                       clear c90
                       obtain ⟨ji91, hji91⟩ : ∃ j_ : Int, (wrap64 (t470 + 1)) = j_ := ⟨_, rfl⟩
                       replace H : (if 0 ≤ (ji91) then (if (rd t427 (ji91)) = (rd t427 x101_1) then (none) else (laws_FnSparseIsItsList.l0 k1 t427 t427 (t427.length : Int) (wrap64 (x101_1 + 1)) t431 t432 t433 t434 t435 t438 t439)) else (none)) = some r := by first | (rw [hji91] at H; exact H) | (simp only [hji91] at H ⊢; exact H)
                       (try rw [hji91] at c90b0)
                       (try rw [hji91] at A45)
                       (try rw [hji91] at A46)
                       (try rw [hji91] at A47)
                       (try rw [hji91] at A48)
                       have hji91w : (IntKind.i64.wrap (t470 + 1)) = ji91 := (i64_w _).trans hji91
                       by_cases c92 : 0 ≤ (ji91)
                       ·rw [if_pos c92] at H
                        have c92b0 : decide (0 ≤ (ji91)) = true := decide_eq_true c92
                        clear c92
                        by_cases c93 : (rd t427 (ji91)) = (rd t427 x101_1)
                        ·rw [if_pos c93] at H
                         exact absurd H (by simp)
                        ·rw [if_neg c93] at H
                         have c93b0 : ((rd t427 (ji91)) == (rd t427 x101_1)) = false := beq_eq_false_iff_ne.mpr c93
                         have c93b1 : ((rd t427 (ji91)) != (rd t427 x101_1)) = true := bne_iff_ne.mpr c93
                         have H' := Qx H; clear H
                         have p465 : 0 ≤ (x101_1 : Int) := of_decide_eq_true as_
                         have q465 : x101_1 < (t427.length : Int) := of_decide_eq_true as_
                         obtain ⟨ad465, e465, hx465_0⟩ := Kd.at_int (Kd.R_reads' HO_5.out).2.2 x101_1 p465 q465
                         cases e465
                         replace p465 := eq_true p465; replace q465 := eq_true q465; have hnb94 := NB443_456.out; have hnc94 := NB456_443.out
                         obtain ⟨hcz95_0, hcz95_1, hcz95_2, hcz95_3, hcz95_4, hcz95_5, hcz95_6, hfz95_0, hfz95_1, hfz95_2, hfz95_3, hfz95_4, hfz95_5, hfz95_6⟩ := cellsQ7_g1w1 (w := wr) BK443.out
                         go_wp2_with (first | ((with_reducible refine gate_callee (f := 12) rfl ?_); refine gl_ 109 Try.func12 #[.agg #[.int .i64 t431, .int .i64 t432, .int .i64 t433, .int .i64 t434, .slice Ao26 t435.length co26, .int .i64 t438, .slice Ao27 t439.length co27], .int .i64 x101_1] ?_; (with_reducible refine (impl_SparseAt.calls k1 t431 t432 t433 t434 _ _ t435 t438 _ _ t439 x101_1 t466 true _ ?side1 ?side2 ?side3 ?side4 A45.out).mono ?_); (case side1 => exact kD_ HO_444004); (case side2 => exact (Kd.R_reads' HO_444004.out).2.1); (case side3 => exact kD_ HO_444006); (case side4 => exact (Kd.R_reads' HO_444006.out).2.1); rintro e w96 ⟨rfl, hb⟩; refine ⟨_, rfl, ?_⟩; replace HO_5 := Qx (Qrb (kR_ HO_5) hb); replace HO_444004 := Qx (Qrb (kR_ HO_444004) hb); replace HO_444006 := Qx (Qrb (kR_ HO_444006) hb); replace HO_457004 := Qx (Qrb (kR_ HO_457004) hb); replace HO_457006 := Qx (Qrb (kR_ HO_457006) hb); replace BK443 := Qx (Qb (kB_ BK443) hb); replace BK456 := Qx (Qb (kB_ BK456) hb); replace HB := Qx (Qp hB_ hb); (try clear hb); (try clear hb2); (try clear hk); (try clear hi); obtain ⟨hcz97_0, hcz97_1, hcz97_2, hcz97_3, hcz97_4, hcz97_5, hcz97_6, hfz97_0, hfz97_1, hfz97_2, hfz97_3, hfz97_4, hfz97_5, hfz97_6⟩ := cellsQ7_g1w1 (w := w96) BK443.out) | ((with_reducible refine gate_callee (f := 13) rfl ?_); refine gl_ 115 Try.func13 #[.agg #[.int .i64 t431, .int .i64 t432, .int .i64 t433, .int .i64 t434, .slice Ao26 t435.length co26, .int .i64 t438, .slice Ao27 t439.length co27], .int .i64 (rd t427 x101_1)] ?_; (with_reducible refine (impl_CountBelow.calls k1 t431 t432 t433 t434 _ _ t435 t438 _ _ t439 (rd t427 x101_1) t468 true _ ?side1 ?side2 ?side3 ?side4 A46.out).mono ?_); (case side1 => exact kD_ HO_444004); (case side2 => exact (Kd.R_reads' HO_444004.out).2.1); (case side3 => exact kD_ HO_444006); (case side4 => exact (Kd.R_reads' HO_444006.out).2.1); rintro e w98 ⟨rfl, hb⟩; refine ⟨_, rfl, ?_⟩; replace HO_5 := Qx (Qrb (kR_ HO_5) hb); replace HO_444004 := Qx (Qrb (kR_ HO_444004) hb); replace HO_444006 := Qx (Qrb (kR_ HO_444006) hb); replace HO_457004 := Qx (Qrb (kR_ HO_457004) hb); replace HO_457006 := Qx (Qrb (kR_ HO_457006) hb); replace BK443 := Qx (Qb (kB_ BK443) hb); replace BK456 := Qx (Qb (kB_ BK456) hb); replace HB := Qx (Qp hB_ hb); (try clear hb); (try clear hb2); (try clear hk); (try clear hi); obtain ⟨hcz99_0, hcz99_1, hcz99_2, hcz99_3, hcz99_4, hcz99_5, hcz99_6, hfz99_0, hfz99_1, hfz99_2, hfz99_3, hfz99_4, hfz99_5, hfz99_6⟩ := cellsQ7_g1w1 (w := w98) BK443.out) | ((with_reducible refine gate_callee (f := 14) rfl ?_); refine gl_ 121 Try.func14 #[.agg #[.int .i64 t431, .int .i64 t432, .int .i64 t433, .int .i64 t434, .slice Ao26 t435.length co26, .int .i64 t438, .slice Ao27 t439.length co27], .int .i64 (rd t427 x101_1)] ?_; (with_reducible refine (impl_LastAtMost.calls k1 t431 t432 t433 t434 _ _ t435 t438 _ _ t439 (rd t427 x101_1) t470 true _ ?side1 ?side2 ?side3 ?side4 A47.out).mono ?_); (case side1 => exact kD_ HO_444004); (case side2 => exact (Kd.R_reads' HO_444004.out).2.1); (case side3 => exact kD_ HO_444006); (case side4 => exact (Kd.R_reads' HO_444006.out).2.1); rintro e w100 ⟨rfl, hb⟩; refine ⟨_, rfl, ?_⟩; replace HO_5 := Qx (Qrb (kR_ HO_5) hb); replace HO_444004 := Qx (Qrb (kR_ HO_444004) hb); replace HO_444006 := Qx (Qrb (kR_ HO_444006) hb); replace HO_457004 := Qx (Qrb (kR_ HO_457004) hb); replace HO_457006 := Qx (Qrb (kR_ HO_457006) hb); replace BK443 := Qx (Qb (kB_ BK443) hb); replace BK456 := Qx (Qb (kB_ BK456) hb); replace HB := Qx (Qp hB_ hb); (try clear hb); (try clear hb2); (try clear hk); (try clear hi); obtain ⟨hcz101_0, hcz101_1, hcz101_2, hcz101_3, hcz101_4, hcz101_5, hcz101_6, hfz101_0, hfz101_1, hfz101_2, hfz101_3, hfz101_4, hfz101_5, hfz101_6⟩ := cellsQ7_g1w1 (w := w100) BK443.out) | ((with_reducible refine gate_callee (f := 15) rfl ?_); refine gl_ 127 Try.func15 #[.agg #[.int .i64 t431, .int .i64 t432, .int .i64 t433, .int .i64 t434, .slice Ao26 t435.length co26, .int .i64 t438, .slice Ao27 t439.length co27], .int .i64 (rd t427 x101_1)] ?_; (with_reducible refine (impl_FirstAtLeast.calls k1 t431 t432 t433 t434 _ _ t435 t438 _ _ t439 (rd t427 x101_1) t472 true _ ?side1 ?side2 ?side3 ?side4 A48.out).mono ?_); (case side1 => exact kD_ HO_444004); (case side2 => exact (Kd.R_reads' HO_444004.out).2.1); (case side3 => exact kD_ HO_444006); (case side4 => exact (Kd.R_reads' HO_444006.out).2.1); rintro e w102 ⟨rfl, hb⟩; refine ⟨_, rfl, ?_⟩; replace HO_5 := Qx (Qrb (kR_ HO_5) hb); replace HO_444004 := Qx (Qrb (kR_ HO_444004) hb); replace HO_444006 := Qx (Qrb (kR_ HO_444006) hb); replace HO_457004 := Qx (Qrb (kR_ HO_457004) hb); replace HO_457006 := Qx (Qrb (kR_ HO_457006) hb); replace BK443 := Qx (Qb (kB_ BK443) hb); replace BK456 := Qx (Qb (kB_ BK456) hb); replace HB := Qx (Qp hB_ hb); (try clear hb); (try clear hb2); (try clear hk); (try clear hi); have p474 : 0 ≤ (t472 : Int) := of_decide_eq_true as_; have q474 : t472 < (t427.length : Int) := of_decide_eq_true as_; obtain ⟨ad474, e474, hx474_0⟩ := Kd.at_int (Kd.R_reads' HO_5.out).2.2 t472 p474 q474; obtain rfl : ad465 = ad474 := (by injection e474); replace p474 := eq_true p474; replace q474 := eq_true q474; have p475 : 0 ≤ (t470 : Int) := of_decide_eq_true as_; have q475 : t470 < (t427.length : Int) := of_decide_eq_true as_; obtain ⟨ad475, e475, hx475_0⟩ := Kd.at_int (Kd.R_reads' HO_5.out).2.2 t470 p475 q475; obtain rfl : ad465 = ad475 := (by injection e475); replace p475 := eq_true p475; replace q475 := eq_true q475; have p478 : 0 ≤ ((ji91) : Int) := of_decide_eq_true as_; have q478 : (ji91) < (t427.length : Int) := of_decide_eq_true as_; obtain ⟨ad478, e478, hx478_0⟩ := Kd.at_int (Kd.R_reads' HO_5.out).2.2 (ji91) p478 q478; obtain rfl : ad465 = ad478 := (by injection e478); replace p478 := eq_true p478; replace q478 := eq_true q478))
                         go_roundg k1
                         case measure => have := HK1.out; omega
                         case rel => exact ⟨(wrap64 (x101_1 + 1)), rg_, H', ⟨by have := HK1.out; omega⟩, ⟨kR_ HO_5⟩, ⟨kR_ HO_444004⟩, ⟨kR_ HO_444006⟩, ⟨kR_ HO_457004⟩, ⟨kR_ HO_457006⟩, ⟨kB_ BK443⟩, ⟨kB_ BK456⟩, ⟨hB_⟩⟩
                       ·rw [if_neg c92] at H
                        exact absurd H (by simp)
                      ·rw [if_neg c90] at H
                       have c90b0 : decide ((wrap64 (t470 + 1)) < (t427.length : Int)) = false := decide_eq_false c90
                       clear c90; have H' := Qx H; clear H
                       have p465 : 0 ≤ (x101_1 : Int) := of_decide_eq_true as_
                       have q465 : x101_1 < (t427.length : Int) := of_decide_eq_true as_
                       obtain ⟨ad465, e465, hx465_0⟩ := Kd.at_int (Kd.R_reads' HO_5.out).2.2 x101_1 p465 q465
                       cases e465
                       replace p465 := eq_true p465; replace q465 := eq_true q465; have hnb103 := NB443_456.out; have hnc103 := NB456_443.out
                       obtain ⟨hcz104_0, hcz104_1, hcz104_2, hcz104_3, hcz104_4, hcz104_5, hcz104_6, hfz104_0, hfz104_1, hfz104_2, hfz104_3, hfz104_4, hfz104_5, hfz104_6⟩ := cellsQ7_g1w1 (w := wr) BK443.out
                       go_wp2_with (first | ((with_reducible refine gate_callee (f := 12) rfl ?_); refine gl_ 109 Try.func12 #[.agg #[.int .i64 t431, .int .i64 t432, .int .i64 t433, .int .i64 t434, .slice Ao26 t435.length co26, .int .i64 t438, .slice Ao27 t439.length co27], .int .i64 x101_1] ?_; (with_reducible refine (impl_SparseAt.calls k1 t431 t432 t433 t434 _ _ t435 t438 _ _ t439 x101_1 t466 true _ ?side1 ?side2 ?side3 ?side4 A45.out).mono ?_); (case side1 => exact kD_ HO_444004); (case side2 => exact (Kd.R_reads' HO_444004.out).2.1); (case side3 => exact kD_ HO_444006); (case side4 => exact (Kd.R_reads' HO_444006.out).2.1); rintro e w105 ⟨rfl, hb⟩; refine ⟨_, rfl, ?_⟩; replace HO_5 := Qx (Qrb (kR_ HO_5) hb); replace HO_444004 := Qx (Qrb (kR_ HO_444004) hb); replace HO_444006 := Qx (Qrb (kR_ HO_444006) hb); replace HO_457004 := Qx (Qrb (kR_ HO_457004) hb); replace HO_457006 := Qx (Qrb (kR_ HO_457006) hb); replace BK443 := Qx (Qb (kB_ BK443) hb); replace BK456 := Qx (Qb (kB_ BK456) hb); replace HB := Qx (Qp hB_ hb); (try clear hb); (try clear hb2); (try clear hk); (try clear hi); obtain ⟨hcz106_0, hcz106_1, hcz106_2, hcz106_3, hcz106_4, hcz106_5, hcz106_6, hfz106_0, hfz106_1, hfz106_2, hfz106_3, hfz106_4, hfz106_5, hfz106_6⟩ := cellsQ7_g1w1 (w := w105) BK443.out) | ((with_reducible refine gate_callee (f := 13) rfl ?_); refine gl_ 115 Try.func13 #[.agg #[.int .i64 t431, .int .i64 t432, .int .i64 t433, .int .i64 t434, .slice Ao26 t435.length co26, .int .i64 t438, .slice Ao27 t439.length co27], .int .i64 (rd t427 x101_1)] ?_; (with_reducible refine (impl_CountBelow.calls k1 t431 t432 t433 t434 _ _ t435 t438 _ _ t439 (rd t427 x101_1) t468 true _ ?side1 ?side2 ?side3 ?side4 A46.out).mono ?_); (case side1 => exact kD_ HO_444004); (case side2 => exact (Kd.R_reads' HO_444004.out).2.1); (case side3 => exact kD_ HO_444006); (case side4 => exact (Kd.R_reads' HO_444006.out).2.1); rintro e w107 ⟨rfl, hb⟩; refine ⟨_, rfl, ?_⟩; replace HO_5 := Qx (Qrb (kR_ HO_5) hb); replace HO_444004 := Qx (Qrb (kR_ HO_444004) hb); replace HO_444006 := Qx (Qrb (kR_ HO_444006) hb); replace HO_457004 := Qx (Qrb (kR_ HO_457004) hb); replace HO_457006 := Qx (Qrb (kR_ HO_457006) hb); replace BK443 := Qx (Qb (kB_ BK443) hb); replace BK456 := Qx (Qb (kB_ BK456) hb); replace HB := Qx (Qp hB_ hb); (try clear hb); (try clear hb2); (try clear hk); (try clear hi); obtain ⟨hcz108_0, hcz108_1, hcz108_2, hcz108_3, hcz108_4, hcz108_5, hcz108_6, hfz108_0, hfz108_1, hfz108_2, hfz108_3, hfz108_4, hfz108_5, hfz108_6⟩ := cellsQ7_g1w1 (w := w107) BK443.out) | ((with_reducible refine gate_callee (f := 14) rfl ?_); refine gl_ 121 Try.func14 #[.agg #[.int .i64 t431, .int .i64 t432, .int .i64 t433, .int .i64 t434, .slice Ao26 t435.length co26, .int .i64 t438, .slice Ao27 t439.length co27], .int .i64 (rd t427 x101_1)] ?_; (with_reducible refine (impl_LastAtMost.calls k1 t431 t432 t433 t434 _ _ t435 t438 _ _ t439 (rd t427 x101_1) t470 true _ ?side1 ?side2 ?side3 ?side4 A47.out).mono ?_); (case side1 => exact kD_ HO_444004); (case side2 => exact (Kd.R_reads' HO_444004.out).2.1); (case side3 => exact kD_ HO_444006); (case side4 => exact (Kd.R_reads' HO_444006.out).2.1); rintro e w109 ⟨rfl, hb⟩; refine ⟨_, rfl, ?_⟩; replace HO_5 := Qx (Qrb (kR_ HO_5) hb); replace HO_444004 := Qx (Qrb (kR_ HO_444004) hb); replace HO_444006 := Qx (Qrb (kR_ HO_444006) hb); replace HO_457004 := Qx (Qrb (kR_ HO_457004) hb); replace HO_457006 := Qx (Qrb (kR_ HO_457006) hb); replace BK443 := Qx (Qb (kB_ BK443) hb); replace BK456 := Qx (Qb (kB_ BK456) hb); replace HB := Qx (Qp hB_ hb); (try clear hb); (try clear hb2); (try clear hk); (try clear hi); obtain ⟨hcz110_0, hcz110_1, hcz110_2, hcz110_3, hcz110_4, hcz110_5, hcz110_6, hfz110_0, hfz110_1, hfz110_2, hfz110_3, hfz110_4, hfz110_5, hfz110_6⟩ := cellsQ7_g1w1 (w := w109) BK443.out) | ((with_reducible refine gate_callee (f := 15) rfl ?_); refine gl_ 127 Try.func15 #[.agg #[.int .i64 t431, .int .i64 t432, .int .i64 t433, .int .i64 t434, .slice Ao26 t435.length co26, .int .i64 t438, .slice Ao27 t439.length co27], .int .i64 (rd t427 x101_1)] ?_; (with_reducible refine (impl_FirstAtLeast.calls k1 t431 t432 t433 t434 _ _ t435 t438 _ _ t439 (rd t427 x101_1) t472 true _ ?side1 ?side2 ?side3 ?side4 A48.out).mono ?_); (case side1 => exact kD_ HO_444004); (case side2 => exact (Kd.R_reads' HO_444004.out).2.1); (case side3 => exact kD_ HO_444006); (case side4 => exact (Kd.R_reads' HO_444006.out).2.1); rintro e w111 ⟨rfl, hb⟩; refine ⟨_, rfl, ?_⟩; replace HO_5 := Qx (Qrb (kR_ HO_5) hb); replace HO_444004 := Qx (Qrb (kR_ HO_444004) hb); replace HO_444006 := Qx (Qrb (kR_ HO_444006) hb); replace HO_457004 := Qx (Qrb (kR_ HO_457004) hb); replace HO_457006 := Qx (Qrb (kR_ HO_457006) hb); replace BK443 := Qx (Qb (kB_ BK443) hb); replace BK456 := Qx (Qb (kB_ BK456) hb); replace HB := Qx (Qp hB_ hb); (try clear hb); (try clear hb2); (try clear hk); (try clear hi); have p474 : 0 ≤ (t472 : Int) := of_decide_eq_true as_; have q474 : t472 < (t427.length : Int) := of_decide_eq_true as_; obtain ⟨ad474, e474, hx474_0⟩ := Kd.at_int (Kd.R_reads' HO_5.out).2.2 t472 p474 q474; obtain rfl : ad465 = ad474 := (by injection e474); replace p474 := eq_true p474; replace q474 := eq_true q474; have p475 : 0 ≤ (t470 : Int) := of_decide_eq_true as_; have q475 : t470 < (t427.length : Int) := of_decide_eq_true as_; obtain ⟨ad475, e475, hx475_0⟩ := Kd.at_int (Kd.R_reads' HO_5.out).2.2 t470 p475 q475; obtain rfl : ad465 = ad475 := (by injection e475); replace p475 := eq_true p475; replace q475 := eq_true q475))
                       go_roundg k1
                       case measure => have := HK1.out; omega
                       case rel => exact ⟨(wrap64 (x101_1 + 1)), rg_, H', ⟨by have := HK1.out; omega⟩, ⟨kR_ HO_5⟩, ⟨kR_ HO_444004⟩, ⟨kR_ HO_444006⟩, ⟨kR_ HO_457004⟩, ⟨kR_ HO_457006⟩, ⟨kB_ BK443⟩, ⟨kB_ BK456⟩, ⟨hB_⟩⟩
                    ·rw [if_neg c62] at H
                     exact absurd H (by simp)
                   ·rw [if_neg c61] at H
                    exact absurd H (by simp)
                  ·rw [if_neg c60] at H
                   exact absurd H (by simp)
                 ·rw [if_neg c59] at H
                  exact absurd H (by simp)
                ·rw [if_neg c58] at H
                 exact absurd H (by simp)
               ·rw [if_neg c57] at H
                exact absurd H (by simp)
            ·rw [if_neg c54] at H
             exact absurd H (by simp)
           ·rw [if_neg c53] at H
            exact absurd H (by simp)
          ·replace c52 := Bool.eq_false_iff.mpr c52; subst c52
           have H1 : (none) = some r := by rw [if_neg (show ¬ (false = true) by decide)] at H; exact H
           clear H; have H := H1; clear H1
           exact absurd H (by simp)
         ·replace c51 := Bool.eq_false_iff.mpr c51; subst c51
          have H1 : (none) = some r := by rw [if_neg (show ¬ (false = true) by decide)] at H; exact H
          clear H; have H := H1; clear H1
          exact absurd H (by simp)
        ·replace c50 := Bool.eq_false_iff.mpr c50; subst c50
         have H1 : (none) = some r := by rw [if_neg (show ¬ (false = true) by decide)] at H; exact H
         clear H; have H := H1; clear H1
         exact absurd H (by simp)
       ·replace c49 := Bool.eq_false_iff.mpr c49; subst c49
        have H1 : (none) = some r := by rw [if_neg (show ¬ (false = true) by decide)] at H; exact H
        clear H; have H := H1; clear H1
        exact absurd H (by simp)
      ·rw [if_neg c44] at H
       exact absurd H (by simp)
     ·rw [if_neg c43] at H
      exact absurd H (by simp)
    ·rw [if_neg c42] at H
     have c42b0 : decide (x101_1 < (t427.length : Int)) = false := decide_eq_false c42
     clear c42; obtain rfl := Option.some.inj H
     go_wp2
     go_ret
     exact ⟨rf_, hB_⟩
end Go.Proofs.Ytcgakiihochafaa.X
