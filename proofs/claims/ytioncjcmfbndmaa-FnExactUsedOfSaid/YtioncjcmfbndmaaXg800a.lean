/- Written by a program of this session: what functions of the given program compute, and that their calls do so. -/
import Derived.Test.YtioncjcmfbndmaaXx0
import Derived.Test.YtioncjcmfbndmaaXg802a
import Derived.Test.YtioncjcmfbndmaaXg840a
import Derived.Test.YtioncjcmfbndmaaXg8c8a
import Derived.Test.YtioncjcmfbndmaaXg900a
namespace Go.Proofs.Ytioncjcmfbndmaa.X
open Go.RowKit Go.Proofs.YtioncjcmfbndmaaW.PrintWords Go.Proofs.YtioncjcmfbndmaaW.PrintLast Go.Proofs.YtioncjcmfbndmaaW.PrintMore
attribute [local go_sem] max2_int min2_int max_two min_two max_three min_three max_four min_four   -- for this text's walks alone
set_option linter.unusedVariables false
set_option linter.unusedSimpArgs false
/-! ### spec_biOwn: function 139 -/
def spec_biOwn.f (a0_0 : Int) (l0_1 : List Int) : Option (Int × List Int) := (spec_l1Own.f l0_1).bind fun t913 => (some (a0_0, t913))
set_option maxHeartbeats 8000000 in
set_option maxRecDepth 100000 in
theorem spec_biOwn.calls (a0_0 : Int) (A0_1 : Option Addr) (c0_1 : Nat) (l0_1 : List Int) (r1 : Int) (r2 : List Int) (w : World) (hr0_1 : Kd.C (Kd.int .i64) w A0_1 l0_1.length l0_1) (hc0_1 : l0_1.length ≤ c0_1) (h : spec_biOwn.f a0_0 l0_1 = some (r1, r2)) :
    Calls Try.prog 139 #[.agg #[.int .i64 a0_0, .slice A0_1 l0_1.length c0_1]] w fun e w' => ∃ v1_ : Value, e = .returned (.agg #[.int .i64 r1, v1_]) ∧ Kd.R (Kd.int .i64) 3 w' w.heap.size (fun _ => True) v1_ r2 ∧ Below w.heap.size w w' := by
  have hu39 := Try.underlying39
  have HR0_1 := Aside0.mk hr0_1
  have HC0_1 := Aside0.mk hc0_1
  clear hr0_1 hc0_1
  have HB := Aside0.mk (Below.refl w.heap.size w)
  have H : ((spec_l1Own.f l0_1).bind fun t913 => (some (a0_0, t913))) = some (r1, r2) := h
  clear h
  replace H := Option.bind_eq_some_iff.mp H
  obtain ⟨t913, A20, H⟩ := H
  replace H : (some (a0_0, t913)) = some (r1, r2) := H
  have A2 := Aside0.mk A20
  clear A20
  simp only [Option.some.injEq, Prod.mk.injEq] at H
  obtain ⟨rfl, rfl⟩ := H
  go_enter Try.func139, Try.ntmps139
  try go_wp2_with (first | ((with_reducible refine gate_dst (N := 1) rfl ?_); refine box_event ?hg (N := 1) ?hd (cs := #[.int .i64 a0_0, .slice A0_1 l0_1.length c0_1]) (t := 39) ?hr ?_; (case hd => rfl); (case hg => rfl); (case hr => first | (go_simp; done) | (go_simp; rfl)); intro gb911 hg w3 hbox hb; have n0_ := Aside0.mk (below_step (by repeat (first | (with_reducible first | exact HB.out | apply below_alloc | apply pw_below_drewN | apply below_drew1) | exact HB.out)) hb); have n1_ := Aside0.mk (hbox); have n2_ := Aside0.mk ((by rw [hg]; exact (below_size (by repeat (first | (with_reducible first | exact HB.out | apply below_alloc | apply pw_below_drewN | apply below_drew1) | exact HB.out))) : w.heap.size ≤ gb911)); have n3_ := Aside0.mk ((by rw [hg]; exact (below_size (by repeat (first | (with_reducible first | exact HB.out | apply below_alloc | apply pw_below_drewN | apply below_drew1) | exact HB.out))) : w.heap.size ≤ gb911)); clear HB; have HB := n0_; have BK911 := n1_; have GW911 := n2_; have GE911 := n3_; clear n0_ n1_ n2_ n3_; clear hb hbox hg) | ((with_reducible refine gate_dst (N := 2) rfl ?_); refine box_event ?hg (N := 2) ?hd (cs := #[.int .i64 0, .slice none 0 0]) (t := 39) ?hr ?_; (case hd => rfl); (case hg => rfl); (case hr => first | (go_simp; done) | (go_simp; rfl)); intro gb912 hg w4 hbox hb; have n0_ := Aside0.mk (blk_below (g := gb911) (o := .cells #[.int .i64 a0_0, .slice A0_1 l0_1.length c0_1] 39 (0, 0)) (by (with_reducible repeat (first | refine blk_drewN ?_ _ | refine blk_drew ?_ | refine blk_alloc ?_ _)); exact BK911.out) hb); have n1_ := Aside0.mk (below_step (by repeat (first | (with_reducible first | exact HB.out | apply below_alloc | apply pw_below_drewN | apply below_drew1 | refine below_set ?_ GE911.out) | exact HB.out)) hb); have n2_ := Aside0.mk (hbox); have n3_ := Aside0.mk ((by rw [hg]; exact (below_size (by repeat (first | (with_reducible first | exact HB.out | apply below_alloc | apply pw_below_drewN | apply below_drew1 | refine below_set ?_ GE911.out) | exact HB.out))) : w.heap.size ≤ gb912)); have n4_ := Aside0.mk ((by rw [hg]; exact (below_size (by repeat (first | (with_reducible first | exact HB.out | apply below_alloc | apply pw_below_drewN | apply below_drew1 | refine below_set ?_ GE911.out) | exact HB.out))) : w.heap.size ≤ gb912)); have n5_ := Aside0.mk ((by rw [hg]; exact Nat.ne_of_lt (blk_lt (g := gb911) (o := .cells #[.int .i64 a0_0, .slice A0_1 l0_1.length c0_1] 39 (0, 0)) (by (with_reducible repeat (first | refine blk_drewN ?_ _ | refine blk_drew ?_ | refine blk_alloc ?_ _)); exact BK911.out)) : gb911 ≠ gb912)); have n6_ := Aside0.mk ((by rw [hg]; exact Nat.ne_of_gt (blk_lt (g := gb911) (o := .cells #[.int .i64 a0_0, .slice A0_1 l0_1.length c0_1] 39 (0, 0)) (by (with_reducible repeat (first | refine blk_drewN ?_ _ | refine blk_drew ?_ | refine blk_alloc ?_ _)); exact BK911.out)) : gb912 ≠ gb911)); clear BK911; clear HB; have BK911 := n0_; have HB := n1_; have BK912 := n2_; have GW912 := n3_; have GE912 := n4_; have NB911_912 := n5_; have NB912_911 := n6_; clear n0_ n1_ n2_ n3_ n4_ n5_ n6_; clear hb hbox hg))
  have n0_ := Aside0.mk (blk_drew BK911.out)
  have n1_ := Aside0.mk (blk_drew BK912.out)
  have n2_ := Aside0.mk (below_drew1 HB.out)
  clear BK911
  clear BK912
  clear HB
  have BK911 := n0_
  have BK912 := n1_
  have HB := n2_
  clear n0_ n1_ n2_
  refine start_ (n := 7) (S := fun w' => w'.cell? ⟨gb911, 0, none⟩ = some (.int .i64 a0_0) ∧ w'.cell? ⟨gb911, 1, none⟩ = some (.slice A0_1 l0_1.length c0_1)) (ds := []) #[false, false, false, false, false, false, false] (by kernel_rfl) rfl rfl ⟨(blk_cell BK911.out 0).trans rfl, (blk_cell BK911.out 1).trans rfl⟩ (fun hHeld => ?_)
  generalize w4.drew = w5 at BK911 BK912 HB hHeld ⊢
  refine pure_ (i := 0) (N := some 3) (v := ?_) (a' := ?_) (bsA 7 1) rfl rfl (by kernel_rfl) (fun _ _ _ h => h) (Or.inl ⟨by rfl, ?_⟩) ?_ ?_
  rotate_left
  ·intro w'
   go_simp
   with_reducible rfl
  rotate_left
  ·simp only [Act.put, List.setIfInBounds_toArray, List.set_cons_zero, List.set_cons_succ, i64_w]
   rfl
  refine pure_ (i := 2) (N := some 5) (v := ?_) (a' := ?_) (bsA 7 5) rfl rfl (by kernel_rfl) (fun _ _ _ h => h) (Or.inl ⟨by rfl, ?_⟩) ?_ ?_
  rotate_left
  ·intro w'
   go_simp
   with_reducible rfl
  rotate_left
  ·simp only [Act.put, List.setIfInBounds_toArray, List.set_cons_zero, List.set_cons_succ, i64_w]
   rfl
  refine take_ (i := 1) (N := some 4) (v := ?_) (a' := ?_) (bsA 7 7) rfl rfl (by kernel_rfl) (fun _ _ _ h => h) (Or.inl ⟨by rfl, ?_⟩) hHeld ?_ ?_
  rotate_left
  ·rintro w' ⟨s0, s1⟩
   go_simp
   with_reducible rfl
  rotate_left
  ·simp only [Act.put, List.setIfInBounds_toArray, List.set_cons_zero, List.set_cons_succ, i64_w]
   rfl
  refine take_ (i := 3) (N := some 6) (v := ?_) (a' := ?_) (bsA 7 15) rfl rfl (by kernel_rfl) (fun _ _ _ h => h) (Or.inl ⟨by rfl, ?_⟩) hHeld ?_ ?_
  rotate_left
  ·rintro w' ⟨s0, s1⟩
   go_simp
   with_reducible rfl
  rotate_left
  ·simp only [Act.put, List.setIfInBounds_toArray, List.set_cons_zero, List.set_cons_succ, i64_w]
   rfl
  refine one_ (i := 4) (N := some 7) (bsA 7 31) rfl rfl (by kernel_rfl) (by decide) (fun K hK => ?_)
  refine goes_ Try.func138 (by kernel_rfl) rfl #[.slice A0_1 l0_1.length c0_1] (by rfl) rfl rfl (by (try simp only [List.map_toArray, List.map_cons, List.map_nil]); first | done | rfl | (simp only [List.length_drop, List.length_take]; rfl)) ?_
  with_reducible refine (spec_l1Own.calls _ _ l0_1 t913 _ ?side1 ?side2 A2.out).mono ?_
  (case side1 => repeat (first | exact (Kd.C_below HR0_1.out HB.out) | (with_reducible refine Kd.C_alloc ?_ _) | (with_reducible refine Kd.C_drewN ?_ _) | (with_reducible refine Kd.C_drew ?_)))
  (case side2 => exact HC0_1.out)
  rintro e w6 ⟨v914, rfl, ho0, hb⟩
  refine ⟨_, rfl, ?_⟩
  have n0_ := Aside0.mk (Kd.R_lower ho0 (below_size (by repeat (first | (with_reducible first | exact HB.out | apply below_alloc | apply pw_below_drewN | apply below_drew1 | refine below_set ?_ GE911.out | refine below_set ?_ GE912.out) | exact HB.out))))
  have n1_ := Aside0.mk (blk_below (g := gb911) (o := .cells #[.int .i64 a0_0, .slice A0_1 l0_1.length c0_1] 39 (0, 0)) (by (with_reducible repeat (first | refine blk_drewN ?_ _ | refine blk_drew ?_ | refine blk_alloc ?_ _)); exact BK911.out) hb)
  have n2_ := Aside0.mk (blk_below (g := gb912) (o := .cells #[.int .i64 0, .slice none 0 0] 39 (0, 0)) (by (with_reducible repeat (first | refine blk_drewN ?_ _ | refine blk_drew ?_ | refine blk_alloc ?_ _)); exact BK912.out) hb)
  have n3_ := Aside0.mk (below_step (by repeat (first | (with_reducible first | exact HB.out | apply below_alloc | apply pw_below_drewN | apply below_drew1 | refine below_set ?_ GE911.out | refine below_set ?_ GE912.out) | exact HB.out)) hb)
  clear BK911
  clear BK912
  clear HB
  have HO915 := n0_
  have BK911 := n1_
  have BK912 := n2_
  have HB := n3_
  clear n0_ n1_ n2_ n3_
  (try clear hb)
  (try clear hb2)
  (try clear hk)
  (try clear hi)
  (try clear ho0)
  obtain ⟨Ao7, co7, eo7⟩ := Kd.R_slice HO915.out
  (first | subst eo7 | (injection eo7 with f1_ f2_ f3_; have f4_ := f1_.symm; have f5_ := f3_.symm; clear f1_ f2_ f3_; subst f4_; subst f5_))
  refine hK.out _ _ ⟨(blk_cell BK911.out 0).trans rfl, (blk_cell BK911.out 1).trans rfl⟩ (fun hHeld => ?_)
  clear hK K
  refine norm_ (a' := ?_) ?_ ?_
  rotate_left
  ·show Act.put _ (some 7) _ = _
   simp only [Act.put, List.setIfInBounds_toArray, List.set_cons_zero, List.set_cons_succ, i64_w]
   rfl
  refine pure_ (i := 5) (N := some 8) (v := ?_) (a' := ?_) (bsA 7 63) rfl rfl (by kernel_rfl) (fun _ _ _ h => h) (Or.inl ⟨by rfl, ?_⟩) ?_ ?_
  rotate_left
  ·intro w'
   go_simp
   with_reducible rfl
  rotate_left
  ·simp only [Act.put, List.setIfInBounds_toArray, List.set_cons_zero, List.set_cons_succ, i64_w]
   rfl
  refine one_ (i := 6) (N := none) (bsA 7 127) rfl rfl (by kernel_rfl) (by decide) (fun K hK => ?_)
  have hs8 : w6.cell? ⟨gb912, 0, none⟩ = some (.int .i64 0) := (blk_cell BK912.out 0).trans rfl
  have hfs8 := blk_frozen BK912.out 0
  have hns8_0 := NB911_912.out
  have hms8_0 := NB912_911.out
  have hs9 : w6.cell? ⟨gb912, 1, none⟩ = some (.slice none 0 0) := (blk_cell BK912.out 1).trans rfl
  have hfs9 := blk_frozen BK912.out 1
  have hns9_0 := NB911_912.out
  have hms9_0 := NB912_911.out
  refine skip_ (w1 := ?_) (by rfl) rfl ?_ ?_
  rotate_left
  ·go_simp
   rfl
  refine hK.out _ _ ⟨((cell_far (p := ⟨gb912, _, none⟩) NB911_912.out _).trans (((cell_far (p := ⟨gb912, _, none⟩) NB911_912.out _).trans (hHeld.1)))), ((cell_far (p := ⟨gb912, _, none⟩) NB911_912.out _).trans (((cell_far (p := ⟨gb912, _, none⟩) NB911_912.out _).trans (hHeld.2))))⟩ (fun hHeld => ?_)
  clear hK K
  refine done_ (by kernel_rfl) ?_
  try go_wp2
  refine bodyPost_ret (results_cell_row rfl _ _ gb912 39 #[.int .i64 a0_0, .slice Ao7 t913.length co7] (0, 0) _ rfl (by (with_reducible repeat (first | refine blk_drewN ?_ _ | refine blk_drew ?_ | refine blk_alloc ?_ _)); refine blk_put (cs := #[.int .i64 a0_0, .slice none 0 0]) ?_ 1 _ rfl; (with_reducible repeat (first | refine blk_drewN ?_ _ | refine blk_drew ?_ | refine blk_alloc ?_ _)); refine blk_put (cs := #[.int .i64 0, .slice none 0 0]) ?_ 0 _ rfl; (with_reducible repeat (first | refine blk_drewN ?_ _ | refine blk_drew ?_ | refine blk_alloc ?_ _)); exact BK912.out) Try.underlying39 rfl (by kernel_rfl)) rfl ?_
  exact ⟨_, by first | rfl | (simp [errW_none, errW_some] <;> rfl) | (simp [*, errW_none, errW_some] <;> rfl), by (with_reducible repeat (first | apply Kd.R_alloc | apply Kd.R_drewN | apply Kd.R_drew)); exact Kd.R_mono (Kd.R_far (p := ⟨gb912, 1, none⟩) (Kd.R_far (p := ⟨gb912, 0, none⟩) (Kd.R_types HO915.out BK912.out (by decide)) (fun _ hk => hk.2) (.int .i64 a0_0)) (fun _ hk => hk.2) (.slice Ao7 t913.length co7)) (fun _ hk => trivial), by repeat (first | (with_reducible first | exact HB.out | apply below_alloc | apply pw_below_drewN | apply below_drew1 | refine below_set ?_ GE911.out | refine below_set ?_ GE912.out) | exact HB.out)⟩
/-! ### spec_biCount: function 140 -/
def spec_biCount.l0 : Nat → Int → Int → Int → Int → List Int → Option (Int)
  | 0, _, _, _, _, _ => none
  | k + 1, x2, x7, x8, x917000, x917001 => if x8 < x2 then ((spec_biAt.f x917000 x917001 x8).bind fun t917 => (if t917 = true then (spec_biCount.l0 k x2 (wrap64 (x7 + 1)) (wrap64 (x8 + 1)) x917000 x917001) else (spec_biCount.l0 k x2 x7 (wrap64 (x8 + 1)) x917000 x917001))) else (some x7)
def spec_biCount.f (k : Nat) (a0_0 : Int) (l0_1 : List Int) (a1 : Int) (a2 : Int) : Option (Int) := spec_biCount.l0 k a2 0 a1 a0_0 l0_1
theorem spec_biCount.mono_l : ∀ k, (∀ y0 y1 y2 y3 y4, LeO (spec_biCount.l0 k y0 y1 y2 y3 y4) (spec_biCount.l0 (k + 1) y0 y1 y2 y3 y4))
  | 0 => fun _ _ _ _ _ r h => by simp [spec_biCount.l0] at h
  | k + 1 => by
    have ih0 := spec_biCount.mono_l k
    · intro y0 y1 y2 y3 y4
      unfold spec_biCount.l0
      repeat' first
      | (with_reducible exact ih0 _ _ _ _ _)
      | (with_reducible exact LeO.refl _)
      | (with_reducible exact LeO.none _)
      | (with_reducible refine LeO.ite ?_ ?_)
      | (with_reducible refine LeO.bind ?_ (fun _ => ?_))
      | exact ih0 _ _ _ _ _
      | exact LeO.none _
      | refine LeO.ite ?_ ?_
      | refine LeO.bind ?_ (fun _ => ?_)
theorem spec_biCount.mono : ∀ a0 a1 a2 a3 k, LeO (spec_biCount.f k a0 a1 a2 a3) (spec_biCount.f (k + 1) a0 a1 a2 a3) := by
  intro a0 a1 a2 a3 k
  have ih0 := spec_biCount.mono_l k
  unfold spec_biCount.f
  repeat' first
      | (with_reducible exact ih0 _ _ _ _ _)
      | (with_reducible exact LeO.refl _)
      | (with_reducible exact LeO.none _)
      | (with_reducible refine LeO.ite ?_ ?_)
      | (with_reducible refine LeO.bind ?_ (fun _ => ?_))
      | exact ih0 _ _ _ _ _
      | exact LeO.none _
      | refine LeO.ite ?_ ?_
      | refine LeO.bind ?_ (fun _ => ?_)
noncomputable def spec_biCount.L0 (y0 : Int) (y1 : Int) (y2 : Int) (y3 : Int) (y4 : List Int) : Option (Int) := lim fun k => spec_biCount.l0 k y0 y1 y2 y3 y4
theorem spec_biCount.L0_sup (y0 : Int) (y1 : Int) (y2 : Int) (y3 : Int) (y4 : List Int) : Sup (fun k => spec_biCount.l0 k y0 y1 y2 y3 y4) (spec_biCount.L0 y0 y1 y2 y3 y4) := Sup.of_mono fun k => spec_biCount.mono_l k y0 y1 y2 y3 y4
noncomputable def spec_biCount.F (a0_0 : Int) (l0_1 : List Int) (a1 : Int) (a2 : Int) : Option (Int) := lim fun k => spec_biCount.f k a0_0 l0_1 a1 a2
theorem spec_biCount.F_sup (a0_0 : Int) (l0_1 : List Int) (a1 : Int) (a2 : Int) : Sup (fun k => spec_biCount.f k a0_0 l0_1 a1 a2) (spec_biCount.F a0_0 l0_1 a1 a2) := Sup.of_mono fun k => spec_biCount.mono a0_0 l0_1 a1 a2 k
theorem spec_biCount.L0_eq (x2 : Int) (x7 : Int) (x8 : Int) (x917000 : Int) (x917001 : List Int) : spec_biCount.L0 x2 x7 x8 x917000 x917001 = if x8 < x2 then ((spec_biAt.f x917000 x917001 x8).bind fun t917 => (if t917 = true then (spec_biCount.L0 x2 (wrap64 (x7 + 1)) (wrap64 (x8 + 1)) x917000 x917001) else (spec_biCount.L0 x2 x7 (wrap64 (x8 + 1)) x917000 x917001))) else (some x7) := by
  refine Sup.unique (spec_biCount.L0_sup x2 x7 x8 x917000 x917001) (Sup.shift (fun k => spec_biCount.mono_l k x2 x7 x8 x917000 x917001) (Sup.congr (g' := fun k => if x8 < x2 then ((spec_biAt.f x917000 x917001 x8).bind fun t917 => (if t917 = true then (spec_biCount.l0 k x2 (wrap64 (x7 + 1)) (wrap64 (x8 + 1)) x917000 x917001) else (spec_biCount.l0 k x2 x7 (wrap64 (x8 + 1)) x917000 x917001))) else (some x7)) (fun k => by first | rfl | simp only [spec_biCount.l0]) ?_))
  repeat' first
    | (with_reducible exact spec_biCount.L0_sup _ _ _ _ _)
    | (with_reducible refine Sup.ite ?_ ?_)
    | (with_reducible refine Sup.bind ?_ (fun _ => ?_))
    | (with_reducible exact Sup.const _)
    | exact spec_biCount.L0_sup _ _ _ _ _
    | exact Sup.const _
theorem spec_biCount.F_eq (a0_0 : Int) (l0_1 : List Int) (a1 : Int) (a2 : Int) : spec_biCount.F a0_0 l0_1 a1 a2 = spec_biCount.L0 a2 0 a1 a0_0 l0_1 := by
  refine Sup.unique (spec_biCount.F_sup a0_0 l0_1 a1 a2) (Sup.congr (g' := fun k => spec_biCount.l0 k a2 0 a1 a0_0 l0_1) (fun k => by first | rfl | simp only [spec_biCount.f]) ?_)
  repeat' first
    | (with_reducible exact spec_biCount.L0_sup _ _ _ _ _)
    | (with_reducible refine Sup.ite ?_ ?_)
    | (with_reducible refine Sup.bind ?_ (fun _ => ?_))
    | (with_reducible exact Sup.const _)
    | exact spec_biCount.L0_sup _ _ _ _ _
    | exact Sup.const _
set_option maxHeartbeats 8000000 in
set_option maxRecDepth 100000 in
theorem spec_biCount.calls (k : Nat) (a0_0 : Int) (A0_1 : Option Addr) (c0_1 : Nat) (l0_1 : List Int) (a1 : Int) (a2 : Int) (r : Int) (w : World) (hr0_1 : Kd.C (Kd.int .i64) w A0_1 l0_1.length l0_1) (hc0_1 : l0_1.length ≤ c0_1) (h : spec_biCount.f k a0_0 l0_1 a1 a2 = some r) :
    Calls Try.prog 140 #[.agg #[.int .i64 a0_0, .slice A0_1 l0_1.length c0_1], .int .i64 a1, .int .i64 a2] w fun e w' => e = .returned (.int .i64 r) ∧ Below w.heap.size w w' := by
  have hu39 := Try.underlying39
  have HR0_1 := Aside0.mk hr0_1
  have HC0_1 := Aside0.mk hc0_1
  clear hr0_1 hc0_1
  have HB := Aside0.mk (Below.refl w.heap.size w)
  have H : (spec_biCount.l0 k a2 0 a1 a0_0 l0_1) = some r := h
  clear h
  have H' := Aside0.mk H
  clear H
  go_enter Try.func140, Try.ntmps140
  go_wp2_with (first | ((with_reducible refine gate_dst (N := 3) rfl ?_); refine box_event ?hg (N := 3) ?hd (cs := #[.int .i64 a0_0, .slice A0_1 l0_1.length c0_1]) (t := 39) ?hr ?_; (case hd => rfl); (case hg => rfl); (case hr => first | (go_simp; done) | (go_simp; rfl)); intro gb916 hg w4 hbox hb; have n0_ := Aside0.mk (below_step (by repeat (first | (with_reducible first | exact HB.out | apply below_alloc | apply pw_below_drewN | apply below_drew1) | exact HB.out)) hb); have n1_ := Aside0.mk (hbox); have n2_ := Aside0.mk ((by rw [hg]; exact (below_size (by repeat (first | (with_reducible first | exact HB.out | apply below_alloc | apply pw_below_drewN | apply below_drew1) | exact HB.out))) : w.heap.size ≤ gb916)); have n3_ := Aside0.mk ((by rw [hg]; exact (below_size (by repeat (first | (with_reducible first | exact HB.out | apply below_alloc | apply pw_below_drewN | apply below_drew1) | exact HB.out))) : w.heap.size ≤ gb916)); clear HB; have HB := n0_; have BK916 := n1_; have GW916 := n2_; have GE916 := n3_; clear n0_ n1_ n2_ n3_; clear hb hbox hg))
  go_loopg [7, 8] k (fun kq v7 v8 w' => ∃ (x7_1 : Int) (x8_1 : Int), v7 = .int .i64 x7_1 ∧ v8 = .int .i64 x8_1 ∧ Aside0 (spec_biCount.l0 kq a2 x7_1 x8_1 a0_0 l0_1 = some r) ∧ Aside0 (kq ≤ k) ∧ Aside0 (w'.heap[gb916]? = some (.cells #[.int .i64 a0_0, (.slice A0_1 l0_1.length c0_1)] 39 (0, 0))) ∧ Aside0 (Below w.heap.size w w'))
  case atStart => exact ⟨(0), (a1), (by first | rfl | (simp; done) | (simp [*]; done)), (by first | rfl | (simp; done) | (simp [*]; done)), H', ⟨Nat.le_refl _⟩, ⟨by (with_reducible repeat (first | refine blk_drewN ?_ _ | refine blk_drew ?_ | refine blk_alloc ?_ _)); exact BK916.out⟩, ⟨by repeat (first | (with_reducible first | exact HB.out | apply below_alloc | apply pw_below_drewN | apply below_drew1 | refine below_set ?_ GE916.out) | exact HB.out)⟩⟩
  case round =>
   clear H'
   try clear c1
   try clear p2
   obtain ⟨x7_1, x8_1, rfl, rfl, HA, HK1, BK916, HB⟩ := hrel
   cases gk with
   | zero => exact absurd HA.out (by simp [spec_biCount.l0])
   | succ k1 =>
    have H := HA.out
    clear HA
    simp only [spec_biCount.l0] at H
    by_cases c5 : x8_1 < a2
    ·rw [if_pos c5] at H
     have c5b0 : decide (x8_1 < a2) = true := decide_eq_true c5
     clear c5
     replace H := Option.bind_eq_some_iff.mp H
     obtain ⟨t917, A60, H⟩ := H
     replace H : (if t917 = true then (spec_biCount.l0 k1 a2 (wrap64 (x7_1 + 1)) (wrap64 (x8_1 + 1)) a0_0 l0_1) else (spec_biCount.l0 k1 a2 x7_1 (wrap64 (x8_1 + 1)) a0_0 l0_1)) = some r := H
     have A6 := Aside0.mk A60
     clear A60
     by_cases c7 : t917 = true
     ·subst c7
      have H1 : (spec_biCount.l0 k1 a2 (wrap64 (x7_1 + 1)) (wrap64 (x8_1 + 1)) a0_0 l0_1) = some r := by rw [if_pos rfl] at H; exact H
      clear H
      have H := H1
      clear H1
      have H' := Aside0.mk H
      clear H
      have hcz8_0 : wr.cell? ⟨gb916, 0, none⟩ = some (.int .i64 a0_0) := (blk_cell BK916.out 0).trans rfl
      have hcz8_1 : wr.cell? ⟨gb916, 1, none⟩ = some (.slice A0_1 l0_1.length c0_1) := (blk_cell BK916.out 1).trans rfl
      have hfz8_0 := blk_frozen BK916.out 0
      have hfz8_1 := blk_frozen BK916.out 1
      go_wp2_with (first | ((with_reducible refine gate_callee (f := 124) rfl ?_); refine goesL_ (some 17) rfl rfl Try.func124 (by kernel_rfl) rfl #[.agg #[.int .i64 a0_0, .slice A0_1 l0_1.length c0_1], .int .i64 x8_1] rfl (by (try simp only [List.map_toArray, List.map_cons, List.map_nil]); first | done | rfl | (simp only [List.length_drop, List.length_take]; rfl)) ?_; (with_reducible refine (spec_biAt.calls a0_0 _ _ l0_1 x8_1 true _ ?side1 ?side2 A6.out).mono ?_); (case side1 => repeat (first | exact (Kd.C_below HR0_1.out HB.out) | (with_reducible refine Kd.C_alloc ?_ _) | (with_reducible refine Kd.C_drewN ?_ _) | (with_reducible refine Kd.C_drew ?_))); (case side2 => exact HC0_1.out); rintro e w9 ⟨rfl, hb⟩; refine ⟨_, rfl, ?_⟩; have n0_ := Aside0.mk (blk_below (g := gb916) (o := .cells #[.int .i64 a0_0, .slice A0_1 l0_1.length c0_1] 39 (0, 0)) (by (with_reducible repeat (first | refine blk_drewN ?_ _ | refine blk_drew ?_ | refine blk_alloc ?_ _)); exact BK916.out) hb); have n1_ := Aside0.mk (below_step (by repeat (first | (with_reducible first | exact HB.out | apply below_alloc | apply pw_below_drewN | apply below_drew1 | refine below_set ?_ GE916.out) | exact HB.out)) hb); clear BK916; clear HB; have BK916 := n0_; have HB := n1_; clear n0_ n1_; (try clear hb); (try clear hb2); (try clear hk); (try clear hi)))
      go_roundg k1
      case measure => have := HK1.out; omega
      case rel => exact ⟨(wrap64 (x7_1 + 1)), (wrap64 (x8_1 + 1)), (by first | rfl | (simp; done) | (simp [*]; done)), (by first | rfl | (simp; done) | (simp [*]; done)), H', ⟨by have := HK1.out; omega⟩, ⟨by (with_reducible repeat (first | refine blk_drewN ?_ _ | refine blk_drew ?_ | refine blk_alloc ?_ _)); exact BK916.out⟩, ⟨by repeat (first | (with_reducible first | exact HB.out | apply below_alloc | apply pw_below_drewN | apply below_drew1 | refine below_set ?_ GE916.out) | exact HB.out)⟩⟩
     ·replace c7 := Bool.eq_false_iff.mpr c7
      subst c7
      have H1 : (spec_biCount.l0 k1 a2 x7_1 (wrap64 (x8_1 + 1)) a0_0 l0_1) = some r := by rw [if_neg (show ¬ (false = true) by decide)] at H; exact H
      clear H
      have H := H1
      clear H1
      have H' := Aside0.mk H
      clear H
      have hcz10_0 : wr.cell? ⟨gb916, 0, none⟩ = some (.int .i64 a0_0) := (blk_cell BK916.out 0).trans rfl
      have hcz10_1 : wr.cell? ⟨gb916, 1, none⟩ = some (.slice A0_1 l0_1.length c0_1) := (blk_cell BK916.out 1).trans rfl
      have hfz10_0 := blk_frozen BK916.out 0
      have hfz10_1 := blk_frozen BK916.out 1
      go_wp2_with (first | ((with_reducible refine gate_callee (f := 124) rfl ?_); refine goesL_ (some 17) rfl rfl Try.func124 (by kernel_rfl) rfl #[.agg #[.int .i64 a0_0, .slice A0_1 l0_1.length c0_1], .int .i64 x8_1] rfl (by (try simp only [List.map_toArray, List.map_cons, List.map_nil]); first | done | rfl | (simp only [List.length_drop, List.length_take]; rfl)) ?_; (with_reducible refine (spec_biAt.calls a0_0 _ _ l0_1 x8_1 false _ ?side1 ?side2 A6.out).mono ?_); (case side1 => repeat (first | exact (Kd.C_below HR0_1.out HB.out) | (with_reducible refine Kd.C_alloc ?_ _) | (with_reducible refine Kd.C_drewN ?_ _) | (with_reducible refine Kd.C_drew ?_))); (case side2 => exact HC0_1.out); rintro e w11 ⟨rfl, hb⟩; refine ⟨_, rfl, ?_⟩; have n0_ := Aside0.mk (blk_below (g := gb916) (o := .cells #[.int .i64 a0_0, .slice A0_1 l0_1.length c0_1] 39 (0, 0)) (by (with_reducible repeat (first | refine blk_drewN ?_ _ | refine blk_drew ?_ | refine blk_alloc ?_ _)); exact BK916.out) hb); have n1_ := Aside0.mk (below_step (by repeat (first | (with_reducible first | exact HB.out | apply below_alloc | apply pw_below_drewN | apply below_drew1 | refine below_set ?_ GE916.out) | exact HB.out)) hb); clear BK916; clear HB; have BK916 := n0_; have HB := n1_; clear n0_ n1_; (try clear hb); (try clear hb2); (try clear hk); (try clear hi)))
      go_roundg k1
      case measure => have := HK1.out; omega
      case rel => exact ⟨(x7_1), (wrap64 (x8_1 + 1)), (by first | rfl | (simp; done) | (simp [*]; done)), (by first | rfl | (simp; done) | (simp [*]; done)), H', ⟨by have := HK1.out; omega⟩, ⟨by (with_reducible repeat (first | refine blk_drewN ?_ _ | refine blk_drew ?_ | refine blk_alloc ?_ _)); exact BK916.out⟩, ⟨by repeat (first | (with_reducible first | exact HB.out | apply below_alloc | apply pw_below_drewN | apply below_drew1 | refine below_set ?_ GE916.out) | exact HB.out)⟩⟩
    ·rw [if_neg c5] at H
     have c5b0 : decide (x8_1 < a2) = false := decide_eq_false c5
     clear c5
     obtain rfl := Option.some.inj H
     go_wp2
     go_ret
     exact ⟨by first | rfl | (simp [errW_none, errW_some] <;> rfl) | (simp [*, errW_none, errW_some] <;> rfl), by repeat (first | (with_reducible first | exact HB.out | apply below_alloc | apply pw_below_drewN | apply below_drew1 | refine below_set ?_ GE916.out) | exact HB.out)⟩
/-! ### spec_raOf: function 113 -/
def spec_raOf.l0 : Nat → Int → Int → List Int → Int → List Int → List Int → List Int → Option (Int × List Int × List Int × List Int)
  | 0, _, _, _, _, _, _, _ => none
  | k + 1, x4, x919000, x919001, x925000, x925001, x925002, x925003 => if x4 < x919000 then (if (Int.tmod x4 64) = 0 then ((spec_biCount.f k x919000 x919001 0 x4).bind fun t925 => (if x925002.length < 17592186044416 then ((spec_biCount.f k x919000 x919001 (wrap64 ((wrap64 (Int.tdiv x4 64)) * 64)) x4).bind fun t929 => (if x925003.length < 17592186044416 then (spec_raOf.l0 k (wrap64 (x4 + 16)) x919000 x919001 x925000 x925001 (x925002 ++ [t925]) (x925003 ++ [t929])) else (none))) else (none))) else ((spec_biCount.f k x919000 x919001 (wrap64 ((wrap64 (Int.tdiv x4 64)) * 64)) x4).bind fun t933 => (if x925003.length < 17592186044416 then (spec_raOf.l0 k (wrap64 (x4 + 16)) x919000 x919001 x925000 x925001 x925002 (x925003 ++ [t933])) else (none)))) else (some (x925000, x925001, x925002, x925003))
def spec_raOf.f (k : Nat) (a0_0 : Int) (l0_1 : List Int) : Option (Int × List Int × List Int × List Int) := (spec_biOwn.f a0_0 l0_1).bind fun bt920 => (spec_raOf.l0 k 0 a0_0 l0_1 bt920.1 bt920.2 ([] : List Int) ([] : List Int))
theorem spec_raOf.mono_l : ∀ k, (∀ y0 y1 y2 y3 y4 y5 y6, LeO (spec_raOf.l0 k y0 y1 y2 y3 y4 y5 y6) (spec_raOf.l0 (k + 1) y0 y1 y2 y3 y4 y5 y6))
  | 0 => fun _ _ _ _ _ _ _ r h => by simp [spec_raOf.l0] at h
  | k + 1 => by
    have ih0 := spec_raOf.mono_l k
    · intro y0 y1 y2 y3 y4 y5 y6
      unfold spec_raOf.l0
      repeat' first
      | (with_reducible exact ih0 _ _ _ _ _ _ _)
      | (with_reducible exact spec_biCount.mono _ _ _ _ _)
      | (with_reducible exact LeO.refl _)
      | (with_reducible exact LeO.none _)
      | (with_reducible refine LeO.ite ?_ ?_)
      | (with_reducible refine LeO.bind ?_ (fun _ => ?_))
      | exact ih0 _ _ _ _ _ _ _
      | exact spec_biCount.mono _ _ _ _ _
      | exact LeO.none _
      | refine LeO.ite ?_ ?_
      | refine LeO.bind ?_ (fun _ => ?_)
theorem spec_raOf.mono : ∀ a0 a1 k, LeO (spec_raOf.f k a0 a1) (spec_raOf.f (k + 1) a0 a1) := by
  intro a0 a1 k
  have ih0 := spec_raOf.mono_l k
  unfold spec_raOf.f
  repeat' first
      | (with_reducible exact ih0 _ _ _ _ _ _ _)
      | (with_reducible exact spec_biCount.mono _ _ _ _ _)
      | (with_reducible exact LeO.refl _)
      | (with_reducible exact LeO.none _)
      | (with_reducible refine LeO.ite ?_ ?_)
      | (with_reducible refine LeO.bind ?_ (fun _ => ?_))
      | exact ih0 _ _ _ _ _ _ _
      | exact spec_biCount.mono _ _ _ _ _
      | exact LeO.none _
      | refine LeO.ite ?_ ?_
      | refine LeO.bind ?_ (fun _ => ?_)
noncomputable def spec_raOf.L0 (y0 : Int) (y1 : Int) (y2 : List Int) (y3 : Int) (y4 : List Int) (y5 : List Int) (y6 : List Int) : Option (Int × List Int × List Int × List Int) := lim fun k => spec_raOf.l0 k y0 y1 y2 y3 y4 y5 y6
theorem spec_raOf.L0_sup (y0 : Int) (y1 : Int) (y2 : List Int) (y3 : Int) (y4 : List Int) (y5 : List Int) (y6 : List Int) : Sup (fun k => spec_raOf.l0 k y0 y1 y2 y3 y4 y5 y6) (spec_raOf.L0 y0 y1 y2 y3 y4 y5 y6) := Sup.of_mono fun k => spec_raOf.mono_l k y0 y1 y2 y3 y4 y5 y6
noncomputable def spec_raOf.F (a0_0 : Int) (l0_1 : List Int) : Option (Int × List Int × List Int × List Int) := lim fun k => spec_raOf.f k a0_0 l0_1
theorem spec_raOf.F_sup (a0_0 : Int) (l0_1 : List Int) : Sup (fun k => spec_raOf.f k a0_0 l0_1) (spec_raOf.F a0_0 l0_1) := Sup.of_mono fun k => spec_raOf.mono a0_0 l0_1 k
theorem spec_raOf.L0_eq (x4 : Int) (x919000 : Int) (x919001 : List Int) (x925000 : Int) (x925001 : List Int) (x925002 : List Int) (x925003 : List Int) : spec_raOf.L0 x4 x919000 x919001 x925000 x925001 x925002 x925003 = if x4 < x919000 then (if (Int.tmod x4 64) = 0 then ((spec_biCount.F x919000 x919001 0 x4).bind fun t925 => (if x925002.length < 17592186044416 then ((spec_biCount.F x919000 x919001 (wrap64 ((wrap64 (Int.tdiv x4 64)) * 64)) x4).bind fun t929 => (if x925003.length < 17592186044416 then (spec_raOf.L0 (wrap64 (x4 + 16)) x919000 x919001 x925000 x925001 (x925002 ++ [t925]) (x925003 ++ [t929])) else (none))) else (none))) else ((spec_biCount.F x919000 x919001 (wrap64 ((wrap64 (Int.tdiv x4 64)) * 64)) x4).bind fun t933 => (if x925003.length < 17592186044416 then (spec_raOf.L0 (wrap64 (x4 + 16)) x919000 x919001 x925000 x925001 x925002 (x925003 ++ [t933])) else (none)))) else (some (x925000, x925001, x925002, x925003)) := by
  refine Sup.unique (spec_raOf.L0_sup x4 x919000 x919001 x925000 x925001 x925002 x925003) (Sup.shift (fun k => spec_raOf.mono_l k x4 x919000 x919001 x925000 x925001 x925002 x925003) (Sup.congr (g' := fun k => if x4 < x919000 then (if (Int.tmod x4 64) = 0 then ((spec_biCount.f k x919000 x919001 0 x4).bind fun t925 => (if x925002.length < 17592186044416 then ((spec_biCount.f k x919000 x919001 (wrap64 ((wrap64 (Int.tdiv x4 64)) * 64)) x4).bind fun t929 => (if x925003.length < 17592186044416 then (spec_raOf.l0 k (wrap64 (x4 + 16)) x919000 x919001 x925000 x925001 (x925002 ++ [t925]) (x925003 ++ [t929])) else (none))) else (none))) else ((spec_biCount.f k x919000 x919001 (wrap64 ((wrap64 (Int.tdiv x4 64)) * 64)) x4).bind fun t933 => (if x925003.length < 17592186044416 then (spec_raOf.l0 k (wrap64 (x4 + 16)) x919000 x919001 x925000 x925001 x925002 (x925003 ++ [t933])) else (none)))) else (some (x925000, x925001, x925002, x925003))) (fun k => by first | rfl | simp only [spec_raOf.l0]) ?_))
  repeat' first
    | (with_reducible exact spec_raOf.L0_sup _ _ _ _ _ _ _)
    | (with_reducible exact spec_biCount.F_sup _ _ _ _)
    | (with_reducible refine Sup.ite ?_ ?_)
    | (with_reducible refine Sup.bind ?_ (fun _ => ?_))
    | (with_reducible exact Sup.const _)
    | exact spec_raOf.L0_sup _ _ _ _ _ _ _
    | exact spec_biCount.F_sup _ _ _ _
    | exact Sup.const _
theorem spec_raOf.F_eq (a0_0 : Int) (l0_1 : List Int) : spec_raOf.F a0_0 l0_1 = (spec_biOwn.f a0_0 l0_1).bind fun bt920 => (spec_raOf.L0 0 a0_0 l0_1 bt920.1 bt920.2 ([] : List Int) ([] : List Int)) := by
  refine Sup.unique (spec_raOf.F_sup a0_0 l0_1) (Sup.congr (g' := fun k => (spec_biOwn.f a0_0 l0_1).bind fun bt920 => (spec_raOf.l0 k 0 a0_0 l0_1 bt920.1 bt920.2 ([] : List Int) ([] : List Int))) (fun k => by first | rfl | simp only [spec_raOf.f]) ?_)
  repeat' first
    | (with_reducible exact spec_raOf.L0_sup _ _ _ _ _ _ _)
    | (with_reducible exact spec_biCount.F_sup _ _ _ _)
    | (with_reducible refine Sup.ite ?_ ?_)
    | (with_reducible refine Sup.bind ?_ (fun _ => ?_))
    | (with_reducible exact Sup.const _)
    | exact spec_raOf.L0_sup _ _ _ _ _ _ _
    | exact spec_biCount.F_sup _ _ _ _
    | exact Sup.const _
def spec_raOf.T6 : Bool × List (List Nat × List Nat) := (true, [([], []), ([0], [0]), ([], []), ([], []), ([2, 3], [2, 3]), ([4], [4]), ([1, 5, 4], [1, 5]), ([0, 1, 2, 3, 4, 5, 6], []), ([7, 6, 6, 0, 1, 2, 3, 4, 5, 6], [6, 7])])
def spec_raOf.B6 : List Nat := [0, 1, 0, 0, 12, 28, 63, 127, 255]
theorem spec_raOf.tab6 : rtab .any (opsOf Try.f113 6) = spec_raOf.T6 := by kernel_rfl
theorem spec_raOf.bits6 : waitsOk spec_raOf.T6.2 spec_raOf.B6 = true := by kernel_rfl
def spec_raOf.T7 : Bool × List (List Nat × List Nat) := (true, [([], []), ([0], [0]), ([], []), ([], []), ([3], [3]), ([4], [4]), ([], []), ([2, 5, 6], [2, 5, 6]), ([7], [7]), ([1, 8, 7], [1, 8]), ([0, 1, 2, 3, 4, 5, 6, 7, 8, 9], []), ([10, 9, 9, 0, 1, 2, 3, 4, 5, 6, 7, 8, 9], [9, 10])])
def spec_raOf.B7 : List Nat := [0, 1, 0, 0, 8, 24, 0, 124, 252, 511, 1023, 2047]
theorem spec_raOf.tab7 : rtab .any (opsOf Try.f113 7) = spec_raOf.T7 := by kernel_rfl
theorem spec_raOf.bits7 : waitsOk spec_raOf.T7.2 spec_raOf.B7 = true := by kernel_rfl
set_option maxHeartbeats 8000000 in
set_option maxRecDepth 100000 in
theorem spec_raOf.calls (k : Nat) (a0_0 : Int) (A0_1 : Option Addr) (c0_1 : Nat) (l0_1 : List Int) (r1 : Int) (r2 : List Int) (r3 : List Int) (r4 : List Int) (w : World) (hr0_1 : Kd.C (Kd.int .i64) w A0_1 l0_1.length l0_1) (hc0_1 : l0_1.length ≤ c0_1) (h : spec_raOf.f k a0_0 l0_1 = some (r1, r2, r3, r4)) :
    Calls Try.prog 113 #[.agg #[.int .i64 a0_0, .slice A0_1 l0_1.length c0_1]] w fun e w' => ∃ v1_ v2_ v3_ : Value, e = .returned (.agg #[.int .i64 r1, v1_, v2_, v3_]) ∧ Kd.R (Kd.int .i64) 3 w' w.heap.size (fun k_ => some k_ ≠ (v2_ : Value).ownBlock ∧ some k_ ≠ (v3_ : Value).ownBlock) v1_ r2 ∧ Kd.R (Kd.int .i64) 3 w' w.heap.size (fun k_ => some k_ ≠ (v1_ : Value).ownBlock ∧ some k_ ≠ (v3_ : Value).ownBlock) v2_ r3 ∧ Kd.R (Kd.int .i64) 3 w' w.heap.size (fun k_ => some k_ ≠ (v1_ : Value).ownBlock ∧ some k_ ≠ (v2_ : Value).ownBlock) v3_ r4 ∧ Below w.heap.size w w' := by
  have hu39 := Try.underlying39
  have hu85 := Try.underlying85
  have HR0_1 := Aside0.mk hr0_1
  have HC0_1 := Aside0.mk hc0_1
  clear hr0_1 hc0_1
  have HB := Aside0.mk (Below.refl w.heap.size w)
  have H : ((spec_biOwn.f a0_0 l0_1).bind fun bt920 => (spec_raOf.l0 k 0 a0_0 l0_1 bt920.1 bt920.2 ([] : List Int) ([] : List Int))) = some (r1, r2, r3, r4) := h
  clear h
  replace H := Option.bind_eq_some_iff.mp H
  obtain ⟨⟨t920, t921⟩, A20, H⟩ := H
  replace H : (spec_raOf.l0 k 0 a0_0 l0_1 t920 t921 ([] : List Int) ([] : List Int)) = some (r1, r2, r3, r4) := H
  have A2 := Aside0.mk A20
  clear A20
  have H' := Aside0.mk H
  clear H
  go_enter Try.func113, Try.ntmps113
  go_wp2_with (first | ((with_reducible refine gate_dst (N := 1) rfl ?_); refine box_event ?hg (N := 1) ?hd (cs := #[.int .i64 a0_0, .slice A0_1 l0_1.length c0_1]) (t := 39) ?hr ?_; (case hd => rfl); (case hg => rfl); (case hr => first | (go_simp; done) | (go_simp; rfl)); intro gb918 hg w3 hbox hb; have n0_ := Aside0.mk (below_step (by repeat (first | (with_reducible first | exact HB.out | apply below_alloc | apply pw_below_drewN | apply below_drew1) | exact HB.out)) hb); have n1_ := Aside0.mk (hbox); have n2_ := Aside0.mk ((by rw [hg]; exact (below_size (by repeat (first | (with_reducible first | exact HB.out | apply below_alloc | apply pw_below_drewN | apply below_drew1) | exact HB.out))) : w.heap.size ≤ gb918)); have n3_ := Aside0.mk ((by rw [hg]; exact (below_size (by repeat (first | (with_reducible first | exact HB.out | apply below_alloc | apply pw_below_drewN | apply below_drew1) | exact HB.out))) : w.heap.size ≤ gb918)); clear HB; have HB := n0_; have BK918 := n1_; have GW918 := n2_; have GE918 := n3_; clear n0_ n1_ n2_ n3_; clear hb hbox hg) | ((with_reducible refine gate_dst (N := 2) rfl ?_); refine box_event ?hg (N := 2) ?hd (cs := #[.int .i64 0, .slice none 0 0, .slice none 0 0, .slice none 0 0]) (t := 85) ?hr ?_; (case hd => rfl); (case hg => rfl); (case hr => first | (go_simp; done) | (go_simp; rfl)); intro gb919 hg w4 hbox hb; have n0_ := Aside0.mk (blk_below (g := gb918) (o := .cells #[.int .i64 a0_0, .slice A0_1 l0_1.length c0_1] 39 (0, 0)) (by (with_reducible repeat (first | refine blk_drewN ?_ _ | refine blk_drew ?_ | refine blk_alloc ?_ _)); exact BK918.out) hb); have n1_ := Aside0.mk (below_step (by repeat (first | (with_reducible first | exact HB.out | apply below_alloc | apply pw_below_drewN | apply below_drew1 | refine below_set ?_ GE918.out) | exact HB.out)) hb); have n2_ := Aside0.mk (hbox); have n3_ := Aside0.mk ((by rw [hg]; exact (below_size (by repeat (first | (with_reducible first | exact HB.out | apply below_alloc | apply pw_below_drewN | apply below_drew1 | refine below_set ?_ GE918.out) | exact HB.out))) : w.heap.size ≤ gb919)); have n4_ := Aside0.mk ((by rw [hg]; exact (below_size (by repeat (first | (with_reducible first | exact HB.out | apply below_alloc | apply pw_below_drewN | apply below_drew1 | refine below_set ?_ GE918.out) | exact HB.out))) : w.heap.size ≤ gb919)); have n5_ := Aside0.mk ((by rw [hg]; exact Nat.ne_of_lt (blk_lt (g := gb918) (o := .cells #[.int .i64 a0_0, .slice A0_1 l0_1.length c0_1] 39 (0, 0)) (by (with_reducible repeat (first | refine blk_drewN ?_ _ | refine blk_drew ?_ | refine blk_alloc ?_ _)); exact BK918.out)) : gb918 ≠ gb919)); have n6_ := Aside0.mk ((by rw [hg]; exact Nat.ne_of_gt (blk_lt (g := gb918) (o := .cells #[.int .i64 a0_0, .slice A0_1 l0_1.length c0_1] 39 (0, 0)) (by (with_reducible repeat (first | refine blk_drewN ?_ _ | refine blk_drew ?_ | refine blk_alloc ?_ _)); exact BK918.out)) : gb919 ≠ gb918)); clear BK918; clear HB; have BK918 := n0_; have HB := n1_; have BK919 := n2_; have GW919 := n3_; have GE919 := n4_; have NB918_919 := n5_; have NB919_918 := n6_; clear n0_ n1_ n2_ n3_ n4_ n5_ n6_; clear hb hbox hg; have hnb5 := NB918_919.out; have hnc5 := NB919_918.out; have hcz6_0 : w4.cell? ⟨gb918, 0, none⟩ = some (.int .i64 a0_0) := (blk_cell BK918.out 0).trans rfl; have hcz6_1 : w4.cell? ⟨gb918, 1, none⟩ = some (.slice A0_1 l0_1.length c0_1) := (blk_cell BK918.out 1).trans rfl; have hfz6_0 := blk_frozen BK918.out 0; have hfz6_1 := blk_frozen BK918.out 1) | ((with_reducible refine gate_callee (f := 139) rfl ?_); refine goesL_ (some 6) rfl rfl Try.func139 (by kernel_rfl) rfl #[.agg #[.int .i64 a0_0, .slice A0_1 l0_1.length c0_1]] rfl (by (try simp only [List.map_toArray, List.map_cons, List.map_nil]); first | done | rfl | (simp only [List.length_drop, List.length_take]; rfl)) ?_; (with_reducible refine (spec_biOwn.calls a0_0 _ _ l0_1 t920 t921 _ ?side1 ?side2 A2.out).mono ?_); (case side1 => repeat (first | exact (Kd.C_below HR0_1.out HB.out) | (with_reducible refine Kd.C_alloc ?_ _) | (with_reducible refine Kd.C_drewN ?_ _) | (with_reducible refine Kd.C_drew ?_))); (case side2 => exact HC0_1.out); rintro e w7 ⟨v922, rfl, ho0, hb⟩; refine ⟨_, rfl, ?_⟩; have n0_ := Aside0.mk (Kd.R_lower ho0 (below_size (by repeat (first | (with_reducible first | exact HB.out | apply below_alloc | apply pw_below_drewN | apply below_drew1 | refine below_set ?_ GE918.out | refine below_set ?_ GE919.out) | exact HB.out)))); have n1_ := Aside0.mk (blk_below (g := gb918) (o := .cells #[.int .i64 a0_0, .slice A0_1 l0_1.length c0_1] 39 (0, 0)) (by (with_reducible repeat (first | refine blk_drewN ?_ _ | refine blk_drew ?_ | refine blk_alloc ?_ _)); exact BK918.out) hb); have n2_ := Aside0.mk (blk_below (g := gb919) (o := .cells #[.int .i64 0, .slice none 0 0, .slice none 0 0, .slice none 0 0] 85 (0, 0)) (by (with_reducible repeat (first | refine blk_drewN ?_ _ | refine blk_drew ?_ | refine blk_alloc ?_ _)); exact BK919.out) hb); have n3_ := Aside0.mk (below_step (by repeat (first | (with_reducible first | exact HB.out | apply below_alloc | apply pw_below_drewN | apply below_drew1 | refine below_set ?_ GE918.out | refine below_set ?_ GE919.out) | exact HB.out)) hb); clear BK918; clear BK919; clear HB; have HO923 := n0_; have BK918 := n1_; have BK919 := n2_; have HB := n3_; clear n0_ n1_ n2_ n3_; (try clear hb); (try clear hb2); (try clear hk); (try clear hi); (try clear ho0); obtain ⟨Ao8, co8, eo8⟩ := Kd.R_slice HO923.out; subst eo8) | ((with_reducible refine gate_dst (N := 3) rfl ?_); refine box_event ?hg (N := 3) ?hd (cs := #[.int .i64 0, .slice none 0 0, .slice none 0 0, .slice none 0 0]) (t := 85) ?hr ?_; (case hd => rfl); (case hg => rfl); (case hr => first | (go_simp; done) | (go_simp; rfl)); intro gb924 hg w9 hbox hb; have n0_ := Aside0.mk (Kd.R_below (by (with_reducible repeat (first | apply Kd.R_alloc | apply Kd.R_drewN | apply Kd.R_drew)); exact HO923.out) hb); have n1_ := Aside0.mk (blk_below (g := gb918) (o := .cells #[.int .i64 a0_0, .slice A0_1 l0_1.length c0_1] 39 (0, 0)) (by (with_reducible repeat (first | refine blk_drewN ?_ _ | refine blk_drew ?_ | refine blk_alloc ?_ _)); exact BK918.out) hb); have n2_ := Aside0.mk (blk_below (g := gb919) (o := .cells #[.int .i64 0, .slice none 0 0, .slice none 0 0, .slice none 0 0] 85 (0, 0)) (by (with_reducible repeat (first | refine blk_drewN ?_ _ | refine blk_drew ?_ | refine blk_alloc ?_ _)); exact BK919.out) hb); have n3_ := Aside0.mk (below_step (by repeat (first | (with_reducible first | exact HB.out | apply below_alloc | apply pw_below_drewN | apply below_drew1 | refine below_set ?_ GE918.out | refine below_set ?_ GE919.out) | exact HB.out)) hb); have n4_ := Aside0.mk (hbox); have n5_ := Aside0.mk ((by rw [hg]; exact (below_size (by repeat (first | (with_reducible first | exact HB.out | apply below_alloc | apply pw_below_drewN | apply below_drew1 | refine below_set ?_ GE918.out | refine below_set ?_ GE919.out) | exact HB.out))) : w.heap.size ≤ gb924)); have n6_ := Aside0.mk ((by rw [hg]; exact (below_size (by repeat (first | (with_reducible first | exact HB.out | apply below_alloc | apply pw_below_drewN | apply below_drew1 | refine below_set ?_ GE918.out | refine below_set ?_ GE919.out) | exact HB.out))) : w.heap.size ≤ gb924)); have n7_ := Aside0.mk ((by rw [hg]; exact Nat.ne_of_lt (blk_lt (g := gb918) (o := .cells #[.int .i64 a0_0, .slice A0_1 l0_1.length c0_1] 39 (0, 0)) (by (with_reducible repeat (first | refine blk_drewN ?_ _ | refine blk_drew ?_ | refine blk_alloc ?_ _)); exact BK918.out)) : gb918 ≠ gb924)); have n8_ := Aside0.mk ((by rw [hg]; exact Nat.ne_of_gt (blk_lt (g := gb918) (o := .cells #[.int .i64 a0_0, .slice A0_1 l0_1.length c0_1] 39 (0, 0)) (by (with_reducible repeat (first | refine blk_drewN ?_ _ | refine blk_drew ?_ | refine blk_alloc ?_ _)); exact BK918.out)) : gb924 ≠ gb918)); have n9_ := Aside0.mk ((by rw [hg]; exact Nat.ne_of_lt (blk_lt (g := gb919) (o := .cells #[.int .i64 0, .slice none 0 0, .slice none 0 0, .slice none 0 0] 85 (0, 0)) (by (with_reducible repeat (first | refine blk_drewN ?_ _ | refine blk_drew ?_ | refine blk_alloc ?_ _)); exact BK919.out)) : gb919 ≠ gb924)); have n10_ := Aside0.mk ((by rw [hg]; exact Nat.ne_of_gt (blk_lt (g := gb919) (o := .cells #[.int .i64 0, .slice none 0 0, .slice none 0 0, .slice none 0 0] 85 (0, 0)) (by (with_reducible repeat (first | refine blk_drewN ?_ _ | refine blk_drew ?_ | refine blk_alloc ?_ _)); exact BK919.out)) : gb924 ≠ gb919)); clear HO923; clear BK918; clear BK919; clear HB; have HO923 := n0_; have BK918 := n1_; have BK919 := n2_; have HB := n3_; have BK924 := n4_; have GW924 := n5_; have GE924 := n6_; have NB918_924 := n7_; have NB924_918 := n8_; have NB919_924 := n9_; have NB924_919 := n10_; clear n0_ n1_ n2_ n3_ n4_ n5_ n6_ n7_ n8_ n9_ n10_; clear hb hbox hg; have hnb10 := NB924_918.out; have hnc10 := NB918_924.out; have hnb11 := NB924_919.out; have hnc11 := NB919_924.out; have hcz12_0 : w9.cell? ⟨gb924, 0, none⟩ = some (.int .i64 0) := (blk_cell BK924.out 0).trans rfl; have hcz12_1 : w9.cell? ⟨gb924, 1, none⟩ = some (.slice none 0 0) := (blk_cell BK924.out 1).trans rfl; have hcz12_2 : w9.cell? ⟨gb924, 2, none⟩ = some (.slice none 0 0) := (blk_cell BK924.out 2).trans rfl; have hcz12_3 : w9.cell? ⟨gb924, 3, none⟩ = some (.slice none 0 0) := (blk_cell BK924.out 3).trans rfl; have hfz12_0 := blk_frozen BK924.out 0; have hfz12_1 := blk_frozen BK924.out 1; have hfz12_2 := blk_frozen BK924.out 2; have hfz12_3 := blk_frozen BK924.out 3))
  go_loopg [4] k (fun kq v4 w' => ∃ (x4_1 : Int) (x925002_1 : List Int) (x925003_1 : List Int) (u925002 : Value) (u925003 : Value), v4 = .int .i64 x4_1 ∧ Aside0 (spec_raOf.l0 kq x4_1 a0_0 l0_1 t920 t921 x925002_1 x925003_1 = some (r1, r2, r3, r4)) ∧ Aside0 (kq ≤ k) ∧ Aside0 (Kd.R (Kd.int .i64) 3 w' w.heap.size (fun k_ => some k_ ≠ (u925002 : Value).ownBlock ∧ some k_ ≠ (u925003 : Value).ownBlock) (.slice Ao8 t921.length co8) t921) ∧ Aside0 (Kd.R (Kd.int .i64) 3 w' w.heap.size (fun k_ => some k_ ≠ ((.slice Ao8 t921.length co8) : Value).ownBlock ∧ some k_ ≠ (u925003 : Value).ownBlock) u925002 x925002_1) ∧ Aside0 (Kd.R (Kd.int .i64) 3 w' w.heap.size (fun k_ => some k_ ≠ ((.slice Ao8 t921.length co8) : Value).ownBlock ∧ some k_ ≠ (u925002 : Value).ownBlock) u925003 x925003_1) ∧ Aside0 (w'.heap[gb918]? = some (.cells #[.int .i64 a0_0, (.slice A0_1 l0_1.length c0_1)] 39 (0, 0))) ∧ Aside0 (w'.heap[gb919]? = some (.cells #[.int .i64 0, (.slice none 0 0), (.slice none 0 0), (.slice none 0 0)] 85 (0, 0))) ∧ Aside0 (w'.heap[gb924]? = some (.cells #[.int .i64 t920, (.slice Ao8 t921.length co8), u925002, u925003] 85 (0, 0))) ∧ Aside0 (Below w.heap.size w w'))
  case atStart => exact ⟨(0), (([] : List Int)), (([] : List Int)), (.slice none 0 0), (.slice none 0 0), (by first | rfl | (simp; done) | (simp [*]; done)), H', ⟨Nat.le_refl _⟩, ⟨by (with_reducible repeat (first | apply Kd.R_alloc | apply Kd.R_drewN | apply Kd.R_drew)); exact Kd.R_mono (Kd.R_far (p := ⟨gb924, 3, none⟩) (Kd.R_far (p := ⟨gb924, 2, none⟩) (Kd.R_far (p := ⟨gb924, 1, none⟩) (Kd.R_far (p := ⟨gb924, 0, none⟩) (Kd.R_types HO923.out BK924.out (by decide)) (fun _ hk => hk.2) (.int .i64 t920)) (fun _ hk => hk.2) (.slice Ao8 t921.length co8)) (fun _ hk => hk.2) (.slice none 0 0)) (fun _ hk => hk.2) (.slice none 0 0)) (fun _ hk => ⟨(by simp [Value.ownBlock]), (by simp [Value.ownBlock])⟩)⟩, ⟨by first | exact Kd.R_nil _ _ _ _ _ | exact Kd.N_nil _ _ _ _ _ | exact Kd.V_nil _ _ _ _ _ | exact Kd.Q_nil _ _ _ _ _ | exact Kd.S_nil _ _ _ _ _⟩, ⟨by first | exact Kd.R_nil _ _ _ _ _ | exact Kd.N_nil _ _ _ _ _ | exact Kd.V_nil _ _ _ _ _ | exact Kd.Q_nil _ _ _ _ _ | exact Kd.S_nil _ _ _ _ _⟩, ⟨by (with_reducible repeat (first | refine blk_drewN ?_ _ | refine blk_drew ?_ | refine blk_alloc ?_ _)); refine blk_far ?_ NB918_924.out _; (with_reducible repeat (first | refine blk_drewN ?_ _ | refine blk_drew ?_ | refine blk_alloc ?_ _)); refine blk_far ?_ NB918_924.out _; (with_reducible repeat (first | refine blk_drewN ?_ _ | refine blk_drew ?_ | refine blk_alloc ?_ _)); refine blk_far ?_ NB918_924.out _; (with_reducible repeat (first | refine blk_drewN ?_ _ | refine blk_drew ?_ | refine blk_alloc ?_ _)); refine blk_far ?_ NB918_924.out _; (with_reducible repeat (first | refine blk_drewN ?_ _ | refine blk_drew ?_ | refine blk_alloc ?_ _)); exact BK918.out⟩, ⟨by (with_reducible repeat (first | refine blk_drewN ?_ _ | refine blk_drew ?_ | refine blk_alloc ?_ _)); refine blk_far ?_ NB919_924.out _; (with_reducible repeat (first | refine blk_drewN ?_ _ | refine blk_drew ?_ | refine blk_alloc ?_ _)); refine blk_far ?_ NB919_924.out _; (with_reducible repeat (first | refine blk_drewN ?_ _ | refine blk_drew ?_ | refine blk_alloc ?_ _)); refine blk_far ?_ NB919_924.out _; (with_reducible repeat (first | refine blk_drewN ?_ _ | refine blk_drew ?_ | refine blk_alloc ?_ _)); refine blk_far ?_ NB919_924.out _; (with_reducible repeat (first | refine blk_drewN ?_ _ | refine blk_drew ?_ | refine blk_alloc ?_ _)); exact BK919.out⟩, ⟨by (with_reducible repeat (first | refine blk_drewN ?_ _ | refine blk_drew ?_ | refine blk_alloc ?_ _)); refine blk_put (cs := #[.int .i64 t920, .slice Ao8 t921.length co8, .slice none 0 0, .slice none 0 0]) ?_ 3 _ rfl; (with_reducible repeat (first | refine blk_drewN ?_ _ | refine blk_drew ?_ | refine blk_alloc ?_ _)); refine blk_put (cs := #[.int .i64 t920, .slice Ao8 t921.length co8, .slice none 0 0, .slice none 0 0]) ?_ 2 _ rfl; (with_reducible repeat (first | refine blk_drewN ?_ _ | refine blk_drew ?_ | refine blk_alloc ?_ _)); refine blk_put (cs := #[.int .i64 t920, .slice none 0 0, .slice none 0 0, .slice none 0 0]) ?_ 1 _ rfl; (with_reducible repeat (first | refine blk_drewN ?_ _ | refine blk_drew ?_ | refine blk_alloc ?_ _)); refine blk_put (cs := #[.int .i64 0, .slice none 0 0, .slice none 0 0, .slice none 0 0]) ?_ 0 _ rfl; (with_reducible repeat (first | refine blk_drewN ?_ _ | refine blk_drew ?_ | refine blk_alloc ?_ _)); exact BK924.out⟩, ⟨by repeat (first | (with_reducible first | exact HB.out | apply below_alloc | apply pw_below_drewN | apply below_drew1 | refine below_set ?_ GE918.out | refine below_set ?_ GE919.out | refine below_set ?_ GE924.out) | exact HB.out)⟩⟩
  case round =>
   clear H'
   try clear c1
   try clear p2
   try clear c5
   try clear c10
   try clear c11
   try clear hcz12_0
   try clear hcz12_1
   try clear hcz12_2
   try clear hcz12_3
   try clear hcz6_0
   try clear hcz6_1
   try clear hfz12_0
   try clear hfz12_1
   try clear hfz12_2
   try clear hfz12_3
   try clear hfz6_0
   try clear hfz6_1
   obtain ⟨x4_1, x925002_1, x925003_1, u925002, u925003, rfl, HA, HK1, HO_925001, HO_925002, HO_925003, BK918, BK919, BK924, HB⟩ := hrel
   cases gk with
   | zero => exact absurd HA.out (by simp [spec_raOf.l0])
   | succ k1 =>
    have H := HA.out
    clear HA
    simp only [spec_raOf.l0] at H
    by_cases c13 : x4_1 < a0_0
    ·rw [if_pos c13] at H
     have c13b0 : decide (x4_1 < a0_0) = true := decide_eq_true c13
     clear c13
     by_cases c14 : (Int.tmod x4_1 64) = 0
     ·rw [if_pos c14] at H
      have c14b0 : ((Int.tmod x4_1 64) == 0) = true := beq_iff_eq.mpr c14
      have c14b1 : ((Int.tmod x4_1 64) != 0) = false := bne_eq_false_iff_eq.mpr c14
      clear c14
      replace H := Option.bind_eq_some_iff.mp H
      obtain ⟨t925, A150, H⟩ := H
      replace H : (if x925002_1.length < 17592186044416 then ((spec_biCount.f k1 a0_0 l0_1 (wrap64 ((wrap64 (Int.tdiv x4_1 64)) * 64)) x4_1).bind fun t929 => (if x925003_1.length < 17592186044416 then (spec_raOf.l0 k1 (wrap64 (x4_1 + 16)) a0_0 l0_1 t920 t921 (x925002_1 ++ [t925]) (x925003_1 ++ [t929])) else (none))) else (none)) = some (r1, r2, r3, r4) := H
      have A15 := Aside0.mk A150
      clear A150
      by_cases c16 : x925002_1.length < 17592186044416
      ·rw [if_pos c16] at H
       have LMc16 := Aside0.mk c16
       clear c16
       obtain ⟨y926, hy926⟩ : ∃ y_ : List Int, y_ = (x925002_1 ++ [t925]) := ⟨_, rfl⟩
       replace H : ((spec_biCount.f k1 a0_0 l0_1 (wrap64 ((wrap64 (Int.tdiv x4_1 64)) * 64)) x4_1).bind fun t929 => (if x925003_1.length < 17592186044416 then (spec_raOf.l0 k1 (wrap64 (x4_1 + 16)) a0_0 l0_1 t920 t921 y926 (x925003_1 ++ [t929])) else (none))) = some (r1, r2, r3, r4) := by first | (rw [hy926]; with_reducible exact H) | (have H2_ := (Option.bind_some _ _).symm.trans H; rw [hy926]; with_reducible exact H2_) | (have H2_ := (Option.bind_some _ _).symm.trans H; with_reducible exact H2_) | with_reducible exact H | (rw [hy926]; exact H) | exact H
       have Ny926 := Aside0.mk hy926
       clear hy926
       replace H := Option.bind_eq_some_iff.mp H
       obtain ⟨t929, A170, H⟩ := H
       replace H : (if x925003_1.length < 17592186044416 then (spec_raOf.l0 k1 (wrap64 (x4_1 + 16)) a0_0 l0_1 t920 t921 y926 (x925003_1 ++ [t929])) else (none)) = some (r1, r2, r3, r4) := H
       have A17 := Aside0.mk A170
       clear A170
       by_cases c18 : x925003_1.length < 17592186044416
       ·rw [if_pos c18] at H
        have LMc18 := Aside0.mk c18
        clear c18
        obtain ⟨y930, hy930⟩ : ∃ y_ : List Int, y_ = (x925003_1 ++ [t929]) := ⟨_, rfl⟩
        replace H : (spec_raOf.l0 k1 (wrap64 (x4_1 + 16)) a0_0 l0_1 t920 t921 y926 y930) = some (r1, r2, r3, r4) := by first | (rw [hy930]; with_reducible exact H) | (have H2_ := (Option.bind_some _ _).symm.trans H; rw [hy930]; with_reducible exact H2_) | (have H2_ := (Option.bind_some _ _).symm.trans H; with_reducible exact H2_) | with_reducible exact H | (rw [hy930]; exact H) | exact H
        have Ny930 := Aside0.mk hy930
        clear hy930
        have H' := Aside0.mk H
        clear H
        have hnb19 := NB918_919.out
        have hnc19 := NB919_918.out
        have hnb20 := NB918_924.out
        have hnc20 := NB924_918.out
        have hcz21_0 : wr.cell? ⟨gb918, 0, none⟩ = some (.int .i64 a0_0) := (blk_cell BK918.out 0).trans rfl
        have hcz21_1 : wr.cell? ⟨gb918, 1, none⟩ = some (.slice A0_1 l0_1.length c0_1) := (blk_cell BK918.out 1).trans rfl
        have hfz21_0 := blk_frozen BK918.out 0
        have hfz21_1 := blk_frozen BK918.out 1
        try go_wp2
        have n0_ := Aside0.mk (Kd.R_drew HO_925001.out)
        have n1_ := Aside0.mk (Kd.R_drew HO_925002.out)
        have n2_ := Aside0.mk (Kd.R_drew HO_925003.out)
        have n3_ := Aside0.mk (blk_drew BK918.out)
        have n4_ := Aside0.mk (blk_drew BK919.out)
        have n5_ := Aside0.mk (blk_drew BK924.out)
        have n6_ := Aside0.mk (below_drew1 HB.out)
        clear HO_925001
        clear HO_925002
        clear HO_925003
        clear BK918
        clear BK919
        clear BK924
        clear HB
        have HO_925001 := n0_
        have HO_925002 := n1_
        have HO_925003 := n2_
        have BK918 := n3_
        have BK919 := n4_
        have BK924 := n5_
        have HB := n6_
        clear n0_ n1_ n2_ n3_ n4_ n5_ n6_
        refine start_ (n := 9) (S := fun w' => w'.cell? ⟨gb924, 0, none⟩ = some (.int .i64 t920) ∧ w'.cell? ⟨gb924, 1, none⟩ = some (.slice Ao8 t921.length co8) ∧ w'.cell? ⟨gb924, 2, none⟩ = some (u925002) ∧ w'.cell? ⟨gb924, 3, none⟩ = some (u925003) ∧ w'.cell? ⟨gb918, 0, none⟩ = some (.int .i64 a0_0) ∧ w'.cell? ⟨gb918, 1, none⟩ = some (.slice A0_1 l0_1.length c0_1)) (ds := [8]) #[false, false, false, false, false, false, false, false, false] (by kernel_rfl) rfl rfl ⟨(blk_cell BK924.out 0).trans rfl, (blk_cell BK924.out 1).trans rfl, (blk_cell BK924.out 2).trans rfl, (blk_cell BK924.out 3).trans rfl, (blk_cell BK918.out 0).trans rfl, (blk_cell BK918.out 1).trans rfl⟩ (fun hHeld => ?_); refine with_tabW spec_raOf.tab6 spec_raOf.bits6 (fun HT_ HW_ => ?_)
        generalize wr.drew = w22 at HO_925001 HO_925002 HO_925003 BK918 BK919 BK924 HB hHeld ⊢
        refine pq_ 0 17 9 1 HT_.out (by kernel_rfl) ?_
        refine pq_ 3 20 9 9 HT_.out (by kernel_rfl) ?_
        refine tq_ 1 18 9 11 HT_.out HW_.out (by kernel_rfl) hHeld ?_ rfl (by rintro w' ⟨s0, s1, s2, s3, s4, s5⟩; go_simp; with_reducible rfl)
        refine tq_ 2 19 9 15 HT_.out HW_.out (by kernel_rfl) hHeld ?_ rfl (by rintro w' ⟨s0, s1, s2, s3, s4, s5⟩; go_simp; with_reducible rfl)
        refine one_ (i := 4) (N := some 21) (bsA 9 31) rfl rfl (one_of HT_.out (by kernel_rfl)) (by decide) (fun K hK => ?_)
        refine goes_ Try.func140 (by kernel_rfl) rfl #[.agg #[.int .i64 a0_0, .slice A0_1 l0_1.length c0_1], .int .i64 0, .int .i64 x4_1] (by rfl) rfl rfl (by (try simp only [List.map_toArray, List.map_cons, List.map_nil]); first | done | rfl | (simp only [List.length_drop, List.length_take]; rfl)) ?_
        with_reducible refine (spec_biCount.calls k1 a0_0 _ _ l0_1 0 x4_1 t925 _ ?side1 ?side2 A15.out).mono ?_
        (case side1 => repeat (first | exact (Kd.C_below HR0_1.out HB.out) | (with_reducible refine Kd.C_alloc ?_ _) | (with_reducible refine Kd.C_drewN ?_ _) | (with_reducible refine Kd.C_drew ?_)))
        (case side2 => exact HC0_1.out)
        rintro e w23 ⟨rfl, hb⟩
        refine ⟨_, rfl, ?_⟩
        have n0_ := Aside0.mk (Kd.R_below (by (with_reducible repeat (first | apply Kd.R_alloc | apply Kd.R_drewN | apply Kd.R_drew)); exact HO_925001.out) hb)
        have n1_ := Aside0.mk (Kd.R_below (by (with_reducible repeat (first | apply Kd.R_alloc | apply Kd.R_drewN | apply Kd.R_drew)); exact HO_925002.out) hb)
        have n2_ := Aside0.mk (Kd.R_below (by (with_reducible repeat (first | apply Kd.R_alloc | apply Kd.R_drewN | apply Kd.R_drew)); exact HO_925003.out) hb)
        have n3_ := Aside0.mk (blk_below (g := gb918) (o := .cells #[.int .i64 a0_0, .slice A0_1 l0_1.length c0_1] 39 (0, 0)) (by (with_reducible repeat (first | refine blk_drewN ?_ _ | refine blk_drew ?_ | refine blk_alloc ?_ _)); exact BK918.out) hb)
        have n4_ := Aside0.mk (blk_below (g := gb919) (o := .cells #[.int .i64 0, .slice none 0 0, .slice none 0 0, .slice none 0 0] 85 (0, 0)) (by (with_reducible repeat (first | refine blk_drewN ?_ _ | refine blk_drew ?_ | refine blk_alloc ?_ _)); exact BK919.out) hb)
        have n5_ := Aside0.mk (blk_below (g := gb924) (o := .cells #[.int .i64 t920, .slice Ao8 t921.length co8, u925002, u925003] 85 (0, 0)) (by (with_reducible repeat (first | refine blk_drewN ?_ _ | refine blk_drew ?_ | refine blk_alloc ?_ _)); exact BK924.out) hb)
        have n6_ := Aside0.mk (below_step (by repeat (first | (with_reducible first | exact HB.out | apply below_alloc | apply pw_below_drewN | apply below_drew1 | refine below_set ?_ GE918.out | refine below_set ?_ GE919.out | refine below_set ?_ GE924.out) | exact HB.out)) hb)
        clear HO_925001
        clear HO_925002
        clear HO_925003
        clear BK918
        clear BK919
        clear BK924
        clear HB
        have HO_925001 := n0_
        have HO_925002 := n1_
        have HO_925003 := n2_
        have BK918 := n3_
        have BK919 := n4_
        have BK924 := n5_
        have HB := n6_
        clear n0_ n1_ n2_ n3_ n4_ n5_ n6_
        (try clear hb)
        (try clear hb2)
        (try clear hk)
        (try clear hi)
        refine hK.out _ _ ⟨(blk_cell BK924.out 0).trans rfl, (blk_cell BK924.out 1).trans rfl, (blk_cell BK924.out 2).trans rfl, (blk_cell BK924.out 3).trans rfl, (blk_cell BK918.out 0).trans rfl, (blk_cell BK918.out 1).trans rfl⟩ (fun hHeld => ?_)
        clear hK K
        refine norm_ (a' := ?_) ?_ ?_
        rotate_left
        ·show Act.put _ (some 21) _ = _
         simp only [Act.put, List.setIfInBounds_toArray, List.set_cons_zero, List.set_cons_succ, i64_w]
         rfl
        refine one_ (i := 5) (N := some 22) (bsA 9 63) rfl rfl (one_of HT_.out (by kernel_rfl)) (by decide) (fun K hK => ?_)
        refine value_ (w1 := ?_) (v := ?_) (by rfl) rfl ?_ ?_
        rotate_left 2
        ·go_simp
         constructor
         ·rfl
         ·rfl
        refine hK.out _ _ ⟨(blk_cell (blk_alloc BK924.out _) 0).trans rfl, (blk_cell (blk_alloc BK924.out _) 1).trans rfl, (blk_cell (blk_alloc BK924.out _) 2).trans rfl, (blk_cell (blk_alloc BK924.out _) 3).trans rfl, (blk_cell (blk_alloc BK918.out _) 0).trans rfl, (blk_cell (blk_alloc BK918.out _) 1).trans rfl⟩ (fun hHeld => ?_)
        clear hK K
        refine norm_ (a' := ?_) ?_ ?_
        rotate_left
        ·show Act.put _ (some 22) _ = _
         simp only [Act.put, List.setIfInBounds_toArray, List.set_cons_zero, List.set_cons_succ, i64_w]
         rfl
        refine one_ (i := 6) (N := some 23) (bsA 9 127) rfl rfl (one_of HT_.out (by kernel_rfl)) (by decide) (fun K hK => ?_)
        refine Kd.R_append_step (Kd.int .i64) (w0 := w) w.heap.size (by rfl) (.tmp 18) (.tmp 22) 22 3 (.int .i64 0) 8 rfl Try.underlying22 info3 rfl (by decide) (by omega) u925002 x925002_1 t925 [.int .i64 t925] (fun k_ => some k_ ≠ (.slice Ao8 t921.length co8 : Value).ownBlock ∧ some k_ ≠ (u925003 : Value).ownBlock) (fun _ => False) rfl rfl ?aP (fun _ hk => hk.elim) ?aF ?aO ?aB ?aS ?aL ?_
        (case aP => exact rfl)
        (case aB => exact (by repeat (first | (with_reducible first | exact HB.out | apply below_alloc | apply pw_below_drewN | apply below_drew1 | refine below_set ?_ GE918.out | refine below_set ?_ GE919.out | refine below_set ?_ GE924.out) | exact HB.out)))
        (case aF => exact (fun k_ hk => ⟨Kd.fresh' (Kd.R_lt (by (with_reducible repeat (first | apply Kd.R_alloc | apply Kd.R_drewN | apply Kd.R_drew)); exact HO_925001.out)) k_ hk, Kd.fresh' (Kd.R_lt (by (with_reducible repeat (first | apply Kd.R_alloc | apply Kd.R_drewN | apply Kd.R_drew)); exact HO_925003.out)) k_ hk⟩))
        (case aO => exact (by (with_reducible repeat (first | apply Kd.R_alloc | apply Kd.R_drewN | apply Kd.R_drew)); exact HO_925002.out))
        (case aS => exact (below_size (by repeat (first | (with_reducible first | exact HB.out | apply below_alloc | apply pw_below_drewN | apply below_drew1 | refine below_set ?_ GE918.out | refine below_set ?_ GE919.out | refine below_set ?_ GE924.out) | exact HB.out))))
        (case aL => have := LMc16.out; omega)
        intro v927 w24 ho hb hg hat
        rw [← Ny926.out] at ho
        have n0_ := Aside0.mk (Kd.R_after (ok := (fun k_ => some k_ ≠ (u925003 : Value).ownBlock)) (by (with_reducible repeat (first | apply Kd.R_alloc | apply Kd.R_drewN | apply Kd.R_drew)); exact Kd.R_mono HO_925001.out (fun _ hk => ⟨hk.2, hk.1⟩)) hg hat)
        have n1_ := Aside0.mk (Kd.R_after (ok := (fun k_ => some k_ ≠ (.slice Ao8 t921.length co8 : Value).ownBlock)) (by (with_reducible repeat (first | apply Kd.R_alloc | apply Kd.R_drewN | apply Kd.R_drew)); exact HO_925003.out) hg hat)
        have n2_ := Aside0.mk (blk_grown (g := gb918) (o := .cells #[.int .i64 a0_0, .slice A0_1 l0_1.length c0_1] 39 (0, 0)) (by (with_reducible repeat (first | refine blk_drewN ?_ _ | refine blk_drew ?_ | refine blk_alloc ?_ _)); exact BK918.out) hg (Kd.R_ne HO_925002.out BK918.out (by decide)))
        have n3_ := Aside0.mk (blk_grown (g := gb919) (o := .cells #[.int .i64 0, .slice none 0 0, .slice none 0 0, .slice none 0 0] 85 (0, 0)) (by (with_reducible repeat (first | refine blk_drewN ?_ _ | refine blk_drew ?_ | refine blk_alloc ?_ _)); exact BK919.out) hg (Kd.R_ne HO_925002.out BK919.out (by decide)))
        have n4_ := Aside0.mk (blk_grown (g := gb924) (o := .cells #[.int .i64 t920, .slice Ao8 t921.length co8, u925002, u925003] 85 (0, 0)) (by (with_reducible repeat (first | refine blk_drewN ?_ _ | refine blk_drew ?_ | refine blk_alloc ?_ _)); exact BK924.out) hg (Kd.R_ne HO_925002.out BK924.out (by decide)))
        have n5_ := Aside0.mk (hb)
        have n6_ := Aside0.mk (ho)
        clear HO_925001
        clear HO_925003
        clear BK918
        clear BK919
        clear BK924
        clear HB
        clear HO_925002
        have HO_925001 := n0_
        have HO_925003 := n1_
        have BK918 := n2_
        have BK919 := n3_
        have BK924 := n4_
        have HB := n5_
        have HO928 := n6_
        clear n0_ n1_ n2_ n3_ n4_ n5_ n6_
        clear ho hb hg hat
        obtain ⟨Ao25, co25, eo25⟩ := Kd.R_slice HO928.out
        (first | subst eo25 | (injection eo25 with f1_ f2_ f3_; have f4_ := f1_.symm; have f5_ := f3_.symm; clear f1_ f2_ f3_; subst f4_; subst f5_))
        refine hK.out _ _ ⟨(blk_cell BK924.out 0).trans rfl, (blk_cell BK924.out 1).trans rfl, (blk_cell BK924.out 2).trans rfl, (blk_cell BK924.out 3).trans rfl, (blk_cell BK918.out 0).trans rfl, (blk_cell BK918.out 1).trans rfl⟩ (fun hHeld => ?_)
        clear hK K
        refine norm_ (a' := ?_) ?_ ?_
        rotate_left
        ·show Act.put _ (some 23) _ = _
         simp only [Act.put, List.setIfInBounds_toArray, List.set_cons_zero, List.set_cons_succ, i64_w]
         rfl
        refine pq_ 7 24 9 255 HT_.out (by kernel_rfl) ?_
        refine last_ (i := 8) (N := none) (bsA 9 511) rfl rfl (one_of HT_.out (by kernel_rfl)) (by decide) (fun K hK => ?_)
        have hs26 : w24.cell? ⟨gb924, 2, none⟩ = some (u925002) := (blk_cell BK924.out 2).trans rfl
        have hfs26 := blk_frozen BK924.out 2
        have hns26_0 := NB918_924.out
        have hns26_1 := NB919_924.out
        have hms26_0 := NB924_918.out
        have hms26_1 := NB924_919.out
        refine skip_ (w1 := ?_) (by rfl) rfl ?_ ?_
        rotate_left
        ·go_simp
         rfl
        refine hK.out _ _ ?_
        clear hK K
        refine done_ (done_of HT_.out (by kernel_rfl)) ?_
        try go_wp2
        have n0_ : Aside0 (Kd.R (Kd.int .i64) 3 (w24.setCell ⟨gb924, 2, none⟩ (.slice Ao25 y926.length co25)) w.heap.size (fun k_ => some k_ ≠ (u925003 : Value).ownBlock ∧ some k_ ≠ (.slice Ao25 y926.length co25 : Value).ownBlock) (.slice Ao8 t921.length co8) t921) := ⟨by (with_reducible repeat (first | apply Kd.R_alloc | apply Kd.R_drewN | apply Kd.R_drew)); exact Kd.R_mono (Kd.R_far (p := ⟨gb924, 2, none⟩) (Kd.R_types HO_925001.out BK924.out (by decide)) (fun _ hk => hk.2) (.slice Ao25 y926.length co25)) (fun _ hk => ⟨hk.1.1, hk.1.2⟩)⟩
        have n1_ : Aside0 (Kd.R (Kd.int .i64) 3 (w24.setCell ⟨gb924, 2, none⟩ (.slice Ao25 y926.length co25)) w.heap.size (fun k_ => some k_ ≠ (.slice Ao8 t921.length co8 : Value).ownBlock ∧ some k_ ≠ (.slice Ao25 y926.length co25 : Value).ownBlock) u925003 x925003_1) := ⟨by (with_reducible repeat (first | apply Kd.R_alloc | apply Kd.R_drewN | apply Kd.R_drew)); exact Kd.R_mono (Kd.R_far (p := ⟨gb924, 2, none⟩) (Kd.R_types HO_925003.out BK924.out (by decide)) (fun _ hk => hk.2) (.slice Ao25 y926.length co25)) (fun _ hk => ⟨hk.1.1, hk.1.2⟩)⟩
        have n2_ : Aside0 (Kd.R (Kd.int .i64) 3 (w24.setCell ⟨gb924, 2, none⟩ (.slice Ao25 y926.length co25)) w.heap.size (fun k_ => some k_ ≠ (.slice Ao8 t921.length co8 : Value).ownBlock ∧ some k_ ≠ (u925003 : Value).ownBlock) (.slice Ao25 y926.length co25) y926) := ⟨by (with_reducible repeat (first | apply Kd.R_alloc | apply Kd.R_drewN | apply Kd.R_drew)); exact Kd.R_mono (Kd.R_far (p := ⟨gb924, 2, none⟩) (Kd.R_types HO928.out BK924.out (by decide)) (fun _ hk => hk.2) (.slice Ao25 y926.length co25)) (fun _ hk => ⟨hk.1.1, hk.1.2⟩)⟩
        have n3_ : Aside0 ((w24.setCell ⟨gb924, 2, none⟩ (.slice Ao25 y926.length co25)).heap[gb918]? = some (.cells #[.int .i64 a0_0, .slice A0_1 l0_1.length c0_1] 39 (0, 0))) := ⟨by (with_reducible repeat (first | refine blk_drewN ?_ _ | refine blk_drew ?_ | refine blk_alloc ?_ _)); refine blk_far ?_ NB918_924.out _; (with_reducible repeat (first | refine blk_drewN ?_ _ | refine blk_drew ?_ | refine blk_alloc ?_ _)); exact BK918.out⟩
        have n4_ : Aside0 ((w24.setCell ⟨gb924, 2, none⟩ (.slice Ao25 y926.length co25)).heap[gb919]? = some (.cells #[.int .i64 0, .slice none 0 0, .slice none 0 0, .slice none 0 0] 85 (0, 0))) := ⟨by (with_reducible repeat (first | refine blk_drewN ?_ _ | refine blk_drew ?_ | refine blk_alloc ?_ _)); refine blk_far ?_ NB919_924.out _; (with_reducible repeat (first | refine blk_drewN ?_ _ | refine blk_drew ?_ | refine blk_alloc ?_ _)); exact BK919.out⟩
        have n5_ : Aside0 ((w24.setCell ⟨gb924, 2, none⟩ (.slice Ao25 y926.length co25)).heap[gb924]? = some (.cells #[.int .i64 t920, .slice Ao8 t921.length co8, .slice Ao25 y926.length co25, u925003] 85 (0, 0))) := ⟨by (with_reducible repeat (first | refine blk_drewN ?_ _ | refine blk_drew ?_ | refine blk_alloc ?_ _)); refine blk_put (cs := #[.int .i64 t920, .slice Ao8 t921.length co8, u925002, u925003]) ?_ 2 _ rfl; (with_reducible repeat (first | refine blk_drewN ?_ _ | refine blk_drew ?_ | refine blk_alloc ?_ _)); exact BK924.out⟩
        have n6_ : Aside0 (Below w.heap.size w (w24.setCell ⟨gb924, 2, none⟩ (.slice Ao25 y926.length co25))) := ⟨by repeat (first | (with_reducible first | exact HB.out | apply below_alloc | apply pw_below_drewN | apply below_drew1 | refine below_set ?_ GE918.out | refine below_set ?_ GE919.out | refine below_set ?_ GE924.out) | exact HB.out)⟩
        (try clear HO_925001)
        (try clear HO_925003)
        (try clear HO928)
        (try clear BK918)
        (try clear BK919)
        (try clear BK924)
        (try clear HB)
        generalize (w24.setCell ⟨gb924, 2, none⟩ (.slice Ao25 y926.length co25)) = w27 at n0_ n1_ n2_ n3_ n4_ n5_ n6_ ⊢
        have HO_925001 := n0_
        have HO_925003 := n1_
        have HO928 := n2_
        have BK918 := n3_
        have BK919 := n4_
        have BK924 := n5_
        have HB := n6_
        clear n0_ n1_ n2_ n3_ n4_ n5_ n6_
        have n0_ := Aside0.mk (Kd.R_drew HO_925001.out)
        have n1_ := Aside0.mk (Kd.R_drew HO_925003.out)
        have n2_ := Aside0.mk (Kd.R_drew HO928.out)
        have n3_ := Aside0.mk (blk_drew BK918.out)
        have n4_ := Aside0.mk (blk_drew BK919.out)
        have n5_ := Aside0.mk (blk_drew BK924.out)
        have n6_ := Aside0.mk (below_drew1 HB.out)
        clear HO_925001
        clear HO_925003
        clear HO928
        clear BK918
        clear BK919
        clear BK924
        clear HB
        have HO_925001 := n0_
        have HO_925003 := n1_
        have HO928 := n2_
        have BK918 := n3_
        have BK919 := n4_
        have BK924 := n5_
        have HB := n6_
        clear n0_ n1_ n2_ n3_ n4_ n5_ n6_
        refine start_ (n := 12) (S := fun w' => w'.cell? ⟨gb924, 0, none⟩ = some (.int .i64 t920) ∧ w'.cell? ⟨gb924, 1, none⟩ = some (.slice Ao8 t921.length co8) ∧ w'.cell? ⟨gb924, 2, none⟩ = some (.slice Ao25 y926.length co25) ∧ w'.cell? ⟨gb924, 3, none⟩ = some (u925003) ∧ w'.cell? ⟨gb918, 0, none⟩ = some (.int .i64 a0_0) ∧ w'.cell? ⟨gb918, 1, none⟩ = some (.slice A0_1 l0_1.length c0_1)) (ds := [11]) #[false, false, false, false, false, false, false, false, false, false, false, false] (by kernel_rfl) rfl rfl ⟨(blk_cell BK924.out 0).trans rfl, (blk_cell BK924.out 1).trans rfl, (blk_cell BK924.out 2).trans rfl, (blk_cell BK924.out 3).trans rfl, (blk_cell BK918.out 0).trans rfl, (blk_cell BK918.out 1).trans rfl⟩ (fun hHeld => ?_); refine with_tabW spec_raOf.tab7 spec_raOf.bits7 (fun HT_ HW_ => ?_)
        generalize w27.drew = w28 at HO_925001 HO_925003 HO928 BK918 BK919 BK924 HB hHeld ⊢
        refine pq_ 0 25 12 1 HT_.out (by kernel_rfl) ?_
        refine pq_ 3 28 12 9 HT_.out (by kernel_rfl) ?_
        refine pq_ 4 29 12 25 HT_.out (by kernel_rfl) ?_
        refine pq_ 5 30 12 57 HT_.out (by kernel_rfl) ?_
        refine pq_ 6 31 12 121 HT_.out (by kernel_rfl) ?_
        refine tq_ 1 26 12 123 HT_.out HW_.out (by kernel_rfl) hHeld ?_ rfl (by rintro w' ⟨s0, s1, s2, s3, s4, s5⟩; go_simp; with_reducible rfl)
        refine tq_ 2 27 12 127 HT_.out HW_.out (by kernel_rfl) hHeld ?_ rfl (by rintro w' ⟨s0, s1, s2, s3, s4, s5⟩; go_simp; with_reducible rfl)
        refine one_ (i := 7) (N := some 32) (bsA 12 255) rfl rfl (one_of HT_.out (by kernel_rfl)) (by decide) (fun K hK => ?_)
        refine goes_ Try.func140 (by kernel_rfl) rfl #[.agg #[.int .i64 a0_0, .slice A0_1 l0_1.length c0_1], .int .i64 (wrap64 ((wrap64 (Int.tdiv x4_1 64)) * 64)), .int .i64 x4_1] (by rfl) rfl rfl (by (try simp only [List.map_toArray, List.map_cons, List.map_nil]); first | done | rfl | (simp only [List.length_drop, List.length_take]; rfl)) ?_
        with_reducible refine (spec_biCount.calls k1 a0_0 _ _ l0_1 (wrap64 ((wrap64 (Int.tdiv x4_1 64)) * 64)) x4_1 t929 _ ?side1 ?side2 A17.out).mono ?_
        (case side1 => repeat (first | exact (Kd.C_below HR0_1.out HB.out) | (with_reducible refine Kd.C_alloc ?_ _) | (with_reducible refine Kd.C_drewN ?_ _) | (with_reducible refine Kd.C_drew ?_)))
        (case side2 => exact HC0_1.out)
        rintro e w29 ⟨rfl, hb⟩
        refine ⟨_, rfl, ?_⟩
        have n0_ := Aside0.mk (Kd.R_below (by (with_reducible repeat (first | apply Kd.R_alloc | apply Kd.R_drewN | apply Kd.R_drew)); exact HO_925001.out) hb)
        have n1_ := Aside0.mk (Kd.R_below (by (with_reducible repeat (first | apply Kd.R_alloc | apply Kd.R_drewN | apply Kd.R_drew)); exact HO_925003.out) hb)
        have n2_ := Aside0.mk (Kd.R_below (by (with_reducible repeat (first | apply Kd.R_alloc | apply Kd.R_drewN | apply Kd.R_drew)); exact HO928.out) hb)
        have n3_ := Aside0.mk (blk_below (g := gb918) (o := .cells #[.int .i64 a0_0, .slice A0_1 l0_1.length c0_1] 39 (0, 0)) (by (with_reducible repeat (first | refine blk_drewN ?_ _ | refine blk_drew ?_ | refine blk_alloc ?_ _)); exact BK918.out) hb)
        have n4_ := Aside0.mk (blk_below (g := gb919) (o := .cells #[.int .i64 0, .slice none 0 0, .slice none 0 0, .slice none 0 0] 85 (0, 0)) (by (with_reducible repeat (first | refine blk_drewN ?_ _ | refine blk_drew ?_ | refine blk_alloc ?_ _)); exact BK919.out) hb)
        have n5_ := Aside0.mk (blk_below (g := gb924) (o := .cells #[.int .i64 t920, .slice Ao8 t921.length co8, .slice Ao25 y926.length co25, u925003] 85 (0, 0)) (by (with_reducible repeat (first | refine blk_drewN ?_ _ | refine blk_drew ?_ | refine blk_alloc ?_ _)); exact BK924.out) hb)
        have n6_ := Aside0.mk (below_step (by repeat (first | (with_reducible first | exact HB.out | apply below_alloc | apply pw_below_drewN | apply below_drew1 | refine below_set ?_ GE918.out | refine below_set ?_ GE919.out | refine below_set ?_ GE924.out) | exact HB.out)) hb)
        clear HO_925001
        clear HO_925003
        clear HO928
        clear BK918
        clear BK919
        clear BK924
        clear HB
        have HO_925001 := n0_
        have HO_925003 := n1_
        have HO928 := n2_
        have BK918 := n3_
        have BK919 := n4_
        have BK924 := n5_
        have HB := n6_
        clear n0_ n1_ n2_ n3_ n4_ n5_ n6_
        (try clear hb)
        (try clear hb2)
        (try clear hk)
        (try clear hi)
        refine hK.out _ _ ⟨(blk_cell BK924.out 0).trans rfl, (blk_cell BK924.out 1).trans rfl, (blk_cell BK924.out 2).trans rfl, (blk_cell BK924.out 3).trans rfl, (blk_cell BK918.out 0).trans rfl, (blk_cell BK918.out 1).trans rfl⟩ (fun hHeld => ?_)
        clear hK K
        refine norm_ (a' := ?_) ?_ ?_
        rotate_left
        ·show Act.put _ (some 32) _ = _
         simp only [Act.put, List.setIfInBounds_toArray, List.set_cons_zero, List.set_cons_succ, i64_w]
         rfl
        refine one_ (i := 8) (N := some 33) (bsA 12 511) rfl rfl (one_of HT_.out (by kernel_rfl)) (by decide) (fun K hK => ?_)
        refine value_ (w1 := ?_) (v := ?_) (by rfl) rfl ?_ ?_
        rotate_left 2
        ·go_simp
         constructor
         ·rfl
         ·rfl
        refine hK.out _ _ ⟨(blk_cell (blk_alloc BK924.out _) 0).trans rfl, (blk_cell (blk_alloc BK924.out _) 1).trans rfl, (blk_cell (blk_alloc BK924.out _) 2).trans rfl, (blk_cell (blk_alloc BK924.out _) 3).trans rfl, (blk_cell (blk_alloc BK918.out _) 0).trans rfl, (blk_cell (blk_alloc BK918.out _) 1).trans rfl⟩ (fun hHeld => ?_)
        clear hK K
        refine norm_ (a' := ?_) ?_ ?_
        rotate_left
        ·show Act.put _ (some 33) _ = _
         simp only [Act.put, List.setIfInBounds_toArray, List.set_cons_zero, List.set_cons_succ, i64_w]
         rfl
        refine one_ (i := 9) (N := some 34) (bsA 12 1023) rfl rfl (one_of HT_.out (by kernel_rfl)) (by decide) (fun K hK => ?_)
        refine Kd.R_append_step (Kd.int .i64) (w0 := w) w.heap.size (by rfl) (.tmp 26) (.tmp 33) 22 3 (.int .i64 0) 8 rfl Try.underlying22 info3 rfl (by decide) (by omega) u925003 x925003_1 t929 [.int .i64 t929] (fun k_ => some k_ ≠ (.slice Ao8 t921.length co8 : Value).ownBlock ∧ some k_ ≠ (.slice Ao25 y926.length co25 : Value).ownBlock) (fun _ => False) rfl rfl ?aP (fun _ hk => hk.elim) ?aF ?aO ?aB ?aS ?aL ?_
        (case aP => exact rfl)
        (case aB => exact (by repeat (first | (with_reducible first | exact HB.out | apply below_alloc | apply pw_below_drewN | apply below_drew1 | refine below_set ?_ GE918.out | refine below_set ?_ GE919.out | refine below_set ?_ GE924.out) | exact HB.out)))
        (case aF => exact (fun k_ hk => ⟨Kd.fresh' (Kd.R_lt (by (with_reducible repeat (first | apply Kd.R_alloc | apply Kd.R_drewN | apply Kd.R_drew)); exact HO_925001.out)) k_ hk, Kd.fresh' (Kd.R_lt (by (with_reducible repeat (first | apply Kd.R_alloc | apply Kd.R_drewN | apply Kd.R_drew)); exact HO928.out)) k_ hk⟩))
        (case aO => exact (by (with_reducible repeat (first | apply Kd.R_alloc | apply Kd.R_drewN | apply Kd.R_drew)); exact HO_925003.out))
        (case aS => exact (below_size (by repeat (first | (with_reducible first | exact HB.out | apply below_alloc | apply pw_below_drewN | apply below_drew1 | refine below_set ?_ GE918.out | refine below_set ?_ GE919.out | refine below_set ?_ GE924.out) | exact HB.out))))
        (case aL => have := LMc18.out; omega)
        intro v931 w30 ho hb hg hat
        rw [← Ny930.out] at ho
        have n0_ := Aside0.mk (Kd.R_after (ok := (fun k_ => some k_ ≠ (.slice Ao25 y926.length co25 : Value).ownBlock)) (by (with_reducible repeat (first | apply Kd.R_alloc | apply Kd.R_drewN | apply Kd.R_drew)); exact Kd.R_mono HO_925001.out (fun _ hk => ⟨hk.2, hk.1⟩)) hg hat)
        have n1_ := Aside0.mk (blk_grown (g := gb918) (o := .cells #[.int .i64 a0_0, .slice A0_1 l0_1.length c0_1] 39 (0, 0)) (by (with_reducible repeat (first | refine blk_drewN ?_ _ | refine blk_drew ?_ | refine blk_alloc ?_ _)); exact BK918.out) hg (Kd.R_ne HO_925003.out BK918.out (by decide)))
        have n2_ := Aside0.mk (blk_grown (g := gb919) (o := .cells #[.int .i64 0, .slice none 0 0, .slice none 0 0, .slice none 0 0] 85 (0, 0)) (by (with_reducible repeat (first | refine blk_drewN ?_ _ | refine blk_drew ?_ | refine blk_alloc ?_ _)); exact BK919.out) hg (Kd.R_ne HO_925003.out BK919.out (by decide)))
        have n3_ := Aside0.mk (blk_grown (g := gb924) (o := .cells #[.int .i64 t920, .slice Ao8 t921.length co8, .slice Ao25 y926.length co25, u925003] 85 (0, 0)) (by (with_reducible repeat (first | refine blk_drewN ?_ _ | refine blk_drew ?_ | refine blk_alloc ?_ _)); exact BK924.out) hg (Kd.R_ne HO_925003.out BK924.out (by decide)))
        have n4_ := Aside0.mk (Kd.R_after (ok := (fun k_ => some k_ ≠ (.slice Ao8 t921.length co8 : Value).ownBlock)) (by (with_reducible repeat (first | apply Kd.R_alloc | apply Kd.R_drewN | apply Kd.R_drew)); exact HO928.out) hg hat)
        have n5_ := Aside0.mk (hb)
        have n6_ := Aside0.mk (ho)
        clear HO_925001
        clear BK918
        clear BK919
        clear BK924
        clear HO928
        clear HB
        clear HO_925003
        have HO_925001 := n0_
        have BK918 := n1_
        have BK919 := n2_
        have BK924 := n3_
        have HO928 := n4_
        have HB := n5_
        have HO932 := n6_
        clear n0_ n1_ n2_ n3_ n4_ n5_ n6_
        clear ho hb hg hat
        obtain ⟨Ao31, co31, eo31⟩ := Kd.R_slice HO932.out
        (first | subst eo31 | (injection eo31 with f1_ f2_ f3_; have f4_ := f1_.symm; have f5_ := f3_.symm; clear f1_ f2_ f3_; subst f4_; subst f5_))
        refine hK.out _ _ ⟨(blk_cell BK924.out 0).trans rfl, (blk_cell BK924.out 1).trans rfl, (blk_cell BK924.out 2).trans rfl, (blk_cell BK924.out 3).trans rfl, (blk_cell BK918.out 0).trans rfl, (blk_cell BK918.out 1).trans rfl⟩ (fun hHeld => ?_)
        clear hK K
        refine norm_ (a' := ?_) ?_ ?_
        rotate_left
        ·show Act.put _ (some 34) _ = _
         simp only [Act.put, List.setIfInBounds_toArray, List.set_cons_zero, List.set_cons_succ, i64_w]
         rfl
        refine pq_ 10 35 12 2047 HT_.out (by kernel_rfl) ?_
        refine last_ (i := 11) (N := none) (bsA 12 4095) rfl rfl (one_of HT_.out (by kernel_rfl)) (by decide) (fun K hK => ?_)
        have hs32 : w30.cell? ⟨gb924, 3, none⟩ = some (u925003) := (blk_cell BK924.out 3).trans rfl
        have hfs32 := blk_frozen BK924.out 3
        have hns32_0 := NB918_924.out
        have hns32_1 := NB919_924.out
        have hms32_0 := NB924_918.out
        have hms32_1 := NB924_919.out
        refine skip_ (w1 := ?_) (by rfl) rfl ?_ ?_
        rotate_left
        ·go_simp
         rfl
        refine hK.out _ _ ?_
        clear hK K
        refine done_ (done_of HT_.out (by kernel_rfl)) ?_
        try go_wp2
        go_roundg k1
        case measure => have := HK1.out; omega
        case rel => exact ⟨(wrap64 (x4_1 + 16)), (y926), (y930), (.slice Ao25 y926.length co25), (.slice Ao31 y930.length co31), (by first | rfl | (simp; done) | (simp [*]; done)), H', ⟨by have := HK1.out; omega⟩, ⟨by (with_reducible repeat (first | apply Kd.R_alloc | apply Kd.R_drewN | apply Kd.R_drew)); exact Kd.R_mono (Kd.R_far (p := ⟨gb924, 3, none⟩) (Kd.R_types HO_925001.out BK924.out (by decide)) (fun _ hk => hk.2) (.slice Ao31 y930.length co31)) (fun _ hk => ⟨hk.1.1, hk.1.2⟩)⟩, ⟨by (with_reducible repeat (first | apply Kd.R_alloc | apply Kd.R_drewN | apply Kd.R_drew)); exact Kd.R_mono (Kd.R_far (p := ⟨gb924, 3, none⟩) (Kd.R_types HO928.out BK924.out (by decide)) (fun _ hk => hk.2) (.slice Ao31 y930.length co31)) (fun _ hk => ⟨hk.1.1, hk.1.2⟩)⟩, ⟨by (with_reducible repeat (first | apply Kd.R_alloc | apply Kd.R_drewN | apply Kd.R_drew)); exact Kd.R_mono (Kd.R_far (p := ⟨gb924, 3, none⟩) (Kd.R_types HO932.out BK924.out (by decide)) (fun _ hk => hk.2) (.slice Ao31 y930.length co31)) (fun _ hk => ⟨hk.1.1, hk.1.2⟩)⟩, ⟨by (with_reducible repeat (first | refine blk_drewN ?_ _ | refine blk_drew ?_ | refine blk_alloc ?_ _)); refine blk_far ?_ NB918_924.out _; (with_reducible repeat (first | refine blk_drewN ?_ _ | refine blk_drew ?_ | refine blk_alloc ?_ _)); exact BK918.out⟩, ⟨by (with_reducible repeat (first | refine blk_drewN ?_ _ | refine blk_drew ?_ | refine blk_alloc ?_ _)); refine blk_far ?_ NB919_924.out _; (with_reducible repeat (first | refine blk_drewN ?_ _ | refine blk_drew ?_ | refine blk_alloc ?_ _)); exact BK919.out⟩, ⟨by (with_reducible repeat (first | refine blk_drewN ?_ _ | refine blk_drew ?_ | refine blk_alloc ?_ _)); refine blk_put (cs := #[.int .i64 t920, .slice Ao8 t921.length co8, .slice Ao25 y926.length co25, u925003]) ?_ 3 _ rfl; (with_reducible repeat (first | refine blk_drewN ?_ _ | refine blk_drew ?_ | refine blk_alloc ?_ _)); exact BK924.out⟩, ⟨by repeat (first | (with_reducible first | exact HB.out | apply below_alloc | apply pw_below_drewN | apply below_drew1 | refine below_set ?_ GE918.out | refine below_set ?_ GE919.out | refine below_set ?_ GE924.out) | exact HB.out)⟩⟩
       ·rw [if_neg c18] at H
        exact absurd H (by simp)
      ·rw [if_neg c16] at H
       exact absurd H (by simp)
     ·rw [if_neg c14] at H
      have c14b0 : ((Int.tmod x4_1 64) == 0) = false := beq_eq_false_iff_ne.mpr c14
      have c14b1 : ((Int.tmod x4_1 64) != 0) = true := bne_iff_ne.mpr c14
      replace H := Option.bind_eq_some_iff.mp H
      obtain ⟨t933, A330, H⟩ := H
      replace H : (if x925003_1.length < 17592186044416 then (spec_raOf.l0 k1 (wrap64 (x4_1 + 16)) a0_0 l0_1 t920 t921 x925002_1 (x925003_1 ++ [t933])) else (none)) = some (r1, r2, r3, r4) := H
      have A33 := Aside0.mk A330
      clear A330
      by_cases c34 : x925003_1.length < 17592186044416
      ·rw [if_pos c34] at H
       have LMc34 := Aside0.mk c34
       clear c34
       obtain ⟨y934, hy934⟩ : ∃ y_ : List Int, y_ = (x925003_1 ++ [t933]) := ⟨_, rfl⟩
       replace H : (spec_raOf.l0 k1 (wrap64 (x4_1 + 16)) a0_0 l0_1 t920 t921 x925002_1 y934) = some (r1, r2, r3, r4) := by first | (rw [hy934]; with_reducible exact H) | (have H2_ := (Option.bind_some _ _).symm.trans H; rw [hy934]; with_reducible exact H2_) | (have H2_ := (Option.bind_some _ _).symm.trans H; with_reducible exact H2_) | with_reducible exact H | (rw [hy934]; exact H) | exact H
       have Ny934 := Aside0.mk hy934
       clear hy934
       have H' := Aside0.mk H
       clear H
       have hnb35 := NB918_919.out
       have hnc35 := NB919_918.out
       have hnb36 := NB918_924.out
       have hnc36 := NB924_918.out
       have hcz37_0 : wr.cell? ⟨gb918, 0, none⟩ = some (.int .i64 a0_0) := (blk_cell BK918.out 0).trans rfl
       have hcz37_1 : wr.cell? ⟨gb918, 1, none⟩ = some (.slice A0_1 l0_1.length c0_1) := (blk_cell BK918.out 1).trans rfl
       have hfz37_0 := blk_frozen BK918.out 0
       have hfz37_1 := blk_frozen BK918.out 1
       try go_wp2
       have n0_ := Aside0.mk (Kd.R_drew HO_925001.out)
       have n1_ := Aside0.mk (Kd.R_drew HO_925002.out)
       have n2_ := Aside0.mk (Kd.R_drew HO_925003.out)
       have n3_ := Aside0.mk (blk_drew BK918.out)
       have n4_ := Aside0.mk (blk_drew BK919.out)
       have n5_ := Aside0.mk (blk_drew BK924.out)
       have n6_ := Aside0.mk (below_drew1 HB.out)
       clear HO_925001
       clear HO_925002
       clear HO_925003
       clear BK918
       clear BK919
       clear BK924
       clear HB
       have HO_925001 := n0_
       have HO_925002 := n1_
       have HO_925003 := n2_
       have BK918 := n3_
       have BK919 := n4_
       have BK924 := n5_
       have HB := n6_
       clear n0_ n1_ n2_ n3_ n4_ n5_ n6_
       refine start_ (n := 12) (S := fun w' => w'.cell? ⟨gb924, 0, none⟩ = some (.int .i64 t920) ∧ w'.cell? ⟨gb924, 1, none⟩ = some (.slice Ao8 t921.length co8) ∧ w'.cell? ⟨gb924, 2, none⟩ = some (u925002) ∧ w'.cell? ⟨gb924, 3, none⟩ = some (u925003) ∧ w'.cell? ⟨gb918, 0, none⟩ = some (.int .i64 a0_0) ∧ w'.cell? ⟨gb918, 1, none⟩ = some (.slice A0_1 l0_1.length c0_1)) (ds := [11]) #[false, false, false, false, false, false, false, false, false, false, false, false] (by kernel_rfl) rfl rfl ⟨(blk_cell BK924.out 0).trans rfl, (blk_cell BK924.out 1).trans rfl, (blk_cell BK924.out 2).trans rfl, (blk_cell BK924.out 3).trans rfl, (blk_cell BK918.out 0).trans rfl, (blk_cell BK918.out 1).trans rfl⟩ (fun hHeld => ?_); refine with_tabW spec_raOf.tab7 spec_raOf.bits7 (fun HT_ HW_ => ?_)
       generalize wr.drew = w38 at HO_925001 HO_925002 HO_925003 BK918 BK919 BK924 HB hHeld ⊢
       refine pq_ 0 25 12 1 HT_.out (by kernel_rfl) ?_
       refine pq_ 3 28 12 9 HT_.out (by kernel_rfl) ?_
       refine pq_ 4 29 12 25 HT_.out (by kernel_rfl) ?_
       refine pq_ 5 30 12 57 HT_.out (by kernel_rfl) ?_
       refine pq_ 6 31 12 121 HT_.out (by kernel_rfl) ?_
       refine tq_ 1 26 12 123 HT_.out HW_.out (by kernel_rfl) hHeld ?_ rfl (by rintro w' ⟨s0, s1, s2, s3, s4, s5⟩; go_simp; with_reducible rfl)
       refine tq_ 2 27 12 127 HT_.out HW_.out (by kernel_rfl) hHeld ?_ rfl (by rintro w' ⟨s0, s1, s2, s3, s4, s5⟩; go_simp; with_reducible rfl)
       refine one_ (i := 7) (N := some 32) (bsA 12 255) rfl rfl (one_of HT_.out (by kernel_rfl)) (by decide) (fun K hK => ?_)
       refine goes_ Try.func140 (by kernel_rfl) rfl #[.agg #[.int .i64 a0_0, .slice A0_1 l0_1.length c0_1], .int .i64 (wrap64 ((wrap64 (Int.tdiv x4_1 64)) * 64)), .int .i64 x4_1] (by rfl) rfl rfl (by (try simp only [List.map_toArray, List.map_cons, List.map_nil]); first | done | rfl | (simp only [List.length_drop, List.length_take]; rfl)) ?_
       with_reducible refine (spec_biCount.calls k1 a0_0 _ _ l0_1 (wrap64 ((wrap64 (Int.tdiv x4_1 64)) * 64)) x4_1 t933 _ ?side1 ?side2 A33.out).mono ?_
       (case side1 => repeat (first | exact (Kd.C_below HR0_1.out HB.out) | (with_reducible refine Kd.C_alloc ?_ _) | (with_reducible refine Kd.C_drewN ?_ _) | (with_reducible refine Kd.C_drew ?_)))
       (case side2 => exact HC0_1.out)
       rintro e w39 ⟨rfl, hb⟩
       refine ⟨_, rfl, ?_⟩
       have n0_ := Aside0.mk (Kd.R_below (by (with_reducible repeat (first | apply Kd.R_alloc | apply Kd.R_drewN | apply Kd.R_drew)); exact HO_925001.out) hb)
       have n1_ := Aside0.mk (Kd.R_below (by (with_reducible repeat (first | apply Kd.R_alloc | apply Kd.R_drewN | apply Kd.R_drew)); exact HO_925002.out) hb)
       have n2_ := Aside0.mk (Kd.R_below (by (with_reducible repeat (first | apply Kd.R_alloc | apply Kd.R_drewN | apply Kd.R_drew)); exact HO_925003.out) hb)
       have n3_ := Aside0.mk (blk_below (g := gb918) (o := .cells #[.int .i64 a0_0, .slice A0_1 l0_1.length c0_1] 39 (0, 0)) (by (with_reducible repeat (first | refine blk_drewN ?_ _ | refine blk_drew ?_ | refine blk_alloc ?_ _)); exact BK918.out) hb)
       have n4_ := Aside0.mk (blk_below (g := gb919) (o := .cells #[.int .i64 0, .slice none 0 0, .slice none 0 0, .slice none 0 0] 85 (0, 0)) (by (with_reducible repeat (first | refine blk_drewN ?_ _ | refine blk_drew ?_ | refine blk_alloc ?_ _)); exact BK919.out) hb)
       have n5_ := Aside0.mk (blk_below (g := gb924) (o := .cells #[.int .i64 t920, .slice Ao8 t921.length co8, u925002, u925003] 85 (0, 0)) (by (with_reducible repeat (first | refine blk_drewN ?_ _ | refine blk_drew ?_ | refine blk_alloc ?_ _)); exact BK924.out) hb)
       have n6_ := Aside0.mk (below_step (by repeat (first | (with_reducible first | exact HB.out | apply below_alloc | apply pw_below_drewN | apply below_drew1 | refine below_set ?_ GE918.out | refine below_set ?_ GE919.out | refine below_set ?_ GE924.out) | exact HB.out)) hb)
       clear HO_925001
       clear HO_925002
       clear HO_925003
       clear BK918
       clear BK919
       clear BK924
       clear HB
       have HO_925001 := n0_
       have HO_925002 := n1_
       have HO_925003 := n2_
       have BK918 := n3_
       have BK919 := n4_
       have BK924 := n5_
       have HB := n6_
       clear n0_ n1_ n2_ n3_ n4_ n5_ n6_
       (try clear hb)
       (try clear hb2)
       (try clear hk)
       (try clear hi)
       refine hK.out _ _ ⟨(blk_cell BK924.out 0).trans rfl, (blk_cell BK924.out 1).trans rfl, (blk_cell BK924.out 2).trans rfl, (blk_cell BK924.out 3).trans rfl, (blk_cell BK918.out 0).trans rfl, (blk_cell BK918.out 1).trans rfl⟩ (fun hHeld => ?_)
       clear hK K
       refine norm_ (a' := ?_) ?_ ?_
       rotate_left
       ·show Act.put _ (some 32) _ = _
        simp only [Act.put, List.setIfInBounds_toArray, List.set_cons_zero, List.set_cons_succ, i64_w]
        rfl
       refine one_ (i := 8) (N := some 33) (bsA 12 511) rfl rfl (one_of HT_.out (by kernel_rfl)) (by decide) (fun K hK => ?_)
       refine value_ (w1 := ?_) (v := ?_) (by rfl) rfl ?_ ?_
       rotate_left 2
       ·go_simp
        constructor
        ·rfl
        ·rfl
       refine hK.out _ _ ⟨(blk_cell (blk_alloc BK924.out _) 0).trans rfl, (blk_cell (blk_alloc BK924.out _) 1).trans rfl, (blk_cell (blk_alloc BK924.out _) 2).trans rfl, (blk_cell (blk_alloc BK924.out _) 3).trans rfl, (blk_cell (blk_alloc BK918.out _) 0).trans rfl, (blk_cell (blk_alloc BK918.out _) 1).trans rfl⟩ (fun hHeld => ?_)
       clear hK K
       refine norm_ (a' := ?_) ?_ ?_
       rotate_left
       ·show Act.put _ (some 33) _ = _
        simp only [Act.put, List.setIfInBounds_toArray, List.set_cons_zero, List.set_cons_succ, i64_w]
        rfl
       refine one_ (i := 9) (N := some 34) (bsA 12 1023) rfl rfl (one_of HT_.out (by kernel_rfl)) (by decide) (fun K hK => ?_)
       refine Kd.R_append_step (Kd.int .i64) (w0 := w) w.heap.size (by rfl) (.tmp 26) (.tmp 33) 22 3 (.int .i64 0) 8 rfl Try.underlying22 info3 rfl (by decide) (by omega) u925003 x925003_1 t933 [.int .i64 t933] (fun k_ => some k_ ≠ (.slice Ao8 t921.length co8 : Value).ownBlock ∧ some k_ ≠ (u925002 : Value).ownBlock) (fun _ => False) rfl rfl ?aP (fun _ hk => hk.elim) ?aF ?aO ?aB ?aS ?aL ?_
       (case aP => exact rfl)
       (case aB => exact (by repeat (first | (with_reducible first | exact HB.out | apply below_alloc | apply pw_below_drewN | apply below_drew1 | refine below_set ?_ GE918.out | refine below_set ?_ GE919.out | refine below_set ?_ GE924.out) | exact HB.out)))
       (case aF => exact (fun k_ hk => ⟨Kd.fresh' (Kd.R_lt (by (with_reducible repeat (first | apply Kd.R_alloc | apply Kd.R_drewN | apply Kd.R_drew)); exact HO_925001.out)) k_ hk, Kd.fresh' (Kd.R_lt (by (with_reducible repeat (first | apply Kd.R_alloc | apply Kd.R_drewN | apply Kd.R_drew)); exact HO_925002.out)) k_ hk⟩))
       (case aO => exact (by (with_reducible repeat (first | apply Kd.R_alloc | apply Kd.R_drewN | apply Kd.R_drew)); exact HO_925003.out))
       (case aS => exact (below_size (by repeat (first | (with_reducible first | exact HB.out | apply below_alloc | apply pw_below_drewN | apply below_drew1 | refine below_set ?_ GE918.out | refine below_set ?_ GE919.out | refine below_set ?_ GE924.out) | exact HB.out))))
       (case aL => have := LMc34.out; omega)
       intro v935 w40 ho hb hg hat
       rw [← Ny934.out] at ho
       have n0_ := Aside0.mk (Kd.R_after (ok := (fun k_ => some k_ ≠ (u925002 : Value).ownBlock)) (by (with_reducible repeat (first | apply Kd.R_alloc | apply Kd.R_drewN | apply Kd.R_drew)); exact HO_925001.out) hg hat)
       have n1_ := Aside0.mk (Kd.R_after (ok := (fun k_ => some k_ ≠ (.slice Ao8 t921.length co8 : Value).ownBlock)) (by (with_reducible repeat (first | apply Kd.R_alloc | apply Kd.R_drewN | apply Kd.R_drew)); exact HO_925002.out) hg hat)
       have n2_ := Aside0.mk (blk_grown (g := gb918) (o := .cells #[.int .i64 a0_0, .slice A0_1 l0_1.length c0_1] 39 (0, 0)) (by (with_reducible repeat (first | refine blk_drewN ?_ _ | refine blk_drew ?_ | refine blk_alloc ?_ _)); exact BK918.out) hg (Kd.R_ne HO_925003.out BK918.out (by decide)))
       have n3_ := Aside0.mk (blk_grown (g := gb919) (o := .cells #[.int .i64 0, .slice none 0 0, .slice none 0 0, .slice none 0 0] 85 (0, 0)) (by (with_reducible repeat (first | refine blk_drewN ?_ _ | refine blk_drew ?_ | refine blk_alloc ?_ _)); exact BK919.out) hg (Kd.R_ne HO_925003.out BK919.out (by decide)))
       have n4_ := Aside0.mk (blk_grown (g := gb924) (o := .cells #[.int .i64 t920, .slice Ao8 t921.length co8, u925002, u925003] 85 (0, 0)) (by (with_reducible repeat (first | refine blk_drewN ?_ _ | refine blk_drew ?_ | refine blk_alloc ?_ _)); exact BK924.out) hg (Kd.R_ne HO_925003.out BK924.out (by decide)))
       have n5_ := Aside0.mk (hb)
       have n6_ := Aside0.mk (ho)
       clear HO_925001
       clear HO_925002
       clear BK918
       clear BK919
       clear BK924
       clear HB
       clear HO_925003
       have HO_925001 := n0_
       have HO_925002 := n1_
       have BK918 := n2_
       have BK919 := n3_
       have BK924 := n4_
       have HB := n5_
       have HO936 := n6_
       clear n0_ n1_ n2_ n3_ n4_ n5_ n6_
       clear ho hb hg hat
       obtain ⟨Ao41, co41, eo41⟩ := Kd.R_slice HO936.out
       (first | subst eo41 | (injection eo41 with f1_ f2_ f3_; have f4_ := f1_.symm; have f5_ := f3_.symm; clear f1_ f2_ f3_; subst f4_; subst f5_))
       refine hK.out _ _ ⟨(blk_cell BK924.out 0).trans rfl, (blk_cell BK924.out 1).trans rfl, (blk_cell BK924.out 2).trans rfl, (blk_cell BK924.out 3).trans rfl, (blk_cell BK918.out 0).trans rfl, (blk_cell BK918.out 1).trans rfl⟩ (fun hHeld => ?_)
       clear hK K
       refine norm_ (a' := ?_) ?_ ?_
       rotate_left
       ·show Act.put _ (some 34) _ = _
        simp only [Act.put, List.setIfInBounds_toArray, List.set_cons_zero, List.set_cons_succ, i64_w]
        rfl
       refine pq_ 10 35 12 2047 HT_.out (by kernel_rfl) ?_
       refine last_ (i := 11) (N := none) (bsA 12 4095) rfl rfl (one_of HT_.out (by kernel_rfl)) (by decide) (fun K hK => ?_)
       have hs42 : w40.cell? ⟨gb924, 3, none⟩ = some (u925003) := (blk_cell BK924.out 3).trans rfl
       have hfs42 := blk_frozen BK924.out 3
       have hns42_0 := NB918_924.out
       have hns42_1 := NB919_924.out
       have hms42_0 := NB924_918.out
       have hms42_1 := NB924_919.out
       refine skip_ (w1 := ?_) (by rfl) rfl ?_ ?_
       rotate_left
       ·go_simp
        rfl
       refine hK.out _ _ ?_
       clear hK K
       refine done_ (done_of HT_.out (by kernel_rfl)) ?_
       try go_wp2
       go_roundg k1
       case measure => have := HK1.out; omega
       case rel => exact ⟨(wrap64 (x4_1 + 16)), (x925002_1), (y934), (u925002), (.slice Ao41 y934.length co41), (by first | rfl | (simp; done) | (simp [*]; done)), H', ⟨by have := HK1.out; omega⟩, ⟨by (with_reducible repeat (first | apply Kd.R_alloc | apply Kd.R_drewN | apply Kd.R_drew)); exact Kd.R_mono (Kd.R_far (p := ⟨gb924, 3, none⟩) (Kd.R_types HO_925001.out BK924.out (by decide)) (fun _ hk => hk.2) (.slice Ao41 y934.length co41)) (fun _ hk => ⟨hk.1.1, hk.1.2⟩)⟩, ⟨by (with_reducible repeat (first | apply Kd.R_alloc | apply Kd.R_drewN | apply Kd.R_drew)); exact Kd.R_mono (Kd.R_far (p := ⟨gb924, 3, none⟩) (Kd.R_types HO_925002.out BK924.out (by decide)) (fun _ hk => hk.2) (.slice Ao41 y934.length co41)) (fun _ hk => ⟨hk.1.1, hk.1.2⟩)⟩, ⟨by (with_reducible repeat (first | apply Kd.R_alloc | apply Kd.R_drewN | apply Kd.R_drew)); exact Kd.R_mono (Kd.R_far (p := ⟨gb924, 3, none⟩) (Kd.R_types HO936.out BK924.out (by decide)) (fun _ hk => hk.2) (.slice Ao41 y934.length co41)) (fun _ hk => ⟨hk.1.1, hk.1.2⟩)⟩, ⟨by (with_reducible repeat (first | refine blk_drewN ?_ _ | refine blk_drew ?_ | refine blk_alloc ?_ _)); refine blk_far ?_ NB918_924.out _; (with_reducible repeat (first | refine blk_drewN ?_ _ | refine blk_drew ?_ | refine blk_alloc ?_ _)); exact BK918.out⟩, ⟨by (with_reducible repeat (first | refine blk_drewN ?_ _ | refine blk_drew ?_ | refine blk_alloc ?_ _)); refine blk_far ?_ NB919_924.out _; (with_reducible repeat (first | refine blk_drewN ?_ _ | refine blk_drew ?_ | refine blk_alloc ?_ _)); exact BK919.out⟩, ⟨by (with_reducible repeat (first | refine blk_drewN ?_ _ | refine blk_drew ?_ | refine blk_alloc ?_ _)); refine blk_put (cs := #[.int .i64 t920, .slice Ao8 t921.length co8, u925002, u925003]) ?_ 3 _ rfl; (with_reducible repeat (first | refine blk_drewN ?_ _ | refine blk_drew ?_ | refine blk_alloc ?_ _)); exact BK924.out⟩, ⟨by repeat (first | (with_reducible first | exact HB.out | apply below_alloc | apply pw_below_drewN | apply below_drew1 | refine below_set ?_ GE918.out | refine below_set ?_ GE919.out | refine below_set ?_ GE924.out) | exact HB.out)⟩⟩
      ·rw [if_neg c34] at H
       exact absurd H (by simp)
    ·rw [if_neg c13] at H
     have c13b0 : decide (x4_1 < a0_0) = false := decide_eq_false c13
     clear c13
     simp only [Option.some.injEq, Prod.mk.injEq] at H
     obtain ⟨rfl, rfl, rfl, rfl⟩ := H
     have hnb43 := NB918_919.out
     have hnc43 := NB919_918.out
     have hnb44 := NB918_924.out
     have hnc44 := NB924_918.out
     have hcz45_0 : wr.cell? ⟨gb918, 0, none⟩ = some (.int .i64 a0_0) := (blk_cell BK918.out 0).trans rfl
     have hcz45_1 : wr.cell? ⟨gb918, 1, none⟩ = some (.slice A0_1 l0_1.length c0_1) := (blk_cell BK918.out 1).trans rfl
     have hfz45_0 := blk_frozen BK918.out 0
     have hfz45_1 := blk_frozen BK918.out 1
     have hnb46 := NB924_919.out
     have hnc46 := NB919_924.out
     have hcz47_0 : wr.cell? ⟨gb924, 0, none⟩ = some (.int .i64 t920) := (blk_cell BK924.out 0).trans rfl
     have hcz47_1 : wr.cell? ⟨gb924, 1, none⟩ = some (.slice Ao8 t921.length co8) := (blk_cell BK924.out 1).trans rfl
     have hcz47_2 : wr.cell? ⟨gb924, 2, none⟩ = some (u925002) := (blk_cell BK924.out 2).trans rfl
     have hcz47_3 : wr.cell? ⟨gb924, 3, none⟩ = some (u925003) := (blk_cell BK924.out 3).trans rfl
     have hfz47_0 := blk_frozen BK924.out 0
     have hfz47_1 := blk_frozen BK924.out 1
     have hfz47_2 := blk_frozen BK924.out 2
     have hfz47_3 := blk_frozen BK924.out 3
     have hcz48_0 : wr.cell? ⟨gb919, 0, none⟩ = some (.int .i64 0) := (blk_cell BK919.out 0).trans rfl
     have hcz48_1 : wr.cell? ⟨gb919, 1, none⟩ = some (.slice none 0 0) := (blk_cell BK919.out 1).trans rfl
     have hcz48_2 : wr.cell? ⟨gb919, 2, none⟩ = some (.slice none 0 0) := (blk_cell BK919.out 2).trans rfl
     have hcz48_3 : wr.cell? ⟨gb919, 3, none⟩ = some (.slice none 0 0) := (blk_cell BK919.out 3).trans rfl
     have hfz48_0 := blk_frozen BK919.out 0
     have hfz48_1 := blk_frozen BK919.out 1
     have hfz48_2 := blk_frozen BK919.out 2
     have hfz48_3 := blk_frozen BK919.out 3
     obtain ⟨Ao49, co49, eo49⟩ := Kd.R_slice HO_925002.out
     subst eo49
     obtain ⟨Ao50, co50, eo50⟩ := Kd.R_slice HO_925003.out
     subst eo50
     go_wp2
     refine bodyPost_ret (results_cell_row rfl _ _ gb919 85 #[.int .i64 t920, .slice Ao8 t921.length co8, .slice Ao49 x925002_1.length co49, .slice Ao50 x925003_1.length co50] (0, 0) _ rfl (by (with_reducible repeat (first | refine blk_drewN ?_ _ | refine blk_drew ?_ | refine blk_alloc ?_ _)); refine blk_put (cs := #[.int .i64 t920, .slice Ao8 t921.length co8, .slice Ao49 x925002_1.length co49, .slice none 0 0]) ?_ 3 _ rfl; (with_reducible repeat (first | refine blk_drewN ?_ _ | refine blk_drew ?_ | refine blk_alloc ?_ _)); refine blk_put (cs := #[.int .i64 t920, .slice Ao8 t921.length co8, .slice none 0 0, .slice none 0 0]) ?_ 2 _ rfl; (with_reducible repeat (first | refine blk_drewN ?_ _ | refine blk_drew ?_ | refine blk_alloc ?_ _)); refine blk_put (cs := #[.int .i64 t920, .slice none 0 0, .slice none 0 0, .slice none 0 0]) ?_ 1 _ rfl; (with_reducible repeat (first | refine blk_drewN ?_ _ | refine blk_drew ?_ | refine blk_alloc ?_ _)); refine blk_put (cs := #[.int .i64 0, .slice none 0 0, .slice none 0 0, .slice none 0 0]) ?_ 0 _ rfl; (with_reducible repeat (first | refine blk_drewN ?_ _ | refine blk_drew ?_ | refine blk_alloc ?_ _)); exact BK919.out) Try.underlying85 rfl (by kernel_rfl)) rfl ?_
     exact ⟨_, _, _, by first | rfl | (simp [errW_none, errW_some] <;> rfl) | (simp [*, errW_none, errW_some] <;> rfl), by (with_reducible repeat (first | apply Kd.R_alloc | apply Kd.R_drewN | apply Kd.R_drew)); exact Kd.R_mono (Kd.R_far (p := ⟨gb919, 3, none⟩) (Kd.R_far (p := ⟨gb919, 2, none⟩) (Kd.R_far (p := ⟨gb919, 1, none⟩) (Kd.R_far (p := ⟨gb919, 0, none⟩) (Kd.R_types HO_925001.out BK919.out (by decide)) (fun _ hk => hk.2) (.int .i64 t920)) (fun _ hk => hk.2) (.slice Ao8 t921.length co8)) (fun _ hk => hk.2) (.slice Ao49 x925002_1.length co49)) (fun _ hk => hk.2) (.slice Ao50 x925003_1.length co50)) (fun _ hk => ⟨hk.1.1, hk.1.2⟩), by (with_reducible repeat (first | apply Kd.R_alloc | apply Kd.R_drewN | apply Kd.R_drew)); exact Kd.R_mono (Kd.R_far (p := ⟨gb919, 3, none⟩) (Kd.R_far (p := ⟨gb919, 2, none⟩) (Kd.R_far (p := ⟨gb919, 1, none⟩) (Kd.R_far (p := ⟨gb919, 0, none⟩) (Kd.R_types HO_925002.out BK919.out (by decide)) (fun _ hk => hk.2) (.int .i64 t920)) (fun _ hk => hk.2) (.slice Ao8 t921.length co8)) (fun _ hk => hk.2) (.slice Ao49 x925002_1.length co49)) (fun _ hk => hk.2) (.slice Ao50 x925003_1.length co50)) (fun _ hk => ⟨hk.1.1, hk.1.2⟩), by (with_reducible repeat (first | apply Kd.R_alloc | apply Kd.R_drewN | apply Kd.R_drew)); exact Kd.R_mono (Kd.R_far (p := ⟨gb919, 3, none⟩) (Kd.R_far (p := ⟨gb919, 2, none⟩) (Kd.R_far (p := ⟨gb919, 1, none⟩) (Kd.R_far (p := ⟨gb919, 0, none⟩) (Kd.R_types HO_925003.out BK919.out (by decide)) (fun _ hk => hk.2) (.int .i64 t920)) (fun _ hk => hk.2) (.slice Ao8 t921.length co8)) (fun _ hk => hk.2) (.slice Ao49 x925002_1.length co49)) (fun _ hk => hk.2) (.slice Ao50 x925003_1.length co50)) (fun _ hk => ⟨hk.1.1, hk.1.2⟩), by repeat (first | (with_reducible first | exact HB.out | apply below_alloc | apply pw_below_drewN | apply below_drew1 | refine below_set ?_ GE918.out | refine below_set ?_ GE919.out | refine below_set ?_ GE924.out) | exact HB.out)⟩
/-! ### spec_UsedOf: function 63 -/
def spec_UsedOf.l0 : Nat → List Bool → List Int → Int → Int → Option (Int × List Int × List Int × List Int × Bool)
  | 0, _, _, _, _ => none
  | k + 1, x4, x12, x13, x14 => if x14 < x13 then (if 0 ≤ x14 then (if x14 < (x12.length : Int) then (if x4.length < 140737488355328 then (spec_UsedOf.l0 k (x4 ++ [((rd x12 x14) != 3)]) x12 x13 (wrap64 (x14 + 1))) else (none)) else (none)) else (none)) else ((spec_biSome.f k x4).bind fun bt944 => ((spec_raOf.f k bt944.1 bt944.2).bind fun bt948 => (some (bt948.1, bt948.2.1, bt948.2.2.1, bt948.2.2.2, true))))
def spec_UsedOf.f (k : Nat) (a0_0 : Int) (a0_1 : Int) (l0_2 : List Int) : Option (Int × List Int × List Int × List Int × Bool) := (spec_pfPeeled.f k a0_0 a0_1 l0_2).bind fun t939 => (if t939 = true then (spec_UsedOf.l0 k ([] : List Bool) l0_2 (l0_2.length : Int) 0) else (some (0, ([] : List Int), ([] : List Int), ([] : List Int), false)))
theorem spec_UsedOf.mono_l : ∀ k, (∀ y0 y1 y2 y3, LeO (spec_UsedOf.l0 k y0 y1 y2 y3) (spec_UsedOf.l0 (k + 1) y0 y1 y2 y3))
  | 0 => fun _ _ _ _ r h => by simp [spec_UsedOf.l0] at h
  | k + 1 => by
    have ih0 := spec_UsedOf.mono_l k
    · intro y0 y1 y2 y3
      unfold spec_UsedOf.l0
      repeat' first
      | (with_reducible exact ih0 _ _ _ _)
      | (with_reducible exact spec_biSome.mono _ _)
      | (with_reducible exact spec_pfPeeled.mono _ _ _ _)
      | (with_reducible exact spec_raOf.mono _ _ _)
      | (with_reducible exact LeO.refl _)
      | (with_reducible exact LeO.none _)
      | (with_reducible refine LeO.ite ?_ ?_)
      | (with_reducible refine LeO.bind ?_ (fun _ => ?_))
      | exact ih0 _ _ _ _
      | exact spec_biSome.mono _ _
      | exact spec_pfPeeled.mono _ _ _ _
      | exact spec_raOf.mono _ _ _
      | exact LeO.none _
      | refine LeO.ite ?_ ?_
      | refine LeO.bind ?_ (fun _ => ?_)
theorem spec_UsedOf.mono : ∀ a0 a1 a2 k, LeO (spec_UsedOf.f k a0 a1 a2) (spec_UsedOf.f (k + 1) a0 a1 a2) := by
  intro a0 a1 a2 k
  have ih0 := spec_UsedOf.mono_l k
  unfold spec_UsedOf.f
  repeat' first
      | (with_reducible exact ih0 _ _ _ _)
      | (with_reducible exact spec_biSome.mono _ _)
      | (with_reducible exact spec_pfPeeled.mono _ _ _ _)
      | (with_reducible exact spec_raOf.mono _ _ _)
      | (with_reducible exact LeO.refl _)
      | (with_reducible exact LeO.none _)
      | (with_reducible refine LeO.ite ?_ ?_)
      | (with_reducible refine LeO.bind ?_ (fun _ => ?_))
      | exact ih0 _ _ _ _
      | exact spec_biSome.mono _ _
      | exact spec_pfPeeled.mono _ _ _ _
      | exact spec_raOf.mono _ _ _
      | exact LeO.none _
      | refine LeO.ite ?_ ?_
      | refine LeO.bind ?_ (fun _ => ?_)
noncomputable def spec_UsedOf.L0 (y0 : List Bool) (y1 : List Int) (y2 : Int) (y3 : Int) : Option (Int × List Int × List Int × List Int × Bool) := lim fun k => spec_UsedOf.l0 k y0 y1 y2 y3
theorem spec_UsedOf.L0_sup (y0 : List Bool) (y1 : List Int) (y2 : Int) (y3 : Int) : Sup (fun k => spec_UsedOf.l0 k y0 y1 y2 y3) (spec_UsedOf.L0 y0 y1 y2 y3) := Sup.of_mono fun k => spec_UsedOf.mono_l k y0 y1 y2 y3
noncomputable def spec_UsedOf.F (a0_0 : Int) (a0_1 : Int) (l0_2 : List Int) : Option (Int × List Int × List Int × List Int × Bool) := lim fun k => spec_UsedOf.f k a0_0 a0_1 l0_2
theorem spec_UsedOf.F_sup (a0_0 : Int) (a0_1 : Int) (l0_2 : List Int) : Sup (fun k => spec_UsedOf.f k a0_0 a0_1 l0_2) (spec_UsedOf.F a0_0 a0_1 l0_2) := Sup.of_mono fun k => spec_UsedOf.mono a0_0 a0_1 l0_2 k
theorem spec_UsedOf.L0_eq (x4 : List Bool) (x12 : List Int) (x13 : Int) (x14 : Int) : spec_UsedOf.L0 x4 x12 x13 x14 = if x14 < x13 then (if 0 ≤ x14 then (if x14 < (x12.length : Int) then (if x4.length < 140737488355328 then (spec_UsedOf.L0 (x4 ++ [((rd x12 x14) != 3)]) x12 x13 (wrap64 (x14 + 1))) else (none)) else (none)) else (none)) else ((spec_biSome.F x4).bind fun bt944 => ((spec_raOf.F bt944.1 bt944.2).bind fun bt948 => (some (bt948.1, bt948.2.1, bt948.2.2.1, bt948.2.2.2, true)))) := by
  refine Sup.unique (spec_UsedOf.L0_sup x4 x12 x13 x14) (Sup.shift (fun k => spec_UsedOf.mono_l k x4 x12 x13 x14) (Sup.congr (g' := fun k => if x14 < x13 then (if 0 ≤ x14 then (if x14 < (x12.length : Int) then (if x4.length < 140737488355328 then (spec_UsedOf.l0 k (x4 ++ [((rd x12 x14) != 3)]) x12 x13 (wrap64 (x14 + 1))) else (none)) else (none)) else (none)) else ((spec_biSome.f k x4).bind fun bt944 => ((spec_raOf.f k bt944.1 bt944.2).bind fun bt948 => (some (bt948.1, bt948.2.1, bt948.2.2.1, bt948.2.2.2, true))))) (fun k => by first | rfl | simp only [spec_UsedOf.l0]) ?_))
  repeat' first
    | (with_reducible exact spec_UsedOf.L0_sup _ _ _ _)
    | (with_reducible exact spec_pfPeeled.F_sup _ _ _)
    | (with_reducible exact spec_raOf.F_sup _ _)
    | (with_reducible exact spec_biSome.F_sup _)
    | (with_reducible refine Sup.ite ?_ ?_)
    | (with_reducible refine Sup.bind ?_ (fun _ => ?_))
    | (with_reducible exact Sup.const _)
    | exact spec_UsedOf.L0_sup _ _ _ _
    | exact spec_pfPeeled.F_sup _ _ _
    | exact spec_raOf.F_sup _ _
    | exact spec_biSome.F_sup _
    | exact Sup.const _
theorem spec_UsedOf.F_eq (a0_0 : Int) (a0_1 : Int) (l0_2 : List Int) : spec_UsedOf.F a0_0 a0_1 l0_2 = (spec_pfPeeled.F a0_0 a0_1 l0_2).bind fun t939 => (if t939 = true then (spec_UsedOf.L0 ([] : List Bool) l0_2 (l0_2.length : Int) 0) else (some (0, ([] : List Int), ([] : List Int), ([] : List Int), false))) := by
  refine Sup.unique (spec_UsedOf.F_sup a0_0 a0_1 l0_2) (Sup.congr (g' := fun k => (spec_pfPeeled.f k a0_0 a0_1 l0_2).bind fun t939 => (if t939 = true then (spec_UsedOf.l0 k ([] : List Bool) l0_2 (l0_2.length : Int) 0) else (some (0, ([] : List Int), ([] : List Int), ([] : List Int), false)))) (fun k => by first | rfl | simp only [spec_UsedOf.f]) ?_)
  repeat' first
    | (with_reducible exact spec_UsedOf.L0_sup _ _ _ _)
    | (with_reducible exact spec_pfPeeled.F_sup _ _ _)
    | (with_reducible exact spec_raOf.F_sup _ _)
    | (with_reducible exact spec_biSome.F_sup _)
    | (with_reducible refine Sup.ite ?_ ?_)
    | (with_reducible refine Sup.bind ?_ (fun _ => ?_))
    | (with_reducible exact Sup.const _)
    | exact spec_UsedOf.L0_sup _ _ _ _
    | exact spec_pfPeeled.F_sup _ _ _
    | exact spec_raOf.F_sup _ _
    | exact spec_biSome.F_sup _
    | exact Sup.const _
set_option maxHeartbeats 8000000 in
set_option maxRecDepth 100000 in
theorem spec_UsedOf.calls (k : Nat) (a0_0 : Int) (a0_1 : Int) (A0_2 : Option Addr) (c0_2 : Nat) (l0_2 : List Int) (r1 : Int) (r2 : List Int) (r3 : List Int) (r4 : List Int) (r5 : Bool) (w : World) (hr0_2 : Kd.C (Kd.int .i64) w A0_2 l0_2.length l0_2) (hc0_2 : l0_2.length ≤ c0_2) (h : spec_UsedOf.f k a0_0 a0_1 l0_2 = some (r1, r2, r3, r4, r5)) :
    Calls Try.prog 63 #[.agg #[.int .i64 a0_0, .int .i64 a0_1, .slice A0_2 l0_2.length c0_2]] w fun e w' => ∃ v1_ v2_ v3_ : Value, e = .returned (.tuple #[.agg #[.int .i64 r1, v1_, v2_, v3_], .bool r5]) ∧ Kd.R (Kd.int .i64) 3 w' w.heap.size (fun k_ => some k_ ≠ (v2_ : Value).ownBlock ∧ some k_ ≠ (v3_ : Value).ownBlock) v1_ r2 ∧ Kd.R (Kd.int .i64) 3 w' w.heap.size (fun k_ => some k_ ≠ (v1_ : Value).ownBlock ∧ some k_ ≠ (v3_ : Value).ownBlock) v2_ r3 ∧ Kd.R (Kd.int .i64) 3 w' w.heap.size (fun k_ => some k_ ≠ (v1_ : Value).ownBlock ∧ some k_ ≠ (v2_ : Value).ownBlock) v3_ r4 ∧ Below w.heap.size w w' := by
  have hu36 := Try.underlying36
  have hu85 := Try.underlying85
  have HR0_2 := Aside0.mk hr0_2
  have HC0_2 := Aside0.mk hc0_2
  clear hr0_2 hc0_2
  have HB := Aside0.mk (Below.refl w.heap.size w)
  have H : ((spec_pfPeeled.f k a0_0 a0_1 l0_2).bind fun t939 => (if t939 = true then (spec_UsedOf.l0 k ([] : List Bool) l0_2 (l0_2.length : Int) 0) else (some (0, ([] : List Int), ([] : List Int), ([] : List Int), false)))) = some (r1, r2, r3, r4, r5) := h
  clear h
  replace H := Option.bind_eq_some_iff.mp H
  obtain ⟨t939, A20, H⟩ := H
  replace H : (if t939 = true then (spec_UsedOf.l0 k ([] : List Bool) l0_2 (l0_2.length : Int) 0) else (some (0, ([] : List Int), ([] : List Int), ([] : List Int), false))) = some (r1, r2, r3, r4, r5) := H
  have A2 := Aside0.mk A20
  clear A20
  by_cases c3 : t939 = true
  ·subst c3
   have H1 : (spec_UsedOf.l0 k ([] : List Bool) l0_2 (l0_2.length : Int) 0) = some (r1, r2, r3, r4, r5) := by rw [if_pos rfl] at H; exact H
   clear H
   have H := H1
   clear H1
   have H' := Aside0.mk H
   clear H
   go_enter Try.func63, Try.ntmps63
   go_wp2_with (first | ((with_reducible refine gate_dst (N := 1) rfl ?_); refine box_event ?hg (N := 1) ?hd (cs := #[.int .i64 a0_0, .int .i64 a0_1, .slice A0_2 l0_2.length c0_2]) (t := 36) ?hr ?_; (case hd => rfl); (case hg => rfl); (case hr => first | (go_simp; done) | (go_simp; rfl)); intro gb937 hg w4 hbox hb; have n0_ := Aside0.mk (below_step (by repeat (first | (with_reducible first | exact HB.out | apply below_alloc | apply pw_below_drewN | apply below_drew1) | exact HB.out)) hb); have n1_ := Aside0.mk (hbox); have n2_ := Aside0.mk ((by rw [hg]; exact (below_size (by repeat (first | (with_reducible first | exact HB.out | apply below_alloc | apply pw_below_drewN | apply below_drew1) | exact HB.out))) : w.heap.size ≤ gb937)); have n3_ := Aside0.mk ((by rw [hg]; exact (below_size (by repeat (first | (with_reducible first | exact HB.out | apply below_alloc | apply pw_below_drewN | apply below_drew1) | exact HB.out))) : w.heap.size ≤ gb937)); clear HB; have HB := n0_; have BK937 := n1_; have GW937 := n2_; have GE937 := n3_; clear n0_ n1_ n2_ n3_; clear hb hbox hg) | ((with_reducible refine gate_dst (N := 2) rfl ?_); refine box_event ?hg (N := 2) ?hd (cs := #[.int .i64 0, .slice none 0 0, .slice none 0 0, .slice none 0 0]) (t := 85) ?hr ?_; (case hd => rfl); (case hg => rfl); (case hr => first | (go_simp; done) | (go_simp; rfl)); intro gb938 hg w5 hbox hb; have n0_ := Aside0.mk (blk_below (g := gb937) (o := .cells #[.int .i64 a0_0, .int .i64 a0_1, .slice A0_2 l0_2.length c0_2] 36 (0, 0)) (by (with_reducible repeat (first | refine blk_drewN ?_ _ | refine blk_drew ?_ | refine blk_alloc ?_ _)); exact BK937.out) hb); have n1_ := Aside0.mk (below_step (by repeat (first | (with_reducible first | exact HB.out | apply below_alloc | apply pw_below_drewN | apply below_drew1 | refine below_set ?_ GE937.out) | exact HB.out)) hb); have n2_ := Aside0.mk (hbox); have n3_ := Aside0.mk ((by rw [hg]; exact (below_size (by repeat (first | (with_reducible first | exact HB.out | apply below_alloc | apply pw_below_drewN | apply below_drew1 | refine below_set ?_ GE937.out) | exact HB.out))) : w.heap.size ≤ gb938)); have n4_ := Aside0.mk ((by rw [hg]; exact (below_size (by repeat (first | (with_reducible first | exact HB.out | apply below_alloc | apply pw_below_drewN | apply below_drew1 | refine below_set ?_ GE937.out) | exact HB.out))) : w.heap.size ≤ gb938)); have n5_ := Aside0.mk ((by rw [hg]; exact Nat.ne_of_lt (blk_lt (g := gb937) (o := .cells #[.int .i64 a0_0, .int .i64 a0_1, .slice A0_2 l0_2.length c0_2] 36 (0, 0)) (by (with_reducible repeat (first | refine blk_drewN ?_ _ | refine blk_drew ?_ | refine blk_alloc ?_ _)); exact BK937.out)) : gb937 ≠ gb938)); have n6_ := Aside0.mk ((by rw [hg]; exact Nat.ne_of_gt (blk_lt (g := gb937) (o := .cells #[.int .i64 a0_0, .int .i64 a0_1, .slice A0_2 l0_2.length c0_2] 36 (0, 0)) (by (with_reducible repeat (first | refine blk_drewN ?_ _ | refine blk_drew ?_ | refine blk_alloc ?_ _)); exact BK937.out)) : gb938 ≠ gb937)); clear BK937; clear HB; have BK937 := n0_; have HB := n1_; have BK938 := n2_; have GW938 := n3_; have GE938 := n4_; have NB937_938 := n5_; have NB938_937 := n6_; clear n0_ n1_ n2_ n3_ n4_ n5_ n6_; clear hb hbox hg; have hnb6 := NB937_938.out; have hnc6 := NB938_937.out; have hcz7_0 : w5.cell? ⟨gb937, 0, none⟩ = some (.int .i64 a0_0) := (blk_cell BK937.out 0).trans rfl; have hcz7_1 : w5.cell? ⟨gb937, 1, none⟩ = some (.int .i64 a0_1) := (blk_cell BK937.out 1).trans rfl; have hcz7_2 : w5.cell? ⟨gb937, 2, none⟩ = some (.slice A0_2 l0_2.length c0_2) := (blk_cell BK937.out 2).trans rfl; have hfz7_0 := blk_frozen BK937.out 0; have hfz7_1 := blk_frozen BK937.out 1; have hfz7_2 := blk_frozen BK937.out 2) | ((with_reducible refine gate_callee (f := 92) rfl ?_); refine goesL_ (some 8) rfl rfl Try.func92 (by kernel_rfl) rfl #[.agg #[.int .i64 a0_0, .int .i64 a0_1, .slice A0_2 l0_2.length c0_2]] rfl (by (try simp only [List.map_toArray, List.map_cons, List.map_nil]); first | done | rfl | (simp only [List.length_drop, List.length_take]; rfl)) ?_; (with_reducible refine (spec_pfPeeled.calls k a0_0 a0_1 _ _ l0_2 true _ ?side1 ?side2 A2.out).mono ?_); (case side1 => repeat (first | exact (Kd.C_below HR0_2.out HB.out) | (with_reducible refine Kd.C_alloc ?_ _) | (with_reducible refine Kd.C_drewN ?_ _) | (with_reducible refine Kd.C_drew ?_))); (case side2 => exact HC0_2.out); rintro e w8 ⟨rfl, hb⟩; refine ⟨_, rfl, ?_⟩; have n0_ := Aside0.mk (blk_below (g := gb937) (o := .cells #[.int .i64 a0_0, .int .i64 a0_1, .slice A0_2 l0_2.length c0_2] 36 (0, 0)) (by (with_reducible repeat (first | refine blk_drewN ?_ _ | refine blk_drew ?_ | refine blk_alloc ?_ _)); exact BK937.out) hb); have n1_ := Aside0.mk (blk_below (g := gb938) (o := .cells #[.int .i64 0, .slice none 0 0, .slice none 0 0, .slice none 0 0] 85 (0, 0)) (by (with_reducible repeat (first | refine blk_drewN ?_ _ | refine blk_drew ?_ | refine blk_alloc ?_ _)); exact BK938.out) hb); have n2_ := Aside0.mk (below_step (by repeat (first | (with_reducible first | exact HB.out | apply below_alloc | apply pw_below_drewN | apply below_drew1 | refine below_set ?_ GE937.out | refine below_set ?_ GE938.out) | exact HB.out)) hb); clear BK937; clear BK938; clear HB; have BK937 := n0_; have BK938 := n1_; have HB := n2_; clear n0_ n1_ n2_; (try clear hb); (try clear hb2); (try clear hk); (try clear hi); have hcz9_0 : w8.cell? ⟨gb937, 0, none⟩ = some (.int .i64 a0_0) := (blk_cell BK937.out 0).trans rfl; have hcz9_1 : w8.cell? ⟨gb937, 1, none⟩ = some (.int .i64 a0_1) := (blk_cell BK937.out 1).trans rfl; have hcz9_2 : w8.cell? ⟨gb937, 2, none⟩ = some (.slice A0_2 l0_2.length c0_2) := (blk_cell BK937.out 2).trans rfl; have hfz9_0 := blk_frozen BK937.out 0; have hfz9_1 := blk_frozen BK937.out 1; have hfz9_2 := blk_frozen BK937.out 2))
   go_loopg [4, 14] k (fun kq v4 v14 w' => ∃ (x4_1 : List Bool) (x14_1 : Int), v14 = .int .i64 x14_1 ∧ Aside0 (spec_UsedOf.l0 kq x4_1 l0_2 (l0_2.length : Int) x14_1 = some (r1, r2, r3, r4, r5)) ∧ Aside0 (kq ≤ k) ∧ Aside0 (Kd.R Kd.bool 4 w' w.heap.size (fun _ => True) v4 x4_1) ∧ Aside0 (w'.heap[gb937]? = some (.cells #[.int .i64 a0_0, .int .i64 a0_1, (.slice A0_2 l0_2.length c0_2)] 36 (0, 0))) ∧ Aside0 (w'.heap[gb938]? = some (.cells #[.int .i64 0, (.slice none 0 0), (.slice none 0 0), (.slice none 0 0)] 85 (0, 0))) ∧ Aside0 (Below w.heap.size w w'))
   case atStart => exact ⟨(([] : List Bool)), (0), (by first | rfl | (simp; done) | (simp [*]; done)), H', ⟨Nat.le_refl _⟩, ⟨by first | exact Kd.R_nil _ _ _ _ _ | exact Kd.N_nil _ _ _ _ _ | exact Kd.V_nil _ _ _ _ _ | exact Kd.Q_nil _ _ _ _ _ | exact Kd.S_nil _ _ _ _ _⟩, ⟨by (with_reducible repeat (first | refine blk_drewN ?_ _ | refine blk_drew ?_ | refine blk_alloc ?_ _)); exact BK937.out⟩, ⟨by (with_reducible repeat (first | refine blk_drewN ?_ _ | refine blk_drew ?_ | refine blk_alloc ?_ _)); exact BK938.out⟩, ⟨by repeat (first | (with_reducible first | exact HB.out | apply below_alloc | apply pw_below_drewN | apply below_drew1 | refine below_set ?_ GE937.out | refine below_set ?_ GE938.out) | exact HB.out)⟩⟩
   case round =>
    clear H'
    try clear p2
    try clear c3
    try clear c6
    try clear c9
    try clear hcz7_0
    try clear hcz7_1
    try clear hcz7_2
    try clear hcz9_0
    try clear hcz9_1
    try clear hcz9_2
    try clear hfz7_0
    try clear hfz7_1
    try clear hfz7_2
    try clear hfz9_0
    try clear hfz9_1
    try clear hfz9_2
    obtain ⟨x4_1, x14_1, rfl, HA, HK1, HO_4, BK937, BK938, HB⟩ := hrel
    cases gk with
    | zero => exact absurd HA.out (by simp [spec_UsedOf.l0])
    | succ k1 =>
     have H := HA.out
     clear HA
     simp only [spec_UsedOf.l0] at H
     by_cases c10 : x14_1 < (l0_2.length : Int)
     ·rw [if_pos c10] at H
      have c10b0 : decide (x14_1 < (l0_2.length : Int)) = true := decide_eq_true c10
      clear c10
      by_cases c11 : 0 ≤ x14_1
      ·rw [if_pos c11] at H
       have c11b0 : decide (0 ≤ x14_1) = true := decide_eq_true c11
       clear c11
       by_cases c12 : x14_1 < (l0_2.length : Int)
       ·rw [if_pos c12] at H
        have c12b0 : decide (x14_1 < (l0_2.length : Int)) = true := decide_eq_true c12
        clear c12
        by_cases c13 : x4_1.length < 140737488355328
        ·rw [if_pos c13] at H
         have LMc13 := Aside0.mk c13
         clear c13
         obtain ⟨y941, hy941⟩ : ∃ y_ : List Bool, y_ = (x4_1 ++ [((rd l0_2 x14_1) != 3)]) := ⟨_, rfl⟩
         replace H : (spec_UsedOf.l0 k1 y941 l0_2 (l0_2.length : Int) (wrap64 (x14_1 + 1))) = some (r1, r2, r3, r4, r5) := by first | (rw [hy941]; with_reducible exact H) | (have H2_ := (Option.bind_some _ _).symm.trans H; rw [hy941]; with_reducible exact H2_) | (have H2_ := (Option.bind_some _ _).symm.trans H; with_reducible exact H2_) | with_reducible exact H | (rw [hy941]; exact H) | exact H
         have Ny941 := Aside0.mk hy941
         clear hy941
         have H' := Aside0.mk H
         clear H
         have p940 : 0 ≤ (x14_1 : Int) := of_decide_eq_true (by first | (with_reducible assumption) | assumption)
         have q940 : x14_1 < (l0_2.length : Int) := of_decide_eq_true (by first | (with_reducible assumption) | assumption)
         obtain ⟨ad940, e940, hx940_0⟩ := Kd.at_int HR0_2.out x14_1 p940 q940
         cases e940
         replace hx940_0 := (HB.out.cell (World.block_lt_of_cell? w _ hx940_0)).trans hx940_0
         replace p940 := eq_true p940
         replace q940 := eq_true q940
         go_wp2_with (first | ((with_reducible refine gate_builtin (b := .append) (xs := #[.tmp 18, .tmp 21]) rfl ?_); at_builtin; refine Kd.R_append Kd.bool (w0 := w) w.heap.size rfl (.tmp 18) (.tmp 21) 120 4 (.bool false) 1 rfl Try.underlying120 info4 rfl (by decide) (by omega) u4 x4_1 ((rd l0_2 x14_1) != 3) [.bool ((rd l0_2 x14_1) != 3)] (fun _ => True) (fun _ => False) rfl rfl ?aP (fun _ hk => hk.elim) ?aF ?aO ?aB ?aS ?aL ?_; (case aP => exact rfl); (case aB => exact (by repeat (first | (with_reducible first | exact HB.out | apply below_alloc | apply pw_below_drewN | apply below_drew1 | refine below_set ?_ GE937.out | refine below_set ?_ GE938.out) | exact HB.out))); (case aF => exact (fun _ _ => trivial)); (case aO => exact (by (with_reducible repeat (first | apply Kd.R_alloc | apply Kd.R_drewN | apply Kd.R_drew)); exact HO_4.out)); (case aS => exact (below_size (by repeat (first | (with_reducible first | exact HB.out | apply below_alloc | apply pw_below_drewN | apply below_drew1 | refine below_set ?_ GE937.out | refine below_set ?_ GE938.out) | exact HB.out)))); (case aL => have := LMc13.out; omega); intro v942 w14 ho hb hg hat; rw [← Ny941.out] at ho; have n0_ := Aside0.mk (blk_grown (g := gb937) (o := .cells #[.int .i64 a0_0, .int .i64 a0_1, .slice (some ad940) l0_2.length c0_2] 36 (0, 0)) (by (with_reducible repeat (first | refine blk_drewN ?_ _ | refine blk_drew ?_ | refine blk_alloc ?_ _)); exact BK937.out) hg (Kd.R_ne HO_4.out BK937.out (by decide))); have n1_ := Aside0.mk (blk_grown (g := gb938) (o := .cells #[.int .i64 0, .slice none 0 0, .slice none 0 0, .slice none 0 0] 85 (0, 0)) (by (with_reducible repeat (first | refine blk_drewN ?_ _ | refine blk_drew ?_ | refine blk_alloc ?_ _)); exact BK938.out) hg (Kd.R_ne HO_4.out BK938.out (by decide))); have n2_ := Aside0.mk (hb); have n3_ := Aside0.mk (ho); clear BK937; clear BK938; clear HB; clear HO_4; have BK937 := n0_; have BK938 := n1_; have HB := n2_; have HO943 := n3_; clear n0_ n1_ n2_ n3_; clear ho hb hg hat))
         go_roundg k1
         case measure => have := HK1.out; omega
         case rel => exact ⟨(y941), (wrap64 (x14_1 + 1)), (by first | rfl | (simp; done) | (simp [*]; done)), H', ⟨by have := HK1.out; omega⟩, ⟨by (with_reducible repeat (first | apply Kd.R_alloc | apply Kd.R_drewN | apply Kd.R_drew)); exact HO943.out⟩, ⟨by (with_reducible repeat (first | refine blk_drewN ?_ _ | refine blk_drew ?_ | refine blk_alloc ?_ _)); exact BK937.out⟩, ⟨by (with_reducible repeat (first | refine blk_drewN ?_ _ | refine blk_drew ?_ | refine blk_alloc ?_ _)); exact BK938.out⟩, ⟨by repeat (first | (with_reducible first | exact HB.out | apply below_alloc | apply pw_below_drewN | apply below_drew1 | refine below_set ?_ GE937.out | refine below_set ?_ GE938.out) | exact HB.out)⟩⟩
        ·rw [if_neg c13] at H
         exact absurd H (by simp)
       ·rw [if_neg c12] at H
        exact absurd H (by simp)
      ·rw [if_neg c11] at H
       exact absurd H (by simp)
     ·rw [if_neg c10] at H
      have c10b0 : decide (x14_1 < (l0_2.length : Int)) = false := decide_eq_false c10
      clear c10
      replace H := Option.bind_eq_some_iff.mp H
      obtain ⟨⟨t944, t945⟩, A150, H⟩ := H
      replace H : ((spec_raOf.f k1 t944 t945).bind fun bt948 => (some (bt948.1, bt948.2.1, bt948.2.2.1, bt948.2.2.2, true))) = some (r1, r2, r3, r4, r5) := H
      have A15 := Aside0.mk A150
      clear A150
      replace H := Option.bind_eq_some_iff.mp H
      obtain ⟨⟨t948, t949, t952, t955⟩, A160, H⟩ := H
      replace H : (some (t948, t949, t952, t955, true)) = some (r1, r2, r3, r4, r5) := H
      have A16 := Aside0.mk A160
      clear A160
      simp only [Option.some.injEq, Prod.mk.injEq] at H
      obtain ⟨rfl, rfl, rfl, rfl, rfl⟩ := H
      obtain ⟨Ao17, co17, eo17⟩ := Kd.R_slice HO_4.out
      subst eo17
      go_wp2_with (first | ((with_reducible refine gate_callee (f := 114) rfl ?_); refine goesL_ (some 25) rfl rfl Try.func114 (by kernel_rfl) rfl #[.slice Ao17 x4_1.length co17] rfl (by (try simp only [List.map_toArray, List.map_cons, List.map_nil]); first | done | rfl | (simp only [List.length_drop, List.length_take]; rfl)) ?_; (with_reducible refine (spec_biSome.calls k1 _ _ x4_1 t944 t945 _ ?side1 ?side2 A15.out).mono ?_); (case side1 => repeat (first | exact (Kd.R_reads' HO_4.out).2.2 | (with_reducible refine Kd.C_alloc ?_ _) | (with_reducible refine Kd.C_drewN ?_ _) | (with_reducible refine Kd.C_drew ?_))); (case side2 => exact (Kd.R_reads' HO_4.out).2.1); rintro e w18 ⟨v946, rfl, ho0, hb⟩; refine ⟨_, rfl, ?_⟩; have n0_ := Aside0.mk (Kd.R_below (by (with_reducible repeat (first | apply Kd.R_alloc | apply Kd.R_drewN | apply Kd.R_drew)); exact HO_4.out) hb); have n1_ := Aside0.mk (Kd.R_lower ho0 (below_size (by repeat (first | (with_reducible first | exact HB.out | apply below_alloc | apply pw_below_drewN | apply below_drew1 | refine below_set ?_ GE937.out | refine below_set ?_ GE938.out) | exact HB.out)))); have n2_ := Aside0.mk (blk_below (g := gb937) (o := .cells #[.int .i64 a0_0, .int .i64 a0_1, .slice A0_2 l0_2.length c0_2] 36 (0, 0)) (by (with_reducible repeat (first | refine blk_drewN ?_ _ | refine blk_drew ?_ | refine blk_alloc ?_ _)); exact BK937.out) hb); have n3_ := Aside0.mk (blk_below (g := gb938) (o := .cells #[.int .i64 0, .slice none 0 0, .slice none 0 0, .slice none 0 0] 85 (0, 0)) (by (with_reducible repeat (first | refine blk_drewN ?_ _ | refine blk_drew ?_ | refine blk_alloc ?_ _)); exact BK938.out) hb); have n4_ := Aside0.mk (below_step (by repeat (first | (with_reducible first | exact HB.out | apply below_alloc | apply pw_below_drewN | apply below_drew1 | refine below_set ?_ GE937.out | refine below_set ?_ GE938.out) | exact HB.out)) hb); clear HO_4; clear BK937; clear BK938; clear HB; have HO_4 := n0_; have HO947 := n1_; have BK937 := n2_; have BK938 := n3_; have HB := n4_; clear n0_ n1_ n2_ n3_ n4_; (try clear hb); (try clear hb2); (try clear hk); (try clear hi); (try clear ho0); obtain ⟨Ao19, co19, eo19⟩ := Kd.R_slice HO947.out; subst eo19) | ((with_reducible refine gate_callee (f := 113) rfl ?_); refine goesL_ (some 26) rfl rfl Try.func113 (by kernel_rfl) rfl #[.agg #[.int .i64 t944, .slice Ao19 t945.length co19]] rfl (by (try simp only [List.map_toArray, List.map_cons, List.map_nil]); first | done | rfl | (simp only [List.length_drop, List.length_take]; rfl)) ?_; (with_reducible refine (spec_raOf.calls k1 t944 _ _ t945 t948 t949 t952 t955 _ ?side1 ?side2 A16.out).mono ?_); (case side1 => repeat (first | exact (Kd.R_reads' HO947.out).2.2 | (with_reducible refine Kd.C_alloc ?_ _) | (with_reducible refine Kd.C_drewN ?_ _) | (with_reducible refine Kd.C_drew ?_))); (case side2 => exact (Kd.R_reads' HO947.out).2.1); rintro e w20 ⟨v950, v953, v956, rfl, ho0, ho1, ho2, hb⟩; refine ⟨_, rfl, ?_⟩; have n0_ := Aside0.mk (Kd.R_below (by (with_reducible repeat (first | apply Kd.R_alloc | apply Kd.R_drewN | apply Kd.R_drew)); exact HO_4.out) hb); have n1_ := Aside0.mk (Kd.R_mono (Kd.R_told (Kd.R_told (Kd.R_told (Kd.R_old (by (with_reducible repeat (first | apply Kd.R_alloc | apply Kd.R_drewN | apply Kd.R_drew)); exact HO947.out) hb) (Kd.R_base ho0)) (Kd.R_base ho1)) (Kd.R_base ho2)) (fun _ h_ => h_.1)); have n2_ := Aside0.mk (Kd.R_lower (Kd.R_new' ho0 (Kd.R_lt (by (with_reducible repeat (first | apply Kd.R_alloc | apply Kd.R_drewN | apply Kd.R_drew)); exact HO947.out))) (below_size (by repeat (first | (with_reducible first | exact HB.out | apply below_alloc | apply pw_below_drewN | apply below_drew1 | refine below_set ?_ GE937.out | refine below_set ?_ GE938.out) | exact HB.out)))); have n3_ := Aside0.mk (Kd.R_lower (Kd.R_new' ho1 (Kd.R_lt (by (with_reducible repeat (first | apply Kd.R_alloc | apply Kd.R_drewN | apply Kd.R_drew)); exact HO947.out))) (below_size (by repeat (first | (with_reducible first | exact HB.out | apply below_alloc | apply pw_below_drewN | apply below_drew1 | refine below_set ?_ GE937.out | refine below_set ?_ GE938.out) | exact HB.out)))); have n4_ := Aside0.mk (Kd.R_lower (Kd.R_new' ho2 (Kd.R_lt (by (with_reducible repeat (first | apply Kd.R_alloc | apply Kd.R_drewN | apply Kd.R_drew)); exact HO947.out))) (below_size (by repeat (first | (with_reducible first | exact HB.out | apply below_alloc | apply pw_below_drewN | apply below_drew1 | refine below_set ?_ GE937.out | refine below_set ?_ GE938.out) | exact HB.out)))); have n5_ := Aside0.mk (blk_below (g := gb937) (o := .cells #[.int .i64 a0_0, .int .i64 a0_1, .slice A0_2 l0_2.length c0_2] 36 (0, 0)) (by (with_reducible repeat (first | refine blk_drewN ?_ _ | refine blk_drew ?_ | refine blk_alloc ?_ _)); exact BK937.out) hb); have n6_ := Aside0.mk (blk_below (g := gb938) (o := .cells #[.int .i64 0, .slice none 0 0, .slice none 0 0, .slice none 0 0] 85 (0, 0)) (by (with_reducible repeat (first | refine blk_drewN ?_ _ | refine blk_drew ?_ | refine blk_alloc ?_ _)); exact BK938.out) hb); have n7_ := Aside0.mk (below_step (by repeat (first | (with_reducible first | exact HB.out | apply below_alloc | apply pw_below_drewN | apply below_drew1 | refine below_set ?_ GE937.out | refine below_set ?_ GE938.out) | exact HB.out)) hb); clear HO_4; clear HO947; clear BK937; clear BK938; clear HB; have HO_4 := n0_; have HO947 := n1_; have HO951 := n2_; have HO954 := n3_; have HO957 := n4_; have BK937 := n5_; have BK938 := n6_; have HB := n7_; clear n0_ n1_ n2_ n3_ n4_ n5_ n6_ n7_; (try clear hb); (try clear hb2); (try clear hk); (try clear hi); (try clear ho0); (try clear ho1); (try clear ho2); have hnb21 := NB938_937.out; have hnc21 := NB937_938.out; have hcz22_0 : w20.cell? ⟨gb938, 0, none⟩ = some (.int .i64 0) := (blk_cell BK938.out 0).trans rfl; have hcz22_1 : w20.cell? ⟨gb938, 1, none⟩ = some (.slice none 0 0) := (blk_cell BK938.out 1).trans rfl; have hcz22_2 : w20.cell? ⟨gb938, 2, none⟩ = some (.slice none 0 0) := (blk_cell BK938.out 2).trans rfl; have hcz22_3 : w20.cell? ⟨gb938, 3, none⟩ = some (.slice none 0 0) := (blk_cell BK938.out 3).trans rfl; have hfz22_0 := blk_frozen BK938.out 0; have hfz22_1 := blk_frozen BK938.out 1; have hfz22_2 := blk_frozen BK938.out 2; have hfz22_3 := blk_frozen BK938.out 3; obtain ⟨Ao23, co23, eo23⟩ := Kd.R_slice HO951.out; subst eo23; obtain ⟨Ao24, co24, eo24⟩ := Kd.R_slice HO954.out; subst eo24; obtain ⟨Ao25, co25, eo25⟩ := Kd.R_slice HO957.out; subst eo25))
      refine bodyPost_ret (results_ct rfl _ _ gb938 85 #[.int .i64 t948, .slice Ao23 t949.length co23, .slice Ao24 t952.length co24, .slice Ao25 t955.length co25] (0, 0) _ rfl (by (with_reducible repeat (first | refine blk_drewN ?_ _ | refine blk_drew ?_ | refine blk_alloc ?_ _)); refine blk_put (cs := #[.int .i64 t948, .slice Ao23 t949.length co23, .slice Ao24 t952.length co24, .slice none 0 0]) ?_ 3 _ rfl; (with_reducible repeat (first | refine blk_drewN ?_ _ | refine blk_drew ?_ | refine blk_alloc ?_ _)); refine blk_put (cs := #[.int .i64 t948, .slice Ao23 t949.length co23, .slice none 0 0, .slice none 0 0]) ?_ 2 _ rfl; (with_reducible repeat (first | refine blk_drewN ?_ _ | refine blk_drew ?_ | refine blk_alloc ?_ _)); refine blk_put (cs := #[.int .i64 t948, .slice none 0 0, .slice none 0 0, .slice none 0 0]) ?_ 1 _ rfl; (with_reducible repeat (first | refine blk_drewN ?_ _ | refine blk_drew ?_ | refine blk_alloc ?_ _)); refine blk_put (cs := #[.int .i64 0, .slice none 0 0, .slice none 0 0, .slice none 0 0]) ?_ 0 _ rfl; (with_reducible repeat (first | refine blk_drewN ?_ _ | refine blk_drew ?_ | refine blk_alloc ?_ _)); exact BK938.out) Try.underlying85 rfl (by kernel_rfl)) rfl ?_
      exact ⟨_, _, _, by first | rfl | (simp [errW_none, errW_some] <;> rfl) | (simp [*, errW_none, errW_some] <;> rfl), by (with_reducible repeat (first | apply Kd.R_alloc | apply Kd.R_drewN | apply Kd.R_drew)); exact Kd.R_mono (Kd.R_far (p := ⟨gb938, 3, none⟩) (Kd.R_far (p := ⟨gb938, 2, none⟩) (Kd.R_far (p := ⟨gb938, 1, none⟩) (Kd.R_far (p := ⟨gb938, 0, none⟩) (Kd.R_types HO951.out BK938.out (by decide)) (fun _ hk => hk.2) (.int .i64 t948)) (fun _ hk => hk.2) (.slice Ao23 t949.length co23)) (fun _ hk => hk.2) (.slice Ao24 t952.length co24)) (fun _ hk => hk.2) (.slice Ao25 t955.length co25)) (fun _ hk => ⟨hk.1.1.1, hk.1.1.2⟩), by (with_reducible repeat (first | apply Kd.R_alloc | apply Kd.R_drewN | apply Kd.R_drew)); exact Kd.R_mono (Kd.R_far (p := ⟨gb938, 3, none⟩) (Kd.R_far (p := ⟨gb938, 2, none⟩) (Kd.R_far (p := ⟨gb938, 1, none⟩) (Kd.R_far (p := ⟨gb938, 0, none⟩) (Kd.R_types HO954.out BK938.out (by decide)) (fun _ hk => hk.2) (.int .i64 t948)) (fun _ hk => hk.2) (.slice Ao23 t949.length co23)) (fun _ hk => hk.2) (.slice Ao24 t952.length co24)) (fun _ hk => hk.2) (.slice Ao25 t955.length co25)) (fun _ hk => ⟨hk.1.1.1, hk.1.1.2⟩), by (with_reducible repeat (first | apply Kd.R_alloc | apply Kd.R_drewN | apply Kd.R_drew)); exact Kd.R_mono (Kd.R_far (p := ⟨gb938, 3, none⟩) (Kd.R_far (p := ⟨gb938, 2, none⟩) (Kd.R_far (p := ⟨gb938, 1, none⟩) (Kd.R_far (p := ⟨gb938, 0, none⟩) (Kd.R_types HO957.out BK938.out (by decide)) (fun _ hk => hk.2) (.int .i64 t948)) (fun _ hk => hk.2) (.slice Ao23 t949.length co23)) (fun _ hk => hk.2) (.slice Ao24 t952.length co24)) (fun _ hk => hk.2) (.slice Ao25 t955.length co25)) (fun _ hk => ⟨hk.1.1.1, hk.1.1.2⟩), by repeat (first | (with_reducible first | exact HB.out | apply below_alloc | apply pw_below_drewN | apply below_drew1 | refine below_set ?_ GE937.out | refine below_set ?_ GE938.out) | exact HB.out)⟩
  ·replace c3 := Bool.eq_false_iff.mpr c3
   subst c3
   have H1 : (some (0, ([] : List Int), ([] : List Int), ([] : List Int), false)) = some (r1, r2, r3, r4, r5) := by rw [if_neg (show ¬ (false = true) by decide)] at H; exact H
   clear H
   have H := H1
   clear H1
   simp only [Option.some.injEq, Prod.mk.injEq] at H
   obtain ⟨rfl, rfl, rfl, rfl, rfl⟩ := H
   go_enter Try.func63, Try.ntmps63
   go_wp2_with (first | ((with_reducible refine gate_dst (N := 1) rfl ?_); refine box_event ?hg (N := 1) ?hd (cs := #[.int .i64 a0_0, .int .i64 a0_1, .slice A0_2 l0_2.length c0_2]) (t := 36) ?hr ?_; (case hd => rfl); (case hg => rfl); (case hr => first | (go_simp; done) | (go_simp; rfl)); intro gb937 hg w26 hbox hb; have n0_ := Aside0.mk (below_step (by repeat (first | (with_reducible first | exact HB.out | apply below_alloc | apply pw_below_drewN | apply below_drew1) | exact HB.out)) hb); have n1_ := Aside0.mk (hbox); have n2_ := Aside0.mk ((by rw [hg]; exact (below_size (by repeat (first | (with_reducible first | exact HB.out | apply below_alloc | apply pw_below_drewN | apply below_drew1) | exact HB.out))) : w.heap.size ≤ gb937)); have n3_ := Aside0.mk ((by rw [hg]; exact (below_size (by repeat (first | (with_reducible first | exact HB.out | apply below_alloc | apply pw_below_drewN | apply below_drew1) | exact HB.out))) : w.heap.size ≤ gb937)); clear HB; have HB := n0_; have BK937 := n1_; have GW937 := n2_; have GE937 := n3_; clear n0_ n1_ n2_ n3_; clear hb hbox hg) | ((with_reducible refine gate_dst (N := 2) rfl ?_); refine box_event ?hg (N := 2) ?hd (cs := #[.int .i64 0, .slice none 0 0, .slice none 0 0, .slice none 0 0]) (t := 85) ?hr ?_; (case hd => rfl); (case hg => rfl); (case hr => first | (go_simp; done) | (go_simp; rfl)); intro gb938 hg w27 hbox hb; have n0_ := Aside0.mk (blk_below (g := gb937) (o := .cells #[.int .i64 a0_0, .int .i64 a0_1, .slice A0_2 l0_2.length c0_2] 36 (0, 0)) (by (with_reducible repeat (first | refine blk_drewN ?_ _ | refine blk_drew ?_ | refine blk_alloc ?_ _)); exact BK937.out) hb); have n1_ := Aside0.mk (below_step (by repeat (first | (with_reducible first | exact HB.out | apply below_alloc | apply pw_below_drewN | apply below_drew1 | refine below_set ?_ GE937.out) | exact HB.out)) hb); have n2_ := Aside0.mk (hbox); have n3_ := Aside0.mk ((by rw [hg]; exact (below_size (by repeat (first | (with_reducible first | exact HB.out | apply below_alloc | apply pw_below_drewN | apply below_drew1 | refine below_set ?_ GE937.out) | exact HB.out))) : w.heap.size ≤ gb938)); have n4_ := Aside0.mk ((by rw [hg]; exact (below_size (by repeat (first | (with_reducible first | exact HB.out | apply below_alloc | apply pw_below_drewN | apply below_drew1 | refine below_set ?_ GE937.out) | exact HB.out))) : w.heap.size ≤ gb938)); have n5_ := Aside0.mk ((by rw [hg]; exact Nat.ne_of_lt (blk_lt (g := gb937) (o := .cells #[.int .i64 a0_0, .int .i64 a0_1, .slice A0_2 l0_2.length c0_2] 36 (0, 0)) (by (with_reducible repeat (first | refine blk_drewN ?_ _ | refine blk_drew ?_ | refine blk_alloc ?_ _)); exact BK937.out)) : gb937 ≠ gb938)); have n6_ := Aside0.mk ((by rw [hg]; exact Nat.ne_of_gt (blk_lt (g := gb937) (o := .cells #[.int .i64 a0_0, .int .i64 a0_1, .slice A0_2 l0_2.length c0_2] 36 (0, 0)) (by (with_reducible repeat (first | refine blk_drewN ?_ _ | refine blk_drew ?_ | refine blk_alloc ?_ _)); exact BK937.out)) : gb938 ≠ gb937)); clear BK937; clear HB; have BK937 := n0_; have HB := n1_; have BK938 := n2_; have GW938 := n3_; have GE938 := n4_; have NB937_938 := n5_; have NB938_937 := n6_; clear n0_ n1_ n2_ n3_ n4_ n5_ n6_; clear hb hbox hg; have hnb28 := NB937_938.out; have hnc28 := NB938_937.out; have hcz29_0 : w27.cell? ⟨gb937, 0, none⟩ = some (.int .i64 a0_0) := (blk_cell BK937.out 0).trans rfl; have hcz29_1 : w27.cell? ⟨gb937, 1, none⟩ = some (.int .i64 a0_1) := (blk_cell BK937.out 1).trans rfl; have hcz29_2 : w27.cell? ⟨gb937, 2, none⟩ = some (.slice A0_2 l0_2.length c0_2) := (blk_cell BK937.out 2).trans rfl; have hfz29_0 := blk_frozen BK937.out 0; have hfz29_1 := blk_frozen BK937.out 1; have hfz29_2 := blk_frozen BK937.out 2) | ((with_reducible refine gate_callee (f := 92) rfl ?_); refine goesL_ (some 8) rfl rfl Try.func92 (by kernel_rfl) rfl #[.agg #[.int .i64 a0_0, .int .i64 a0_1, .slice A0_2 l0_2.length c0_2]] rfl (by (try simp only [List.map_toArray, List.map_cons, List.map_nil]); first | done | rfl | (simp only [List.length_drop, List.length_take]; rfl)) ?_; (with_reducible refine (spec_pfPeeled.calls k a0_0 a0_1 _ _ l0_2 false _ ?side1 ?side2 A2.out).mono ?_); (case side1 => repeat (first | exact (Kd.C_below HR0_2.out HB.out) | (with_reducible refine Kd.C_alloc ?_ _) | (with_reducible refine Kd.C_drewN ?_ _) | (with_reducible refine Kd.C_drew ?_))); (case side2 => exact HC0_2.out); rintro e w30 ⟨rfl, hb⟩; refine ⟨_, rfl, ?_⟩; have n0_ := Aside0.mk (blk_below (g := gb937) (o := .cells #[.int .i64 a0_0, .int .i64 a0_1, .slice A0_2 l0_2.length c0_2] 36 (0, 0)) (by (with_reducible repeat (first | refine blk_drewN ?_ _ | refine blk_drew ?_ | refine blk_alloc ?_ _)); exact BK937.out) hb); have n1_ := Aside0.mk (blk_below (g := gb938) (o := .cells #[.int .i64 0, .slice none 0 0, .slice none 0 0, .slice none 0 0] 85 (0, 0)) (by (with_reducible repeat (first | refine blk_drewN ?_ _ | refine blk_drew ?_ | refine blk_alloc ?_ _)); exact BK938.out) hb); have n2_ := Aside0.mk (below_step (by repeat (first | (with_reducible first | exact HB.out | apply below_alloc | apply pw_below_drewN | apply below_drew1 | refine below_set ?_ GE937.out | refine below_set ?_ GE938.out) | exact HB.out)) hb); clear BK937; clear BK938; clear HB; have BK937 := n0_; have BK938 := n1_; have HB := n2_; clear n0_ n1_ n2_; (try clear hb); (try clear hb2); (try clear hk); (try clear hi); have hcz31_0 : w30.cell? ⟨gb938, 0, none⟩ = some (.int .i64 0) := (blk_cell BK938.out 0).trans rfl; have hcz31_1 : w30.cell? ⟨gb938, 1, none⟩ = some (.slice none 0 0) := (blk_cell BK938.out 1).trans rfl; have hcz31_2 : w30.cell? ⟨gb938, 2, none⟩ = some (.slice none 0 0) := (blk_cell BK938.out 2).trans rfl; have hcz31_3 : w30.cell? ⟨gb938, 3, none⟩ = some (.slice none 0 0) := (blk_cell BK938.out 3).trans rfl; have hfz31_0 := blk_frozen BK938.out 0; have hfz31_1 := blk_frozen BK938.out 1; have hfz31_2 := blk_frozen BK938.out 2; have hfz31_3 := blk_frozen BK938.out 3))
   refine bodyPost_ret (results_ct rfl _ _ gb938 85 #[.int .i64 0, .slice none 0 0, .slice none 0 0, .slice none 0 0] (0, 0) _ rfl (by (with_reducible repeat (first | refine blk_drewN ?_ _ | refine blk_drew ?_ | refine blk_alloc ?_ _)); refine blk_put (cs := #[.int .i64 0, .slice none 0 0, .slice none 0 0, .slice none 0 0]) ?_ 3 _ rfl; (with_reducible repeat (first | refine blk_drewN ?_ _ | refine blk_drew ?_ | refine blk_alloc ?_ _)); refine blk_put (cs := #[.int .i64 0, .slice none 0 0, .slice none 0 0, .slice none 0 0]) ?_ 2 _ rfl; (with_reducible repeat (first | refine blk_drewN ?_ _ | refine blk_drew ?_ | refine blk_alloc ?_ _)); refine blk_put (cs := #[.int .i64 0, .slice none 0 0, .slice none 0 0, .slice none 0 0]) ?_ 1 _ rfl; (with_reducible repeat (first | refine blk_drewN ?_ _ | refine blk_drew ?_ | refine blk_alloc ?_ _)); refine blk_put (cs := #[.int .i64 0, .slice none 0 0, .slice none 0 0, .slice none 0 0]) ?_ 0 _ rfl; (with_reducible repeat (first | refine blk_drewN ?_ _ | refine blk_drew ?_ | refine blk_alloc ?_ _)); exact BK938.out) Try.underlying85 rfl (by kernel_rfl)) rfl ?_
   exact ⟨_, _, _, by first | rfl | (simp [errW_none, errW_some] <;> rfl) | (simp [*, errW_none, errW_some] <;> rfl), by first | exact Kd.R_nil _ _ _ _ _ | exact Kd.N_nil _ _ _ _ _ | exact Kd.V_nil _ _ _ _ _ | exact Kd.Q_nil _ _ _ _ _ | exact Kd.S_nil _ _ _ _ _, by first | exact Kd.R_nil _ _ _ _ _ | exact Kd.N_nil _ _ _ _ _ | exact Kd.V_nil _ _ _ _ _ | exact Kd.Q_nil _ _ _ _ _ | exact Kd.S_nil _ _ _ _ _, by first | exact Kd.R_nil _ _ _ _ _ | exact Kd.N_nil _ _ _ _ _ | exact Kd.V_nil _ _ _ _ _ | exact Kd.Q_nil _ _ _ _ _ | exact Kd.S_nil _ _ _ _ _, by repeat (first | (with_reducible first | exact HB.out | apply below_alloc | apply pw_below_drewN | apply below_drew1 | refine below_set ?_ GE937.out | refine below_set ?_ GE938.out) | exact HB.out)⟩
/-! ### slices_Clone_int_int: function 148 -/
def slices_Clone_int_int.f (l0 : List Int) : Option (List Int) := if l0.length < 17592186044416 then (some l0) else (none)
set_option maxHeartbeats 8000000 in
set_option maxRecDepth 100000 in
theorem slices_Clone_int_int.calls (A0 : Option Addr) (c0 : Nat) (l0 : List Int) (r : List Int) (w : World) (hr0 : Kd.C ((Kd.int .i64)) w A0 l0.length l0) (hc0 : l0.length ≤ c0) (h : slices_Clone_int_int.f l0 = some r) :
    Calls Try.prog 148 #[.slice A0 l0.length c0] w fun e w' => ∃ v0_ : Value, e = .returned (v0_) ∧ Kd.R ((Kd.int .i64)) 3 w' w.heap.size (fun _ => True) v0_ r ∧ Below w.heap.size w w' := by
  have HR0 := Aside0.mk hr0
  have HC0 := Aside0.mk hc0
  have hnil : A0 = none → l0 = [] := by
    rintro rfl
    rcases Nat.eq_zero_or_pos l0.length with h0 | h0
    · exact List.length_eq_zero_iff.1 h0
    · obtain ⟨ad, e, _⟩ := hr0.2.2 h0; cases e
  clear hr0 hc0
  have HB := Aside0.mk (Below.refl w.heap.size w)
  unfold slices_Clone_int_int.f at h
  by_cases c2 : l0.length < 17592186044416
  ·rw [if_pos c2] at h
   have LMc2 := Aside0.mk c2
   clear c2
   obtain rfl := Option.some.inj h
   clear h
   cases A0 with
   | none =>
    obtain rfl := hnil rfl
    have heq : ∀ W : World, (binOp .eql 22 (.slice none 0 c0) (.slice none 0 0)).run Try.prog W = .ok (.bool true) W := fun W => Go.Lib.run_eql_slice_nil W 22 3 none 0 c0 0 0 Try.underlying22
    go_enter Try.func148, Try.ntmps148
    go_wp2
    go_ret
    exact ⟨_, rfl, Kd.R_nil _ _ _ _ _, HB.out⟩
   | some ad0 =>
    clear hnil
    have heq : ∀ W : World, (binOp .eql 22 (.slice (some ad0) l0.length c0) (.slice none 0 0)).run Try.prog W = .ok (.bool false) W := fun W => Go.Lib.run_eql_slice_nil W 22 3 (some ad0) l0.length c0 0 0 Try.underlying22
    go_enter Try.func148, Try.ntmps148
    go_wp2_with (first | ((with_reducible refine gate_dst (N := 5) rfl ?_); refine Kd.R_lit ((Kd.int .i64)) _ 3 ?hg (N := 5) ?hd (xs := ([] : List Int)) (inner := []) (ok := fun _ => True) (okp := fun _ => True) ?hr ?hp (fun _ hk => hk) trivial (Below.refl _ _) (Nat.le_refl _) (by simp) ?_; (case hd => rfl); (case hg => rfl); (case hr => first | (go_simp; done) | (go_simp; rfl)); (case hp => exact (Reps.none _ _)); intro v387 w3 ho4 hb hg_ hnew_; clear hg_ hnew_; have n0_ := Aside0.mk (Kd.R_lower ho4 (below_size HB.out)); have n1_ := Aside0.mk (below_step HB.out hb); clear HB; have HO388 := n0_; have HB := n1_; clear n0_ n1_; clear hb ho4) | ((with_reducible refine gate_builtin (b := .append) (xs := #[.tmp 5, .tmp 6]) rfl ?_); at_builtin; refine Kd.R_append_rows ((Kd.int .i64)) (w0 := w) w.heap.size rfl (.tmp 5) (.tmp 6) 22 3 ((.int .i64 0)) 8 rfl Try.underlying22 info3 rfl (by decide) (by omega) v387 [] l0 _ _ _ (fun _ => True) (fun _ => False) rfl rfl ?aO ?aR (fun _ _ h => h) (fun _ h => h.elim) ?aF ?aB ?aS ?aL ?_; (case aR => repeat (first | exact (Kd.C_below HR0.out HB.out) | (with_reducible refine Kd.C_alloc ?_ _) | (with_reducible refine Kd.C_drewN ?_ _) | (with_reducible refine Kd.C_drew ?_))); (case aB => exact HB.out); (case aF => exact (fun _ _ => trivial)); (case aO => exact HO388.out); (case aS => exact below_size HB.out); (case aL => have := LMc2.out; simp; omega); intro v390 w5 ho hb hg hat; rw [List.nil_append] at ho; have n0_ := Aside0.mk (hb); have n1_ := Aside0.mk (ho); clear HB; clear HO388; have HB := n0_; have HO391 := n1_; clear n0_ n1_; clear ho hb hg hat))
    go_ret
    exact ⟨_, rfl, HO391.out, HB.out⟩
  ·rw [if_neg c2] at h
   exact absurd h (by simp)
/-! ### impl_cloneBits: function 143 -/
def impl_cloneBits.f (a0_0 : Int) (l0_1 : List Int) : Option (Int × List Int) := (slices_Clone_int_int.f l0_1).bind fun t960 => (some (a0_0, t960))
set_option maxHeartbeats 8000000 in
set_option maxRecDepth 100000 in
theorem impl_cloneBits.calls (a0_0 : Int) (A0_1 : Option Addr) (c0_1 : Nat) (l0_1 : List Int) (r1 : Int) (r2 : List Int) (w : World) (hr0_1 : Kd.C (Kd.int .i64) w A0_1 l0_1.length l0_1) (hc0_1 : l0_1.length ≤ c0_1) (h : impl_cloneBits.f a0_0 l0_1 = some (r1, r2)) :
    Calls Try.prog 143 #[.agg #[.int .i64 a0_0, .slice A0_1 l0_1.length c0_1]] w fun e w' => ∃ v1_ : Value, e = .returned (.agg #[.int .i64 r1, v1_]) ∧ Kd.R (Kd.int .i64) 3 w' w.heap.size (fun _ => True) v1_ r2 ∧ Below w.heap.size w w' := by
  have hu39 := Try.underlying39
  have HR0_1 := Aside0.mk hr0_1
  have HC0_1 := Aside0.mk hc0_1
  clear hr0_1 hc0_1
  have HB := Aside0.mk (Below.refl w.heap.size w)
  have H : ((slices_Clone_int_int.f l0_1).bind fun t960 => (some (a0_0, t960))) = some (r1, r2) := h
  clear h
  replace H := Option.bind_eq_some_iff.mp H
  obtain ⟨t960, A20, H⟩ := H
  replace H : (some (a0_0, t960)) = some (r1, r2) := H
  have A2 := Aside0.mk A20
  clear A20
  simp only [Option.some.injEq, Prod.mk.injEq] at H
  obtain ⟨rfl, rfl⟩ := H
  go_enter Try.func143, Try.ntmps143
  try go_wp2_with (first | ((with_reducible refine gate_dst (N := 1) rfl ?_); refine box_event ?hg (N := 1) ?hd (cs := #[.int .i64 a0_0, .slice A0_1 l0_1.length c0_1]) (t := 39) ?hr ?_; (case hd => rfl); (case hg => rfl); (case hr => first | (go_simp; done) | (go_simp; rfl)); intro gb958 hg w3 hbox hb; have n0_ := Aside0.mk (below_step (by repeat (first | (with_reducible first | exact HB.out | apply below_alloc | apply pw_below_drewN | apply below_drew1) | exact HB.out)) hb); have n1_ := Aside0.mk (hbox); have n2_ := Aside0.mk ((by rw [hg]; exact (below_size (by repeat (first | (with_reducible first | exact HB.out | apply below_alloc | apply pw_below_drewN | apply below_drew1) | exact HB.out))) : w.heap.size ≤ gb958)); have n3_ := Aside0.mk ((by rw [hg]; exact (below_size (by repeat (first | (with_reducible first | exact HB.out | apply below_alloc | apply pw_below_drewN | apply below_drew1) | exact HB.out))) : w.heap.size ≤ gb958)); clear HB; have HB := n0_; have BK958 := n1_; have GW958 := n2_; have GE958 := n3_; clear n0_ n1_ n2_ n3_; clear hb hbox hg) | ((with_reducible refine gate_dst (N := 2) rfl ?_); refine box_event ?hg (N := 2) ?hd (cs := #[.int .i64 0, .slice none 0 0]) (t := 39) ?hr ?_; (case hd => rfl); (case hg => rfl); (case hr => first | (go_simp; done) | (go_simp; rfl)); intro gb959 hg w4 hbox hb; have n0_ := Aside0.mk (blk_below (g := gb958) (o := .cells #[.int .i64 a0_0, .slice A0_1 l0_1.length c0_1] 39 (0, 0)) (by (with_reducible repeat (first | refine blk_drewN ?_ _ | refine blk_drew ?_ | refine blk_alloc ?_ _)); exact BK958.out) hb); have n1_ := Aside0.mk (below_step (by repeat (first | (with_reducible first | exact HB.out | apply below_alloc | apply pw_below_drewN | apply below_drew1 | refine below_set ?_ GE958.out) | exact HB.out)) hb); have n2_ := Aside0.mk (hbox); have n3_ := Aside0.mk ((by rw [hg]; exact (below_size (by repeat (first | (with_reducible first | exact HB.out | apply below_alloc | apply pw_below_drewN | apply below_drew1 | refine below_set ?_ GE958.out) | exact HB.out))) : w.heap.size ≤ gb959)); have n4_ := Aside0.mk ((by rw [hg]; exact (below_size (by repeat (first | (with_reducible first | exact HB.out | apply below_alloc | apply pw_below_drewN | apply below_drew1 | refine below_set ?_ GE958.out) | exact HB.out))) : w.heap.size ≤ gb959)); have n5_ := Aside0.mk ((by rw [hg]; exact Nat.ne_of_lt (blk_lt (g := gb958) (o := .cells #[.int .i64 a0_0, .slice A0_1 l0_1.length c0_1] 39 (0, 0)) (by (with_reducible repeat (first | refine blk_drewN ?_ _ | refine blk_drew ?_ | refine blk_alloc ?_ _)); exact BK958.out)) : gb958 ≠ gb959)); have n6_ := Aside0.mk ((by rw [hg]; exact Nat.ne_of_gt (blk_lt (g := gb958) (o := .cells #[.int .i64 a0_0, .slice A0_1 l0_1.length c0_1] 39 (0, 0)) (by (with_reducible repeat (first | refine blk_drewN ?_ _ | refine blk_drew ?_ | refine blk_alloc ?_ _)); exact BK958.out)) : gb959 ≠ gb958)); clear BK958; clear HB; have BK958 := n0_; have HB := n1_; have BK959 := n2_; have GW959 := n3_; have GE959 := n4_; have NB958_959 := n5_; have NB959_958 := n6_; clear n0_ n1_ n2_ n3_ n4_ n5_ n6_; clear hb hbox hg))
  have n0_ := Aside0.mk (blk_drew BK958.out)
  have n1_ := Aside0.mk (blk_drew BK959.out)
  have n2_ := Aside0.mk (below_drew1 HB.out)
  clear BK958
  clear BK959
  clear HB
  have BK958 := n0_
  have BK959 := n1_
  have HB := n2_
  clear n0_ n1_ n2_
  refine start_ (n := 7) (S := fun w' => w'.cell? ⟨gb958, 0, none⟩ = some (.int .i64 a0_0) ∧ w'.cell? ⟨gb958, 1, none⟩ = some (.slice A0_1 l0_1.length c0_1)) (ds := []) #[false, false, false, false, false, false, false] (by kernel_rfl) rfl rfl ⟨(blk_cell BK958.out 0).trans rfl, (blk_cell BK958.out 1).trans rfl⟩ (fun hHeld => ?_)
  generalize w4.drew = w5 at BK958 BK959 HB hHeld ⊢
  refine pure_ (i := 0) (N := some 3) (v := ?_) (a' := ?_) (bsA 7 1) rfl rfl (by kernel_rfl) (fun _ _ _ h => h) (Or.inl ⟨by rfl, ?_⟩) ?_ ?_
  rotate_left
  ·intro w'
   go_simp
   with_reducible rfl
  rotate_left
  ·simp only [Act.put, List.setIfInBounds_toArray, List.set_cons_zero, List.set_cons_succ, i64_w]
   rfl
  refine pure_ (i := 2) (N := some 5) (v := ?_) (a' := ?_) (bsA 7 5) rfl rfl (by kernel_rfl) (fun _ _ _ h => h) (Or.inl ⟨by rfl, ?_⟩) ?_ ?_
  rotate_left
  ·intro w'
   go_simp
   with_reducible rfl
  rotate_left
  ·simp only [Act.put, List.setIfInBounds_toArray, List.set_cons_zero, List.set_cons_succ, i64_w]
   rfl
  refine take_ (i := 1) (N := some 4) (v := ?_) (a' := ?_) (bsA 7 7) rfl rfl (by kernel_rfl) (fun _ _ _ h => h) (Or.inl ⟨by rfl, ?_⟩) hHeld ?_ ?_
  rotate_left
  ·rintro w' ⟨s0, s1⟩
   go_simp
   with_reducible rfl
  rotate_left
  ·simp only [Act.put, List.setIfInBounds_toArray, List.set_cons_zero, List.set_cons_succ, i64_w]
   rfl
  refine take_ (i := 3) (N := some 6) (v := ?_) (a' := ?_) (bsA 7 15) rfl rfl (by kernel_rfl) (fun _ _ _ h => h) (Or.inl ⟨by rfl, ?_⟩) hHeld ?_ ?_
  rotate_left
  ·rintro w' ⟨s0, s1⟩
   go_simp
   with_reducible rfl
  rotate_left
  ·simp only [Act.put, List.setIfInBounds_toArray, List.set_cons_zero, List.set_cons_succ, i64_w]
   rfl
  refine one_ (i := 4) (N := some 7) (bsA 7 31) rfl rfl (by kernel_rfl) (by decide) (fun K hK => ?_)
  refine goes_ Try.func148 (by kernel_rfl) rfl #[.slice A0_1 l0_1.length c0_1] (by rfl) rfl rfl (by (try simp only [List.map_toArray, List.map_cons, List.map_nil]); first | done | rfl | (simp only [List.length_drop, List.length_take]; rfl)) ?_
  with_reducible refine (slices_Clone_int_int.calls _ _ l0_1 t960 _ ?side1 ?side2 A2.out).mono ?_
  (case side1 => repeat (first | exact (Kd.C_below HR0_1.out HB.out) | (with_reducible refine Kd.C_alloc ?_ _) | (with_reducible refine Kd.C_drewN ?_ _) | (with_reducible refine Kd.C_drew ?_)))
  (case side2 => exact HC0_1.out)
  rintro e w6 ⟨v961, rfl, ho0, hb⟩
  refine ⟨_, rfl, ?_⟩
  have n0_ := Aside0.mk (Kd.R_lower ho0 (below_size (by repeat (first | (with_reducible first | exact HB.out | apply below_alloc | apply pw_below_drewN | apply below_drew1 | refine below_set ?_ GE958.out | refine below_set ?_ GE959.out) | exact HB.out))))
  have n1_ := Aside0.mk (blk_below (g := gb958) (o := .cells #[.int .i64 a0_0, .slice A0_1 l0_1.length c0_1] 39 (0, 0)) (by (with_reducible repeat (first | refine blk_drewN ?_ _ | refine blk_drew ?_ | refine blk_alloc ?_ _)); exact BK958.out) hb)
  have n2_ := Aside0.mk (blk_below (g := gb959) (o := .cells #[.int .i64 0, .slice none 0 0] 39 (0, 0)) (by (with_reducible repeat (first | refine blk_drewN ?_ _ | refine blk_drew ?_ | refine blk_alloc ?_ _)); exact BK959.out) hb)
  have n3_ := Aside0.mk (below_step (by repeat (first | (with_reducible first | exact HB.out | apply below_alloc | apply pw_below_drewN | apply below_drew1 | refine below_set ?_ GE958.out | refine below_set ?_ GE959.out) | exact HB.out)) hb)
  clear BK958
  clear BK959
  clear HB
  have HO962 := n0_
  have BK958 := n1_
  have BK959 := n2_
  have HB := n3_
  clear n0_ n1_ n2_ n3_
  (try clear hb)
  (try clear hb2)
  (try clear hk)
  (try clear hi)
  (try clear ho0)
  obtain ⟨Ao7, co7, eo7⟩ := Kd.R_slice HO962.out
  (first | subst eo7 | (injection eo7 with f1_ f2_ f3_; have f4_ := f1_.symm; have f5_ := f3_.symm; clear f1_ f2_ f3_; subst f4_; subst f5_))
  refine hK.out _ _ ⟨(blk_cell BK958.out 0).trans rfl, (blk_cell BK958.out 1).trans rfl⟩ (fun hHeld => ?_)
  clear hK K
  refine norm_ (a' := ?_) ?_ ?_
  rotate_left
  ·show Act.put _ (some 7) _ = _
   simp only [Act.put, List.setIfInBounds_toArray, List.set_cons_zero, List.set_cons_succ, i64_w]
   rfl
  refine pure_ (i := 5) (N := some 8) (v := ?_) (a' := ?_) (bsA 7 63) rfl rfl (by kernel_rfl) (fun _ _ _ h => h) (Or.inl ⟨by rfl, ?_⟩) ?_ ?_
  rotate_left
  ·intro w'
   go_simp
   with_reducible rfl
  rotate_left
  ·simp only [Act.put, List.setIfInBounds_toArray, List.set_cons_zero, List.set_cons_succ, i64_w]
   rfl
  refine one_ (i := 6) (N := none) (bsA 7 127) rfl rfl (by kernel_rfl) (by decide) (fun K hK => ?_)
  have hs8 : w6.cell? ⟨gb959, 0, none⟩ = some (.int .i64 0) := (blk_cell BK959.out 0).trans rfl
  have hfs8 := blk_frozen BK959.out 0
  have hns8_0 := NB958_959.out
  have hms8_0 := NB959_958.out
  have hs9 : w6.cell? ⟨gb959, 1, none⟩ = some (.slice none 0 0) := (blk_cell BK959.out 1).trans rfl
  have hfs9 := blk_frozen BK959.out 1
  have hns9_0 := NB958_959.out
  have hms9_0 := NB959_958.out
  refine skip_ (w1 := ?_) (by rfl) rfl ?_ ?_
  rotate_left
  ·go_simp
   rfl
  refine hK.out _ _ ⟨((cell_far (p := ⟨gb959, _, none⟩) NB958_959.out _).trans (((cell_far (p := ⟨gb959, _, none⟩) NB958_959.out _).trans (hHeld.1)))), ((cell_far (p := ⟨gb959, _, none⟩) NB958_959.out _).trans (((cell_far (p := ⟨gb959, _, none⟩) NB958_959.out _).trans (hHeld.2))))⟩ (fun hHeld => ?_)
  clear hK K
  refine done_ (by kernel_rfl) ?_
  try go_wp2
  refine bodyPost_ret (results_cell_row rfl _ _ gb959 39 #[.int .i64 a0_0, .slice Ao7 t960.length co7] (0, 0) _ rfl (by (with_reducible repeat (first | refine blk_drewN ?_ _ | refine blk_drew ?_ | refine blk_alloc ?_ _)); refine blk_put (cs := #[.int .i64 a0_0, .slice none 0 0]) ?_ 1 _ rfl; (with_reducible repeat (first | refine blk_drewN ?_ _ | refine blk_drew ?_ | refine blk_alloc ?_ _)); refine blk_put (cs := #[.int .i64 0, .slice none 0 0]) ?_ 0 _ rfl; (with_reducible repeat (first | refine blk_drewN ?_ _ | refine blk_drew ?_ | refine blk_alloc ?_ _)); exact BK959.out) Try.underlying39 rfl (by kernel_rfl)) rfl ?_
  exact ⟨_, by first | rfl | (simp [errW_none, errW_some] <;> rfl) | (simp [*, errW_none, errW_some] <;> rfl), by (with_reducible repeat (first | apply Kd.R_alloc | apply Kd.R_drewN | apply Kd.R_drew)); exact Kd.R_mono (Kd.R_far (p := ⟨gb959, 1, none⟩) (Kd.R_far (p := ⟨gb959, 0, none⟩) (Kd.R_types HO962.out BK959.out (by decide)) (fun _ hk => hk.2) (.int .i64 a0_0)) (fun _ hk => hk.2) (.slice Ao7 t960.length co7)) (fun _ hk => trivial), by repeat (first | (with_reducible first | exact HB.out | apply below_alloc | apply pw_below_drewN | apply below_drew1 | refine below_set ?_ GE958.out | refine below_set ?_ GE959.out) | exact HB.out)⟩
/-! ### impl_Bits_count: function 144 -/
def impl_Bits_count.l0 : Nat → Int → Int → Int → Int → List Int → Option (Int)
  | 0, _, _, _, _, _ => none
  | k + 1, x2, x7, x8, x1000, x1001 => if x8 < x2 then ((impl_Bits_at.f x1000 x1001 x8).bind fun t963 => (if t963 = true then (impl_Bits_count.l0 k x2 (wrap64 (x7 + 1)) (wrap64 (x8 + 1)) x1000 x1001) else (impl_Bits_count.l0 k x2 x7 (wrap64 (x8 + 1)) x1000 x1001))) else (some x7)
def impl_Bits_count.f (k : Nat) (a0_0 : Int) (l0_1 : List Int) (a1 : Int) (a2 : Int) : Option (Int) := impl_Bits_count.l0 k a2 0 a1 a0_0 l0_1
theorem impl_Bits_count.mono_l : ∀ k, (∀ y0 y1 y2 y3 y4, LeO (impl_Bits_count.l0 k y0 y1 y2 y3 y4) (impl_Bits_count.l0 (k + 1) y0 y1 y2 y3 y4))
  | 0 => fun _ _ _ _ _ r h => by simp [impl_Bits_count.l0] at h
  | k + 1 => by
    have ih0 := impl_Bits_count.mono_l k
    · intro y0 y1 y2 y3 y4
      unfold impl_Bits_count.l0
      repeat' first
      | (with_reducible exact ih0 _ _ _ _ _)
      | (with_reducible exact LeO.refl _)
      | (with_reducible exact LeO.none _)
      | (with_reducible refine LeO.ite ?_ ?_)
      | (with_reducible refine LeO.bind ?_ (fun _ => ?_))
      | exact ih0 _ _ _ _ _
      | exact LeO.none _
      | refine LeO.ite ?_ ?_
      | refine LeO.bind ?_ (fun _ => ?_)
theorem impl_Bits_count.mono : ∀ a0 a1 a2 a3 k, LeO (impl_Bits_count.f k a0 a1 a2 a3) (impl_Bits_count.f (k + 1) a0 a1 a2 a3) := by
  intro a0 a1 a2 a3 k
  have ih0 := impl_Bits_count.mono_l k
  unfold impl_Bits_count.f
  repeat' first
      | (with_reducible exact ih0 _ _ _ _ _)
      | (with_reducible exact LeO.refl _)
      | (with_reducible exact LeO.none _)
      | (with_reducible refine LeO.ite ?_ ?_)
      | (with_reducible refine LeO.bind ?_ (fun _ => ?_))
      | exact ih0 _ _ _ _ _
      | exact LeO.none _
      | refine LeO.ite ?_ ?_
      | refine LeO.bind ?_ (fun _ => ?_)
noncomputable def impl_Bits_count.L0 (y0 : Int) (y1 : Int) (y2 : Int) (y3 : Int) (y4 : List Int) : Option (Int) := lim fun k => impl_Bits_count.l0 k y0 y1 y2 y3 y4
theorem impl_Bits_count.L0_sup (y0 : Int) (y1 : Int) (y2 : Int) (y3 : Int) (y4 : List Int) : Sup (fun k => impl_Bits_count.l0 k y0 y1 y2 y3 y4) (impl_Bits_count.L0 y0 y1 y2 y3 y4) := Sup.of_mono fun k => impl_Bits_count.mono_l k y0 y1 y2 y3 y4
noncomputable def impl_Bits_count.F (a0_0 : Int) (l0_1 : List Int) (a1 : Int) (a2 : Int) : Option (Int) := lim fun k => impl_Bits_count.f k a0_0 l0_1 a1 a2
theorem impl_Bits_count.F_sup (a0_0 : Int) (l0_1 : List Int) (a1 : Int) (a2 : Int) : Sup (fun k => impl_Bits_count.f k a0_0 l0_1 a1 a2) (impl_Bits_count.F a0_0 l0_1 a1 a2) := Sup.of_mono fun k => impl_Bits_count.mono a0_0 l0_1 a1 a2 k
theorem impl_Bits_count.L0_eq (x2 : Int) (x7 : Int) (x8 : Int) (x1000 : Int) (x1001 : List Int) : impl_Bits_count.L0 x2 x7 x8 x1000 x1001 = if x8 < x2 then ((impl_Bits_at.f x1000 x1001 x8).bind fun t963 => (if t963 = true then (impl_Bits_count.L0 x2 (wrap64 (x7 + 1)) (wrap64 (x8 + 1)) x1000 x1001) else (impl_Bits_count.L0 x2 x7 (wrap64 (x8 + 1)) x1000 x1001))) else (some x7) := by
  refine Sup.unique (impl_Bits_count.L0_sup x2 x7 x8 x1000 x1001) (Sup.shift (fun k => impl_Bits_count.mono_l k x2 x7 x8 x1000 x1001) (Sup.congr (g' := fun k => if x8 < x2 then ((impl_Bits_at.f x1000 x1001 x8).bind fun t963 => (if t963 = true then (impl_Bits_count.l0 k x2 (wrap64 (x7 + 1)) (wrap64 (x8 + 1)) x1000 x1001) else (impl_Bits_count.l0 k x2 x7 (wrap64 (x8 + 1)) x1000 x1001))) else (some x7)) (fun k => by first | rfl | simp only [impl_Bits_count.l0]) ?_))
  repeat' first
    | (with_reducible exact impl_Bits_count.L0_sup _ _ _ _ _)
    | (with_reducible refine Sup.ite ?_ ?_)
    | (with_reducible refine Sup.bind ?_ (fun _ => ?_))
    | (with_reducible exact Sup.const _)
    | exact impl_Bits_count.L0_sup _ _ _ _ _
    | exact Sup.const _
theorem impl_Bits_count.F_eq (a0_0 : Int) (l0_1 : List Int) (a1 : Int) (a2 : Int) : impl_Bits_count.F a0_0 l0_1 a1 a2 = impl_Bits_count.L0 a2 0 a1 a0_0 l0_1 := by
  refine Sup.unique (impl_Bits_count.F_sup a0_0 l0_1 a1 a2) (Sup.congr (g' := fun k => impl_Bits_count.l0 k a2 0 a1 a0_0 l0_1) (fun k => by first | rfl | simp only [impl_Bits_count.f]) ?_)
  repeat' first
    | (with_reducible exact impl_Bits_count.L0_sup _ _ _ _ _)
    | (with_reducible refine Sup.ite ?_ ?_)
    | (with_reducible refine Sup.bind ?_ (fun _ => ?_))
    | (with_reducible exact Sup.const _)
    | exact impl_Bits_count.L0_sup _ _ _ _ _
    | exact Sup.const _
set_option maxHeartbeats 8000000 in
set_option maxRecDepth 100000 in
theorem impl_Bits_count.calls (k : Nat) (gb0_ : Nat) (a0_0 : Int) (A0_1 : Option Addr) (c0_1 : Nat) (l0_1 : List Int) (a1 : Int) (a2 : Int) (r : Int) (w : World) (hr0_1 : Kd.C (Kd.int .i64) w A0_1 l0_1.length l0_1) (hc0_1 : l0_1.length ≤ c0_1) (hb0_ : w.heap[gb0_]? = some (.cells #[.int .i64 a0_0, .slice A0_1 l0_1.length c0_1] 39 (0, 0))) (h : impl_Bits_count.f k a0_0 l0_1 a1 a2 = some r) :
    Calls Try.prog 144 #[.pointer (some ⟨gb0_, 0, none⟩), .int .i64 a1, .int .i64 a2] w fun e w' => e = .returned (.int .i64 r) ∧ Drawn0 w w' := by
  have HR0_1 := Aside0.mk hr0_1
  have HC0_1 := Aside0.mk hc0_1
  clear hr0_1 hc0_1
  have BK0 := Aside0.mk hb0_
  clear hb0_
  have H : (impl_Bits_count.l0 k a2 0 a1 a0_0 l0_1) = some r := h
  clear h
  have H' := Aside0.mk H
  clear H
  go_enter Try.func144, Try.ntmps144
  go_wp2
  go_loopg [7, 8] k (fun kq v7 v8 w' => ∃ (x7_1 : Int) (x8_1 : Int), v7 = .int .i64 x7_1 ∧ v8 = .int .i64 x8_1 ∧ Aside0 (impl_Bits_count.l0 kq a2 x7_1 x8_1 a0_0 l0_1 = some r) ∧ Aside0 (kq ≤ k) ∧ Drawn0 w w')
  case atStart => exact ⟨(0), (a1), (by first | rfl | (simp; done) | (simp [*]; done)), (by first | rfl | (simp; done) | (simp [*]; done)), H', ⟨Nat.le_refl _⟩, by repeat (first | exact Drawn0.refl _ | apply Drawn0.step)⟩
  case round =>
   clear H'
   try clear c1
   try clear p2
   obtain ⟨x7_1, x8_1, rfl, rfl, HA, HK1, ⟨m1, rfl⟩⟩ := hrel
   cases gk with
   | zero => exact absurd HA.out (by simp [impl_Bits_count.l0])
   | succ k1 =>
    have H := HA.out
    clear HA
    simp only [impl_Bits_count.l0] at H
    by_cases c4 : x8_1 < a2
    ·rw [if_pos c4] at H
     have c4b0 : decide (x8_1 < a2) = true := decide_eq_true c4
     clear c4
     replace H := Option.bind_eq_some_iff.mp H
     obtain ⟨t963, A50, H⟩ := H
     replace H : (if t963 = true then (impl_Bits_count.l0 k1 a2 (wrap64 (x7_1 + 1)) (wrap64 (x8_1 + 1)) a0_0 l0_1) else (impl_Bits_count.l0 k1 a2 x7_1 (wrap64 (x8_1 + 1)) a0_0 l0_1)) = some r := H
     have A5 := Aside0.mk A50
     clear A50
     by_cases c6 : t963 = true
     ·subst c6
      have H1 : (impl_Bits_count.l0 k1 a2 (wrap64 (x7_1 + 1)) (wrap64 (x8_1 + 1)) a0_0 l0_1) = some r := by rw [if_pos rfl] at H; exact H
      clear H
      have H := H1
      clear H1
      have H' := Aside0.mk H
      clear H
      go_wp2_with (first | ((with_reducible refine gate_callee (f := 126) rfl ?_); refine goesL_ (some 17) rfl rfl Try.func126 (by kernel_rfl) rfl #[.pointer (some ⟨gb0_, 0, none⟩), .int .i64 x8_1] rfl (by (try simp only [List.map_toArray, List.map_cons, List.map_nil]); first | done | rfl | (simp only [List.length_drop, List.length_take]; rfl)) ?_; (with_reducible refine (impl_Bits_at.calls gb0_ a0_0 A0_1 c0_1 l0_1 x8_1 true _ ?side1 ?side2 ?side3 A5.out).mono ?_); (case side1 => repeat (first | exact HR0_1.out | (with_reducible refine Kd.C_alloc ?_ _) | (with_reducible refine Kd.C_drewN ?_ _) | (with_reducible refine Kd.C_drew ?_))); (case side2 => exact HC0_1.out); (case side3 => exact (by (with_reducible repeat (first | refine blk_drewN ?_ _ | refine blk_drew ?_ | refine blk_alloc ?_ _)); exact BK0.out)); rintro e w' ⟨rfl, ⟨nd, rfl⟩⟩; refine ⟨_, rfl, ?_⟩))
      go_roundg k1
      case measure => have := HK1.out; omega
      case rel => exact ⟨(wrap64 (x7_1 + 1)), (wrap64 (x8_1 + 1)), (by first | rfl | (simp; done) | (simp [*]; done)), (by first | rfl | (simp; done) | (simp [*]; done)), H', ⟨by have := HK1.out; omega⟩, by repeat (first | exact Drawn0.refl _ | apply Drawn0.step)⟩
     ·replace c6 := Bool.eq_false_iff.mpr c6
      subst c6
      have H1 : (impl_Bits_count.l0 k1 a2 x7_1 (wrap64 (x8_1 + 1)) a0_0 l0_1) = some r := by rw [if_neg (show ¬ (false = true) by decide)] at H; exact H
      clear H
      have H := H1
      clear H1
      have H' := Aside0.mk H
      clear H
      go_wp2_with (first | ((with_reducible refine gate_callee (f := 126) rfl ?_); refine goesL_ (some 17) rfl rfl Try.func126 (by kernel_rfl) rfl #[.pointer (some ⟨gb0_, 0, none⟩), .int .i64 x8_1] rfl (by (try simp only [List.map_toArray, List.map_cons, List.map_nil]); first | done | rfl | (simp only [List.length_drop, List.length_take]; rfl)) ?_; (with_reducible refine (impl_Bits_at.calls gb0_ a0_0 A0_1 c0_1 l0_1 x8_1 false _ ?side1 ?side2 ?side3 A5.out).mono ?_); (case side1 => repeat (first | exact HR0_1.out | (with_reducible refine Kd.C_alloc ?_ _) | (with_reducible refine Kd.C_drewN ?_ _) | (with_reducible refine Kd.C_drew ?_))); (case side2 => exact HC0_1.out); (case side3 => exact (by (with_reducible repeat (first | refine blk_drewN ?_ _ | refine blk_drew ?_ | refine blk_alloc ?_ _)); exact BK0.out)); rintro e w' ⟨rfl, ⟨nd, rfl⟩⟩; refine ⟨_, rfl, ?_⟩))
      go_roundg k1
      case measure => have := HK1.out; omega
      case rel => exact ⟨(x7_1), (wrap64 (x8_1 + 1)), (by first | rfl | (simp; done) | (simp [*]; done)), (by first | rfl | (simp; done) | (simp [*]; done)), H', ⟨by have := HK1.out; omega⟩, by repeat (first | exact Drawn0.refl _ | apply Drawn0.step)⟩
    ·rw [if_neg c4] at H
     have c4b0 : decide (x8_1 < a2) = false := decide_eq_false c4
     clear c4
     obtain rfl := Option.some.inj H
     go_wp2
     go_ret
     exact ⟨by first | rfl | (simp; done) | (simp [*]; done), by repeat (first | exact Drawn0.refl _ | apply Drawn0.step)⟩
/-! ### impl_ranked: function 115 -/
def impl_ranked.l0 : Nat → Int → Int → Int → Int → Int → List Int → Int → List Int → List Int → List Int → Option (Int × List Int × List Int × List Int)
  | 0, _, _, _, _, _, _, _, _, _, _ => none
  | k + 1, x4, x5, x6, x7, x965000, x965001, x971000, x971001, x971002, x971003 => if x6 < x965000 then (if (Int.tmod x6 64) = 0 then (if x971002.length < 17592186044416 then (if x971003.length < 17592186044416 then ((impl_Bits_count.f k x965000 x965001 x6 (mn (wrap64 (x6 + 16)) x965000)).bind fun t977 => (impl_ranked.l0 k (wrap64 (x4 + t977)) x4 (wrap64 (x6 + 16)) (wrap64 (x7 + 1)) x965000 x965001 x971000 x971001 (x971002 ++ [x4]) (x971003 ++ [0]))) else (none)) else (none)) else (if x971003.length < 17592186044416 then ((impl_Bits_count.f k x965000 x965001 x6 (mn (wrap64 (x6 + 16)) x965000)).bind fun t981 => (impl_ranked.l0 k (wrap64 (x4 + t981)) x5 (wrap64 (x6 + 16)) (wrap64 (x7 + 1)) x965000 x965001 x971000 x971001 x971002 (x971003 ++ [wrap64 (x4 - x5)]))) else (none))) else (some (x971000, x971001, x971002, x971003))
def impl_ranked.f (k : Nat) (a0_0 : Int) (l0_1 : List Int) : Option (Int × List Int × List Int × List Int) := (impl_cloneBits.f a0_0 l0_1).bind fun bt966 => (impl_ranked.l0 k 0 0 0 0 a0_0 l0_1 bt966.1 bt966.2 ([] : List Int) ([] : List Int))
theorem impl_ranked.mono_l : ∀ k, (∀ y0 y1 y2 y3 y4 y5 y6 y7 y8 y9, LeO (impl_ranked.l0 k y0 y1 y2 y3 y4 y5 y6 y7 y8 y9) (impl_ranked.l0 (k + 1) y0 y1 y2 y3 y4 y5 y6 y7 y8 y9))
  | 0 => fun _ _ _ _ _ _ _ _ _ _ r h => by simp [impl_ranked.l0] at h
  | k + 1 => by
    have ih0 := impl_ranked.mono_l k
    · intro y0 y1 y2 y3 y4 y5 y6 y7 y8 y9
      unfold impl_ranked.l0
      repeat' first
      | (with_reducible exact ih0 _ _ _ _ _ _ _ _ _ _)
      | (with_reducible exact impl_Bits_count.mono _ _ _ _ _)
      | (with_reducible exact LeO.refl _)
      | (with_reducible exact LeO.none _)
      | (with_reducible refine LeO.ite ?_ ?_)
      | (with_reducible refine LeO.bind ?_ (fun _ => ?_))
      | exact ih0 _ _ _ _ _ _ _ _ _ _
      | exact impl_Bits_count.mono _ _ _ _ _
      | exact LeO.none _
      | refine LeO.ite ?_ ?_
      | refine LeO.bind ?_ (fun _ => ?_)
theorem impl_ranked.mono : ∀ a0 a1 k, LeO (impl_ranked.f k a0 a1) (impl_ranked.f (k + 1) a0 a1) := by
  intro a0 a1 k
  have ih0 := impl_ranked.mono_l k
  unfold impl_ranked.f
  repeat' first
      | (with_reducible exact ih0 _ _ _ _ _ _ _ _ _ _)
      | (with_reducible exact impl_Bits_count.mono _ _ _ _ _)
      | (with_reducible exact LeO.refl _)
      | (with_reducible exact LeO.none _)
      | (with_reducible refine LeO.ite ?_ ?_)
      | (with_reducible refine LeO.bind ?_ (fun _ => ?_))
      | exact ih0 _ _ _ _ _ _ _ _ _ _
      | exact impl_Bits_count.mono _ _ _ _ _
      | exact LeO.none _
      | refine LeO.ite ?_ ?_
      | refine LeO.bind ?_ (fun _ => ?_)
noncomputable def impl_ranked.L0 (y0 : Int) (y1 : Int) (y2 : Int) (y3 : Int) (y4 : Int) (y5 : List Int) (y6 : Int) (y7 : List Int) (y8 : List Int) (y9 : List Int) : Option (Int × List Int × List Int × List Int) := lim fun k => impl_ranked.l0 k y0 y1 y2 y3 y4 y5 y6 y7 y8 y9
theorem impl_ranked.L0_sup (y0 : Int) (y1 : Int) (y2 : Int) (y3 : Int) (y4 : Int) (y5 : List Int) (y6 : Int) (y7 : List Int) (y8 : List Int) (y9 : List Int) : Sup (fun k => impl_ranked.l0 k y0 y1 y2 y3 y4 y5 y6 y7 y8 y9) (impl_ranked.L0 y0 y1 y2 y3 y4 y5 y6 y7 y8 y9) := Sup.of_mono fun k => impl_ranked.mono_l k y0 y1 y2 y3 y4 y5 y6 y7 y8 y9
noncomputable def impl_ranked.F (a0_0 : Int) (l0_1 : List Int) : Option (Int × List Int × List Int × List Int) := lim fun k => impl_ranked.f k a0_0 l0_1
theorem impl_ranked.F_sup (a0_0 : Int) (l0_1 : List Int) : Sup (fun k => impl_ranked.f k a0_0 l0_1) (impl_ranked.F a0_0 l0_1) := Sup.of_mono fun k => impl_ranked.mono a0_0 l0_1 k
theorem impl_ranked.L0_eq (x4 : Int) (x5 : Int) (x6 : Int) (x7 : Int) (x965000 : Int) (x965001 : List Int) (x971000 : Int) (x971001 : List Int) (x971002 : List Int) (x971003 : List Int) : impl_ranked.L0 x4 x5 x6 x7 x965000 x965001 x971000 x971001 x971002 x971003 = if x6 < x965000 then (if (Int.tmod x6 64) = 0 then (if x971002.length < 17592186044416 then (if x971003.length < 17592186044416 then ((impl_Bits_count.F x965000 x965001 x6 (mn (wrap64 (x6 + 16)) x965000)).bind fun t977 => (impl_ranked.L0 (wrap64 (x4 + t977)) x4 (wrap64 (x6 + 16)) (wrap64 (x7 + 1)) x965000 x965001 x971000 x971001 (x971002 ++ [x4]) (x971003 ++ [0]))) else (none)) else (none)) else (if x971003.length < 17592186044416 then ((impl_Bits_count.F x965000 x965001 x6 (mn (wrap64 (x6 + 16)) x965000)).bind fun t981 => (impl_ranked.L0 (wrap64 (x4 + t981)) x5 (wrap64 (x6 + 16)) (wrap64 (x7 + 1)) x965000 x965001 x971000 x971001 x971002 (x971003 ++ [wrap64 (x4 - x5)]))) else (none))) else (some (x971000, x971001, x971002, x971003)) := by
  refine Sup.unique (impl_ranked.L0_sup x4 x5 x6 x7 x965000 x965001 x971000 x971001 x971002 x971003) (Sup.shift (fun k => impl_ranked.mono_l k x4 x5 x6 x7 x965000 x965001 x971000 x971001 x971002 x971003) (Sup.congr (g' := fun k => if x6 < x965000 then (if (Int.tmod x6 64) = 0 then (if x971002.length < 17592186044416 then (if x971003.length < 17592186044416 then ((impl_Bits_count.f k x965000 x965001 x6 (mn (wrap64 (x6 + 16)) x965000)).bind fun t977 => (impl_ranked.l0 k (wrap64 (x4 + t977)) x4 (wrap64 (x6 + 16)) (wrap64 (x7 + 1)) x965000 x965001 x971000 x971001 (x971002 ++ [x4]) (x971003 ++ [0]))) else (none)) else (none)) else (if x971003.length < 17592186044416 then ((impl_Bits_count.f k x965000 x965001 x6 (mn (wrap64 (x6 + 16)) x965000)).bind fun t981 => (impl_ranked.l0 k (wrap64 (x4 + t981)) x5 (wrap64 (x6 + 16)) (wrap64 (x7 + 1)) x965000 x965001 x971000 x971001 x971002 (x971003 ++ [wrap64 (x4 - x5)]))) else (none))) else (some (x971000, x971001, x971002, x971003))) (fun k => by first | rfl | simp only [impl_ranked.l0]) ?_))
  repeat' first
    | (with_reducible exact impl_ranked.L0_sup _ _ _ _ _ _ _ _ _ _)
    | (with_reducible exact impl_Bits_count.F_sup _ _ _ _)
    | (with_reducible refine Sup.ite ?_ ?_)
    | (with_reducible refine Sup.bind ?_ (fun _ => ?_))
    | (with_reducible exact Sup.const _)
    | exact impl_ranked.L0_sup _ _ _ _ _ _ _ _ _ _
    | exact impl_Bits_count.F_sup _ _ _ _
    | exact Sup.const _
theorem impl_ranked.F_eq (a0_0 : Int) (l0_1 : List Int) : impl_ranked.F a0_0 l0_1 = (impl_cloneBits.f a0_0 l0_1).bind fun bt966 => (impl_ranked.L0 0 0 0 0 a0_0 l0_1 bt966.1 bt966.2 ([] : List Int) ([] : List Int)) := by
  refine Sup.unique (impl_ranked.F_sup a0_0 l0_1) (Sup.congr (g' := fun k => (impl_cloneBits.f a0_0 l0_1).bind fun bt966 => (impl_ranked.l0 k 0 0 0 0 a0_0 l0_1 bt966.1 bt966.2 ([] : List Int) ([] : List Int))) (fun k => by first | rfl | simp only [impl_ranked.f]) ?_)
  repeat' first
    | (with_reducible exact impl_ranked.L0_sup _ _ _ _ _ _ _ _ _ _)
    | (with_reducible exact impl_Bits_count.F_sup _ _ _ _)
    | (with_reducible refine Sup.ite ?_ ?_)
    | (with_reducible refine Sup.bind ?_ (fun _ => ?_))
    | (with_reducible exact Sup.const _)
    | exact impl_ranked.L0_sup _ _ _ _ _ _ _ _ _ _
    | exact impl_Bits_count.F_sup _ _ _ _
    | exact Sup.const _
set_option maxHeartbeats 8000000 in
set_option maxRecDepth 100000 in
theorem impl_ranked.calls (k : Nat) (a0_0 : Int) (A0_1 : Option Addr) (c0_1 : Nat) (l0_1 : List Int) (r1 : Int) (r2 : List Int) (r3 : List Int) (r4 : List Int) (w : World) (hr0_1 : Kd.C (Kd.int .i64) w A0_1 l0_1.length l0_1) (hc0_1 : l0_1.length ≤ c0_1) (h : impl_ranked.f k a0_0 l0_1 = some (r1, r2, r3, r4)) :
    Calls Try.prog 115 #[.agg #[.int .i64 a0_0, .slice A0_1 l0_1.length c0_1]] w fun e w' => ∃ v1_ v2_ v3_ : Value, e = .returned (.agg #[.int .i64 r1, v1_, v2_, v3_]) ∧ Kd.R (Kd.int .i64) 3 w' w.heap.size (fun k_ => some k_ ≠ (v2_ : Value).ownBlock ∧ some k_ ≠ (v3_ : Value).ownBlock) v1_ r2 ∧ Kd.R (Kd.int .i64) 3 w' w.heap.size (fun k_ => some k_ ≠ (v1_ : Value).ownBlock ∧ some k_ ≠ (v3_ : Value).ownBlock) v2_ r3 ∧ Kd.R (Kd.int .i64) 3 w' w.heap.size (fun k_ => some k_ ≠ (v1_ : Value).ownBlock ∧ some k_ ≠ (v2_ : Value).ownBlock) v3_ r4 ∧ Below w.heap.size w w' := by
  have hu39 := Try.underlying39
  have hu85 := Try.underlying85
  have HR0_1 := Aside0.mk hr0_1
  have HC0_1 := Aside0.mk hc0_1
  clear hr0_1 hc0_1
  have HB := Aside0.mk (Below.refl w.heap.size w)
  have H : ((impl_cloneBits.f a0_0 l0_1).bind fun bt966 => (impl_ranked.l0 k 0 0 0 0 a0_0 l0_1 bt966.1 bt966.2 ([] : List Int) ([] : List Int))) = some (r1, r2, r3, r4) := h
  clear h
  replace H := Option.bind_eq_some_iff.mp H
  obtain ⟨⟨t966, t967⟩, A20, H⟩ := H
  replace H : (impl_ranked.l0 k 0 0 0 0 a0_0 l0_1 t966 t967 ([] : List Int) ([] : List Int)) = some (r1, r2, r3, r4) := H
  have A2 := Aside0.mk A20
  clear A20
  have H' := Aside0.mk H
  clear H
  go_enter Try.func115, Try.ntmps115
  go_wp2_with (first | ((with_reducible refine gate_dst (N := 1) rfl ?_); refine box_event ?hg (N := 1) ?hd (cs := #[.int .i64 a0_0, .slice A0_1 l0_1.length c0_1]) (t := 39) ?hr ?_; (case hd => rfl); (case hg => rfl); (case hr => first | (go_simp; done) | (go_simp; rfl)); intro gb964 hg w3 hbox hb; have n0_ := Aside0.mk (below_step (by repeat (first | (with_reducible first | exact HB.out | apply below_alloc | apply pw_below_drewN | apply below_drew1) | exact HB.out)) hb); have n1_ := Aside0.mk (hbox); have n2_ := Aside0.mk ((by rw [hg]; exact (below_size (by repeat (first | (with_reducible first | exact HB.out | apply below_alloc | apply pw_below_drewN | apply below_drew1) | exact HB.out))) : w.heap.size ≤ gb964)); have n3_ := Aside0.mk ((by rw [hg]; exact (below_size (by repeat (first | (with_reducible first | exact HB.out | apply below_alloc | apply pw_below_drewN | apply below_drew1) | exact HB.out))) : w.heap.size ≤ gb964)); clear HB; have HB := n0_; have BK964 := n1_; have GW964 := n2_; have GE964 := n3_; clear n0_ n1_ n2_ n3_; clear hb hbox hg) | ((with_reducible refine gate_dst (N := 2) rfl ?_); refine box_event ?hg (N := 2) ?hd (cs := #[.int .i64 0, .slice none 0 0, .slice none 0 0, .slice none 0 0]) (t := 85) ?hr ?_; (case hd => rfl); (case hg => rfl); (case hr => first | (go_simp; done) | (go_simp; rfl)); intro gb965 hg w4 hbox hb; have n0_ := Aside0.mk (blk_below (g := gb964) (o := .cells #[.int .i64 a0_0, .slice A0_1 l0_1.length c0_1] 39 (0, 0)) (by (with_reducible repeat (first | refine blk_drewN ?_ _ | refine blk_drew ?_ | refine blk_alloc ?_ _)); exact BK964.out) hb); have n1_ := Aside0.mk (below_step (by repeat (first | (with_reducible first | exact HB.out | apply below_alloc | apply pw_below_drewN | apply below_drew1 | refine below_set ?_ GE964.out) | exact HB.out)) hb); have n2_ := Aside0.mk (hbox); have n3_ := Aside0.mk ((by rw [hg]; exact (below_size (by repeat (first | (with_reducible first | exact HB.out | apply below_alloc | apply pw_below_drewN | apply below_drew1 | refine below_set ?_ GE964.out) | exact HB.out))) : w.heap.size ≤ gb965)); have n4_ := Aside0.mk ((by rw [hg]; exact (below_size (by repeat (first | (with_reducible first | exact HB.out | apply below_alloc | apply pw_below_drewN | apply below_drew1 | refine below_set ?_ GE964.out) | exact HB.out))) : w.heap.size ≤ gb965)); have n5_ := Aside0.mk ((by rw [hg]; exact Nat.ne_of_lt (blk_lt (g := gb964) (o := .cells #[.int .i64 a0_0, .slice A0_1 l0_1.length c0_1] 39 (0, 0)) (by (with_reducible repeat (first | refine blk_drewN ?_ _ | refine blk_drew ?_ | refine blk_alloc ?_ _)); exact BK964.out)) : gb964 ≠ gb965)); have n6_ := Aside0.mk ((by rw [hg]; exact Nat.ne_of_gt (blk_lt (g := gb964) (o := .cells #[.int .i64 a0_0, .slice A0_1 l0_1.length c0_1] 39 (0, 0)) (by (with_reducible repeat (first | refine blk_drewN ?_ _ | refine blk_drew ?_ | refine blk_alloc ?_ _)); exact BK964.out)) : gb965 ≠ gb964)); clear BK964; clear HB; have BK964 := n0_; have HB := n1_; have BK965 := n2_; have GW965 := n3_; have GE965 := n4_; have NB964_965 := n5_; have NB965_964 := n6_; clear n0_ n1_ n2_ n3_ n4_ n5_ n6_; clear hb hbox hg; have hnb5 := NB964_965.out; have hnc5 := NB965_964.out; have hcz6_0 : w4.cell? ⟨gb964, 0, none⟩ = some (.int .i64 a0_0) := (blk_cell BK964.out 0).trans rfl; have hcz6_1 : w4.cell? ⟨gb964, 1, none⟩ = some (.slice A0_1 l0_1.length c0_1) := (blk_cell BK964.out 1).trans rfl; have hfz6_0 := blk_frozen BK964.out 0; have hfz6_1 := blk_frozen BK964.out 1) | ((with_reducible refine gate_callee (f := 143) rfl ?_); refine goesL_ (some 9) rfl rfl Try.func143 (by kernel_rfl) rfl #[.agg #[.int .i64 a0_0, .slice A0_1 l0_1.length c0_1]] rfl (by (try simp only [List.map_toArray, List.map_cons, List.map_nil]); first | done | rfl | (simp only [List.length_drop, List.length_take]; rfl)) ?_; (with_reducible refine (impl_cloneBits.calls a0_0 _ _ l0_1 t966 t967 _ ?side1 ?side2 A2.out).mono ?_); (case side1 => repeat (first | exact (Kd.C_below HR0_1.out HB.out) | (with_reducible refine Kd.C_alloc ?_ _) | (with_reducible refine Kd.C_drewN ?_ _) | (with_reducible refine Kd.C_drew ?_))); (case side2 => exact HC0_1.out); rintro e w7 ⟨v968, rfl, ho0, hb⟩; refine ⟨_, rfl, ?_⟩; have n0_ := Aside0.mk (Kd.R_lower ho0 (below_size (by repeat (first | (with_reducible first | exact HB.out | apply below_alloc | apply pw_below_drewN | apply below_drew1 | refine below_set ?_ GE964.out | refine below_set ?_ GE965.out) | exact HB.out)))); have n1_ := Aside0.mk (blk_below (g := gb964) (o := .cells #[.int .i64 a0_0, .slice A0_1 l0_1.length c0_1] 39 (0, 0)) (by (with_reducible repeat (first | refine blk_drewN ?_ _ | refine blk_drew ?_ | refine blk_alloc ?_ _)); exact BK964.out) hb); have n2_ := Aside0.mk (blk_below (g := gb965) (o := .cells #[.int .i64 0, .slice none 0 0, .slice none 0 0, .slice none 0 0] 85 (0, 0)) (by (with_reducible repeat (first | refine blk_drewN ?_ _ | refine blk_drew ?_ | refine blk_alloc ?_ _)); exact BK965.out) hb); have n3_ := Aside0.mk (below_step (by repeat (first | (with_reducible first | exact HB.out | apply below_alloc | apply pw_below_drewN | apply below_drew1 | refine below_set ?_ GE964.out | refine below_set ?_ GE965.out) | exact HB.out)) hb); clear BK964; clear BK965; clear HB; have HO969 := n0_; have BK964 := n1_; have BK965 := n2_; have HB := n3_; clear n0_ n1_ n2_ n3_; (try clear hb); (try clear hb2); (try clear hk); (try clear hi); (try clear ho0); obtain ⟨Ao8, co8, eo8⟩ := Kd.R_slice HO969.out; subst eo8) | ((with_reducible refine gate_dst (N := 3) rfl ?_); refine box_event ?hg (N := 3) ?hd (cs := #[.int .i64 0, .slice none 0 0, .slice none 0 0, .slice none 0 0]) (t := 85) ?hr ?_; (case hd => rfl); (case hg => rfl); (case hr => first | (go_simp; done) | (go_simp; rfl)); intro gb970 hg w9 hbox hb; have n0_ := Aside0.mk (Kd.R_below (by (with_reducible repeat (first | apply Kd.R_alloc | apply Kd.R_drewN | apply Kd.R_drew)); exact HO969.out) hb); have n1_ := Aside0.mk (blk_below (g := gb964) (o := .cells #[.int .i64 a0_0, .slice A0_1 l0_1.length c0_1] 39 (0, 0)) (by (with_reducible repeat (first | refine blk_drewN ?_ _ | refine blk_drew ?_ | refine blk_alloc ?_ _)); exact BK964.out) hb); have n2_ := Aside0.mk (blk_below (g := gb965) (o := .cells #[.int .i64 0, .slice none 0 0, .slice none 0 0, .slice none 0 0] 85 (0, 0)) (by (with_reducible repeat (first | refine blk_drewN ?_ _ | refine blk_drew ?_ | refine blk_alloc ?_ _)); exact BK965.out) hb); have n3_ := Aside0.mk (below_step (by repeat (first | (with_reducible first | exact HB.out | apply below_alloc | apply pw_below_drewN | apply below_drew1 | refine below_set ?_ GE964.out | refine below_set ?_ GE965.out) | exact HB.out)) hb); have n4_ := Aside0.mk (hbox); have n5_ := Aside0.mk ((by rw [hg]; exact (below_size (by repeat (first | (with_reducible first | exact HB.out | apply below_alloc | apply pw_below_drewN | apply below_drew1 | refine below_set ?_ GE964.out | refine below_set ?_ GE965.out) | exact HB.out))) : w.heap.size ≤ gb970)); have n6_ := Aside0.mk ((by rw [hg]; exact (below_size (by repeat (first | (with_reducible first | exact HB.out | apply below_alloc | apply pw_below_drewN | apply below_drew1 | refine below_set ?_ GE964.out | refine below_set ?_ GE965.out) | exact HB.out))) : w.heap.size ≤ gb970)); have n7_ := Aside0.mk ((by rw [hg]; exact Nat.ne_of_lt (blk_lt (g := gb964) (o := .cells #[.int .i64 a0_0, .slice A0_1 l0_1.length c0_1] 39 (0, 0)) (by (with_reducible repeat (first | refine blk_drewN ?_ _ | refine blk_drew ?_ | refine blk_alloc ?_ _)); exact BK964.out)) : gb964 ≠ gb970)); have n8_ := Aside0.mk ((by rw [hg]; exact Nat.ne_of_gt (blk_lt (g := gb964) (o := .cells #[.int .i64 a0_0, .slice A0_1 l0_1.length c0_1] 39 (0, 0)) (by (with_reducible repeat (first | refine blk_drewN ?_ _ | refine blk_drew ?_ | refine blk_alloc ?_ _)); exact BK964.out)) : gb970 ≠ gb964)); have n9_ := Aside0.mk ((by rw [hg]; exact Nat.ne_of_lt (blk_lt (g := gb965) (o := .cells #[.int .i64 0, .slice none 0 0, .slice none 0 0, .slice none 0 0] 85 (0, 0)) (by (with_reducible repeat (first | refine blk_drewN ?_ _ | refine blk_drew ?_ | refine blk_alloc ?_ _)); exact BK965.out)) : gb965 ≠ gb970)); have n10_ := Aside0.mk ((by rw [hg]; exact Nat.ne_of_gt (blk_lt (g := gb965) (o := .cells #[.int .i64 0, .slice none 0 0, .slice none 0 0, .slice none 0 0] 85 (0, 0)) (by (with_reducible repeat (first | refine blk_drewN ?_ _ | refine blk_drew ?_ | refine blk_alloc ?_ _)); exact BK965.out)) : gb970 ≠ gb965)); clear HO969; clear BK964; clear BK965; clear HB; have HO969 := n0_; have BK964 := n1_; have BK965 := n2_; have HB := n3_; have BK970 := n4_; have GW970 := n5_; have GE970 := n6_; have NB964_970 := n7_; have NB970_964 := n8_; have NB965_970 := n9_; have NB970_965 := n10_; clear n0_ n1_ n2_ n3_ n4_ n5_ n6_ n7_ n8_ n9_ n10_; clear hb hbox hg; have hnb10 := NB970_964.out; have hnc10 := NB964_970.out; have hnb11 := NB970_965.out; have hnc11 := NB965_970.out; have hcz12_0 : w9.cell? ⟨gb970, 0, none⟩ = some (.int .i64 0) := (blk_cell BK970.out 0).trans rfl; have hcz12_1 : w9.cell? ⟨gb970, 1, none⟩ = some (.slice none 0 0) := (blk_cell BK970.out 1).trans rfl; have hcz12_2 : w9.cell? ⟨gb970, 2, none⟩ = some (.slice none 0 0) := (blk_cell BK970.out 2).trans rfl; have hcz12_3 : w9.cell? ⟨gb970, 3, none⟩ = some (.slice none 0 0) := (blk_cell BK970.out 3).trans rfl; have hfz12_0 := blk_frozen BK970.out 0; have hfz12_1 := blk_frozen BK970.out 1; have hfz12_2 := blk_frozen BK970.out 2; have hfz12_3 := blk_frozen BK970.out 3))
  go_loopg [4, 5, 6, 7] k (fun kq v4 v5 v6 v7 w' => ∃ (x4_1 : Int) (x5_1 : Int) (x6_1 : Int) (x7_1 : Int) (x971002_1 : List Int) (x971003_1 : List Int) (u971002 : Value) (u971003 : Value), v4 = .int .i64 x4_1 ∧ v5 = .int .i64 x5_1 ∧ v6 = .int .i64 x6_1 ∧ v7 = .int .i64 x7_1 ∧ Aside0 (impl_ranked.l0 kq x4_1 x5_1 x6_1 x7_1 a0_0 l0_1 t966 t967 x971002_1 x971003_1 = some (r1, r2, r3, r4)) ∧ Aside0 (kq ≤ k) ∧ Aside0 (Kd.R (Kd.int .i64) 3 w' w.heap.size (fun k_ => some k_ ≠ (u971002 : Value).ownBlock ∧ some k_ ≠ (u971003 : Value).ownBlock) (.slice Ao8 t967.length co8) t967) ∧ Aside0 (Kd.R (Kd.int .i64) 3 w' w.heap.size (fun k_ => some k_ ≠ ((.slice Ao8 t967.length co8) : Value).ownBlock ∧ some k_ ≠ (u971003 : Value).ownBlock) u971002 x971002_1) ∧ Aside0 (Kd.R (Kd.int .i64) 3 w' w.heap.size (fun k_ => some k_ ≠ ((.slice Ao8 t967.length co8) : Value).ownBlock ∧ some k_ ≠ (u971002 : Value).ownBlock) u971003 x971003_1) ∧ Aside0 (w'.heap[gb964]? = some (.cells #[.int .i64 a0_0, (.slice A0_1 l0_1.length c0_1)] 39 (0, 0))) ∧ Aside0 (w'.heap[gb965]? = some (.cells #[.int .i64 0, (.slice none 0 0), (.slice none 0 0), (.slice none 0 0)] 85 (0, 0))) ∧ Aside0 (w'.heap[gb970]? = some (.cells #[.int .i64 t966, (.slice Ao8 t967.length co8), u971002, u971003] 85 (0, 0))) ∧ Aside0 (Below w.heap.size w w'))
  case atStart => exact ⟨(0), (0), (0), (0), (([] : List Int)), (([] : List Int)), (.slice none 0 0), (.slice none 0 0), (by first | rfl | (simp; done) | (simp [*]; done)), (by first | rfl | (simp; done) | (simp [*]; done)), (by first | rfl | (simp; done) | (simp [*]; done)), (by first | rfl | (simp; done) | (simp [*]; done)), H', ⟨Nat.le_refl _⟩, ⟨by (with_reducible repeat (first | apply Kd.R_alloc | apply Kd.R_drewN | apply Kd.R_drew)); exact Kd.R_mono (Kd.R_far (p := ⟨gb970, 3, none⟩) (Kd.R_far (p := ⟨gb970, 2, none⟩) (Kd.R_far (p := ⟨gb970, 1, none⟩) (Kd.R_far (p := ⟨gb970, 0, none⟩) (Kd.R_types HO969.out BK970.out (by decide)) (fun _ hk => hk.2) (.int .i64 t966)) (fun _ hk => hk.2) (.slice Ao8 t967.length co8)) (fun _ hk => hk.2) (.slice none 0 0)) (fun _ hk => hk.2) (.slice none 0 0)) (fun _ hk => ⟨(by simp [Value.ownBlock]), (by simp [Value.ownBlock])⟩)⟩, ⟨by first | exact Kd.R_nil _ _ _ _ _ | exact Kd.N_nil _ _ _ _ _ | exact Kd.V_nil _ _ _ _ _ | exact Kd.Q_nil _ _ _ _ _ | exact Kd.S_nil _ _ _ _ _⟩, ⟨by first | exact Kd.R_nil _ _ _ _ _ | exact Kd.N_nil _ _ _ _ _ | exact Kd.V_nil _ _ _ _ _ | exact Kd.Q_nil _ _ _ _ _ | exact Kd.S_nil _ _ _ _ _⟩, ⟨by (with_reducible repeat (first | refine blk_drewN ?_ _ | refine blk_drew ?_ | refine blk_alloc ?_ _)); refine blk_far ?_ NB964_970.out _; (with_reducible repeat (first | refine blk_drewN ?_ _ | refine blk_drew ?_ | refine blk_alloc ?_ _)); refine blk_far ?_ NB964_970.out _; (with_reducible repeat (first | refine blk_drewN ?_ _ | refine blk_drew ?_ | refine blk_alloc ?_ _)); refine blk_far ?_ NB964_970.out _; (with_reducible repeat (first | refine blk_drewN ?_ _ | refine blk_drew ?_ | refine blk_alloc ?_ _)); refine blk_far ?_ NB964_970.out _; (with_reducible repeat (first | refine blk_drewN ?_ _ | refine blk_drew ?_ | refine blk_alloc ?_ _)); exact BK964.out⟩, ⟨by (with_reducible repeat (first | refine blk_drewN ?_ _ | refine blk_drew ?_ | refine blk_alloc ?_ _)); refine blk_far ?_ NB965_970.out _; (with_reducible repeat (first | refine blk_drewN ?_ _ | refine blk_drew ?_ | refine blk_alloc ?_ _)); refine blk_far ?_ NB965_970.out _; (with_reducible repeat (first | refine blk_drewN ?_ _ | refine blk_drew ?_ | refine blk_alloc ?_ _)); refine blk_far ?_ NB965_970.out _; (with_reducible repeat (first | refine blk_drewN ?_ _ | refine blk_drew ?_ | refine blk_alloc ?_ _)); refine blk_far ?_ NB965_970.out _; (with_reducible repeat (first | refine blk_drewN ?_ _ | refine blk_drew ?_ | refine blk_alloc ?_ _)); exact BK965.out⟩, ⟨by (with_reducible repeat (first | refine blk_drewN ?_ _ | refine blk_drew ?_ | refine blk_alloc ?_ _)); refine blk_put (cs := #[.int .i64 t966, .slice Ao8 t967.length co8, .slice none 0 0, .slice none 0 0]) ?_ 3 _ rfl; (with_reducible repeat (first | refine blk_drewN ?_ _ | refine blk_drew ?_ | refine blk_alloc ?_ _)); refine blk_put (cs := #[.int .i64 t966, .slice Ao8 t967.length co8, .slice none 0 0, .slice none 0 0]) ?_ 2 _ rfl; (with_reducible repeat (first | refine blk_drewN ?_ _ | refine blk_drew ?_ | refine blk_alloc ?_ _)); refine blk_put (cs := #[.int .i64 t966, .slice none 0 0, .slice none 0 0, .slice none 0 0]) ?_ 1 _ rfl; (with_reducible repeat (first | refine blk_drewN ?_ _ | refine blk_drew ?_ | refine blk_alloc ?_ _)); refine blk_put (cs := #[.int .i64 0, .slice none 0 0, .slice none 0 0, .slice none 0 0]) ?_ 0 _ rfl; (with_reducible repeat (first | refine blk_drewN ?_ _ | refine blk_drew ?_ | refine blk_alloc ?_ _)); exact BK970.out⟩, ⟨by repeat (first | (with_reducible first | exact HB.out | apply below_alloc | apply pw_below_drewN | apply below_drew1 | refine below_set ?_ GE964.out | refine below_set ?_ GE965.out | refine below_set ?_ GE970.out) | exact HB.out)⟩⟩
  case round =>
   clear H'
   try clear c1
   try clear p2
   try clear c5
   try clear c10
   try clear c11
   try clear hcz12_0
   try clear hcz12_1
   try clear hcz12_2
   try clear hcz12_3
   try clear hcz6_0
   try clear hcz6_1
   try clear hfz12_0
   try clear hfz12_1
   try clear hfz12_2
   try clear hfz12_3
   try clear hfz6_0
   try clear hfz6_1
   obtain ⟨x4_1, x5_1, x6_1, x7_1, x971002_1, x971003_1, u971002, u971003, rfl, rfl, rfl, rfl, HA, HK1, HO_971001, HO_971002, HO_971003, BK964, BK965, BK970, HB⟩ := hrel
   cases gk with
   | zero => exact absurd HA.out (by simp [impl_ranked.l0])
   | succ k1 =>
    have H := HA.out
    clear HA
    simp only [impl_ranked.l0] at H
    by_cases c13 : x6_1 < a0_0
    ·rw [if_pos c13] at H
     have c13b0 : decide (x6_1 < a0_0) = true := decide_eq_true c13
     clear c13
     by_cases c14 : (Int.tmod x6_1 64) = 0
     ·rw [if_pos c14] at H
      have c14b0 : ((Int.tmod x6_1 64) == 0) = true := beq_iff_eq.mpr c14
      have c14b1 : ((Int.tmod x6_1 64) != 0) = false := bne_eq_false_iff_eq.mpr c14
      clear c14
      by_cases c15 : x971002_1.length < 17592186044416
      ·rw [if_pos c15] at H
       have LMc15 := Aside0.mk c15
       clear c15
       obtain ⟨y971, hy971⟩ : ∃ y_ : List Int, y_ = (x971002_1 ++ [x4_1]) := ⟨_, rfl⟩
       replace H : (if x971003_1.length < 17592186044416 then ((impl_Bits_count.f k1 a0_0 l0_1 x6_1 (mn (wrap64 (x6_1 + 16)) a0_0)).bind fun t977 => (impl_ranked.l0 k1 (wrap64 (x4_1 + t977)) x4_1 (wrap64 (x6_1 + 16)) (wrap64 (x7_1 + 1)) a0_0 l0_1 t966 t967 y971 (x971003_1 ++ [0]))) else (none)) = some (r1, r2, r3, r4) := by first | (rw [hy971]; with_reducible exact H) | (have H2_ := (Option.bind_some _ _).symm.trans H; rw [hy971]; with_reducible exact H2_) | (have H2_ := (Option.bind_some _ _).symm.trans H; with_reducible exact H2_) | with_reducible exact H | (rw [hy971]; exact H) | exact H
       have Ny971 := Aside0.mk hy971
       clear hy971
       by_cases c16 : x971003_1.length < 17592186044416
       ·rw [if_pos c16] at H
        have LMc16 := Aside0.mk c16
        clear c16
        obtain ⟨y974, hy974⟩ : ∃ y_ : List Int, y_ = (x971003_1 ++ [0]) := ⟨_, rfl⟩
        replace H : ((impl_Bits_count.f k1 a0_0 l0_1 x6_1 (mn (wrap64 (x6_1 + 16)) a0_0)).bind fun t977 => (impl_ranked.l0 k1 (wrap64 (x4_1 + t977)) x4_1 (wrap64 (x6_1 + 16)) (wrap64 (x7_1 + 1)) a0_0 l0_1 t966 t967 y971 y974)) = some (r1, r2, r3, r4) := by first | (rw [hy974]; with_reducible exact H) | (have H2_ := (Option.bind_some _ _).symm.trans H; rw [hy974]; with_reducible exact H2_) | (have H2_ := (Option.bind_some _ _).symm.trans H; with_reducible exact H2_) | with_reducible exact H | (rw [hy974]; exact H) | exact H
        have Ny974 := Aside0.mk hy974
        clear hy974
        obtain ⟨ji17, hji17⟩ : ∃ j_ : Int, (mn (wrap64 (x6_1 + 16)) a0_0) = j_ := ⟨_, rfl⟩
        replace H : ((impl_Bits_count.f k1 a0_0 l0_1 x6_1 (ji17)).bind fun t977 => (impl_ranked.l0 k1 (wrap64 (x4_1 + t977)) x4_1 (wrap64 (x6_1 + 16)) (wrap64 (x7_1 + 1)) a0_0 l0_1 t966 t967 y971 y974)) = some (r1, r2, r3, r4) := by first | (rw [hji17] at H; exact H) | (simp only [hji17] at H ⊢; exact H)
        have hji17_ : (if a0_0 < (wrap64 (x6_1 + 16)) then a0_0 else (wrap64 (x6_1 + 16))) = ji17 := hji17
        replace H := Option.bind_eq_some_iff.mp H
        obtain ⟨t977, A180, H⟩ := H
        replace H : (impl_ranked.l0 k1 (wrap64 (x4_1 + t977)) x4_1 (wrap64 (x6_1 + 16)) (wrap64 (x7_1 + 1)) a0_0 l0_1 t966 t967 y971 y974) = some (r1, r2, r3, r4) := H
        have A18 := Aside0.mk A180
        clear A180
        have H' := Aside0.mk H
        clear H
        have hnb19 := NB964_965.out
        have hnc19 := NB965_964.out
        have hnb20 := NB964_970.out
        have hnc20 := NB970_964.out
        have hcz21_0 : wr.cell? ⟨gb964, 0, none⟩ = some (.int .i64 a0_0) := (blk_cell BK964.out 0).trans rfl
        have hcz21_1 : wr.cell? ⟨gb964, 1, none⟩ = some (.slice A0_1 l0_1.length c0_1) := (blk_cell BK964.out 1).trans rfl
        have hfz21_0 := blk_frozen BK964.out 0
        have hfz21_1 := blk_frozen BK964.out 1
        have hnb22 := NB970_965.out
        have hnc22 := NB965_970.out
        have hcz23_0 : wr.cell? ⟨gb970, 0, none⟩ = some (.int .i64 t966) := (blk_cell BK970.out 0).trans rfl
        have hcz23_1 : wr.cell? ⟨gb970, 1, none⟩ = some (.slice Ao8 t967.length co8) := (blk_cell BK970.out 1).trans rfl
        have hcz23_2 : wr.cell? ⟨gb970, 2, none⟩ = some (u971002) := (blk_cell BK970.out 2).trans rfl
        have hcz23_3 : wr.cell? ⟨gb970, 3, none⟩ = some (u971003) := (blk_cell BK970.out 3).trans rfl
        have hfz23_0 := blk_frozen BK970.out 0
        have hfz23_1 := blk_frozen BK970.out 1
        have hfz23_2 := blk_frozen BK970.out 2
        have hfz23_3 := blk_frozen BK970.out 3
        go_wp2_with (first | ((with_reducible refine gate_builtin (b := .append) (xs := #[.tmp 23, .tmp 25]) rfl ?_); at_builtin; refine Kd.R_append (Kd.int .i64) (w0 := w) w.heap.size rfl (.tmp 23) (.tmp 25) 22 3 (.int .i64 0) 8 rfl Try.underlying22 info3 rfl (by decide) (by omega) u971002 x971002_1 x4_1 [.int .i64 x4_1] (fun k_ => some k_ ≠ (.slice Ao8 t967.length co8 : Value).ownBlock ∧ some k_ ≠ (u971003 : Value).ownBlock) (fun _ => False) rfl rfl ?aP (fun _ hk => hk.elim) ?aF ?aO ?aB ?aS ?aL ?_; (case aP => exact rfl); (case aB => exact (by repeat (first | (with_reducible first | exact HB.out | apply below_alloc | apply pw_below_drewN | apply below_drew1 | refine below_set ?_ GE964.out | refine below_set ?_ GE965.out | refine below_set ?_ GE970.out) | exact HB.out))); (case aF => exact (fun k_ hk => ⟨Kd.fresh' (Kd.R_lt (by (with_reducible repeat (first | apply Kd.R_alloc | apply Kd.R_drewN | apply Kd.R_drew)); exact HO_971001.out)) k_ hk, Kd.fresh' (Kd.R_lt (by (with_reducible repeat (first | apply Kd.R_alloc | apply Kd.R_drewN | apply Kd.R_drew)); exact HO_971003.out)) k_ hk⟩)); (case aO => exact (by (with_reducible repeat (first | apply Kd.R_alloc | apply Kd.R_drewN | apply Kd.R_drew)); exact HO_971002.out)); (case aS => exact (below_size (by repeat (first | (with_reducible first | exact HB.out | apply below_alloc | apply pw_below_drewN | apply below_drew1 | refine below_set ?_ GE964.out | refine below_set ?_ GE965.out | refine below_set ?_ GE970.out) | exact HB.out)))); (case aL => have := LMc15.out; omega); intro v972 w24 ho hb hg hat; rw [← Ny971.out] at ho; have n0_ := Aside0.mk (Kd.R_after (ok := (fun k_ => some k_ ≠ (u971003 : Value).ownBlock)) (by (with_reducible repeat (first | apply Kd.R_alloc | apply Kd.R_drewN | apply Kd.R_drew)); exact Kd.R_mono HO_971001.out (fun _ hk => ⟨hk.2, hk.1⟩)) hg hat); have n1_ := Aside0.mk (Kd.R_after (ok := (fun k_ => some k_ ≠ (.slice Ao8 t967.length co8 : Value).ownBlock)) (by (with_reducible repeat (first | apply Kd.R_alloc | apply Kd.R_drewN | apply Kd.R_drew)); exact HO_971003.out) hg hat); have n2_ := Aside0.mk (blk_grown (g := gb964) (o := .cells #[.int .i64 a0_0, .slice A0_1 l0_1.length c0_1] 39 (0, 0)) (by (with_reducible repeat (first | refine blk_drewN ?_ _ | refine blk_drew ?_ | refine blk_alloc ?_ _)); exact BK964.out) hg (Kd.R_ne HO_971002.out BK964.out (by decide))); have n3_ := Aside0.mk (blk_grown (g := gb965) (o := .cells #[.int .i64 0, .slice none 0 0, .slice none 0 0, .slice none 0 0] 85 (0, 0)) (by (with_reducible repeat (first | refine blk_drewN ?_ _ | refine blk_drew ?_ | refine blk_alloc ?_ _)); exact BK965.out) hg (Kd.R_ne HO_971002.out BK965.out (by decide))); have n4_ := Aside0.mk (blk_grown (g := gb970) (o := .cells #[.int .i64 t966, .slice Ao8 t967.length co8, u971002, u971003] 85 (0, 0)) (by (with_reducible repeat (first | refine blk_drewN ?_ _ | refine blk_drew ?_ | refine blk_alloc ?_ _)); exact BK970.out) hg (Kd.R_ne HO_971002.out BK970.out (by decide))); have n5_ := Aside0.mk (hb); have n6_ := Aside0.mk (ho); clear HO_971001; clear HO_971003; clear BK964; clear BK965; clear BK970; clear HB; clear HO_971002; have HO_971001 := n0_; have HO_971003 := n1_; have BK964 := n2_; have BK965 := n3_; have BK970 := n4_; have HB := n5_; have HO973 := n6_; clear n0_ n1_ n2_ n3_ n4_ n5_ n6_; clear ho hb hg hat; obtain ⟨Ao25, co25, eo25⟩ := Kd.R_slice HO973.out; subst eo25; have hcz26_0 : w24.cell? ⟨gb970, 0, none⟩ = some (.int .i64 t966) := (blk_cell BK970.out 0).trans rfl; have hcz26_1 : w24.cell? ⟨gb970, 1, none⟩ = some (.slice Ao8 t967.length co8) := (blk_cell BK970.out 1).trans rfl; have hcz26_2 : w24.cell? ⟨gb970, 2, none⟩ = some (u971002) := (blk_cell BK970.out 2).trans rfl; have hcz26_3 : w24.cell? ⟨gb970, 3, none⟩ = some (u971003) := (blk_cell BK970.out 3).trans rfl; have hfz26_0 := blk_frozen BK970.out 0; have hfz26_1 := blk_frozen BK970.out 1; have hfz26_2 := blk_frozen BK970.out 2; have hfz26_3 := blk_frozen BK970.out 3) | ((with_reducible refine gate_builtin (b := .append) (xs := #[.tmp 30, .tmp 34]) rfl ?_); at_builtin; refine Kd.R_append (Kd.int .i64) (w0 := w) w.heap.size rfl (.tmp 30) (.tmp 34) 22 3 (.int .i64 0) 8 rfl Try.underlying22 info3 rfl (by decide) (by omega) u971003 x971003_1 0 [.int .i64 0] (fun k_ => some k_ ≠ (.slice Ao8 t967.length co8 : Value).ownBlock ∧ some k_ ≠ (.slice Ao25 y971.length co25 : Value).ownBlock) (fun _ => False) rfl (by first | (go_simp; done) | (go_simp; rfl)) ?aP (fun _ hk => hk.elim) ?aF ?aO ?aB ?aS ?aL ?_; (case aP => exact rfl); (case aB => exact (by repeat (first | (with_reducible first | exact HB.out | apply below_alloc | apply pw_below_drewN | apply below_drew1 | refine below_set ?_ GE964.out | refine below_set ?_ GE965.out | refine below_set ?_ GE970.out) | exact HB.out))); (case aF => exact (fun k_ hk => ⟨Kd.fresh' (Kd.R_lt (by (with_reducible repeat (first | apply Kd.R_alloc | apply Kd.R_drewN | apply Kd.R_drew)); exact (Kd.R_mono (Kd.R_far (p := ⟨gb970, 2, none⟩) (Kd.R_types HO_971001.out BK970.out (by decide)) (fun _ hk => hk.2) (.slice Ao25 y971.length co25)) (fun _ h_ => h_.1)))) k_ hk, Kd.fresh' (Kd.R_lt (by (with_reducible repeat (first | apply Kd.R_alloc | apply Kd.R_drewN | apply Kd.R_drew)); exact (Kd.R_mono (Kd.R_far (p := ⟨gb970, 2, none⟩) (Kd.R_types HO973.out BK970.out (by decide)) (fun _ hk => hk.2) (.slice Ao25 y971.length co25)) (fun _ h_ => h_.1)))) k_ hk⟩)); (case aO => exact (by (with_reducible repeat (first | apply Kd.R_alloc | apply Kd.R_drewN | apply Kd.R_drew)); exact Kd.R_mono (Kd.R_far (p := ⟨gb970, 2, none⟩) (Kd.R_types HO_971003.out BK970.out (by decide)) (fun _ hk => hk.2) (.slice Ao25 y971.length co25)) (fun _ hk => ⟨hk.1.1, hk.1.2⟩))); (case aS => exact (below_size (by repeat (first | (with_reducible first | exact HB.out | apply below_alloc | apply pw_below_drewN | apply below_drew1 | refine below_set ?_ GE964.out | refine below_set ?_ GE965.out | refine below_set ?_ GE970.out) | exact HB.out)))); (case aL => have := LMc16.out; omega); intro v975 w27 ho hb hg hat; rw [← Ny974.out] at ho; have n0_ := Aside0.mk (Kd.R_after (ok := (fun k_ => some k_ ≠ (.slice Ao25 y971.length co25 : Value).ownBlock)) (by (with_reducible repeat (first | apply Kd.R_alloc | apply Kd.R_drewN | apply Kd.R_drew)); exact Kd.R_mono (Kd.R_far (p := ⟨gb970, 2, none⟩) (Kd.R_types HO_971001.out BK970.out (by decide)) (fun _ hk => hk.2) (.slice Ao25 y971.length co25)) (fun _ hk => ⟨hk.1.2, hk.1.1⟩)) hg hat); have n1_ := Aside0.mk (blk_grown (g := gb964) (o := .cells #[.int .i64 a0_0, .slice A0_1 l0_1.length c0_1] 39 (0, 0)) (by (with_reducible repeat (first | refine blk_drewN ?_ _ | refine blk_drew ?_ | refine blk_alloc ?_ _)); refine blk_far ?_ NB964_970.out _; (with_reducible repeat (first | refine blk_drewN ?_ _ | refine blk_drew ?_ | refine blk_alloc ?_ _)); exact BK964.out) hg (Kd.R_ne HO_971003.out BK964.out (by decide))); have n2_ := Aside0.mk (blk_grown (g := gb965) (o := .cells #[.int .i64 0, .slice none 0 0, .slice none 0 0, .slice none 0 0] 85 (0, 0)) (by (with_reducible repeat (first | refine blk_drewN ?_ _ | refine blk_drew ?_ | refine blk_alloc ?_ _)); refine blk_far ?_ NB965_970.out _; (with_reducible repeat (first | refine blk_drewN ?_ _ | refine blk_drew ?_ | refine blk_alloc ?_ _)); exact BK965.out) hg (Kd.R_ne HO_971003.out BK965.out (by decide))); have n3_ := Aside0.mk (blk_grown (g := gb970) (o := .cells #[.int .i64 t966, .slice Ao8 t967.length co8, .slice Ao25 y971.length co25, u971003] 85 (0, 0)) (by (with_reducible repeat (first | refine blk_drewN ?_ _ | refine blk_drew ?_ | refine blk_alloc ?_ _)); refine blk_put (cs := #[.int .i64 t966, .slice Ao8 t967.length co8, u971002, u971003]) ?_ 2 _ rfl; (with_reducible repeat (first | refine blk_drewN ?_ _ | refine blk_drew ?_ | refine blk_alloc ?_ _)); exact BK970.out) hg (Kd.R_ne HO_971003.out BK970.out (by decide))); have n4_ := Aside0.mk (Kd.R_after (ok := (fun k_ => some k_ ≠ (.slice Ao8 t967.length co8 : Value).ownBlock)) (by (with_reducible repeat (first | apply Kd.R_alloc | apply Kd.R_drewN | apply Kd.R_drew)); exact Kd.R_mono (Kd.R_far (p := ⟨gb970, 2, none⟩) (Kd.R_types HO973.out BK970.out (by decide)) (fun _ hk => hk.2) (.slice Ao25 y971.length co25)) (fun _ hk => ⟨hk.1.1, hk.1.2⟩)) hg hat); have n5_ := Aside0.mk (hb); have n6_ := Aside0.mk (ho); clear HO_971001; clear BK964; clear BK965; clear BK970; clear HO973; clear HB; clear HO_971003; have HO_971001 := n0_; have BK964 := n1_; have BK965 := n2_; have BK970 := n3_; have HO973 := n4_; have HB := n5_; have HO976 := n6_; clear n0_ n1_ n2_ n3_ n4_ n5_ n6_; clear ho hb hg hat; obtain ⟨Ao28, co28, eo28⟩ := Kd.R_slice HO976.out; subst eo28; have hcz29_0 : w27.cell? ⟨gb970, 0, none⟩ = some (.int .i64 t966) := (blk_cell BK970.out 0).trans rfl; have hcz29_1 : w27.cell? ⟨gb970, 1, none⟩ = some (.slice Ao8 t967.length co8) := (blk_cell BK970.out 1).trans rfl; have hcz29_2 : w27.cell? ⟨gb970, 2, none⟩ = some (.slice Ao25 y971.length co25) := (blk_cell BK970.out 2).trans rfl; have hcz29_3 : w27.cell? ⟨gb970, 3, none⟩ = some (u971003) := (blk_cell BK970.out 3).trans rfl; have hfz29_0 := blk_frozen BK970.out 0; have hfz29_1 := blk_frozen BK970.out 1; have hfz29_2 := blk_frozen BK970.out 2; have hfz29_3 := blk_frozen BK970.out 3; have hcz30_0 : w27.cell? ⟨gb964, 0, none⟩ = some (.int .i64 a0_0) := (blk_cell BK964.out 0).trans rfl; have hcz30_1 : w27.cell? ⟨gb964, 1, none⟩ = some (.slice A0_1 l0_1.length c0_1) := (blk_cell BK964.out 1).trans rfl; have hfz30_0 := blk_frozen BK964.out 0; have hfz30_1 := blk_frozen BK964.out 1) | ((with_reducible refine gate_callee (f := 144) rfl ?_); refine goesL_ (some 44) rfl rfl Try.func144 (by kernel_rfl) rfl #[.pointer (some ⟨gb964, 0, none⟩), .int .i64 x6_1, .int .i64 ji17] rfl (by (try simp only [List.map_toArray, List.map_cons, List.map_nil]); first | done | (simp only [hji17]; rfl) | rfl | (simp only [List.length_drop, List.length_take]; rfl)) ?_; (with_reducible refine (impl_Bits_count.calls k1 gb964 a0_0 A0_1 c0_1 l0_1 x6_1 ji17 t977 _ ?side1 ?side2 ?side3 A18.out).mono ?_); (case side1 => exact Kd.C_below HR0_1.out (by repeat (first | (with_reducible first | exact HB.out | apply below_alloc | apply pw_below_drewN | apply below_drew1 | refine below_set ?_ GE964.out | refine below_set ?_ GE965.out | refine below_set ?_ GE970.out) | exact HB.out))); (case side2 => exact HC0_1.out); (case side3 => exact (by (with_reducible repeat (first | refine blk_drewN ?_ _ | refine blk_drew ?_ | refine blk_alloc ?_ _)); refine blk_far ?_ NB964_970.out _; (with_reducible repeat (first | refine blk_drewN ?_ _ | refine blk_drew ?_ | refine blk_alloc ?_ _)); exact BK964.out)); rintro e w' ⟨rfl, ⟨nd, rfl⟩⟩; refine ⟨_, rfl, ?_⟩))
        go_roundg k1
        case measure => have := HK1.out; omega
        case rel => exact ⟨(wrap64 (x4_1 + t977)), (x4_1), (wrap64 (x6_1 + 16)), (wrap64 (x7_1 + 1)), (y971), (y974), (.slice Ao25 y971.length co25), (.slice Ao28 y974.length co28), (by first | rfl | (simp; done) | (simp [*]; done)), (by first | rfl | (simp; done) | (simp [*]; done)), (by first | rfl | (simp; done) | (simp [*]; done)), (by first | rfl | (simp; done) | (simp [*]; done)), H', ⟨by have := HK1.out; omega⟩, ⟨by (with_reducible repeat (first | apply Kd.R_alloc | apply Kd.R_drewN | apply Kd.R_drew)); exact Kd.R_mono (Kd.R_far (p := ⟨gb970, 3, none⟩) (Kd.R_types HO_971001.out BK970.out (by decide)) (fun _ hk => hk.2) (.slice Ao28 y974.length co28)) (fun _ hk => ⟨hk.1.1, hk.1.2⟩)⟩, ⟨by (with_reducible repeat (first | apply Kd.R_alloc | apply Kd.R_drewN | apply Kd.R_drew)); exact Kd.R_mono (Kd.R_far (p := ⟨gb970, 3, none⟩) (Kd.R_types HO973.out BK970.out (by decide)) (fun _ hk => hk.2) (.slice Ao28 y974.length co28)) (fun _ hk => ⟨hk.1.1, hk.1.2⟩)⟩, ⟨by (with_reducible repeat (first | apply Kd.R_alloc | apply Kd.R_drewN | apply Kd.R_drew)); exact Kd.R_mono (Kd.R_far (p := ⟨gb970, 3, none⟩) (Kd.R_types HO976.out BK970.out (by decide)) (fun _ hk => hk.2) (.slice Ao28 y974.length co28)) (fun _ hk => ⟨hk.1.1, hk.1.2⟩)⟩, ⟨by (with_reducible repeat (first | refine blk_drewN ?_ _ | refine blk_drew ?_ | refine blk_alloc ?_ _)); refine blk_far ?_ NB964_970.out _; (with_reducible repeat (first | refine blk_drewN ?_ _ | refine blk_drew ?_ | refine blk_alloc ?_ _)); exact BK964.out⟩, ⟨by (with_reducible repeat (first | refine blk_drewN ?_ _ | refine blk_drew ?_ | refine blk_alloc ?_ _)); refine blk_far ?_ NB965_970.out _; (with_reducible repeat (first | refine blk_drewN ?_ _ | refine blk_drew ?_ | refine blk_alloc ?_ _)); exact BK965.out⟩, ⟨by (with_reducible repeat (first | refine blk_drewN ?_ _ | refine blk_drew ?_ | refine blk_alloc ?_ _)); refine blk_put (cs := #[.int .i64 t966, .slice Ao8 t967.length co8, .slice Ao25 y971.length co25, u971003]) ?_ 3 _ rfl; (with_reducible repeat (first | refine blk_drewN ?_ _ | refine blk_drew ?_ | refine blk_alloc ?_ _)); exact BK970.out⟩, ⟨by repeat (first | (with_reducible first | exact HB.out | apply below_alloc | apply pw_below_drewN | apply below_drew1 | refine below_set ?_ GE964.out | refine below_set ?_ GE965.out | refine below_set ?_ GE970.out) | exact HB.out)⟩⟩
       ·rw [if_neg c16] at H
        exact absurd H (by simp)
      ·rw [if_neg c15] at H
       exact absurd H (by simp)
     ·rw [if_neg c14] at H
      have c14b0 : ((Int.tmod x6_1 64) == 0) = false := beq_eq_false_iff_ne.mpr c14
      have c14b1 : ((Int.tmod x6_1 64) != 0) = true := bne_iff_ne.mpr c14
      by_cases c31 : x971003_1.length < 17592186044416
      ·rw [if_pos c31] at H
       have LMc31 := Aside0.mk c31
       clear c31
       obtain ⟨y978, hy978⟩ : ∃ y_ : List Int, y_ = (x971003_1 ++ [wrap64 (x4_1 - x5_1)]) := ⟨_, rfl⟩
       replace H : ((impl_Bits_count.f k1 a0_0 l0_1 x6_1 (mn (wrap64 (x6_1 + 16)) a0_0)).bind fun t981 => (impl_ranked.l0 k1 (wrap64 (x4_1 + t981)) x5_1 (wrap64 (x6_1 + 16)) (wrap64 (x7_1 + 1)) a0_0 l0_1 t966 t967 x971002_1 y978)) = some (r1, r2, r3, r4) := by first | (rw [hy978]; with_reducible exact H) | (have H2_ := (Option.bind_some _ _).symm.trans H; rw [hy978]; with_reducible exact H2_) | (have H2_ := (Option.bind_some _ _).symm.trans H; with_reducible exact H2_) | with_reducible exact H | (rw [hy978]; exact H) | exact H
       have Ny978 := Aside0.mk hy978
       clear hy978
       obtain ⟨ji32, hji32⟩ : ∃ j_ : Int, (mn (wrap64 (x6_1 + 16)) a0_0) = j_ := ⟨_, rfl⟩
       replace H : ((impl_Bits_count.f k1 a0_0 l0_1 x6_1 (ji32)).bind fun t981 => (impl_ranked.l0 k1 (wrap64 (x4_1 + t981)) x5_1 (wrap64 (x6_1 + 16)) (wrap64 (x7_1 + 1)) a0_0 l0_1 t966 t967 x971002_1 y978)) = some (r1, r2, r3, r4) := by first | (rw [hji32] at H; exact H) | (simp only [hji32] at H ⊢; exact H)
       have hji32_ : (if a0_0 < (wrap64 (x6_1 + 16)) then a0_0 else (wrap64 (x6_1 + 16))) = ji32 := hji32
       replace H := Option.bind_eq_some_iff.mp H
       obtain ⟨t981, A330, H⟩ := H
       replace H : (impl_ranked.l0 k1 (wrap64 (x4_1 + t981)) x5_1 (wrap64 (x6_1 + 16)) (wrap64 (x7_1 + 1)) a0_0 l0_1 t966 t967 x971002_1 y978) = some (r1, r2, r3, r4) := H
       have A33 := Aside0.mk A330
       clear A330
       have H' := Aside0.mk H
       clear H
       have hnb34 := NB964_965.out
       have hnc34 := NB965_964.out
       have hnb35 := NB964_970.out
       have hnc35 := NB970_964.out
       have hcz36_0 : wr.cell? ⟨gb964, 0, none⟩ = some (.int .i64 a0_0) := (blk_cell BK964.out 0).trans rfl
       have hcz36_1 : wr.cell? ⟨gb964, 1, none⟩ = some (.slice A0_1 l0_1.length c0_1) := (blk_cell BK964.out 1).trans rfl
       have hfz36_0 := blk_frozen BK964.out 0
       have hfz36_1 := blk_frozen BK964.out 1
       have hnb37 := NB970_965.out
       have hnc37 := NB965_970.out
       have hcz38_0 : wr.cell? ⟨gb970, 0, none⟩ = some (.int .i64 t966) := (blk_cell BK970.out 0).trans rfl
       have hcz38_1 : wr.cell? ⟨gb970, 1, none⟩ = some (.slice Ao8 t967.length co8) := (blk_cell BK970.out 1).trans rfl
       have hcz38_2 : wr.cell? ⟨gb970, 2, none⟩ = some (u971002) := (blk_cell BK970.out 2).trans rfl
       have hcz38_3 : wr.cell? ⟨gb970, 3, none⟩ = some (u971003) := (blk_cell BK970.out 3).trans rfl
       have hfz38_0 := blk_frozen BK970.out 0
       have hfz38_1 := blk_frozen BK970.out 1
       have hfz38_2 := blk_frozen BK970.out 2
       have hfz38_3 := blk_frozen BK970.out 3
       go_wp2_with (first | ((with_reducible refine gate_builtin (b := .append) (xs := #[.tmp 30, .tmp 34]) rfl ?_); at_builtin; refine Kd.R_append (Kd.int .i64) (w0 := w) w.heap.size rfl (.tmp 30) (.tmp 34) 22 3 (.int .i64 0) 8 rfl Try.underlying22 info3 rfl (by decide) (by omega) u971003 x971003_1 (wrap64 (x4_1 - x5_1)) [.int .i64 (wrap64 (x4_1 - x5_1))] (fun k_ => some k_ ≠ (.slice Ao8 t967.length co8 : Value).ownBlock ∧ some k_ ≠ (u971002 : Value).ownBlock) (fun _ => False) rfl rfl ?aP (fun _ hk => hk.elim) ?aF ?aO ?aB ?aS ?aL ?_; (case aP => exact rfl); (case aB => exact (by repeat (first | (with_reducible first | exact HB.out | apply below_alloc | apply pw_below_drewN | apply below_drew1 | refine below_set ?_ GE964.out | refine below_set ?_ GE965.out | refine below_set ?_ GE970.out) | exact HB.out))); (case aF => exact (fun k_ hk => ⟨Kd.fresh' (Kd.R_lt (by (with_reducible repeat (first | apply Kd.R_alloc | apply Kd.R_drewN | apply Kd.R_drew)); exact HO_971001.out)) k_ hk, Kd.fresh' (Kd.R_lt (by (with_reducible repeat (first | apply Kd.R_alloc | apply Kd.R_drewN | apply Kd.R_drew)); exact HO_971002.out)) k_ hk⟩)); (case aO => exact (by (with_reducible repeat (first | apply Kd.R_alloc | apply Kd.R_drewN | apply Kd.R_drew)); exact HO_971003.out)); (case aS => exact (below_size (by repeat (first | (with_reducible first | exact HB.out | apply below_alloc | apply pw_below_drewN | apply below_drew1 | refine below_set ?_ GE964.out | refine below_set ?_ GE965.out | refine below_set ?_ GE970.out) | exact HB.out)))); (case aL => have := LMc31.out; omega); intro v979 w39 ho hb hg hat; rw [← Ny978.out] at ho; have n0_ := Aside0.mk (Kd.R_after (ok := (fun k_ => some k_ ≠ (u971002 : Value).ownBlock)) (by (with_reducible repeat (first | apply Kd.R_alloc | apply Kd.R_drewN | apply Kd.R_drew)); exact HO_971001.out) hg hat); have n1_ := Aside0.mk (Kd.R_after (ok := (fun k_ => some k_ ≠ (.slice Ao8 t967.length co8 : Value).ownBlock)) (by (with_reducible repeat (first | apply Kd.R_alloc | apply Kd.R_drewN | apply Kd.R_drew)); exact HO_971002.out) hg hat); have n2_ := Aside0.mk (blk_grown (g := gb964) (o := .cells #[.int .i64 a0_0, .slice A0_1 l0_1.length c0_1] 39 (0, 0)) (by (with_reducible repeat (first | refine blk_drewN ?_ _ | refine blk_drew ?_ | refine blk_alloc ?_ _)); exact BK964.out) hg (Kd.R_ne HO_971003.out BK964.out (by decide))); have n3_ := Aside0.mk (blk_grown (g := gb965) (o := .cells #[.int .i64 0, .slice none 0 0, .slice none 0 0, .slice none 0 0] 85 (0, 0)) (by (with_reducible repeat (first | refine blk_drewN ?_ _ | refine blk_drew ?_ | refine blk_alloc ?_ _)); exact BK965.out) hg (Kd.R_ne HO_971003.out BK965.out (by decide))); have n4_ := Aside0.mk (blk_grown (g := gb970) (o := .cells #[.int .i64 t966, .slice Ao8 t967.length co8, u971002, u971003] 85 (0, 0)) (by (with_reducible repeat (first | refine blk_drewN ?_ _ | refine blk_drew ?_ | refine blk_alloc ?_ _)); exact BK970.out) hg (Kd.R_ne HO_971003.out BK970.out (by decide))); have n5_ := Aside0.mk (hb); have n6_ := Aside0.mk (ho); clear HO_971001; clear HO_971002; clear BK964; clear BK965; clear BK970; clear HB; clear HO_971003; have HO_971001 := n0_; have HO_971002 := n1_; have BK964 := n2_; have BK965 := n3_; have BK970 := n4_; have HB := n5_; have HO980 := n6_; clear n0_ n1_ n2_ n3_ n4_ n5_ n6_; clear ho hb hg hat; obtain ⟨Ao40, co40, eo40⟩ := Kd.R_slice HO980.out; subst eo40; have hcz41_0 : w39.cell? ⟨gb970, 0, none⟩ = some (.int .i64 t966) := (blk_cell BK970.out 0).trans rfl; have hcz41_1 : w39.cell? ⟨gb970, 1, none⟩ = some (.slice Ao8 t967.length co8) := (blk_cell BK970.out 1).trans rfl; have hcz41_2 : w39.cell? ⟨gb970, 2, none⟩ = some (u971002) := (blk_cell BK970.out 2).trans rfl; have hcz41_3 : w39.cell? ⟨gb970, 3, none⟩ = some (u971003) := (blk_cell BK970.out 3).trans rfl; have hfz41_0 := blk_frozen BK970.out 0; have hfz41_1 := blk_frozen BK970.out 1; have hfz41_2 := blk_frozen BK970.out 2; have hfz41_3 := blk_frozen BK970.out 3; have hcz42_0 : w39.cell? ⟨gb964, 0, none⟩ = some (.int .i64 a0_0) := (blk_cell BK964.out 0).trans rfl; have hcz42_1 : w39.cell? ⟨gb964, 1, none⟩ = some (.slice A0_1 l0_1.length c0_1) := (blk_cell BK964.out 1).trans rfl; have hfz42_0 := blk_frozen BK964.out 0; have hfz42_1 := blk_frozen BK964.out 1) | ((with_reducible refine gate_callee (f := 144) rfl ?_); refine goesL_ (some 44) rfl rfl Try.func144 (by kernel_rfl) rfl #[.pointer (some ⟨gb964, 0, none⟩), .int .i64 x6_1, .int .i64 ji32] rfl (by (try simp only [List.map_toArray, List.map_cons, List.map_nil]); first | done | (simp only [hji32]; rfl) | rfl | (simp only [List.length_drop, List.length_take]; rfl)) ?_; (with_reducible refine (impl_Bits_count.calls k1 gb964 a0_0 A0_1 c0_1 l0_1 x6_1 ji32 t981 _ ?side1 ?side2 ?side3 A33.out).mono ?_); (case side1 => exact Kd.C_below HR0_1.out (by repeat (first | (with_reducible first | exact HB.out | apply below_alloc | apply pw_below_drewN | apply below_drew1 | refine below_set ?_ GE964.out | refine below_set ?_ GE965.out | refine below_set ?_ GE970.out) | exact HB.out))); (case side2 => exact HC0_1.out); (case side3 => exact (by (with_reducible repeat (first | refine blk_drewN ?_ _ | refine blk_drew ?_ | refine blk_alloc ?_ _)); refine blk_far ?_ NB964_970.out _; (with_reducible repeat (first | refine blk_drewN ?_ _ | refine blk_drew ?_ | refine blk_alloc ?_ _)); exact BK964.out)); rintro e w' ⟨rfl, ⟨nd, rfl⟩⟩; refine ⟨_, rfl, ?_⟩))
       go_roundg k1
       case measure => have := HK1.out; omega
       case rel => exact ⟨(wrap64 (x4_1 + t981)), (x5_1), (wrap64 (x6_1 + 16)), (wrap64 (x7_1 + 1)), (x971002_1), (y978), (u971002), (.slice Ao40 y978.length co40), (by first | rfl | (simp; done) | (simp [*]; done)), (by first | rfl | (simp; done) | (simp [*]; done)), (by first | rfl | (simp; done) | (simp [*]; done)), (by first | rfl | (simp; done) | (simp [*]; done)), H', ⟨by have := HK1.out; omega⟩, ⟨by (with_reducible repeat (first | apply Kd.R_alloc | apply Kd.R_drewN | apply Kd.R_drew)); exact Kd.R_mono (Kd.R_far (p := ⟨gb970, 3, none⟩) (Kd.R_types HO_971001.out BK970.out (by decide)) (fun _ hk => hk.2) (.slice Ao40 y978.length co40)) (fun _ hk => ⟨hk.1.1, hk.1.2⟩)⟩, ⟨by (with_reducible repeat (first | apply Kd.R_alloc | apply Kd.R_drewN | apply Kd.R_drew)); exact Kd.R_mono (Kd.R_far (p := ⟨gb970, 3, none⟩) (Kd.R_types HO_971002.out BK970.out (by decide)) (fun _ hk => hk.2) (.slice Ao40 y978.length co40)) (fun _ hk => ⟨hk.1.1, hk.1.2⟩)⟩, ⟨by (with_reducible repeat (first | apply Kd.R_alloc | apply Kd.R_drewN | apply Kd.R_drew)); exact Kd.R_mono (Kd.R_far (p := ⟨gb970, 3, none⟩) (Kd.R_types HO980.out BK970.out (by decide)) (fun _ hk => hk.2) (.slice Ao40 y978.length co40)) (fun _ hk => ⟨hk.1.1, hk.1.2⟩)⟩, ⟨by (with_reducible repeat (first | refine blk_drewN ?_ _ | refine blk_drew ?_ | refine blk_alloc ?_ _)); refine blk_far ?_ NB964_970.out _; (with_reducible repeat (first | refine blk_drewN ?_ _ | refine blk_drew ?_ | refine blk_alloc ?_ _)); exact BK964.out⟩, ⟨by (with_reducible repeat (first | refine blk_drewN ?_ _ | refine blk_drew ?_ | refine blk_alloc ?_ _)); refine blk_far ?_ NB965_970.out _; (with_reducible repeat (first | refine blk_drewN ?_ _ | refine blk_drew ?_ | refine blk_alloc ?_ _)); exact BK965.out⟩, ⟨by (with_reducible repeat (first | refine blk_drewN ?_ _ | refine blk_drew ?_ | refine blk_alloc ?_ _)); refine blk_put (cs := #[.int .i64 t966, .slice Ao8 t967.length co8, u971002, u971003]) ?_ 3 _ rfl; (with_reducible repeat (first | refine blk_drewN ?_ _ | refine blk_drew ?_ | refine blk_alloc ?_ _)); exact BK970.out⟩, ⟨by repeat (first | (with_reducible first | exact HB.out | apply below_alloc | apply pw_below_drewN | apply below_drew1 | refine below_set ?_ GE964.out | refine below_set ?_ GE965.out | refine below_set ?_ GE970.out) | exact HB.out)⟩⟩
      ·rw [if_neg c31] at H
       exact absurd H (by simp)
    ·rw [if_neg c13] at H
     have c13b0 : decide (x6_1 < a0_0) = false := decide_eq_false c13
     clear c13
     simp only [Option.some.injEq, Prod.mk.injEq] at H
     obtain ⟨rfl, rfl, rfl, rfl⟩ := H
     have hnb43 := NB964_965.out
     have hnc43 := NB965_964.out
     have hnb44 := NB964_970.out
     have hnc44 := NB970_964.out
     have hcz45_0 : wr.cell? ⟨gb964, 0, none⟩ = some (.int .i64 a0_0) := (blk_cell BK964.out 0).trans rfl
     have hcz45_1 : wr.cell? ⟨gb964, 1, none⟩ = some (.slice A0_1 l0_1.length c0_1) := (blk_cell BK964.out 1).trans rfl
     have hfz45_0 := blk_frozen BK964.out 0
     have hfz45_1 := blk_frozen BK964.out 1
     have hnb46 := NB970_965.out
     have hnc46 := NB965_970.out
     have hcz47_0 : wr.cell? ⟨gb970, 0, none⟩ = some (.int .i64 t966) := (blk_cell BK970.out 0).trans rfl
     have hcz47_1 : wr.cell? ⟨gb970, 1, none⟩ = some (.slice Ao8 t967.length co8) := (blk_cell BK970.out 1).trans rfl
     have hcz47_2 : wr.cell? ⟨gb970, 2, none⟩ = some (u971002) := (blk_cell BK970.out 2).trans rfl
     have hcz47_3 : wr.cell? ⟨gb970, 3, none⟩ = some (u971003) := (blk_cell BK970.out 3).trans rfl
     have hfz47_0 := blk_frozen BK970.out 0
     have hfz47_1 := blk_frozen BK970.out 1
     have hfz47_2 := blk_frozen BK970.out 2
     have hfz47_3 := blk_frozen BK970.out 3
     have hcz48_0 : wr.cell? ⟨gb965, 0, none⟩ = some (.int .i64 0) := (blk_cell BK965.out 0).trans rfl
     have hcz48_1 : wr.cell? ⟨gb965, 1, none⟩ = some (.slice none 0 0) := (blk_cell BK965.out 1).trans rfl
     have hcz48_2 : wr.cell? ⟨gb965, 2, none⟩ = some (.slice none 0 0) := (blk_cell BK965.out 2).trans rfl
     have hcz48_3 : wr.cell? ⟨gb965, 3, none⟩ = some (.slice none 0 0) := (blk_cell BK965.out 3).trans rfl
     have hfz48_0 := blk_frozen BK965.out 0
     have hfz48_1 := blk_frozen BK965.out 1
     have hfz48_2 := blk_frozen BK965.out 2
     have hfz48_3 := blk_frozen BK965.out 3
     obtain ⟨Ao49, co49, eo49⟩ := Kd.R_slice HO_971002.out
     subst eo49
     obtain ⟨Ao50, co50, eo50⟩ := Kd.R_slice HO_971003.out
     subst eo50
     go_wp2
     refine bodyPost_ret (results_cell_row rfl _ _ gb965 85 #[.int .i64 t966, .slice Ao8 t967.length co8, .slice Ao49 x971002_1.length co49, .slice Ao50 x971003_1.length co50] (0, 0) _ rfl (by (with_reducible repeat (first | refine blk_drewN ?_ _ | refine blk_drew ?_ | refine blk_alloc ?_ _)); refine blk_put (cs := #[.int .i64 t966, .slice Ao8 t967.length co8, .slice Ao49 x971002_1.length co49, .slice none 0 0]) ?_ 3 _ rfl; (with_reducible repeat (first | refine blk_drewN ?_ _ | refine blk_drew ?_ | refine blk_alloc ?_ _)); refine blk_put (cs := #[.int .i64 t966, .slice Ao8 t967.length co8, .slice none 0 0, .slice none 0 0]) ?_ 2 _ rfl; (with_reducible repeat (first | refine blk_drewN ?_ _ | refine blk_drew ?_ | refine blk_alloc ?_ _)); refine blk_put (cs := #[.int .i64 t966, .slice none 0 0, .slice none 0 0, .slice none 0 0]) ?_ 1 _ rfl; (with_reducible repeat (first | refine blk_drewN ?_ _ | refine blk_drew ?_ | refine blk_alloc ?_ _)); refine blk_put (cs := #[.int .i64 0, .slice none 0 0, .slice none 0 0, .slice none 0 0]) ?_ 0 _ rfl; (with_reducible repeat (first | refine blk_drewN ?_ _ | refine blk_drew ?_ | refine blk_alloc ?_ _)); exact BK965.out) Try.underlying85 rfl (by kernel_rfl)) rfl ?_
     exact ⟨_, _, _, by first | rfl | (simp [errW_none, errW_some] <;> rfl) | (simp [*, errW_none, errW_some] <;> rfl), by (with_reducible repeat (first | apply Kd.R_alloc | apply Kd.R_drewN | apply Kd.R_drew)); exact Kd.R_mono (Kd.R_far (p := ⟨gb965, 3, none⟩) (Kd.R_far (p := ⟨gb965, 2, none⟩) (Kd.R_far (p := ⟨gb965, 1, none⟩) (Kd.R_far (p := ⟨gb965, 0, none⟩) (Kd.R_types HO_971001.out BK965.out (by decide)) (fun _ hk => hk.2) (.int .i64 t966)) (fun _ hk => hk.2) (.slice Ao8 t967.length co8)) (fun _ hk => hk.2) (.slice Ao49 x971002_1.length co49)) (fun _ hk => hk.2) (.slice Ao50 x971003_1.length co50)) (fun _ hk => ⟨hk.1.1, hk.1.2⟩), by (with_reducible repeat (first | apply Kd.R_alloc | apply Kd.R_drewN | apply Kd.R_drew)); exact Kd.R_mono (Kd.R_far (p := ⟨gb965, 3, none⟩) (Kd.R_far (p := ⟨gb965, 2, none⟩) (Kd.R_far (p := ⟨gb965, 1, none⟩) (Kd.R_far (p := ⟨gb965, 0, none⟩) (Kd.R_types HO_971002.out BK965.out (by decide)) (fun _ hk => hk.2) (.int .i64 t966)) (fun _ hk => hk.2) (.slice Ao8 t967.length co8)) (fun _ hk => hk.2) (.slice Ao49 x971002_1.length co49)) (fun _ hk => hk.2) (.slice Ao50 x971003_1.length co50)) (fun _ hk => ⟨hk.1.1, hk.1.2⟩), by (with_reducible repeat (first | apply Kd.R_alloc | apply Kd.R_drewN | apply Kd.R_drew)); exact Kd.R_mono (Kd.R_far (p := ⟨gb965, 3, none⟩) (Kd.R_far (p := ⟨gb965, 2, none⟩) (Kd.R_far (p := ⟨gb965, 1, none⟩) (Kd.R_far (p := ⟨gb965, 0, none⟩) (Kd.R_types HO_971003.out BK965.out (by decide)) (fun _ hk => hk.2) (.int .i64 t966)) (fun _ hk => hk.2) (.slice Ao8 t967.length co8)) (fun _ hk => hk.2) (.slice Ao49 x971002_1.length co49)) (fun _ hk => hk.2) (.slice Ao50 x971003_1.length co50)) (fun _ hk => ⟨hk.1.1, hk.1.2⟩), by repeat (first | (with_reducible first | exact HB.out | apply below_alloc | apply pw_below_drewN | apply below_drew1 | refine below_set ?_ GE964.out | refine below_set ?_ GE965.out | refine below_set ?_ GE970.out) | exact HB.out)⟩
/-! ### impl_UsedOf_1: function 117 -/
def impl_UsedOf_1.f (a0 : Int) (a1_0 : Int) (a1_1 : Int) (l1_2 : List Int) : Option (Bool) := if 0 ≤ a0 then (if a0 < (l1_2.length : Int) then (some ((rd l1_2 a0) != 3)) else (none)) else (none)
set_option maxHeartbeats 8000000 in
set_option maxRecDepth 100000 in
theorem impl_UsedOf_1.calls (a0 : Int) (gb1_ : Nat) (a1_0 : Int) (a1_1 : Int) (A1_2 : Option Addr) (c1_2 : Nat) (l1_2 : List Int) (r : Bool) (w : World) (hr1_2 : Kd.C (Kd.int .i64) w A1_2 l1_2.length l1_2) (hc1_2 : l1_2.length ≤ c1_2) (hb1_ : w.heap[gb1_]? = some (.cells #[.int .i64 a1_0, .int .i64 a1_1, .slice A1_2 l1_2.length c1_2] 36 (0, 0))) (h : impl_UsedOf_1.f a0 a1_0 a1_1 l1_2 = some r) :
    Calls Try.prog 117 #[.int .i64 a0, .pointer (some ⟨gb1_, 0, none⟩)] w fun e w' => e = .returned (.bool r) ∧ Drawn0 w w' := by
  have HR1_2 := Aside0.mk hr1_2
  have HC1_2 := Aside0.mk hc1_2
  clear hr1_2 hc1_2
  have BK1 := Aside0.mk hb1_
  clear hb1_
  have H : (if 0 ≤ a0 then (if a0 < (l1_2.length : Int) then (some ((rd l1_2 a0) != 3)) else (none)) else (none)) = some r := h
  clear h
  by_cases c3 : 0 ≤ a0
  ·rw [if_pos c3] at H
   have c3b0 : decide (0 ≤ a0) = true := decide_eq_true c3
   clear c3
   by_cases c4 : a0 < (l1_2.length : Int)
   ·rw [if_pos c4] at H
    have c4b0 : decide (a0 < (l1_2.length : Int)) = true := decide_eq_true c4
    clear c4
    obtain rfl := Option.some.inj H
    have hcz5_0 : w.cell? ⟨gb1_, 0, none⟩ = some (.int .i64 a1_0) := (blk_cell BK1.out 0).trans rfl
    have hcz5_1 : w.cell? ⟨gb1_, 1, none⟩ = some (.int .i64 a1_1) := (blk_cell BK1.out 1).trans rfl
    have hcz5_2 : w.cell? ⟨gb1_, 2, none⟩ = some (.slice A1_2 l1_2.length c1_2) := (blk_cell BK1.out 2).trans rfl
    have hfz5_0 := blk_frozen BK1.out 0
    have hfz5_1 := blk_frozen BK1.out 1
    have hfz5_2 := blk_frozen BK1.out 2
    have p982 : 0 ≤ (a0 : Int) := of_decide_eq_true (by first | (with_reducible assumption) | assumption)
    have q982 : a0 < (l1_2.length : Int) := of_decide_eq_true (by first | (with_reducible assumption) | assumption)
    obtain ⟨ad982, e982, hx982_0⟩ := Kd.at_int HR1_2.out a0 p982 q982
    cases e982
    replace p982 := eq_true p982
    replace q982 := eq_true q982
    go_enter Try.func117, Try.ntmps117
    go_wp2
    go_ret
    exact ⟨by first | rfl | (simp; done) | (simp [*]; done), by repeat (first | exact Drawn0.refl _ | apply Drawn0.step)⟩
   ·rw [if_neg c4] at H
    exact absurd H (by simp)
  ·rw [if_neg c3] at H
   exact absurd H (by simp)
end Go.Proofs.Ytioncjcmfbndmaa.X
