/- Written by a program of this session: what functions of the given program compute, and that their calls do so. -/
import Derived.Test.YtdlbdocpofnfjaaXx0
import Derived.Test.YtdlbdocpofnfjaaXg3ffa
namespace Go.Proofs.Ytdlbdocpofnfjaa.X
open Go.RowKit Go.Proofs.YtdlbdocpofnfjaaW.PrintWords Go.Proofs.YtdlbdocpofnfjaaW.PrintLast Go.Proofs.YtdlbdocpofnfjaaW.PrintMore
theorem cellsQ2_g3ffb {w : World} {g : Nat} {t : TypeId} {a0 a1 : Value} (k : w.heap[g]? = some (.cells #[a0, a1] t (0, 0))) : w.cell? ⟨g, 0, none⟩ = some a0 ∧ w.cell? ⟨g, 1, none⟩ = some a1 ∧ w.frozen? ⟨g, 0, none⟩ = false ∧ w.frozen? ⟨g, 1, none⟩ = false := ⟨(blk_cell k 0).trans rfl, (blk_cell k 1).trans rfl, blk_frozen k 0, blk_frozen k 1⟩
theorem cellsQ7_g3ffb {w : World} {g : Nat} {t : TypeId} {a0 a1 a2 a3 a4 a5 a6 : Value} (k : w.heap[g]? = some (.cells #[a0, a1, a2, a3, a4, a5, a6] t (0, 0))) : w.cell? ⟨g, 0, none⟩ = some a0 ∧ w.cell? ⟨g, 1, none⟩ = some a1 ∧ w.cell? ⟨g, 2, none⟩ = some a2 ∧ w.cell? ⟨g, 3, none⟩ = some a3 ∧ w.cell? ⟨g, 4, none⟩ = some a4 ∧ w.cell? ⟨g, 5, none⟩ = some a5 ∧ w.cell? ⟨g, 6, none⟩ = some a6 ∧ w.frozen? ⟨g, 0, none⟩ = false ∧ w.frozen? ⟨g, 1, none⟩ = false ∧ w.frozen? ⟨g, 2, none⟩ = false ∧ w.frozen? ⟨g, 3, none⟩ = false ∧ w.frozen? ⟨g, 4, none⟩ = false ∧ w.frozen? ⟨g, 5, none⟩ = false ∧ w.frozen? ⟨g, 6, none⟩ = false := ⟨(blk_cell k 0).trans rfl, (blk_cell k 1).trans rfl, (blk_cell k 2).trans rfl, (blk_cell k 3).trans rfl, (blk_cell k 4).trans rfl, (blk_cell k 5).trans rfl, (blk_cell k 6).trans rfl, blk_frozen k 0, blk_frozen k 1, blk_frozen k 2, blk_frozen k 3, blk_frozen k 4, blk_frozen k 5, blk_frozen k 6⟩
theorem farsQ2_g3ffb {τ : Type} {d : Kd τ} {e : Nat} {w : World} {base g : Nat} {ok : Nat → Prop} {v : Value} {xs : List τ} (h : d.R e w base ok v xs) (hok : ∀ k, ok k → k ≠ g) (u0 u1 : Value) : d.R e ((w.setCell ⟨g, 0, none⟩ u0).setCell ⟨g, 1, none⟩ u1) base ok v xs := Kd.R_far (p := ⟨g, 1, none⟩) (Kd.R_far (p := ⟨g, 0, none⟩) h hok u0) hok u1
theorem farsQ7_g3ffb {τ : Type} {d : Kd τ} {e : Nat} {w : World} {base g : Nat} {ok : Nat → Prop} {v : Value} {xs : List τ} (h : d.R e w base ok v xs) (hok : ∀ k, ok k → k ≠ g) (u0 u1 u2 u3 u4 u5 u6 : Value) : d.R e (((((((w.setCell ⟨g, 0, none⟩ u0).setCell ⟨g, 1, none⟩ u1).setCell ⟨g, 2, none⟩ u2).setCell ⟨g, 3, none⟩ u3).setCell ⟨g, 4, none⟩ u4).setCell ⟨g, 5, none⟩ u5).setCell ⟨g, 6, none⟩ u6) base ok v xs := Kd.R_far (p := ⟨g, 6, none⟩) (Kd.R_far (p := ⟨g, 5, none⟩) (Kd.R_far (p := ⟨g, 4, none⟩) (Kd.R_far (p := ⟨g, 3, none⟩) (Kd.R_far (p := ⟨g, 2, none⟩) (Kd.R_far (p := ⟨g, 1, none⟩) (Kd.R_far (p := ⟨g, 0, none⟩) h hok u0) hok u1) hok u2) hok u3) hok u4) hok u5) hok u6
open Go.Proofs.YtdlbdocpofnfjaaW.PrintWords renaming blk_cell → Qc, pw_below_drewN → Qn, below_drew1 → Qd, below_alloc → Qa, blk_alloc → Qk, blk_drewN → Qm, blk_drew → Qw, below_set → Qs, below_size → Qz, below_step → Qp, blk_below → Qb, blk_put → Qu
open Go.Proofs.YtdlbdocpofnfjaaW.PrintWords.Kd renaming R_drewN → Qrn, R_alloc → Qra, R_drew → Qrd, R_mono → Qrm
open Go.Proofs.YtdlbdocpofnfjaaW.PrintWords.Aside0 renaming mk → Qx
attribute [local go_sem] max2_int min2_int max_two min_two max_three min_three max_four min_four   -- for this text's walks alone
set_option linter.unusedVariables false
set_option linter.unusedSimpArgs false
/-! ### impl_fields: function 93 -/
def impl_fields.l0 : Nat → Int → List Int → Int → Int → Int → List Int → Option (Int × List Int)
  | 0, _, _, _, _, _, _ => none
  | k + 1, x1, x13, x14, x15, x183000, x183001 => if x15 < x14 then (if 0 ≤ x15 then (if x15 < (x13.length : Int) then ((impl_Bits_setField.f k x183000 x183001 (wrap64 (x15 * x1)) x1 (rd x13 x15)).bind fun t184 => (impl_fields.l0 k x1 x13 x14 (wrap64 (x15 + 1)) x183000 t184)) else (none)) else (none)) else (some (x183000, x183001))
def impl_fields.f (k : Nat) (l0 : List Int) (a1 : Int) : Option (Int × List Int) := (impl_blank.f (wrap64 ((l0.length : Int) * a1))).bind fun bt178 => (impl_fields.l0 k a1 l0 (l0.length : Int) 0 bt178.1 bt178.2)
theorem impl_fields.mono_l : ∀ k, (∀ y0 y1 y2 y3 y4 y5, LeO (impl_fields.l0 k y0 y1 y2 y3 y4 y5) (impl_fields.l0 (k + 1) y0 y1 y2 y3 y4 y5))
  | 0 => fun _ _ _ _ _ _ r h => by simp [impl_fields.l0] at h
  | k + 1 => by
    have ih0 := impl_fields.mono_l k
    · intro y0 y1 y2 y3 y4 y5
      unfold impl_fields.l0
      repeat' first
      | (with_reducible exact ih0 _ _ _ _ _ _)
      | (with_reducible exact impl_Bits_setField.mono _ _ _ _ _ _)
      | (with_reducible exact LeO.refl _)
      | (with_reducible exact LeO.none _)
      | (with_reducible refine LeO.ite ?_ ?_)
      | (with_reducible refine LeO.bind ?_ (fun _ => ?_))
      | exact ih0 _ _ _ _ _ _
      | exact impl_Bits_setField.mono _ _ _ _ _ _
      | exact LeO.none _
      | refine LeO.ite ?_ ?_
      | refine LeO.bind ?_ (fun _ => ?_)
theorem impl_fields.mono : ∀ a0 a1 k, LeO (impl_fields.f k a0 a1) (impl_fields.f (k + 1) a0 a1) := by
  intro a0 a1 k
  have ih0 := impl_fields.mono_l k
  unfold impl_fields.f
  repeat' first
      | (with_reducible exact ih0 _ _ _ _ _ _)
      | (with_reducible exact impl_Bits_setField.mono _ _ _ _ _ _)
      | (with_reducible exact LeO.refl _)
      | (with_reducible exact LeO.none _)
      | (with_reducible refine LeO.ite ?_ ?_)
      | (with_reducible refine LeO.bind ?_ (fun _ => ?_))
      | exact ih0 _ _ _ _ _ _
      | exact impl_Bits_setField.mono _ _ _ _ _ _
      | exact LeO.none _
      | refine LeO.ite ?_ ?_
      | refine LeO.bind ?_ (fun _ => ?_)
noncomputable def impl_fields.L0 (y0 : Int) (y1 : List Int) (y2 : Int) (y3 : Int) (y4 : Int) (y5 : List Int) : Option (Int × List Int) := lim fun k => impl_fields.l0 k y0 y1 y2 y3 y4 y5
theorem impl_fields.L0_sup (y0 : Int) (y1 : List Int) (y2 : Int) (y3 : Int) (y4 : Int) (y5 : List Int) : Sup (fun k => impl_fields.l0 k y0 y1 y2 y3 y4 y5) (impl_fields.L0 y0 y1 y2 y3 y4 y5) := Sup.of_mono fun k => impl_fields.mono_l k y0 y1 y2 y3 y4 y5
noncomputable def impl_fields.F (l0 : List Int) (a1 : Int) : Option (Int × List Int) := lim fun k => impl_fields.f k l0 a1
theorem impl_fields.F_sup (l0 : List Int) (a1 : Int) : Sup (fun k => impl_fields.f k l0 a1) (impl_fields.F l0 a1) := Sup.of_mono fun k => impl_fields.mono l0 a1 k
theorem impl_fields.L0_eq (x1 : Int) (x13 : List Int) (x14 : Int) (x15 : Int) (x183000 : Int) (x183001 : List Int) : impl_fields.L0 x1 x13 x14 x15 x183000 x183001 = if x15 < x14 then (if 0 ≤ x15 then (if x15 < (x13.length : Int) then ((impl_Bits_setField.F x183000 x183001 (wrap64 (x15 * x1)) x1 (rd x13 x15)).bind fun t184 => (impl_fields.L0 x1 x13 x14 (wrap64 (x15 + 1)) x183000 t184)) else (none)) else (none)) else (some (x183000, x183001)) := by
  refine Sup.unique (impl_fields.L0_sup x1 x13 x14 x15 x183000 x183001) (Sup.shift (fun k => impl_fields.mono_l k x1 x13 x14 x15 x183000 x183001) (Sup.congr (g' := fun k => if x15 < x14 then (if 0 ≤ x15 then (if x15 < (x13.length : Int) then ((impl_Bits_setField.f k x183000 x183001 (wrap64 (x15 * x1)) x1 (rd x13 x15)).bind fun t184 => (impl_fields.l0 k x1 x13 x14 (wrap64 (x15 + 1)) x183000 t184)) else (none)) else (none)) else (some (x183000, x183001))) (fun k => by first | rfl | simp only [impl_fields.l0]) ?_))
  repeat' first
    | (with_reducible exact impl_fields.L0_sup _ _ _ _ _ _)
    | (with_reducible exact impl_Bits_setField.F_sup _ _ _ _ _)
    | (with_reducible refine Sup.ite ?_ ?_)
    | (with_reducible refine Sup.bind ?_ (fun _ => ?_))
    | (with_reducible exact Sup.const _)
    | exact impl_fields.L0_sup _ _ _ _ _ _
    | exact impl_Bits_setField.F_sup _ _ _ _ _
    | exact Sup.const _
theorem impl_fields.F_eq (l0 : List Int) (a1 : Int) : impl_fields.F l0 a1 = (impl_blank.f (wrap64 ((l0.length : Int) * a1))).bind fun bt178 => (impl_fields.L0 a1 l0 (l0.length : Int) 0 bt178.1 bt178.2) := by
  refine Sup.unique (impl_fields.F_sup l0 a1) (Sup.congr (g' := fun k => (impl_blank.f (wrap64 ((l0.length : Int) * a1))).bind fun bt178 => (impl_fields.l0 k a1 l0 (l0.length : Int) 0 bt178.1 bt178.2)) (fun k => by first | rfl | simp only [impl_fields.f]) ?_)
  repeat' first
    | (with_reducible exact impl_fields.L0_sup _ _ _ _ _ _)
    | (with_reducible exact impl_Bits_setField.F_sup _ _ _ _ _)
    | (with_reducible refine Sup.ite ?_ ?_)
    | (with_reducible refine Sup.bind ?_ (fun _ => ?_))
    | (with_reducible exact Sup.const _)
    | exact impl_fields.L0_sup _ _ _ _ _ _
    | exact impl_Bits_setField.F_sup _ _ _ _ _
    | exact Sup.const _
set_option maxHeartbeats 8000000 in
set_option maxRecDepth 100000 in
theorem impl_fields.calls (k : Nat) (A0 : Option Addr) (c0 : Nat) (l0 : List Int) (a1 : Int) (r1 : Int) (r2 : List Int) (w : World) (hr0 : Kd.C (Kd.int .i64) w A0 l0.length l0) (hc0 : l0.length ≤ c0) (h : impl_fields.f k l0 a1 = some (r1, r2)) :
    Calls Try.prog 93 #[.slice A0 l0.length c0, .int .i64 a1] w fun e w' => ∃ v1_ : Value, e = .returned (.agg #[.int .i64 r1, v1_]) ∧ Kd.R (Kd.int .i64) 3 w' w.heap.size (fun _ => True) v1_ r2 ∧ Below w.heap.size w w' := by
  have hu24 := Try.underlying24; have HR0 := Qx hr0; have HC0 := Qx hc0; clear hr0 hc0
  have HB := Qx (Below.refl w.heap.size w)
  have H : ((impl_blank.f (wrap64 ((l0.length : Int) * a1))).bind fun bt178 => (impl_fields.l0 k a1 l0 (l0.length : Int) 0 bt178.1 bt178.2)) = some (r1, r2) := h
  clear h; replace H := Option.bind_eq_some_iff.mp H; obtain ⟨⟨t178, t179⟩, A30, H⟩ := H
  have A3 := Qx A30; clear A30; have H' := Qx H; clear H
  go_enter Try.func93, Try.ntmps93
  go_wp2_with (first | ((with_reducible refine gate_dst (N := 4) rfl ?_); refine box_event ?hg (N := 4) ?hd (cs := #[.int .i64 0, .slice none 0 0]) (t := 24) ?hr ?_; (case hd => rfl); (case hg => rfl); (case hr => first | (go_simp; done) | (go_simp; rfl)); intro gb177 hg w4 hbox hb; have n0_ := Qx (Qp (by repeat (first | (with_reducible first | exact HB.out | apply Qa | apply Qn | apply Qd) | exact HB.out)) hb); have n1_ := Qx (hbox); have n2_ := Qx ((by rw [hg]; exact (Qz (by repeat (first | (with_reducible first | exact HB.out | apply Qa | apply Qn | apply Qd) | exact HB.out))) : w.heap.size ≤ gb177)); have n3_ := n2_; clear HB; have HB := n0_; have BK177 := n1_; have GW177 := n2_; have GE177 := n3_; clear n0_ n1_ n2_ n3_ hb hbox hg) | ((with_reducible refine gate_callee (f := 91) rfl ?_); refine goesL_ (some 12) rfl rfl Try.func91 (by kernel_rfl) rfl #[.int .i64 (wrap64 ((l0.length : Int) * a1))] rfl (by (try simp only [List.map_toArray, List.map_cons, List.map_nil]); first | done | rfl | (simp only [List.length_drop, List.length_take]; rfl)) ?_; (with_reducible refine (impl_blank.calls (wrap64 ((l0.length : Int) * a1)) t178 t179 _ A3.out).mono ?_); rintro e w5 ⟨v180, rfl, ho0, hb⟩; refine ⟨_, rfl, ?_⟩; have n0_ := Qx (Kd.R_lower ho0 (Qz (by repeat (first | (with_reducible first | exact HB.out | apply Qa | apply Qn | apply Qd | refine Qs ?_ GE177.out) | exact HB.out)))); have n1_ := Qx (Qb (g := gb177) (by (with_reducible repeat (first | refine Qm ?_ _ | refine Qw ?_ | refine Qk ?_ _)); exact BK177.out) hb); have n2_ := Qx (Qp (by repeat (first | (with_reducible first | exact HB.out | apply Qa | apply Qn | apply Qd | refine Qs ?_ GE177.out) | exact HB.out)) hb); clear BK177 HB; have HO181 := n0_; have BK177 := n1_; have HB := n2_; clear n0_ n1_ n2_; (try clear hb); (try clear hb2); (try clear hk); (try clear hi); (try clear ho0)) | ((with_reducible refine gate_dst (N := 5) rfl ?_); refine box_event ?hg (N := 5) ?hd (cs := #[.int .i64 0, .slice none 0 0]) (t := 24) ?hr ?_; (case hd => rfl); (case hg => rfl); (case hr => first | (go_simp; done) | (go_simp; rfl)); intro gb182 hg w6 hbox hb; have n0_ := Qx (Kd.R_below (by (with_reducible repeat (first | apply Qra | apply Qrn | apply Qrd)); exact HO181.out) hb); have n1_ := Qx (Qb (g := gb177) (by (with_reducible repeat (first | refine Qm ?_ _ | refine Qw ?_ | refine Qk ?_ _)); exact BK177.out) hb); have n2_ := Qx (Qp (by repeat (first | (with_reducible first | exact HB.out | apply Qa | apply Qn | apply Qd | refine Qs ?_ GE177.out) | exact HB.out)) hb); have n3_ := Qx (hbox); have n4_ := Qx ((by rw [hg]; exact (Qz (by repeat (first | (with_reducible first | exact HB.out | apply Qa | apply Qn | apply Qd | refine Qs ?_ GE177.out) | exact HB.out))) : w.heap.size ≤ gb182)); have n5_ := n4_; have n6_ := Qx ((by rw [hg]; exact Nat.ne_of_lt (blk_lt (g := gb177) (o := .cells #[.int .i64 0, .slice none 0 0] 24 (0, 0)) (by (with_reducible repeat (first | refine Qm ?_ _ | refine Qw ?_ | refine Qk ?_ _)); exact BK177.out)) : gb177 ≠ gb182)); have n7_ := Qx ((by rw [hg]; exact Nat.ne_of_gt (blk_lt (g := gb177) (o := .cells #[.int .i64 0, .slice none 0 0] 24 (0, 0)) (by (with_reducible repeat (first | refine Qm ?_ _ | refine Qw ?_ | refine Qk ?_ _)); exact BK177.out)) : gb182 ≠ gb177)); clear HO181 BK177 HB; have HO181 := n0_; have BK177 := n1_; have HB := n2_; have BK182 := n3_; have GW182 := n4_; have GE182 := n5_; have NB177_182 := n6_; have NB182_177 := n7_; clear n0_ n1_ n2_ n3_ n4_ n5_ n6_ n7_ hb hbox hg; have hnb7 := NB182_177.out; have hnc7 := NB177_182.out; obtain ⟨hcz8_0, hcz8_1, hfz8_0, hfz8_1⟩ := cellsQ2_g3ffb (w := w6) BK182.out; obtain ⟨Ao9, co9, eo9⟩ := Kd.R_slice HO181.out; subst eo9))
  go_loopg [15] k (fun kq v15 w' => ∃ (x15_1 : Int) (x183001_1 : List Int) (u183001 : Value), v15 = .int .i64 x15_1 ∧ Aside0 (impl_fields.l0 kq a1 l0 (l0.length : Int) x15_1 t178 x183001_1 = some (r1, r2)) ∧ Aside0 (kq ≤ k) ∧ Aside0 (Kd.R (Kd.int .i64) 3 w' w.heap.size (fun _ => True) u183001 x183001_1) ∧ Aside0 (w'.heap[gb177]? = some (.cells #[.int .i64 0, (.slice none 0 0)] 24 (0, 0))) ∧ Aside0 (w'.heap[gb182]? = some (.cells #[.int .i64 t178, u183001] 24 (0, 0))) ∧ Aside0 (Below w.heap.size w w'))
  case atStart => exact ⟨(0), (t179), (.slice Ao9 t179.length co9), (by first | rfl | (simp; done) | (simp [*]; done)), H', ⟨Nat.le_refl _⟩, ⟨by (with_reducible repeat (first | apply Qra | apply Qrn | apply Qrd)); exact Qrm (farsQ2_g3ffb (Kd.R_types HO181.out BK182.out (by decide)) (fun _ hk => hk.2) (.int .i64 t178) (.slice Ao9 t179.length co9)) (fun _ hk => trivial)⟩, ⟨by (with_reducible repeat (first | refine Qm ?_ _ | refine Qw ?_ | refine Qk ?_ _)); refine blk_far ?_ NB177_182.out _; (with_reducible repeat (first | refine Qm ?_ _ | refine Qw ?_ | refine Qk ?_ _)); refine blk_far ?_ NB177_182.out _; (with_reducible repeat (first | refine Qm ?_ _ | refine Qw ?_ | refine Qk ?_ _)); exact BK177.out⟩, ⟨by (with_reducible repeat (first | refine Qm ?_ _ | refine Qw ?_ | refine Qk ?_ _)); refine Qu (cs := #[.int .i64 t178, .slice none 0 0]) ?_ 1 _ rfl; (with_reducible repeat (first | refine Qm ?_ _ | refine Qw ?_ | refine Qk ?_ _)); refine Qu (cs := #[.int .i64 0, .slice none 0 0]) ?_ 0 _ rfl; (with_reducible repeat (first | refine Qm ?_ _ | refine Qw ?_ | refine Qk ?_ _)); exact BK182.out⟩, ⟨by repeat (first | (with_reducible first | exact HB.out | apply Qa | apply Qn | apply Qd | refine Qs ?_ GE177.out | refine Qs ?_ GE182.out) | exact HB.out)⟩⟩
  case round =>
   clear H'
   try clear p2
   try clear p6
   try clear c7
   try clear c9
   try clear hcz8_0
   try clear hcz8_1
   try clear hfz8_0
   try clear hfz8_1
   obtain ⟨x15_1, x183001_1, u183001, rfl, HA, HK1, HO_183001, BK177, BK182, HB⟩ := hrel
   cases gk with
   | zero => exact absurd HA.out (by simp [impl_fields.l0])
   | succ k1 =>
    have H := HA.out; clear HA; simp only [impl_fields.l0] at H
    by_cases c10 : x15_1 < (l0.length : Int)
    ·rw [if_pos c10] at H
     have c10b0 : decide (x15_1 < (l0.length : Int)) = true := decide_eq_true c10
     clear c10
     by_cases c11 : 0 ≤ x15_1
     ·rw [if_pos c11] at H
      have c11b0 : decide (0 ≤ x15_1) = true := decide_eq_true c11
      clear c11
      by_cases c12 : x15_1 < (l0.length : Int)
      ·rw [if_pos c12] at H
       have c12b0 : decide (x15_1 < (l0.length : Int)) = true := decide_eq_true c12
       clear c12; replace H := Option.bind_eq_some_iff.mp H; obtain ⟨t184, A130, H⟩ := H
       have A13 := Qx A130; clear A130; have H' := Qx H; clear H
       have p183 : 0 ≤ (x15_1 : Int) := of_decide_eq_true (by first | (with_reducible assumption) | assumption)
       have q183 : x15_1 < (l0.length : Int) := of_decide_eq_true (by first | (with_reducible assumption) | assumption)
       obtain ⟨ad183, e183, hx183_0⟩ := Kd.at_int HR0.out x15_1 p183 q183
       cases e183
       replace hx183_0 := (HB.out.cell (World.block_lt_of_cell? w _ hx183_0)).trans hx183_0
       replace p183 := eq_true p183; replace q183 := eq_true q183; obtain ⟨Ao14, co14, eo14⟩ := Kd.R_slice HO_183001.out; subst eo14
       go_wp2_with (first | ((with_reducible refine gate_callee (f := 116) rfl ?_); refine goesL_ (some 25) rfl rfl Try.func116 (by kernel_rfl) rfl #[.pointer (some ⟨gb182, 0, none⟩), .int .i64 (wrap64 (x15_1 * a1)), .int .i64 a1, .int .i64 (rd l0 x15_1)] rfl (by (try simp only [List.map_toArray, List.map_cons, List.map_nil]); first | done | rfl | (simp only [List.length_drop, List.length_take]; rfl)) ?_; (with_reducible refine (impl_Bits_setField.calls k1 gb182 t178 (fun k_ => some k_ = (.slice Ao14 x183001_1.length co14 : Value).ownBlock) (.slice Ao14 x183001_1.length co14) x183001_1 (wrap64 (x15_1 * a1)) a1 (rd l0 x15_1) t184 w _ ?side1 ?side2 ?side3 A13.out).mono ?_); (case side1 => repeat (first | (with_reducible first | exact HB.out | apply Qa | apply Qn | apply Qd | refine Qs ?_ GE177.out | refine Qs ?_ GE182.out) | exact HB.out)); (case side2 => exact Kd.R_tight rfl HO_183001.out); (case side3 => exact (by (with_reducible repeat (first | refine Qm ?_ _ | refine Qw ?_ | refine Qk ?_ _)); exact BK182.out)); rintro e w15 ⟨rfl, hy0, hb, hkp⟩; refine ⟨_, rfl, ?_⟩; have n0_ := Qx (Kd.R_reok rfl hy0 (fun k_ e_ => HO_183001.out.1 k_ e_)); have n1_ := Qx (blk_kept (by (with_reducible repeat (first | refine Qm ?_ _ | refine Qw ?_ | refine Qk ?_ _)); exact BK177.out) hkp (fun hs_ => (fun e_ => (Kd.R_ne HO_183001.out BK177.out (by decide)) e_) hs_)); have n2_ := Qx (blk_kept (by (with_reducible repeat (first | refine Qm ?_ _ | refine Qw ?_ | refine Qk ?_ _)); exact BK182.out) hkp (fun hs_ => (fun e_ => (Kd.R_ne HO_183001.out BK182.out (by decide)) e_) hs_)); have n3_ := Qx (hb); clear HO_183001 BK177 BK182 HB; have HO_183001 := n0_; have BK177 := n1_; have BK182 := n2_; have HB := n3_; clear n0_ n1_ n2_ n3_; (try clear hb); (try clear hkp); (try clear hy0)))
       go_roundg k1
       case measure => have := HK1.out; omega
       case rel => exact ⟨(wrap64 (x15_1 + 1)), (t184), (.slice Ao14 x183001_1.length co14), (by first | rfl | (simp; done) | (simp [*]; done)), H', ⟨by have := HK1.out; omega⟩, ⟨by (with_reducible repeat (first | apply Qra | apply Qrn | apply Qrd)); exact HO_183001.out⟩, ⟨by (with_reducible repeat (first | refine Qm ?_ _ | refine Qw ?_ | refine Qk ?_ _)); exact BK177.out⟩, ⟨by (with_reducible repeat (first | refine Qm ?_ _ | refine Qw ?_ | refine Qk ?_ _)); exact BK182.out⟩, ⟨by repeat (first | (with_reducible first | exact HB.out | apply Qa | apply Qn | apply Qd | refine Qs ?_ GE177.out | refine Qs ?_ GE182.out) | exact HB.out)⟩⟩
      ·rw [if_neg c12] at H
       exact absurd H (by simp)
     ·rw [if_neg c11] at H
      exact absurd H (by simp)
    ·rw [if_neg c10] at H
     have c10b0 : decide (x15_1 < (l0.length : Int)) = false := decide_eq_false c10
     clear c10; simp only [Option.some.injEq, Prod.mk.injEq] at H; obtain ⟨rfl, rfl⟩ := H; have hnb16 := NB182_177.out; have hnc16 := NB177_182.out
     obtain ⟨hcz17_0, hcz17_1, hfz17_0, hfz17_1⟩ := cellsQ2_g3ffb (w := wr) BK182.out
     obtain ⟨hcz18_0, hcz18_1, hfz18_0, hfz18_1⟩ := cellsQ2_g3ffb (w := wr) BK177.out
     obtain ⟨Ao19, co19, eo19⟩ := Kd.R_slice HO_183001.out; subst eo19
     go_wp2
     refine bodyPost_ret (results_cell_row rfl _ _ gb177 24 #[.int .i64 t178, .slice Ao19 x183001_1.length co19] (0, 0) _ rfl (by (with_reducible repeat (first | refine Qm ?_ _ | refine Qw ?_ | refine Qk ?_ _)); refine Qu (cs := #[.int .i64 t178, .slice none 0 0]) ?_ 1 _ rfl; (with_reducible repeat (first | refine Qm ?_ _ | refine Qw ?_ | refine Qk ?_ _)); refine Qu (cs := #[.int .i64 0, .slice none 0 0]) ?_ 0 _ rfl; (with_reducible repeat (first | refine Qm ?_ _ | refine Qw ?_ | refine Qk ?_ _)); exact BK177.out) Try.underlying24 rfl (by kernel_rfl)) rfl ?_
     exact ⟨_, by first | rfl | (simp [errW_none, errW_some] <;> rfl) | (simp [*, errW_none, errW_some] <;> rfl), by (with_reducible repeat (first | apply Qra | apply Qrn | apply Qrd)); exact Qrm (farsQ2_g3ffb (Kd.R_types HO_183001.out BK177.out (by decide)) (fun _ hk => hk.2) (.int .i64 t178) (.slice Ao19 x183001_1.length co19)) (fun _ hk => trivial), by repeat (first | (with_reducible first | exact HB.out | apply Qa | apply Qn | apply Qd | refine Qs ?_ GE177.out | refine Qs ?_ GE182.out) | exact HB.out)⟩
/-! ### impl_sparse: function 56 -/
def impl_sparse.l0 : Nat → List Int → Int → Int → List Int → List Int → Int → Int → Int → List Int → Option (Int × Int × Int × Int × List Int × Int × List Int)
  | 0, _, _, _, _, _, _, _, _, _ => none
  | k + 1, x0, x1, x5, x7, x28, x29, x30, x196000, x196001 => if x30 < x29 then (if 0 ≤ x30 then (if x30 < (x28.length : Int) then (if 0 ≤ x5 then (if x7.length < 17592186044416 then ((impl_Bits_set.f x196000 x196001 (wrap64 ((shr .i64 (rd x28 x30) x5) + x30)) true).bind fun t200 => (impl_sparse.l0 k x0 x1 x5 (x7 ++ [Go.bits .and .i64 (rd x28 x30) (wrap64 ((shl .i64 1 x5) - 1))]) x28 x29 (wrap64 (x30 + 1)) x196000 t200)) else (none)) else (none)) else (none)) else (none)) else ((impl_fields.f k x7 x5).bind fun bt201 => (some ((x0.length : Int), x1, x5, bt201.1, bt201.2, x196000, x196001)))
def impl_sparse.f (k : Nat) (l0 : List Int) (a1 : Int) : Option (Int × Int × Int × Int × List Int × Int × List Int) := (impl_WidthFor.f k (l0.length : Int) a1).bind fun bt186 => (if 0 ≤ bt186.1 then ((impl_blank.f (wrap64 ((wrap64 ((l0.length : Int) + (shr .i64 (wrap64 (a1 - 1)) bt186.1))) + 1))).bind fun bt191 => (impl_sparse.l0 k l0 a1 bt186.1 (([] : List Int)) l0 (l0.length : Int) 0 bt191.1 bt191.2)) else (none))
theorem impl_sparse.mono_l : ∀ k, (∀ y0 y1 y2 y3 y4 y5 y6 y7 y8, LeO (impl_sparse.l0 k y0 y1 y2 y3 y4 y5 y6 y7 y8) (impl_sparse.l0 (k + 1) y0 y1 y2 y3 y4 y5 y6 y7 y8))
  | 0 => fun _ _ _ _ _ _ _ _ _ r h => by simp [impl_sparse.l0] at h
  | k + 1 => by
    have ih0 := impl_sparse.mono_l k
    · intro y0 y1 y2 y3 y4 y5 y6 y7 y8
      unfold impl_sparse.l0
      repeat' first
      | (with_reducible exact ih0 _ _ _ _ _ _ _ _ _)
      | (with_reducible exact impl_WidthFor.mono _ _ _)
      | (with_reducible exact impl_fields.mono _ _ _)
      | (with_reducible exact LeO.refl _)
      | (with_reducible exact LeO.none _)
      | (with_reducible refine LeO.ite ?_ ?_)
      | (with_reducible refine LeO.bind ?_ (fun _ => ?_))
      | exact ih0 _ _ _ _ _ _ _ _ _
      | exact impl_WidthFor.mono _ _ _
      | exact impl_fields.mono _ _ _
      | exact LeO.none _
      | refine LeO.ite ?_ ?_
      | refine LeO.bind ?_ (fun _ => ?_)
theorem impl_sparse.mono : ∀ a0 a1 k, LeO (impl_sparse.f k a0 a1) (impl_sparse.f (k + 1) a0 a1) := by
  intro a0 a1 k
  have ih0 := impl_sparse.mono_l k
  unfold impl_sparse.f
  repeat' first
      | (with_reducible exact ih0 _ _ _ _ _ _ _ _ _)
      | (with_reducible exact impl_WidthFor.mono _ _ _)
      | (with_reducible exact impl_fields.mono _ _ _)
      | (with_reducible exact LeO.refl _)
      | (with_reducible exact LeO.none _)
      | (with_reducible refine LeO.ite ?_ ?_)
      | (with_reducible refine LeO.bind ?_ (fun _ => ?_))
      | exact ih0 _ _ _ _ _ _ _ _ _
      | exact impl_WidthFor.mono _ _ _
      | exact impl_fields.mono _ _ _
      | exact LeO.none _
      | refine LeO.ite ?_ ?_
      | refine LeO.bind ?_ (fun _ => ?_)
noncomputable def impl_sparse.L0 (y0 : List Int) (y1 : Int) (y2 : Int) (y3 : List Int) (y4 : List Int) (y5 : Int) (y6 : Int) (y7 : Int) (y8 : List Int) : Option (Int × Int × Int × Int × List Int × Int × List Int) := lim fun k => impl_sparse.l0 k y0 y1 y2 y3 y4 y5 y6 y7 y8
theorem impl_sparse.L0_sup (y0 : List Int) (y1 : Int) (y2 : Int) (y3 : List Int) (y4 : List Int) (y5 : Int) (y6 : Int) (y7 : Int) (y8 : List Int) : Sup (fun k => impl_sparse.l0 k y0 y1 y2 y3 y4 y5 y6 y7 y8) (impl_sparse.L0 y0 y1 y2 y3 y4 y5 y6 y7 y8) := Sup.of_mono fun k => impl_sparse.mono_l k y0 y1 y2 y3 y4 y5 y6 y7 y8
noncomputable def impl_sparse.F (l0 : List Int) (a1 : Int) : Option (Int × Int × Int × Int × List Int × Int × List Int) := lim fun k => impl_sparse.f k l0 a1
theorem impl_sparse.F_sup (l0 : List Int) (a1 : Int) : Sup (fun k => impl_sparse.f k l0 a1) (impl_sparse.F l0 a1) := Sup.of_mono fun k => impl_sparse.mono l0 a1 k
theorem impl_sparse.L0_eq (x0 : List Int) (x1 : Int) (x5 : Int) (x7 : List Int) (x28 : List Int) (x29 : Int) (x30 : Int) (x196000 : Int) (x196001 : List Int) : impl_sparse.L0 x0 x1 x5 x7 x28 x29 x30 x196000 x196001 = if x30 < x29 then (if 0 ≤ x30 then (if x30 < (x28.length : Int) then (if 0 ≤ x5 then (if x7.length < 17592186044416 then ((impl_Bits_set.f x196000 x196001 (wrap64 ((shr .i64 (rd x28 x30) x5) + x30)) true).bind fun t200 => (impl_sparse.L0 x0 x1 x5 (x7 ++ [Go.bits .and .i64 (rd x28 x30) (wrap64 ((shl .i64 1 x5) - 1))]) x28 x29 (wrap64 (x30 + 1)) x196000 t200)) else (none)) else (none)) else (none)) else (none)) else ((impl_fields.F x7 x5).bind fun bt201 => (some ((x0.length : Int), x1, x5, bt201.1, bt201.2, x196000, x196001))) := by
  refine Sup.unique (impl_sparse.L0_sup x0 x1 x5 x7 x28 x29 x30 x196000 x196001) (Sup.shift (fun k => impl_sparse.mono_l k x0 x1 x5 x7 x28 x29 x30 x196000 x196001) (Sup.congr (g' := fun k => if x30 < x29 then (if 0 ≤ x30 then (if x30 < (x28.length : Int) then (if 0 ≤ x5 then (if x7.length < 17592186044416 then ((impl_Bits_set.f x196000 x196001 (wrap64 ((shr .i64 (rd x28 x30) x5) + x30)) true).bind fun t200 => (impl_sparse.l0 k x0 x1 x5 (x7 ++ [Go.bits .and .i64 (rd x28 x30) (wrap64 ((shl .i64 1 x5) - 1))]) x28 x29 (wrap64 (x30 + 1)) x196000 t200)) else (none)) else (none)) else (none)) else (none)) else ((impl_fields.f k x7 x5).bind fun bt201 => (some ((x0.length : Int), x1, x5, bt201.1, bt201.2, x196000, x196001)))) (fun k => by first | rfl | simp only [impl_sparse.l0]) ?_))
  repeat' first
    | (with_reducible exact impl_sparse.L0_sup _ _ _ _ _ _ _ _ _)
    | (with_reducible exact impl_WidthFor.F_sup _ _)
    | (with_reducible exact impl_fields.F_sup _ _)
    | (with_reducible refine Sup.ite ?_ ?_)
    | (with_reducible refine Sup.bind ?_ (fun _ => ?_))
    | (with_reducible exact Sup.const _)
    | exact impl_sparse.L0_sup _ _ _ _ _ _ _ _ _
    | exact impl_WidthFor.F_sup _ _
    | exact impl_fields.F_sup _ _
    | exact Sup.const _
theorem impl_sparse.F_eq (l0 : List Int) (a1 : Int) : impl_sparse.F l0 a1 = (impl_WidthFor.F (l0.length : Int) a1).bind fun bt186 => (if 0 ≤ bt186.1 then ((impl_blank.f (wrap64 ((wrap64 ((l0.length : Int) + (shr .i64 (wrap64 (a1 - 1)) bt186.1))) + 1))).bind fun bt191 => (impl_sparse.L0 l0 a1 bt186.1 (([] : List Int)) l0 (l0.length : Int) 0 bt191.1 bt191.2)) else (none)) := by
  refine Sup.unique (impl_sparse.F_sup l0 a1) (Sup.congr (g' := fun k => (impl_WidthFor.f k (l0.length : Int) a1).bind fun bt186 => (if 0 ≤ bt186.1 then ((impl_blank.f (wrap64 ((wrap64 ((l0.length : Int) + (shr .i64 (wrap64 (a1 - 1)) bt186.1))) + 1))).bind fun bt191 => (impl_sparse.l0 k l0 a1 bt186.1 (([] : List Int)) l0 (l0.length : Int) 0 bt191.1 bt191.2)) else (none))) (fun k => by first | rfl | simp only [impl_sparse.f]) ?_)
  repeat' first
    | (with_reducible exact impl_sparse.L0_sup _ _ _ _ _ _ _ _ _)
    | (with_reducible exact impl_WidthFor.F_sup _ _)
    | (with_reducible exact impl_fields.F_sup _ _)
    | (with_reducible refine Sup.ite ?_ ?_)
    | (with_reducible refine Sup.bind ?_ (fun _ => ?_))
    | (with_reducible exact Sup.const _)
    | exact impl_sparse.L0_sup _ _ _ _ _ _ _ _ _
    | exact impl_WidthFor.F_sup _ _
    | exact impl_fields.F_sup _ _
    | exact Sup.const _
def impl_sparse.T9 : Bool × List (List Nat × List Nat) := (true, [([], []), ([0], [0]), ([], []), ([], []), ([], []), ([], []), ([4, 5], [4, 5]), ([], []), ([1, 2, 3, 6, 7], [1, 2, 3, 6, 7]), ([8, 6, 0, 1, 2, 3, 4, 5, 6, 7, 8], [8])])
def impl_sparse.B9 : List Nat := [0, 1, 0, 0, 0, 0, 48, 0, 255, 511]
theorem impl_sparse.tab9 : rtab .any (opsOf Try.f56 9) = impl_sparse.T9 := by kernel_rfl
theorem impl_sparse.bits9 : waitsOk impl_sparse.T9.2 impl_sparse.B9 = true := by kernel_rfl
set_option maxHeartbeats 8000000 in
set_option maxRecDepth 100000 in
theorem impl_sparse.calls (k : Nat) (A0 : Option Addr) (c0 : Nat) (l0 : List Int) (a1 : Int) (r1 : Int) (r2 : Int) (r3 : Int) (r4 : Int) (r5 : List Int) (r6 : Int) (r7 : List Int) (w : World) (hr0 : Kd.C (Kd.int .i64) w A0 l0.length l0) (hc0 : l0.length ≤ c0) (h : impl_sparse.f k l0 a1 = some (r1, r2, r3, r4, r5, r6, r7)) :
    Calls Try.prog 56 #[.slice A0 l0.length c0, .int .i64 a1] w fun e w' => ∃ v4_ v6_ : Value, e = .returned (.agg #[.int .i64 r1, .int .i64 r2, .int .i64 r3, .int .i64 r4, v4_, .int .i64 r6, v6_]) ∧ Kd.R (Kd.int .i64) 3 w' w.heap.size (fun k_ => some k_ ≠ (v6_ : Value).ownBlock) v4_ r5 ∧ Kd.R (Kd.int .i64) 3 w' w.heap.size (fun k_ => some k_ ≠ (v4_ : Value).ownBlock) v6_ r7 ∧ Below w.heap.size w w' := by
  have hu26 := Try.underlying26; have hu24 := Try.underlying24; have HR0 := Qx hr0; have HC0 := Qx hc0; clear hr0 hc0
  have HB := Qx (Below.refl w.heap.size w)
  have H : ((impl_WidthFor.f k (l0.length : Int) a1).bind fun bt186 => (if 0 ≤ bt186.1 then ((impl_blank.f (wrap64 ((wrap64 ((l0.length : Int) + (shr .i64 (wrap64 (a1 - 1)) bt186.1))) + 1))).bind fun bt191 => (impl_sparse.l0 k l0 a1 bt186.1 (([] : List Int)) l0 (l0.length : Int) 0 bt191.1 bt191.2)) else (none))) = some (r1, r2, r3, r4, r5, r6, r7) := h
  clear h; replace H := Option.bind_eq_some_iff.mp H; obtain ⟨⟨t186, t187⟩, A30, H⟩ := H
  have A3 := Qx A30; clear A30
  obtain ⟨y188, hy188⟩ : ∃ y_ : List Int, y_ = (([] : List Int)) := ⟨_, rfl⟩
  replace H : (if 0 ≤ t186 then ((impl_blank.f (wrap64 ((wrap64 ((l0.length : Int) + (shr .i64 (wrap64 (a1 - 1)) t186))) + 1))).bind fun bt191 => (impl_sparse.l0 k l0 a1 t186 y188 l0 (l0.length : Int) 0 bt191.1 bt191.2)) else (none)) = some (r1, r2, r3, r4, r5, r6, r7) := by first | (rw [hy188]; with_reducible exact H) | (have H2_ := (Option.bind_some _ _).symm.trans H; rw [hy188]; with_reducible exact H2_) | (have H2_ := (Option.bind_some _ _).symm.trans H; with_reducible exact H2_) | with_reducible exact H | (rw [hy188]; exact H) | exact H
  have Ny188 := Qx hy188; clear hy188
  by_cases c4 : 0 ≤ t186
  ·rw [if_pos c4] at H; have c4b0 := eq_true c4
   have c4b1 : decide (0 ≤ t186) = true := decide_eq_true c4
   clear c4
   obtain ⟨ji5, hji5⟩ : ∃ j_ : Int, (shr .i64 (wrap64 (a1 - 1)) t186) = j_ := ⟨_, rfl⟩
   replace H : ((impl_blank.f (wrap64 ((wrap64 ((l0.length : Int) + (ji5))) + 1))).bind fun bt191 => (impl_sparse.l0 k l0 a1 t186 y188 l0 (l0.length : Int) 0 bt191.1 bt191.2)) = some (r1, r2, r3, r4, r5, r6, r7) := by first | (rw [hji5] at H; exact H) | (simp only [hji5] at H ⊢; exact H)
   (try rw [hji5] at A3)
   have hji5_ : ((wrap64 (a1 - 1)) / 2 ^ min t186.toNat 64) = ji5 := hji5
   have hji5z : t186 ≤ 64 → ((wrap64 (a1 - 1)) / 2 ^ t186.toNat) = ji5 := shr_small hji5
   replace H := Option.bind_eq_some_iff.mp H; obtain ⟨⟨t191, t192⟩, A60, H⟩ := H
   have A6 := Qx A60; clear A60; have H' := Qx H; clear H
   go_enter Try.func56, Try.ntmps56
   go_wp2_with (first | ((with_reducible refine gate_dst (N := 4) rfl ?_); refine box_event ?hg (N := 4) ?hd (cs := #[.int .i64 0, .int .i64 0, .int .i64 0, .int .i64 0, .slice none 0 0, .int .i64 0, .slice none 0 0]) (t := 26) ?hr ?_; (case hd => rfl); (case hg => rfl); (case hr => first | (go_simp; done) | (go_simp; rfl)); intro gb185 hg w7 hbox hb; have n0_ := Qx (Qp (by repeat (first | (with_reducible first | exact HB.out | apply Qa | apply Qn | apply Qd) | exact HB.out)) hb); have n1_ := Qx (hbox); have n2_ := Qx ((by rw [hg]; exact (Qz (by repeat (first | (with_reducible first | exact HB.out | apply Qa | apply Qn | apply Qd) | exact HB.out))) : w.heap.size ≤ gb185)); have n3_ := n2_; clear HB; have HB := n0_; have BK185 := n1_; have GW185 := n2_; have GE185 := n3_; clear n0_ n1_ n2_ n3_ hb hbox hg) | ((with_reducible refine gate_callee (f := 90) rfl ?_); refine goesL_ (some 15) rfl rfl Try.func90 (by kernel_rfl) rfl #[.int .i64 (l0.length : Int), .int .i64 a1] rfl (by (try simp only [List.map_toArray, List.map_cons, List.map_nil]); first | done | rfl | (simp only [List.length_drop, List.length_take]; rfl)) ?_; (with_reducible refine (impl_WidthFor.calls k (l0.length : Int) a1 t186 t187 _ A3.out).mono ?_); rintro e w8 ⟨rfl, hb⟩; refine ⟨_, rfl, ?_⟩; have n0_ := Qx (Qb (g := gb185) (by (with_reducible repeat (first | refine Qm ?_ _ | refine Qw ?_ | refine Qk ?_ _)); exact BK185.out) hb); have n1_ := Qx (Qp (by repeat (first | (with_reducible first | exact HB.out | apply Qa | apply Qn | apply Qd | refine Qs ?_ GE185.out) | exact HB.out)) hb); clear BK185 HB; have BK185 := n0_; have HB := n1_; clear n0_ n1_; (try clear hb); (try clear hb2); (try clear hk); (try clear hi)) | ((with_reducible refine gate_dst (N := 18) rfl ?_); refine Kd.R_lit (Kd.int .i64) _ 3 ?hg (N := 18) ?hd (xs := ([] : List Int)) (inner := []) (ok := fun _ => True) (okp := fun _ => True) ?hr ?hp (fun _ hk => hk) trivial (Below.refl _ _) (Nat.le_refl _) (by simp) ?_; (case hd => rfl); (case hg => rfl); (case hr => first | (go_simp; done) | (go_simp; rfl)); (case hp => exact (Reps.none _ _)); intro v189 w9 ho10 hb hg_ hnew_; clear hg_ hnew_; (first | rw [← Ny188.out] at ho10 | (simp only [Int.reduceToNat] at ho10; rw [← Ny188.out] at ho10)); have n0_ := Qx (Kd.R_lower ho10 (Qz (by repeat (first | (with_reducible first | exact HB.out | apply Qa | apply Qn | apply Qd | refine Qs ?_ GE185.out) | exact HB.out)))); have n1_ := Qx (Qb (g := gb185) (by (with_reducible repeat (first | refine Qm ?_ _ | refine Qw ?_ | refine Qk ?_ _)); exact BK185.out) hb); have n2_ := Qx (Qp (by repeat (first | (with_reducible first | exact HB.out | apply Qa | apply Qn | apply Qd | refine Qs ?_ GE185.out) | exact HB.out)) hb); clear BK185 HB; have HO190 := n0_; have BK185 := n1_; have HB := n2_; clear n0_ n1_ n2_ hb ho10) | ((with_reducible refine gate_callee (f := 91) rfl ?_); refine goesL_ (some 27) rfl rfl Try.func91 (by kernel_rfl) rfl #[.int .i64 (wrap64 ((wrap64 ((l0.length : Int) + (ji5))) + 1))] rfl (by (try simp only [List.map_toArray, List.map_cons, List.map_nil]); first | done | (simp only [hji5]; rfl) | rfl | (simp only [List.length_drop, List.length_take]; rfl)) ?_; (with_reducible refine (impl_blank.calls (wrap64 ((wrap64 ((l0.length : Int) + (ji5))) + 1)) t191 t192 _ A6.out).mono ?_); rintro e w11 ⟨v193, rfl, ho0, hb⟩; refine ⟨_, rfl, ?_⟩; have n0_ := Qx (Kd.R_elder' (by (with_reducible repeat (first | apply Qra | apply Qrn | apply Qrd)); exact HO190.out) (Kd.R_base ho0) hb); have n1_ := Qx (Kd.R_lower (Kd.R_new' ho0 (Kd.R_lt (by (with_reducible repeat (first | apply Qra | apply Qrn | apply Qrd)); exact HO190.out))) (Qz (by repeat (first | (with_reducible first | exact HB.out | apply Qa | apply Qn | apply Qd | refine Qs ?_ GE185.out) | exact HB.out)))); have n2_ := Qx (Qb (g := gb185) (by (with_reducible repeat (first | refine Qm ?_ _ | refine Qw ?_ | refine Qk ?_ _)); exact BK185.out) hb); have n3_ := Qx (Qp (by repeat (first | (with_reducible first | exact HB.out | apply Qa | apply Qn | apply Qd | refine Qs ?_ GE185.out) | exact HB.out)) hb); clear HO190 BK185 HB; have HO190 := n0_; have HO194 := n1_; have BK185 := n2_; have HB := n3_; clear n0_ n1_ n2_ n3_; (try clear hb); (try clear hb2); (try clear hk); (try clear hi); (try clear ho0)) | ((with_reducible refine gate_dst (N := 8) rfl ?_); refine box_event ?hg (N := 8) ?hd (cs := #[.int .i64 0, .slice none 0 0]) (t := 24) ?hr ?_; (case hd => rfl); (case hg => rfl); (case hr => first | (go_simp; done) | (go_simp; rfl)); intro gb195 hg w12 hbox hb; have n0_ := Qx (Kd.R_below (by (with_reducible repeat (first | apply Qra | apply Qrn | apply Qrd)); exact HO190.out) hb); have n1_ := Qx (Kd.R_below (by (with_reducible repeat (first | apply Qra | apply Qrn | apply Qrd)); exact HO194.out) hb); have n2_ := Qx (Qb (g := gb185) (by (with_reducible repeat (first | refine Qm ?_ _ | refine Qw ?_ | refine Qk ?_ _)); exact BK185.out) hb); have n3_ := Qx (Qp (by repeat (first | (with_reducible first | exact HB.out | apply Qa | apply Qn | apply Qd | refine Qs ?_ GE185.out) | exact HB.out)) hb); have n4_ := Qx (hbox); have n5_ := Qx ((by rw [hg]; exact (Qz (by repeat (first | (with_reducible first | exact HB.out | apply Qa | apply Qn | apply Qd | refine Qs ?_ GE185.out) | exact HB.out))) : w.heap.size ≤ gb195)); have n6_ := n5_; have n7_ := Qx ((by rw [hg]; exact Nat.ne_of_lt (blk_lt (g := gb185) (o := .cells #[.int .i64 0, .int .i64 0, .int .i64 0, .int .i64 0, .slice none 0 0, .int .i64 0, .slice none 0 0] 26 (0, 0)) (by (with_reducible repeat (first | refine Qm ?_ _ | refine Qw ?_ | refine Qk ?_ _)); exact BK185.out)) : gb185 ≠ gb195)); have n8_ := Qx ((by rw [hg]; exact Nat.ne_of_gt (blk_lt (g := gb185) (o := .cells #[.int .i64 0, .int .i64 0, .int .i64 0, .int .i64 0, .slice none 0 0, .int .i64 0, .slice none 0 0] 26 (0, 0)) (by (with_reducible repeat (first | refine Qm ?_ _ | refine Qw ?_ | refine Qk ?_ _)); exact BK185.out)) : gb195 ≠ gb185)); clear HO190 HO194 BK185 HB; have HO190 := n0_; have HO194 := n1_; have BK185 := n2_; have HB := n3_; have BK195 := n4_; have GW195 := n5_; have GE195 := n6_; have NB185_195 := n7_; have NB195_185 := n8_; clear n0_ n1_ n2_ n3_ n4_ n5_ n6_ n7_ n8_ hb hbox hg; have hnb13 := NB195_185.out; have hnc13 := NB185_195.out; obtain ⟨hcz14_0, hcz14_1, hfz14_0, hfz14_1⟩ := cellsQ2_g3ffb (w := w12) BK195.out; obtain ⟨Ao15, co15, eo15⟩ := Kd.R_slice HO194.out; subst eo15))
   go_loopg [7, 30] k (fun kq v7 v30 w' => ∃ (x7_1 : List Int) (x30_1 : Int) (x196001_1 : List Int) (u196001 : Value), v30 = .int .i64 x30_1 ∧ Aside0 (impl_sparse.l0 kq l0 a1 t186 x7_1 l0 (l0.length : Int) x30_1 t191 x196001_1 = some (r1, r2, r3, r4, r5, r6, r7)) ∧ Aside0 (kq ≤ k) ∧ Aside0 (Kd.R (Kd.int .i64) 3 w' w.heap.size (fun k_ => some k_ ≠ (u196001 : Value).ownBlock) v7 x7_1) ∧ Aside0 (Kd.R (Kd.int .i64) 3 w' w.heap.size (fun k_ => some k_ ≠ (v7 : Value).ownBlock) u196001 x196001_1) ∧ Aside0 (w'.heap[gb185]? = some (.cells #[.int .i64 0, .int .i64 0, .int .i64 0, .int .i64 0, (.slice none 0 0), .int .i64 0, (.slice none 0 0)] 26 (0, 0))) ∧ Aside0 (w'.heap[gb195]? = some (.cells #[.int .i64 t191, u196001] 24 (0, 0))) ∧ Aside0 (Below w.heap.size w w'))
   case atStart => exact ⟨(y188), (0), (t192), (.slice Ao15 t192.length co15), (by first | rfl | (simp; done) | (simp [*]; done)), H', ⟨Nat.le_refl _⟩, ⟨by (with_reducible repeat (first | apply Qra | apply Qrn | apply Qrd)); exact Qrm (farsQ2_g3ffb (Kd.R_types HO190.out BK195.out (by decide)) (fun _ hk => hk.2) (.int .i64 t191) (.slice Ao15 t192.length co15)) (fun _ hk => hk.1.2)⟩, ⟨by (with_reducible repeat (first | apply Qra | apply Qrn | apply Qrd)); exact Qrm (farsQ2_g3ffb (Kd.R_types HO194.out BK195.out (by decide)) (fun _ hk => hk.2) (.int .i64 t191) (.slice Ao15 t192.length co15)) (fun _ hk => hk.1.2)⟩, ⟨by (with_reducible repeat (first | refine Qm ?_ _ | refine Qw ?_ | refine Qk ?_ _)); refine blk_far ?_ NB185_195.out _; (with_reducible repeat (first | refine Qm ?_ _ | refine Qw ?_ | refine Qk ?_ _)); refine blk_far ?_ NB185_195.out _; (with_reducible repeat (first | refine Qm ?_ _ | refine Qw ?_ | refine Qk ?_ _)); exact BK185.out⟩, ⟨by (with_reducible repeat (first | refine Qm ?_ _ | refine Qw ?_ | refine Qk ?_ _)); refine Qu (cs := #[.int .i64 t191, .slice none 0 0]) ?_ 1 _ rfl; (with_reducible repeat (first | refine Qm ?_ _ | refine Qw ?_ | refine Qk ?_ _)); refine Qu (cs := #[.int .i64 0, .slice none 0 0]) ?_ 0 _ rfl; (with_reducible repeat (first | refine Qm ?_ _ | refine Qw ?_ | refine Qk ?_ _)); exact BK195.out⟩, ⟨by repeat (first | (with_reducible first | exact HB.out | apply Qa | apply Qn | apply Qd | refine Qs ?_ GE185.out | refine Qs ?_ GE195.out) | exact HB.out)⟩⟩
   case round =>
    clear H'
    try clear c1
    try clear p2
    try clear c4
    try clear c4b0
    try clear c4b1
    try clear c5
    try clear p6
    try clear c9
    try clear c13
    try clear hcz14_0
    try clear hcz14_1
    try clear hfz14_0
    try clear hfz14_1
    obtain ⟨x7_1, x30_1, x196001_1, u196001, rfl, HA, HK1, HO_7, HO_196001, BK185, BK195, HB⟩ := hrel
    cases gk with
    | zero => exact absurd HA.out (by simp [impl_sparse.l0])
    | succ k1 =>
     have H := HA.out; clear HA; simp only [impl_sparse.l0] at H
     by_cases c16 : x30_1 < (l0.length : Int)
     ·rw [if_pos c16] at H
      have c16b0 : decide (x30_1 < (l0.length : Int)) = true := decide_eq_true c16
      clear c16
      by_cases c17 : 0 ≤ x30_1
      ·rw [if_pos c17] at H
       have c17b0 : decide (0 ≤ x30_1) = true := decide_eq_true c17
       clear c17
       by_cases c18 : x30_1 < (l0.length : Int)
       ·rw [if_pos c18] at H
        have c18b0 : decide (x30_1 < (l0.length : Int)) = true := decide_eq_true c18
        clear c18
        by_cases c19 : 0 ≤ t186
        ·rw [if_pos c19] at H; have c19b0 := eq_true c19
         have c19b1 : decide (0 ≤ t186) = true := decide_eq_true c19
         clear c19
         obtain ⟨ji20, hji20⟩ : ∃ j_ : Int, (shl .i64 1 t186) = j_ := ⟨_, rfl⟩
         replace H : (if x7_1.length < 17592186044416 then ((impl_Bits_set.f t191 x196001_1 (wrap64 ((shr .i64 (rd l0 x30_1) t186) + x30_1)) true).bind fun t200 => (impl_sparse.l0 k1 l0 a1 t186 (x7_1 ++ [Go.bits .and .i64 (rd l0 x30_1) (wrap64 ((ji20) - 1))]) l0 (l0.length : Int) (wrap64 (x30_1 + 1)) t191 t200)) else (none)) = some (r1, r2, r3, r4, r5, r6, r7) := by first | (rw [hji20] at H; exact H) | (simp only [hji20] at H ⊢; exact H)
         have hji20_ : (IntKind.i64.wrap (1 * 2 ^ min t186.toNat 64)) = ji20 := hji20
         have hji20z : t186 ≤ 64 → (IntKind.i64.wrap (1 * 2 ^ t186.toNat)) = ji20 := shl_small hji20
         have hji20u : (IntKind.i64.wrap (2 ^ min t186.toNat 64)) = ji20 := by have h_ := hji20_; rw [Int.one_mul] at h_; exact h_
         have hji20v : t186 ≤ 64 → (IntKind.i64.wrap (2 ^ t186.toNat)) = ji20 := fun hle_ => by have h_ := hji20z hle_; rw [Int.one_mul] at h_; exact h_
         have hji20y : (wrap64 (1 * 2 ^ min t186.toNat 64)) = ji20 := (i64_w _).symm.trans hji20_
         have hji20x : t186 ≤ 64 → (wrap64 (1 * 2 ^ t186.toNat)) = ji20 := fun h_ => (i64_w _).symm.trans (hji20z h_)
         by_cases c21 : x7_1.length < 17592186044416
         ·rw [if_pos c21] at H; have LMc21 := Qx c21; clear c21
          obtain ⟨y197, hy197⟩ : ∃ y_ : List Int, y_ = (x7_1 ++ [Go.bits .and .i64 (rd l0 x30_1) (wrap64 ((ji20) - 1))]) := ⟨_, rfl⟩
          replace H : ((impl_Bits_set.f t191 x196001_1 (wrap64 ((shr .i64 (rd l0 x30_1) t186) + x30_1)) true).bind fun t200 => (impl_sparse.l0 k1 l0 a1 t186 y197 l0 (l0.length : Int) (wrap64 (x30_1 + 1)) t191 t200)) = some (r1, r2, r3, r4, r5, r6, r7) := by first | (rw [hy197]; with_reducible exact H) | (have H2_ := (Option.bind_some _ _).symm.trans H; rw [hy197]; with_reducible exact H2_) | (have H2_ := (Option.bind_some _ _).symm.trans H; with_reducible exact H2_) | with_reducible exact H | (rw [hy197]; exact H) | exact H
          have Ny197 := Qx hy197; clear hy197
          have c22b0 := eq_true (of_decide_eq_true (by first | (with_reducible assumption) | assumption) : 0 ≤ t186)
          obtain ⟨ji23, hji23⟩ : ∃ j_ : Int, (shr .i64 (rd l0 x30_1) t186) = j_ := ⟨_, rfl⟩
          replace H : ((impl_Bits_set.f t191 x196001_1 (wrap64 ((ji23) + x30_1)) true).bind fun t200 => (impl_sparse.l0 k1 l0 a1 t186 y197 l0 (l0.length : Int) (wrap64 (x30_1 + 1)) t191 t200)) = some (r1, r2, r3, r4, r5, r6, r7) := by first | (rw [hji23] at H; exact H) | (simp only [hji23] at H ⊢; exact H)
          have hji23_ : ((rd l0 x30_1) / 2 ^ min t186.toNat 64) = ji23 := hji23
          have hji23z : t186 ≤ 64 → ((rd l0 x30_1) / 2 ^ t186.toNat) = ji23 := shr_small hji23
          replace H := Option.bind_eq_some_iff.mp H; obtain ⟨t200, A240, H⟩ := H
          have A24 := Qx A240; clear A240; have H' := Qx H; clear H
          have p196 : 0 ≤ (x30_1 : Int) := of_decide_eq_true (by first | (with_reducible assumption) | assumption)
          have q196 : x30_1 < (l0.length : Int) := of_decide_eq_true (by first | (with_reducible assumption) | assumption)
          obtain ⟨ad196, e196, hx196_0⟩ := Kd.at_int HR0.out x30_1 p196 q196
          cases e196
          replace hx196_0 := (HB.out.cell (World.block_lt_of_cell? w _ hx196_0)).trans hx196_0
          replace p196 := eq_true p196; replace q196 := eq_true q196
          go_wp2_with (first | ((with_reducible refine gate_builtin (b := .append) (xs := #[.tmp 35, .tmp 41]) rfl ?_); at_builtin; refine Kd.R_append (Kd.int .i64) (w0 := w) w.heap.size rfl (.tmp 35) (.tmp 41) 22 3 (.int .i64 0) 8 rfl Try.underlying22 info3 rfl (by decide) (by omega) u7 x7_1 (Go.bits .and .i64 (rd l0 x30_1) (wrap64 ((ji20) - 1))) [.int .i64 (Go.bits .and .i64 (rd l0 x30_1) (wrap64 ((ji20) - 1)))] (fun k_ => some k_ ≠ (u196001 : Value).ownBlock) (fun _ => False) rfl rfl ?aP (fun _ hk => hk.elim) ?aF ?aO ?aB ?aS ?aL ?_; (case aP => exact rfl); (case aB => exact (by repeat (first | (with_reducible first | exact HB.out | apply Qa | apply Qn | apply Qd | refine Qs ?_ GE185.out | refine Qs ?_ GE195.out) | exact HB.out))); (case aF => exact (fun k_ hk => Kd.fresh' (Kd.R_lt (by (with_reducible repeat (first | apply Qra | apply Qrn | apply Qrd)); exact HO_196001.out)) k_ hk)); (case aO => exact (by (with_reducible repeat (first | apply Qra | apply Qrn | apply Qrd)); exact HO_7.out)); (case aS => exact (Qz (by repeat (first | (with_reducible first | exact HB.out | apply Qa | apply Qn | apply Qd | refine Qs ?_ GE185.out | refine Qs ?_ GE195.out) | exact HB.out)))); (case aL => have := LMc21.out; omega); intro v198 w25 ho hb hg hat; rw [← Ny197.out] at ho; have n0_ := Qx (Kd.R_after (ok := (fun _ => True)) (by (with_reducible repeat (first | apply Qra | apply Qrn | apply Qrd)); exact Qrm HO_196001.out (fun _ hk => ⟨trivial, hk⟩)) hg hat); have n1_ := Qx (blk_grown (g := gb185) (o := .cells #[.int .i64 0, .int .i64 0, .int .i64 0, .int .i64 0, .slice none 0 0, .int .i64 0, .slice none 0 0] 26 (0, 0)) (by (with_reducible repeat (first | refine Qm ?_ _ | refine Qw ?_ | refine Qk ?_ _)); exact BK185.out) hg (Kd.R_ne HO_7.out BK185.out (by decide))); have n2_ := Qx (blk_grown (g := gb195) (o := .cells #[.int .i64 t191, u196001] 24 (0, 0)) (by (with_reducible repeat (first | refine Qm ?_ _ | refine Qw ?_ | refine Qk ?_ _)); exact BK195.out) hg (Kd.R_ne HO_7.out BK195.out (by decide))); have n3_ := Qx (hb); have n4_ := Qx (ho); clear HO_196001 BK185 BK195 HB HO_7; have HO_196001 := n0_; have BK185 := n1_; have BK195 := n2_; have HB := n3_; have HO199 := n4_; clear n0_ n1_ n2_ n3_ n4_ ho hb hg hat; obtain ⟨Ao26, co26, eo26⟩ := Kd.R_slice HO_196001.out; subst eo26) | ((with_reducible refine gate_callee (f := 92) rfl ?_); refine goesL_ (some 48) rfl rfl Try.func92 (by kernel_rfl) rfl #[.pointer (some ⟨gb195, 0, none⟩), .int .i64 (wrap64 ((ji23) + x30_1)), .bool true] rfl (by (try simp only [List.map_toArray, List.map_cons, List.map_nil]); first | done | (simp only [hji23]; rfl) | rfl | (simp only [List.length_drop, List.length_take]; rfl)) ?_; (with_reducible refine (impl_Bits_set.calls gb195 t191 (fun k_ => some k_ = (.slice Ao26 x196001_1.length co26 : Value).ownBlock) (.slice Ao26 x196001_1.length co26) x196001_1 (wrap64 ((ji23) + x30_1)) true t200 w _ ?side1 ?side2 ?side3 A24.out).mono ?_); (case side1 => repeat (first | (with_reducible first | exact HB.out | apply Qa | apply Qn | apply Qd | refine Qs ?_ GE185.out | refine Qs ?_ GE195.out) | exact HB.out)); (case side2 => exact Kd.R_tight rfl HO_196001.out); (case side3 => exact (by (with_reducible repeat (first | refine Qm ?_ _ | refine Qw ?_ | refine Qk ?_ _)); exact BK195.out)); rintro e w27 ⟨rfl, hy0, hb, hkp⟩; refine ⟨_, rfl, ?_⟩; have n0_ := Qx (Kd.R_reok rfl hy0 (fun k_ e_ => HO_196001.out.1 k_ e_)); have n1_ := Qx (blk_kept (by (with_reducible repeat (first | refine Qm ?_ _ | refine Qw ?_ | refine Qk ?_ _)); exact BK185.out) hkp (fun hs_ => (fun e_ => (Kd.R_ne HO_196001.out BK185.out (by decide)) e_) hs_)); have n2_ := Qx (blk_kept (by (with_reducible repeat (first | refine Qm ?_ _ | refine Qw ?_ | refine Qk ?_ _)); exact BK195.out) hkp (fun hs_ => (fun e_ => (Kd.R_ne HO_196001.out BK195.out (by decide)) e_) hs_)); have n3_ := Qx (Qrm (ok' := fun k_ => some k_ ≠ (.slice Ao26 x196001_1.length co26 : Value).ownBlock) (Kd.R_keptB (HO199.out) hkp (fun k_ hk_ hs_ => (hk_) hs_)) (fun k_ hk_ => hk_.1)); have n4_ := Qx (hb); clear HO_196001 BK185 BK195 HO199 HB; have HO_196001 := n0_; have BK185 := n1_; have BK195 := n2_; have HO199 := n3_; have HB := n4_; clear n0_ n1_ n2_ n3_ n4_; (try clear hb); (try clear hkp); (try clear hy0)))
          go_roundg k1
          case measure => have := HK1.out; omega
          case rel => exact ⟨(y197), (wrap64 (x30_1 + 1)), (t200), (.slice Ao26 x196001_1.length co26), (by first | rfl | (simp; done) | (simp [*]; done)), H', ⟨by have := HK1.out; omega⟩, ⟨by (with_reducible repeat (first | apply Qra | apply Qrn | apply Qrd)); exact HO199.out⟩, ⟨by (with_reducible repeat (first | apply Qra | apply Qrn | apply Qrd)); exact Qrm HO_196001.out (fun _ hk => hk.2)⟩, ⟨by (with_reducible repeat (first | refine Qm ?_ _ | refine Qw ?_ | refine Qk ?_ _)); exact BK185.out⟩, ⟨by (with_reducible repeat (first | refine Qm ?_ _ | refine Qw ?_ | refine Qk ?_ _)); exact BK195.out⟩, ⟨by repeat (first | (with_reducible first | exact HB.out | apply Qa | apply Qn | apply Qd | refine Qs ?_ GE185.out | refine Qs ?_ GE195.out) | exact HB.out)⟩⟩
         ·rw [if_neg c21] at H
          exact absurd H (by simp)
        ·rw [if_neg c19] at H
         exact absurd H (by simp)
       ·rw [if_neg c18] at H
        exact absurd H (by simp)
      ·rw [if_neg c17] at H
       exact absurd H (by simp)
     ·rw [if_neg c16] at H
      have c16b0 : decide (x30_1 < (l0.length : Int)) = false := decide_eq_false c16
      clear c16; replace H := Option.bind_eq_some_iff.mp H; obtain ⟨⟨t201, t202⟩, A280, H⟩ := H
      have A28 := Qx A280; clear A280; simp only [Option.some.injEq, Prod.mk.injEq] at H; obtain ⟨rfl, rfl, rfl, rfl, rfl, rfl, rfl⟩ := H
      try go_wp2
      have n0_ := Qx (Qrd HO_7.out)
      have n1_ := Qx (Qrd HO_196001.out)
      have n2_ := Qx (Qw BK185.out)
      have n3_ := Qx (Qw BK195.out)
      have n4_ := Qx (Qd HB.out)
      clear HO_7 HO_196001 BK185 BK195 HB; have HO_7 := n0_; have HO_196001 := n1_; have BK185 := n2_; have BK195 := n3_; have HB := n4_; clear n0_ n1_ n2_ n3_ n4_; obtain ⟨Ao30, co30, eo30⟩ := Kd.R_slice HO_7.out
      (first | subst eo30 | (injection eo30 with f1_ f2_ f3_; have f4_ := f1_.symm; have f5_ := f3_.symm; clear f1_ f2_ f3_; subst f4_; subst f5_))
      refine start_ (n := 10) (S := fun w' => w'.cell? ⟨gb195, 0, none⟩ = some (.int .i64 t191) ∧ w'.cell? ⟨gb195, 1, none⟩ = some (u196001)) (ds := []) #[false, false, false, false, false, false, false, false, false, false] (by kernel_rfl) rfl rfl ⟨(Qc BK195.out 0).trans rfl, (Qc BK195.out 1).trans rfl⟩ (fun hHeld => ?_); refine with_tabW impl_sparse.tab9 impl_sparse.bits9 (fun HT_ HW_ => ?_)
      generalize wr.drew = w29 at HO_7 HO_196001 BK185 BK195 HB hHeld ⊢
      refine pq_ 0 50 10 1 HT_.out (by kernel_rfl) ?_
      refine pq_ 1 51 10 3 HT_.out (by kernel_rfl) ?_
      refine pq_ 2 52 10 7 HT_.out (by kernel_rfl) ?_
      refine pq_ 3 53 10 15 HT_.out (by kernel_rfl) ?_
      refine pq_ 4 54 10 31 HT_.out (by kernel_rfl) ?_
      refine pq_ 5 55 10 63 HT_.out (by kernel_rfl) ?_
      refine tq_ 7 57 10 191 HT_.out HW_.out (by kernel_rfl) hHeld ?_ rfl (by rintro w' ⟨s0, s1⟩; go_simp; with_reducible rfl)
      refine one_ (i := 6) (N := some 56) (bsA 10 255) rfl rfl (one_of HT_.out (by kernel_rfl)) (by decide) (fun K hK => ?_)
      refine goes_ Try.func93 (by kernel_rfl) rfl #[.slice Ao30 x7_1.length co30, .int .i64 t186] (by rfl) rfl rfl (by (try simp only [List.map_toArray, List.map_cons, List.map_nil]); first | done | rfl | (simp only [List.length_drop, List.length_take]; rfl)) ?_
      with_reducible refine (impl_fields.calls k1 _ _ x7_1 t186 t201 t202 _ ?side1 ?side2 A28.out).mono ?_
      (case side1 => repeat (first | exact (Kd.R_reads' HO_7.out).2.2 | (with_reducible refine Kd.C_alloc ?_ _) | (with_reducible refine Kd.C_drewN ?_ _) | (with_reducible refine Kd.C_drew ?_)))
      (case side2 => exact (Kd.R_reads' HO_7.out).2.1)
      rintro e w31 ⟨v203, rfl, ho0, hb⟩
      refine ⟨_, rfl, ?_⟩
      have n0_ := Qx (Kd.R_elder' (by (with_reducible repeat (first | apply Qra | apply Qrn | apply Qrd)); exact HO_7.out) (Kd.R_base ho0) hb)
      have n1_ := Qx (Kd.R_elder' (by (with_reducible repeat (first | apply Qra | apply Qrn | apply Qrd)); exact HO_196001.out) (Kd.R_base ho0) hb)
      have n2_ := Qx (Kd.R_lower (Kd.R_new' (Kd.R_new' ho0 (Kd.R_lt (by (with_reducible repeat (first | apply Qra | apply Qrn | apply Qrd)); exact HO_7.out))) (Kd.R_lt (by (with_reducible repeat (first | apply Qra | apply Qrn | apply Qrd)); exact HO_196001.out))) (Qz (by repeat (first | (with_reducible first | exact HB.out | apply Qa | apply Qn | apply Qd | refine Qs ?_ GE185.out | refine Qs ?_ GE195.out) | exact HB.out))))
      have n3_ := Qx (Qb (g := gb185) (by (with_reducible repeat (first | refine Qm ?_ _ | refine Qw ?_ | refine Qk ?_ _)); exact BK185.out) hb)
      have n4_ := Qx (Qb (g := gb195) (by (with_reducible repeat (first | refine Qm ?_ _ | refine Qw ?_ | refine Qk ?_ _)); exact BK195.out) hb)
      have n5_ := Qx (Qp (by repeat (first | (with_reducible first | exact HB.out | apply Qa | apply Qn | apply Qd | refine Qs ?_ GE185.out | refine Qs ?_ GE195.out) | exact HB.out)) hb)
      clear HO_7 HO_196001 BK185 BK195 HB; have HO_7 := n0_; have HO_196001 := n1_; have HO204 := n2_; have BK185 := n3_; have BK195 := n4_; have HB := n5_; clear n0_ n1_ n2_ n3_ n4_ n5_; (try clear hb); (try clear hb2); (try clear hk); (try clear hi); (try clear ho0); obtain ⟨Ao32, co32, eo32⟩ := Kd.R_slice HO_196001.out
      (first | subst eo32 | (injection eo32 with f1_ f2_ f3_; have f4_ := f1_.symm; have f5_ := f3_.symm; clear f1_ f2_ f3_; subst f4_; subst f5_))
      obtain ⟨Ao33, co33, eo33⟩ := Kd.R_slice HO204.out
      (first | subst eo33 | (injection eo33 with f1_ f2_ f3_; have f4_ := f1_.symm; have f5_ := f3_.symm; clear f1_ f2_ f3_; subst f4_; subst f5_))
      refine hK.out _ _ ⟨(Qc BK195.out 0).trans rfl, (Qc BK195.out 1).trans rfl⟩ (fun hHeld => ?_)
      clear hK K
      refine norm_ (a' := ?_) ?_ ?_
      rotate_left
      ·show Act.put _ (some 56) _ = _
       simp only [Act.put, List.setIfInBounds_toArray, List.set_cons_zero, List.set_cons_succ, i64_w]
       rfl
      refine pq_ 8 58 10 511 HT_.out (by kernel_rfl) ?_
      refine one_ (i := 9) (N := none) (bsA 10 1023) rfl rfl (one_of HT_.out (by kernel_rfl)) (by decide) (fun K hK => ?_)
      have hs34 : w31.cell? ⟨gb185, 0, none⟩ = some (.int .i64 0) := (Qc BK185.out 0).trans rfl
      have hfs34 := blk_frozen BK185.out 0; have hns34_1 := NB195_185.out; have hms34_1 := NB185_195.out
      have hs35 : w31.cell? ⟨gb185, 1, none⟩ = some (.int .i64 0) := (Qc BK185.out 1).trans rfl
      have hfs35 := blk_frozen BK185.out 1; have hns35_1 := NB195_185.out; have hms35_1 := NB185_195.out
      have hs36 : w31.cell? ⟨gb185, 2, none⟩ = some (.int .i64 0) := (Qc BK185.out 2).trans rfl
      have hfs36 := blk_frozen BK185.out 2; have hns36_1 := NB195_185.out; have hms36_1 := NB185_195.out
      have hs37 : w31.cell? ⟨gb185, 3, none⟩ = some (.int .i64 0) := (Qc BK185.out 3).trans rfl
      have hfs37 := blk_frozen BK185.out 3; have hns37_1 := NB195_185.out; have hms37_1 := NB185_195.out
      have hs38 : w31.cell? ⟨gb185, 4, none⟩ = some (.slice none 0 0) := (Qc BK185.out 4).trans rfl
      have hfs38 := blk_frozen BK185.out 4; have hns38_1 := NB195_185.out; have hms38_1 := NB185_195.out
      have hs39 : w31.cell? ⟨gb185, 5, none⟩ = some (.int .i64 0) := (Qc BK185.out 5).trans rfl
      have hfs39 := blk_frozen BK185.out 5; have hns39_1 := NB195_185.out; have hms39_1 := NB185_195.out
      have hs40 : w31.cell? ⟨gb185, 6, none⟩ = some (.slice none 0 0) := (Qc BK185.out 6).trans rfl
      have hfs40 := blk_frozen BK185.out 6; have hns40_1 := NB195_185.out; have hms40_1 := NB185_195.out
      refine skip_ (w1 := ?_) (by rfl) rfl ?_ ?_
      rotate_left
      ·go_simp
       rfl
      refine hK.out _ _ ⟨((cell_far (p := ⟨gb185, _, none⟩) NB195_185.out _).trans (((cell_far (p := ⟨gb185, _, none⟩) NB195_185.out _).trans (((cell_far (p := ⟨gb185, _, none⟩) NB195_185.out _).trans (((cell_far (p := ⟨gb185, _, none⟩) NB195_185.out _).trans (((cell_far (p := ⟨gb185, _, none⟩) NB195_185.out _).trans (((cell_far (p := ⟨gb185, _, none⟩) NB195_185.out _).trans (((cell_far (p := ⟨gb185, _, none⟩) NB195_185.out _).trans (hHeld.1)))))))))))))), ((cell_far (p := ⟨gb185, _, none⟩) NB195_185.out _).trans (((cell_far (p := ⟨gb185, _, none⟩) NB195_185.out _).trans (((cell_far (p := ⟨gb185, _, none⟩) NB195_185.out _).trans (((cell_far (p := ⟨gb185, _, none⟩) NB195_185.out _).trans (((cell_far (p := ⟨gb185, _, none⟩) NB195_185.out _).trans (((cell_far (p := ⟨gb185, _, none⟩) NB195_185.out _).trans (((cell_far (p := ⟨gb185, _, none⟩) NB195_185.out _).trans (hHeld.2))))))))))))))⟩ (fun hHeld => ?_)
      clear hK K
      refine done_ (done_of HT_.out (by kernel_rfl)) ?_
      try go_wp2
      refine bodyPost_ret (results_cell_row rfl _ _ gb185 26 #[.int .i64 (l0.length : Int), .int .i64 a1, .int .i64 t186, .int .i64 t201, .slice Ao33 t202.length co33, .int .i64 t191, .slice Ao32 x196001_1.length co32] (0, 0) _ rfl (by (with_reducible repeat (first | refine Qm ?_ _ | refine Qw ?_ | refine Qk ?_ _)); refine Qu (cs := #[.int .i64 (l0.length : Int), .int .i64 a1, .int .i64 t186, .int .i64 t201, .slice Ao33 t202.length co33, .int .i64 t191, .slice none 0 0]) ?_ 6 _ rfl; (with_reducible repeat (first | refine Qm ?_ _ | refine Qw ?_ | refine Qk ?_ _)); refine Qu (cs := #[.int .i64 (l0.length : Int), .int .i64 a1, .int .i64 t186, .int .i64 t201, .slice Ao33 t202.length co33, .int .i64 0, .slice none 0 0]) ?_ 5 _ rfl; (with_reducible repeat (first | refine Qm ?_ _ | refine Qw ?_ | refine Qk ?_ _)); refine Qu (cs := #[.int .i64 (l0.length : Int), .int .i64 a1, .int .i64 t186, .int .i64 t201, .slice none 0 0, .int .i64 0, .slice none 0 0]) ?_ 4 _ rfl; (with_reducible repeat (first | refine Qm ?_ _ | refine Qw ?_ | refine Qk ?_ _)); refine Qu (cs := #[.int .i64 (l0.length : Int), .int .i64 a1, .int .i64 t186, .int .i64 0, .slice none 0 0, .int .i64 0, .slice none 0 0]) ?_ 3 _ rfl; (with_reducible repeat (first | refine Qm ?_ _ | refine Qw ?_ | refine Qk ?_ _)); refine Qu (cs := #[.int .i64 (l0.length : Int), .int .i64 a1, .int .i64 0, .int .i64 0, .slice none 0 0, .int .i64 0, .slice none 0 0]) ?_ 2 _ rfl; (with_reducible repeat (first | refine Qm ?_ _ | refine Qw ?_ | refine Qk ?_ _)); refine Qu (cs := #[.int .i64 (l0.length : Int), .int .i64 0, .int .i64 0, .int .i64 0, .slice none 0 0, .int .i64 0, .slice none 0 0]) ?_ 1 _ rfl; (with_reducible repeat (first | refine Qm ?_ _ | refine Qw ?_ | refine Qk ?_ _)); refine Qu (cs := #[.int .i64 0, .int .i64 0, .int .i64 0, .int .i64 0, .slice none 0 0, .int .i64 0, .slice none 0 0]) ?_ 0 _ rfl; (with_reducible repeat (first | refine Qm ?_ _ | refine Qw ?_ | refine Qk ?_ _)); exact BK185.out) Try.underlying26 rfl (by kernel_rfl)) rfl ?_
      exact ⟨_, _, by first | rfl | (simp [errW_none, errW_some] <;> rfl) | (simp only [← hji5]; first | rfl | (simp [errW_none, errW_some] <;> rfl)) | (simp [*, errW_none, errW_some] <;> rfl), by (with_reducible repeat (first | apply Qra | apply Qrn | apply Qrd)); exact Qrm (farsQ7_g3ffb (Kd.R_types HO204.out BK185.out (by decide)) (fun _ hk => hk.2) (.int .i64 (l0.length : Int)) (.int .i64 a1) (.int .i64 t186) (.int .i64 t201) (.slice Ao33 t202.length co33) (.int .i64 t191) (.slice Ao32 x196001_1.length co32)) (fun _ hk => hk.1.2), by (with_reducible repeat (first | apply Qra | apply Qrn | apply Qrd)); exact Qrm (farsQ7_g3ffb (Kd.R_types HO_196001.out BK185.out (by decide)) (fun _ hk => hk.2) (.int .i64 (l0.length : Int)) (.int .i64 a1) (.int .i64 t186) (.int .i64 t201) (.slice Ao33 t202.length co33) (.int .i64 t191) (.slice Ao32 x196001_1.length co32)) (fun _ hk => hk.1.2), by repeat (first | (with_reducible first | exact HB.out | apply Qa | apply Qn | apply Qd | refine Qs ?_ GE185.out | refine Qs ?_ GE195.out) | exact HB.out)⟩
  ·rw [if_neg c4] at H
   exact absurd H (by simp)
/-! ### laws_eqIntS: function 20 -/
def laws_eqIntS.l0 : Nat → List Int → List Int → Int → Option (Bool)
  | 0, _, _, _ => none
  | k + 1, x0, x1, x5 => if x5 < (x0.length : Int) then (if 0 ≤ x5 then (if x5 < (x1.length : Int) then (if (rd x0 x5) = (rd x1 x5) then (laws_eqIntS.l0 k x0 x1 (wrap64 (x5 + 1))) else (some false)) else (none)) else (none)) else (some true)
def laws_eqIntS.f (k : Nat) (l0 : List Int) (l1 : List Int) : Option (Bool) := if (l0.length : Int) = (l1.length : Int) then (laws_eqIntS.l0 k l0 l1 0) else (some false)
theorem laws_eqIntS.mono_l : ∀ k, (∀ y0 y1 y2, LeO (laws_eqIntS.l0 k y0 y1 y2) (laws_eqIntS.l0 (k + 1) y0 y1 y2))
  | 0 => fun _ _ _ r h => by simp [laws_eqIntS.l0] at h
  | k + 1 => by
    have ih0 := laws_eqIntS.mono_l k
    · intro y0 y1 y2
      unfold laws_eqIntS.l0
      repeat' first
      | (with_reducible exact ih0 _ _ _)
      | (with_reducible exact LeO.refl _)
      | (with_reducible exact LeO.none _)
      | (with_reducible refine LeO.ite ?_ ?_)
      | (with_reducible refine LeO.bind ?_ (fun _ => ?_))
      | exact ih0 _ _ _
      | exact LeO.none _
      | refine LeO.ite ?_ ?_
      | refine LeO.bind ?_ (fun _ => ?_)
theorem laws_eqIntS.mono : ∀ a0 a1 k, LeO (laws_eqIntS.f k a0 a1) (laws_eqIntS.f (k + 1) a0 a1) := by
  intro a0 a1 k
  have ih0 := laws_eqIntS.mono_l k
  unfold laws_eqIntS.f
  repeat' first
      | (with_reducible exact ih0 _ _ _)
      | (with_reducible exact LeO.refl _)
      | (with_reducible exact LeO.none _)
      | (with_reducible refine LeO.ite ?_ ?_)
      | (with_reducible refine LeO.bind ?_ (fun _ => ?_))
      | exact ih0 _ _ _
      | exact LeO.none _
      | refine LeO.ite ?_ ?_
      | refine LeO.bind ?_ (fun _ => ?_)
noncomputable def laws_eqIntS.L0 (y0 : List Int) (y1 : List Int) (y2 : Int) : Option (Bool) := lim fun k => laws_eqIntS.l0 k y0 y1 y2
theorem laws_eqIntS.L0_sup (y0 : List Int) (y1 : List Int) (y2 : Int) : Sup (fun k => laws_eqIntS.l0 k y0 y1 y2) (laws_eqIntS.L0 y0 y1 y2) := Sup.of_mono fun k => laws_eqIntS.mono_l k y0 y1 y2
noncomputable def laws_eqIntS.F (l0 : List Int) (l1 : List Int) : Option (Bool) := lim fun k => laws_eqIntS.f k l0 l1
theorem laws_eqIntS.F_sup (l0 : List Int) (l1 : List Int) : Sup (fun k => laws_eqIntS.f k l0 l1) (laws_eqIntS.F l0 l1) := Sup.of_mono fun k => laws_eqIntS.mono l0 l1 k
theorem laws_eqIntS.L0_eq (x0 : List Int) (x1 : List Int) (x5 : Int) : laws_eqIntS.L0 x0 x1 x5 = if x5 < (x0.length : Int) then (if 0 ≤ x5 then (if x5 < (x1.length : Int) then (if (rd x0 x5) = (rd x1 x5) then (laws_eqIntS.L0 x0 x1 (wrap64 (x5 + 1))) else (some false)) else (none)) else (none)) else (some true) := by
  refine Sup.unique (laws_eqIntS.L0_sup x0 x1 x5) (Sup.shift (fun k => laws_eqIntS.mono_l k x0 x1 x5) (Sup.congr (g' := fun k => if x5 < (x0.length : Int) then (if 0 ≤ x5 then (if x5 < (x1.length : Int) then (if (rd x0 x5) = (rd x1 x5) then (laws_eqIntS.l0 k x0 x1 (wrap64 (x5 + 1))) else (some false)) else (none)) else (none)) else (some true)) (fun k => by first | rfl | simp only [laws_eqIntS.l0]) ?_))
  repeat' first
    | (with_reducible exact laws_eqIntS.L0_sup _ _ _)
    | (with_reducible refine Sup.ite ?_ ?_)
    | (with_reducible refine Sup.bind ?_ (fun _ => ?_))
    | (with_reducible exact Sup.const _)
    | exact laws_eqIntS.L0_sup _ _ _
    | exact Sup.const _
theorem laws_eqIntS.F_eq (l0 : List Int) (l1 : List Int) : laws_eqIntS.F l0 l1 = if (l0.length : Int) = (l1.length : Int) then (laws_eqIntS.L0 l0 l1 0) else (some false) := by
  refine Sup.unique (laws_eqIntS.F_sup l0 l1) (Sup.congr (g' := fun k => if (l0.length : Int) = (l1.length : Int) then (laws_eqIntS.l0 k l0 l1 0) else (some false)) (fun k => by first | rfl | simp only [laws_eqIntS.f]) ?_)
  repeat' first
    | (with_reducible exact laws_eqIntS.L0_sup _ _ _)
    | (with_reducible refine Sup.ite ?_ ?_)
    | (with_reducible refine Sup.bind ?_ (fun _ => ?_))
    | (with_reducible exact Sup.const _)
    | exact laws_eqIntS.L0_sup _ _ _
    | exact Sup.const _
set_option maxHeartbeats 8000000 in
set_option maxRecDepth 100000 in
theorem laws_eqIntS.calls (k : Nat) (A0 : Option Addr) (c0 : Nat) (l0 : List Int) (A1 : Option Addr) (c1 : Nat) (l1 : List Int) (r : Bool) (w : World) (hr0 : Kd.C (Kd.int .i64) w A0 l0.length l0) (hc0 : l0.length ≤ c0) (hr1 : Kd.C (Kd.int .i64) w A1 l1.length l1) (hc1 : l1.length ≤ c1) (h : laws_eqIntS.f k l0 l1 = some r) :
    Calls Try.prog 20 #[.slice A0 l0.length c0, .slice A1 l1.length c1] w fun e w' => e = .returned (.bool r) ∧ Drawn0 w w' := by
  have HR0 := Qx hr0; have HC0 := Qx hc0; clear hr0 hc0; have HR1 := Qx hr1; have HC1 := Qx hc1; clear hr1 hc1
  have H : (if (l0.length : Int) = (l1.length : Int) then (laws_eqIntS.l0 k l0 l1 0) else (some false)) = some r := h
  clear h
  by_cases c3 : (l0.length : Int) = (l1.length : Int)
  ·rw [if_pos c3] at H
   have c3b0 : ((l0.length : Int) == (l1.length : Int)) = true := beq_iff_eq.mpr c3
   have c3b1 : ((l0.length : Int) != (l1.length : Int)) = false := bne_eq_false_iff_eq.mpr c3
   have c3b2 : (l0.length == l1.length) = true := by first | simpa using c3 | (simp at c3 ⊢; omega)
   clear c3; have H' := Qx H; clear H
   go_enter Try.func20, Try.ntmps20
   go_wp2
   repeat (go_quiet (fail); try go_wp2)
   go_loopg [5] k (fun kq v5 w' => ∃ (x5_1 : Int), v5 = .int .i64 x5_1 ∧ Aside0 (laws_eqIntS.l0 kq l0 l1 x5_1 = some r) ∧ Aside0 (kq ≤ k) ∧ Drawn0 w w')
   case atStart => exact ⟨(0), (by first | rfl | (simp; done) | (simp [*]; done)), H', ⟨Nat.le_refl _⟩, by repeat (first | exact Drawn0.refl _ | apply Drawn0.step)⟩
   case round =>
    clear H'
    try clear c1
    try clear c2
    try clear p2
    try clear c3
    try clear c3b0
    try clear c3b1
    try clear c3b2
    obtain ⟨x5_1, rfl, HA, HK1, ⟨m1, rfl⟩⟩ := hrel
    cases gk with
    | zero => exact absurd HA.out (by simp [laws_eqIntS.l0])
    | succ k1 =>
     have H := HA.out; clear HA; simp only [laws_eqIntS.l0] at H
     by_cases c4 : x5_1 < (l0.length : Int)
     ·rw [if_pos c4] at H
      have c4b0 : decide (x5_1 < (l0.length : Int)) = true := decide_eq_true c4
      clear c4
      by_cases c5 : 0 ≤ x5_1
      ·rw [if_pos c5] at H
       have c5b0 : decide (0 ≤ x5_1) = true := decide_eq_true c5
       clear c5
       by_cases c6 : x5_1 < (l1.length : Int)
       ·rw [if_pos c6] at H
        have c6b0 : decide (x5_1 < (l1.length : Int)) = true := decide_eq_true c6
        clear c6
        by_cases c7 : (rd l0 x5_1) = (rd l1 x5_1)
        ·rw [if_pos c7] at H
         have c7b0 : ((rd l0 x5_1) == (rd l1 x5_1)) = true := beq_iff_eq.mpr c7
         have c7b1 : ((rd l0 x5_1) != (rd l1 x5_1)) = false := bne_eq_false_iff_eq.mpr c7
         clear c7; have H' := Qx H; clear H
         have p218 : 0 ≤ (x5_1 : Int) := of_decide_eq_true (by first | (with_reducible assumption) | assumption)
         have q218 : x5_1 < (l0.length : Int) := of_decide_eq_true (by first | (with_reducible assumption) | assumption)
         obtain ⟨ad218, e218, hx218_0⟩ := Kd.at_int HR0.out x5_1 p218 q218
         cases e218
         replace p218 := eq_true p218; replace q218 := eq_true q218
         have p219 : 0 ≤ (x5_1 : Int) := of_decide_eq_true (by first | (with_reducible assumption) | assumption)
         have q219 : x5_1 < (l1.length : Int) := of_decide_eq_true (by first | (with_reducible assumption) | assumption)
         obtain ⟨ad219, e219, hx219_0⟩ := Kd.at_int HR1.out x5_1 p219 q219
         cases e219
         replace p219 := eq_true p219; replace q219 := eq_true q219
         go_wp2
         repeat (go_quiet (fail); try go_wp2)
         go_roundg k1
         case measure => have := HK1.out; omega
         case rel => exact ⟨(wrap64 (x5_1 + 1)), (by first | rfl | (simp; done) | (simp [*]; done)), H', ⟨by have := HK1.out; omega⟩, by repeat (first | exact Drawn0.refl _ | apply Drawn0.step)⟩
        ·rw [if_neg c7] at H
         have c7b0 : ((rd l0 x5_1) == (rd l1 x5_1)) = false := beq_eq_false_iff_ne.mpr c7
         have c7b1 : ((rd l0 x5_1) != (rd l1 x5_1)) = true := bne_iff_ne.mpr c7
         obtain rfl := Option.some.inj H
         have p218 : 0 ≤ (x5_1 : Int) := of_decide_eq_true (by first | (with_reducible assumption) | assumption)
         have q218 : x5_1 < (l0.length : Int) := of_decide_eq_true (by first | (with_reducible assumption) | assumption)
         obtain ⟨ad218, e218, hx218_0⟩ := Kd.at_int HR0.out x5_1 p218 q218
         cases e218
         replace p218 := eq_true p218; replace q218 := eq_true q218
         have p219 : 0 ≤ (x5_1 : Int) := of_decide_eq_true (by first | (with_reducible assumption) | assumption)
         have q219 : x5_1 < (l1.length : Int) := of_decide_eq_true (by first | (with_reducible assumption) | assumption)
         obtain ⟨ad219, e219, hx219_0⟩ := Kd.at_int HR1.out x5_1 p219 q219
         cases e219
         replace p219 := eq_true p219; replace q219 := eq_true q219
         go_wp2
         repeat (go_quiet (fail); try go_wp2)
         go_ret
         exact ⟨by first | rfl | (simp; done) | (simp [*]; done), by repeat (first | exact Drawn0.refl _ | apply Drawn0.step)⟩
       ·rw [if_neg c6] at H
        exact absurd H (by simp)
      ·rw [if_neg c5] at H
       exact absurd H (by simp)
     ·rw [if_neg c4] at H
      have c4b0 : decide (x5_1 < (l0.length : Int)) = false := decide_eq_false c4
      clear c4; obtain rfl := Option.some.inj H
      go_wp2
      repeat (go_quiet (fail); try go_wp2)
      go_ret
      exact ⟨by first | rfl | (simp; done) | (simp [*]; done), by repeat (first | exact Drawn0.refl _ | apply Drawn0.step)⟩
  ·rw [if_neg c3] at H
   have c3b0 : ((l0.length : Int) == (l1.length : Int)) = false := beq_eq_false_iff_ne.mpr c3
   have c3b1 : ((l0.length : Int) != (l1.length : Int)) = true := bne_iff_ne.mpr c3
   have c3b2 : (l0.length == l1.length) = false := by first | simpa using c3 | (simp at c3 ⊢; omega)
   obtain rfl := Option.some.inj H
   go_enter Try.func20, Try.ntmps20
   go_wp2
   repeat (go_quiet (fail); try go_wp2)
   go_ret
   exact ⟨by first | rfl | (simp; done) | (simp [*]; done), by repeat (first | exact Drawn0.refl _ | apply Drawn0.step)⟩
/-! ### laws_eqBits: function 57 -/
def laws_eqBits.f (k : Nat) (a0_0 : Int) (l0_1 : List Int) (a1_0 : Int) (l1_1 : List Int) : Option (Bool) := if a0_0 = a1_0 then ((laws_eqIntS.f k l0_1 l1_1).bind fun t222 => (if t222 = true then (some true) else (some false))) else (some false)
theorem laws_eqBits.mono : ∀ a0 a1 a2 a3 k, LeO (laws_eqBits.f k a0 a1 a2 a3) (laws_eqBits.f (k + 1) a0 a1 a2 a3) := by
  intro a0 a1 a2 a3 k
  unfold laws_eqBits.f
  repeat' first
      | (with_reducible exact laws_eqIntS.mono _ _ _)
      | (with_reducible exact LeO.refl _)
      | (with_reducible exact LeO.none _)
      | (with_reducible refine LeO.ite ?_ ?_)
      | (with_reducible refine LeO.bind ?_ (fun _ => ?_))
      | exact laws_eqIntS.mono _ _ _
      | exact LeO.none _
      | refine LeO.ite ?_ ?_
      | refine LeO.bind ?_ (fun _ => ?_)
noncomputable def laws_eqBits.F (a0_0 : Int) (l0_1 : List Int) (a1_0 : Int) (l1_1 : List Int) : Option (Bool) := lim fun k => laws_eqBits.f k a0_0 l0_1 a1_0 l1_1
theorem laws_eqBits.F_sup (a0_0 : Int) (l0_1 : List Int) (a1_0 : Int) (l1_1 : List Int) : Sup (fun k => laws_eqBits.f k a0_0 l0_1 a1_0 l1_1) (laws_eqBits.F a0_0 l0_1 a1_0 l1_1) := Sup.of_mono fun k => laws_eqBits.mono a0_0 l0_1 a1_0 l1_1 k
theorem laws_eqBits.F_eq (a0_0 : Int) (l0_1 : List Int) (a1_0 : Int) (l1_1 : List Int) : laws_eqBits.F a0_0 l0_1 a1_0 l1_1 = if a0_0 = a1_0 then ((laws_eqIntS.F l0_1 l1_1).bind fun t222 => (if t222 = true then (some true) else (some false))) else (some false) := by
  refine Sup.unique (laws_eqBits.F_sup a0_0 l0_1 a1_0 l1_1) (Sup.congr (g' := fun k => if a0_0 = a1_0 then ((laws_eqIntS.f k l0_1 l1_1).bind fun t222 => (if t222 = true then (some true) else (some false))) else (some false)) (fun k => by first | rfl | simp only [laws_eqBits.f]) ?_)
  repeat' first
    | (with_reducible exact laws_eqIntS.F_sup _ _)
    | (with_reducible refine Sup.ite ?_ ?_)
    | (with_reducible refine Sup.bind ?_ (fun _ => ?_))
    | (with_reducible exact Sup.const _)
    | exact laws_eqIntS.F_sup _ _
    | exact Sup.const _
set_option maxHeartbeats 8000000 in
set_option maxRecDepth 100000 in
theorem laws_eqBits.calls (k : Nat) (a0_0 : Int) (A0_1 : Option Addr) (c0_1 : Nat) (l0_1 : List Int) (a1_0 : Int) (A1_1 : Option Addr) (c1_1 : Nat) (l1_1 : List Int) (r : Bool) (w : World) (hr0_1 : Kd.C (Kd.int .i64) w A0_1 l0_1.length l0_1) (hc0_1 : l0_1.length ≤ c0_1) (hr1_1 : Kd.C (Kd.int .i64) w A1_1 l1_1.length l1_1) (hc1_1 : l1_1.length ≤ c1_1) (h : laws_eqBits.f k a0_0 l0_1 a1_0 l1_1 = some r) :
    Calls Try.prog 57 #[.agg #[.int .i64 a0_0, .slice A0_1 l0_1.length c0_1], .agg #[.int .i64 a1_0, .slice A1_1 l1_1.length c1_1]] w fun e w' => e = .returned (.bool r) ∧ Below w.heap.size w w' := by
  have hu24 := Try.underlying24; have HR0_1 := Qx hr0_1; have HC0_1 := Qx hc0_1; clear hr0_1 hc0_1; have HR1_1 := Qx hr1_1; have HC1_1 := Qx hc1_1; clear hr1_1 hc1_1
  have HB := Qx (Below.refl w.heap.size w)
  have H : (if a0_0 = a1_0 then ((laws_eqIntS.f k l0_1 l1_1).bind fun t222 => (if t222 = true then (some true) else (some false))) else (some false)) = some r := h
  clear h
  by_cases c3 : a0_0 = a1_0
  ·rw [if_pos c3] at H
   have c3b0 : (a0_0 == a1_0) = true := beq_iff_eq.mpr c3
   have c3b1 : (a0_0 != a1_0) = false := bne_eq_false_iff_eq.mpr c3
   clear c3; replace H := Option.bind_eq_some_iff.mp H; obtain ⟨t222, A40, H⟩ := H
   have A4 := Qx A40; clear A40
   by_cases c5 : t222 = true
   ·subst c5
    have H1 : (some true) = some r := by rw [if_pos rfl] at H; exact H
    clear H; have H := H1; clear H1; obtain rfl := Option.some.inj H
    go_enter Try.func57, Try.ntmps57
    go_wp2_with (first | ((with_reducible refine gate_dst (N := 2) rfl ?_); refine box_event ?hg (N := 2) ?hd (cs := #[.int .i64 a0_0, .slice A0_1 l0_1.length c0_1]) (t := 24) ?hr ?_; (case hd => rfl); (case hg => rfl); (case hr => first | (go_simp; done) | (go_simp; rfl)); intro gb220 hg w6 hbox hb; have n0_ := Qx (Qp (by repeat (first | (with_reducible first | exact HB.out | apply Qa | apply Qn | apply Qd) | exact HB.out)) hb); have n1_ := Qx (hbox); have n2_ := Qx ((by rw [hg]; exact (Qz (by repeat (first | (with_reducible first | exact HB.out | apply Qa | apply Qn | apply Qd) | exact HB.out))) : w.heap.size ≤ gb220)); have n3_ := n2_; clear HB; have HB := n0_; have BK220 := n1_; have GW220 := n2_; have GE220 := n3_; clear n0_ n1_ n2_ n3_ hb hbox hg) | ((with_reducible refine gate_dst (N := 3) rfl ?_); refine box_event ?hg (N := 3) ?hd (cs := #[.int .i64 a1_0, .slice A1_1 l1_1.length c1_1]) (t := 24) ?hr ?_; (case hd => rfl); (case hg => rfl); (case hr => first | (go_simp; done) | (go_simp; rfl)); intro gb221 hg w7 hbox hb; have n0_ := Qx (Qb (g := gb220) (by (with_reducible repeat (first | refine Qm ?_ _ | refine Qw ?_ | refine Qk ?_ _)); exact BK220.out) hb); have n1_ := Qx (Qp (by repeat (first | (with_reducible first | exact HB.out | apply Qa | apply Qn | apply Qd | refine Qs ?_ GE220.out) | exact HB.out)) hb); have n2_ := Qx (hbox); have n3_ := Qx ((by rw [hg]; exact (Qz (by repeat (first | (with_reducible first | exact HB.out | apply Qa | apply Qn | apply Qd | refine Qs ?_ GE220.out) | exact HB.out))) : w.heap.size ≤ gb221)); have n4_ := n3_; have n5_ := Qx ((by rw [hg]; exact Nat.ne_of_lt (blk_lt (g := gb220) (o := .cells #[.int .i64 a0_0, .slice A0_1 l0_1.length c0_1] 24 (0, 0)) (by (with_reducible repeat (first | refine Qm ?_ _ | refine Qw ?_ | refine Qk ?_ _)); exact BK220.out)) : gb220 ≠ gb221)); have n6_ := Qx ((by rw [hg]; exact Nat.ne_of_gt (blk_lt (g := gb220) (o := .cells #[.int .i64 a0_0, .slice A0_1 l0_1.length c0_1] 24 (0, 0)) (by (with_reducible repeat (first | refine Qm ?_ _ | refine Qw ?_ | refine Qk ?_ _)); exact BK220.out)) : gb221 ≠ gb220)); clear BK220 HB; have BK220 := n0_; have HB := n1_; have BK221 := n2_; have GW221 := n3_; have GE221 := n4_; have NB220_221 := n5_; have NB221_220 := n6_; clear n0_ n1_ n2_ n3_ n4_ n5_ n6_ hb hbox hg; have hnb8 := NB220_221.out; have hnc8 := NB221_220.out; obtain ⟨hcz9_0, hcz9_1, hfz9_0, hfz9_1⟩ := cellsQ2_g3ffb (w := w7) BK220.out; obtain ⟨hcz10_0, hcz10_1, hfz10_0, hfz10_1⟩ := cellsQ2_g3ffb (w := w7) BK221.out) | ((with_reducible refine gate_callee (f := 20) rfl ?_); refine goesL_ (some 14) rfl rfl Try.func20 (by kernel_rfl) rfl #[.slice A0_1 l0_1.length c0_1, .slice A1_1 l1_1.length c1_1] rfl (by (try simp only [List.map_toArray, List.map_cons, List.map_nil]); first | done | rfl | (simp only [List.length_drop, List.length_take]; rfl)) ?_; (with_reducible refine (laws_eqIntS.calls k _ _ l0_1 _ _ l1_1 true _ ?side1 ?side2 ?side3 ?side4 A4.out).mono ?_); (case side1 => repeat (first | exact (Kd.C_below HR0_1.out HB.out) | (with_reducible refine Kd.C_alloc ?_ _) | (with_reducible refine Kd.C_drewN ?_ _) | (with_reducible refine Kd.C_drew ?_))); (case side2 => exact HC0_1.out); (case side3 => repeat (first | exact (Kd.C_below HR1_1.out HB.out) | (with_reducible refine Kd.C_alloc ?_ _) | (with_reducible refine Kd.C_drewN ?_ _) | (with_reducible refine Kd.C_drew ?_))); (case side4 => exact HC1_1.out); rintro e w' ⟨rfl, ⟨nd, rfl⟩⟩; refine ⟨_, rfl, ?_⟩))
    go_ret
    exact ⟨by first | rfl | (simp [errW_none, errW_some] <;> rfl) | (simp [*, errW_none, errW_some] <;> rfl), by repeat (first | (with_reducible first | exact HB.out | apply Qa | apply Qn | apply Qd | refine Qs ?_ GE220.out | refine Qs ?_ GE221.out) | exact HB.out)⟩
   ·replace c5 := Bool.eq_false_iff.mpr c5; subst c5
    have H1 : (some false) = some r := by rw [if_neg (show ¬ (false = true) by decide)] at H; exact H
    clear H; have H := H1; clear H1; obtain rfl := Option.some.inj H
    go_enter Try.func57, Try.ntmps57
    go_wp2_with (first | ((with_reducible refine gate_dst (N := 2) rfl ?_); refine box_event ?hg (N := 2) ?hd (cs := #[.int .i64 a0_0, .slice A0_1 l0_1.length c0_1]) (t := 24) ?hr ?_; (case hd => rfl); (case hg => rfl); (case hr => first | (go_simp; done) | (go_simp; rfl)); intro gb220 hg w11 hbox hb; have n0_ := Qx (Qp (by repeat (first | (with_reducible first | exact HB.out | apply Qa | apply Qn | apply Qd) | exact HB.out)) hb); have n1_ := Qx (hbox); have n2_ := Qx ((by rw [hg]; exact (Qz (by repeat (first | (with_reducible first | exact HB.out | apply Qa | apply Qn | apply Qd) | exact HB.out))) : w.heap.size ≤ gb220)); have n3_ := n2_; clear HB; have HB := n0_; have BK220 := n1_; have GW220 := n2_; have GE220 := n3_; clear n0_ n1_ n2_ n3_ hb hbox hg) | ((with_reducible refine gate_dst (N := 3) rfl ?_); refine box_event ?hg (N := 3) ?hd (cs := #[.int .i64 a1_0, .slice A1_1 l1_1.length c1_1]) (t := 24) ?hr ?_; (case hd => rfl); (case hg => rfl); (case hr => first | (go_simp; done) | (go_simp; rfl)); intro gb221 hg w12 hbox hb; have n0_ := Qx (Qb (g := gb220) (by (with_reducible repeat (first | refine Qm ?_ _ | refine Qw ?_ | refine Qk ?_ _)); exact BK220.out) hb); have n1_ := Qx (Qp (by repeat (first | (with_reducible first | exact HB.out | apply Qa | apply Qn | apply Qd | refine Qs ?_ GE220.out) | exact HB.out)) hb); have n2_ := Qx (hbox); have n3_ := Qx ((by rw [hg]; exact (Qz (by repeat (first | (with_reducible first | exact HB.out | apply Qa | apply Qn | apply Qd | refine Qs ?_ GE220.out) | exact HB.out))) : w.heap.size ≤ gb221)); have n4_ := n3_; have n5_ := Qx ((by rw [hg]; exact Nat.ne_of_lt (blk_lt (g := gb220) (o := .cells #[.int .i64 a0_0, .slice A0_1 l0_1.length c0_1] 24 (0, 0)) (by (with_reducible repeat (first | refine Qm ?_ _ | refine Qw ?_ | refine Qk ?_ _)); exact BK220.out)) : gb220 ≠ gb221)); have n6_ := Qx ((by rw [hg]; exact Nat.ne_of_gt (blk_lt (g := gb220) (o := .cells #[.int .i64 a0_0, .slice A0_1 l0_1.length c0_1] 24 (0, 0)) (by (with_reducible repeat (first | refine Qm ?_ _ | refine Qw ?_ | refine Qk ?_ _)); exact BK220.out)) : gb221 ≠ gb220)); clear BK220 HB; have BK220 := n0_; have HB := n1_; have BK221 := n2_; have GW221 := n3_; have GE221 := n4_; have NB220_221 := n5_; have NB221_220 := n6_; clear n0_ n1_ n2_ n3_ n4_ n5_ n6_ hb hbox hg; have hnb13 := NB220_221.out; have hnc13 := NB221_220.out; obtain ⟨hcz14_0, hcz14_1, hfz14_0, hfz14_1⟩ := cellsQ2_g3ffb (w := w12) BK220.out; obtain ⟨hcz15_0, hcz15_1, hfz15_0, hfz15_1⟩ := cellsQ2_g3ffb (w := w12) BK221.out) | ((with_reducible refine gate_callee (f := 20) rfl ?_); refine goesL_ (some 14) rfl rfl Try.func20 (by kernel_rfl) rfl #[.slice A0_1 l0_1.length c0_1, .slice A1_1 l1_1.length c1_1] rfl (by (try simp only [List.map_toArray, List.map_cons, List.map_nil]); first | done | rfl | (simp only [List.length_drop, List.length_take]; rfl)) ?_; (with_reducible refine (laws_eqIntS.calls k _ _ l0_1 _ _ l1_1 false _ ?side1 ?side2 ?side3 ?side4 A4.out).mono ?_); (case side1 => repeat (first | exact (Kd.C_below HR0_1.out HB.out) | (with_reducible refine Kd.C_alloc ?_ _) | (with_reducible refine Kd.C_drewN ?_ _) | (with_reducible refine Kd.C_drew ?_))); (case side2 => exact HC0_1.out); (case side3 => repeat (first | exact (Kd.C_below HR1_1.out HB.out) | (with_reducible refine Kd.C_alloc ?_ _) | (with_reducible refine Kd.C_drewN ?_ _) | (with_reducible refine Kd.C_drew ?_))); (case side4 => exact HC1_1.out); rintro e w' ⟨rfl, ⟨nd, rfl⟩⟩; refine ⟨_, rfl, ?_⟩))
    go_ret
    exact ⟨by first | rfl | (simp [errW_none, errW_some] <;> rfl) | (simp [*, errW_none, errW_some] <;> rfl), by repeat (first | (with_reducible first | exact HB.out | apply Qa | apply Qn | apply Qd | refine Qs ?_ GE220.out | refine Qs ?_ GE221.out) | exact HB.out)⟩
  ·rw [if_neg c3] at H
   have c3b0 : (a0_0 == a1_0) = false := beq_eq_false_iff_ne.mpr c3
   have c3b1 : (a0_0 != a1_0) = true := bne_iff_ne.mpr c3
   obtain rfl := Option.some.inj H
   go_enter Try.func57, Try.ntmps57
   go_wp2_with (first | ((with_reducible refine gate_dst (N := 2) rfl ?_); refine box_event ?hg (N := 2) ?hd (cs := #[.int .i64 a0_0, .slice A0_1 l0_1.length c0_1]) (t := 24) ?hr ?_; (case hd => rfl); (case hg => rfl); (case hr => first | (go_simp; done) | (go_simp; rfl)); intro gb220 hg w16 hbox hb; have n0_ := Qx (Qp (by repeat (first | (with_reducible first | exact HB.out | apply Qa | apply Qn | apply Qd) | exact HB.out)) hb); have n1_ := Qx (hbox); have n2_ := Qx ((by rw [hg]; exact (Qz (by repeat (first | (with_reducible first | exact HB.out | apply Qa | apply Qn | apply Qd) | exact HB.out))) : w.heap.size ≤ gb220)); have n3_ := n2_; clear HB; have HB := n0_; have BK220 := n1_; have GW220 := n2_; have GE220 := n3_; clear n0_ n1_ n2_ n3_ hb hbox hg) | ((with_reducible refine gate_dst (N := 3) rfl ?_); refine box_event ?hg (N := 3) ?hd (cs := #[.int .i64 a1_0, .slice A1_1 l1_1.length c1_1]) (t := 24) ?hr ?_; (case hd => rfl); (case hg => rfl); (case hr => first | (go_simp; done) | (go_simp; rfl)); intro gb221 hg w17 hbox hb; have n0_ := Qx (Qb (g := gb220) (by (with_reducible repeat (first | refine Qm ?_ _ | refine Qw ?_ | refine Qk ?_ _)); exact BK220.out) hb); have n1_ := Qx (Qp (by repeat (first | (with_reducible first | exact HB.out | apply Qa | apply Qn | apply Qd | refine Qs ?_ GE220.out) | exact HB.out)) hb); have n2_ := Qx (hbox); have n3_ := Qx ((by rw [hg]; exact (Qz (by repeat (first | (with_reducible first | exact HB.out | apply Qa | apply Qn | apply Qd | refine Qs ?_ GE220.out) | exact HB.out))) : w.heap.size ≤ gb221)); have n4_ := n3_; have n5_ := Qx ((by rw [hg]; exact Nat.ne_of_lt (blk_lt (g := gb220) (o := .cells #[.int .i64 a0_0, .slice A0_1 l0_1.length c0_1] 24 (0, 0)) (by (with_reducible repeat (first | refine Qm ?_ _ | refine Qw ?_ | refine Qk ?_ _)); exact BK220.out)) : gb220 ≠ gb221)); have n6_ := Qx ((by rw [hg]; exact Nat.ne_of_gt (blk_lt (g := gb220) (o := .cells #[.int .i64 a0_0, .slice A0_1 l0_1.length c0_1] 24 (0, 0)) (by (with_reducible repeat (first | refine Qm ?_ _ | refine Qw ?_ | refine Qk ?_ _)); exact BK220.out)) : gb221 ≠ gb220)); clear BK220 HB; have BK220 := n0_; have HB := n1_; have BK221 := n2_; have GW221 := n3_; have GE221 := n4_; have NB220_221 := n5_; have NB221_220 := n6_; clear n0_ n1_ n2_ n3_ n4_ n5_ n6_ hb hbox hg; have hnb18 := NB220_221.out; have hnc18 := NB221_220.out; obtain ⟨hcz19_0, hcz19_1, hfz19_0, hfz19_1⟩ := cellsQ2_g3ffb (w := w17) BK220.out; obtain ⟨hcz20_0, hcz20_1, hfz20_0, hfz20_1⟩ := cellsQ2_g3ffb (w := w17) BK221.out))
   go_ret
   exact ⟨by first | rfl | (simp [errW_none, errW_some] <;> rfl) | (simp [*, errW_none, errW_some] <;> rfl), by repeat (first | (with_reducible first | exact HB.out | apply Qa | apply Qn | apply Qd | refine Qs ?_ GE220.out | refine Qs ?_ GE221.out) | exact HB.out)⟩
/-! ### laws_eqSparse: function 19 -/
def laws_eqSparse.f (k : Nat) (a0_0 : Int) (a0_1 : Int) (a0_2 : Int) (a0_3 : Int) (l0_4 : List Int) (a0_5 : Int) (l0_6 : List Int) (a1_0 : Int) (a1_1 : Int) (a1_2 : Int) (a1_3 : Int) (l1_4 : List Int) (a1_5 : Int) (l1_6 : List Int) : Option (Bool) := if a0_0 = a1_0 then (if a0_1 = a1_1 then (if a0_2 = a1_2 then ((laws_eqBits.f k a0_3 l0_4 a1_3 l1_4).bind fun t225 => (if t225 = true then ((laws_eqBits.f k a0_5 l0_6 a1_5 l1_6).bind fun t226 => (if t226 = true then (some true) else (some false))) else (some false))) else (some false)) else (some false)) else (some false)
theorem laws_eqSparse.mono : ∀ a0 a1 a2 a3 a4 a5 a6 a7 a8 a9 a10 a11 a12 a13 k, LeO (laws_eqSparse.f k a0 a1 a2 a3 a4 a5 a6 a7 a8 a9 a10 a11 a12 a13) (laws_eqSparse.f (k + 1) a0 a1 a2 a3 a4 a5 a6 a7 a8 a9 a10 a11 a12 a13) := by
  intro a0 a1 a2 a3 a4 a5 a6 a7 a8 a9 a10 a11 a12 a13 k
  unfold laws_eqSparse.f
  repeat' first
      | (with_reducible exact laws_eqBits.mono _ _ _ _ _)
      | (with_reducible exact LeO.refl _)
      | (with_reducible exact LeO.none _)
      | (with_reducible refine LeO.ite ?_ ?_)
      | (with_reducible refine LeO.bind ?_ (fun _ => ?_))
      | exact laws_eqBits.mono _ _ _ _ _
      | exact LeO.none _
      | refine LeO.ite ?_ ?_
      | refine LeO.bind ?_ (fun _ => ?_)
noncomputable def laws_eqSparse.F (a0_0 : Int) (a0_1 : Int) (a0_2 : Int) (a0_3 : Int) (l0_4 : List Int) (a0_5 : Int) (l0_6 : List Int) (a1_0 : Int) (a1_1 : Int) (a1_2 : Int) (a1_3 : Int) (l1_4 : List Int) (a1_5 : Int) (l1_6 : List Int) : Option (Bool) := lim fun k => laws_eqSparse.f k a0_0 a0_1 a0_2 a0_3 l0_4 a0_5 l0_6 a1_0 a1_1 a1_2 a1_3 l1_4 a1_5 l1_6
theorem laws_eqSparse.F_sup (a0_0 : Int) (a0_1 : Int) (a0_2 : Int) (a0_3 : Int) (l0_4 : List Int) (a0_5 : Int) (l0_6 : List Int) (a1_0 : Int) (a1_1 : Int) (a1_2 : Int) (a1_3 : Int) (l1_4 : List Int) (a1_5 : Int) (l1_6 : List Int) : Sup (fun k => laws_eqSparse.f k a0_0 a0_1 a0_2 a0_3 l0_4 a0_5 l0_6 a1_0 a1_1 a1_2 a1_3 l1_4 a1_5 l1_6) (laws_eqSparse.F a0_0 a0_1 a0_2 a0_3 l0_4 a0_5 l0_6 a1_0 a1_1 a1_2 a1_3 l1_4 a1_5 l1_6) := Sup.of_mono fun k => laws_eqSparse.mono a0_0 a0_1 a0_2 a0_3 l0_4 a0_5 l0_6 a1_0 a1_1 a1_2 a1_3 l1_4 a1_5 l1_6 k
theorem laws_eqSparse.F_eq (a0_0 : Int) (a0_1 : Int) (a0_2 : Int) (a0_3 : Int) (l0_4 : List Int) (a0_5 : Int) (l0_6 : List Int) (a1_0 : Int) (a1_1 : Int) (a1_2 : Int) (a1_3 : Int) (l1_4 : List Int) (a1_5 : Int) (l1_6 : List Int) : laws_eqSparse.F a0_0 a0_1 a0_2 a0_3 l0_4 a0_5 l0_6 a1_0 a1_1 a1_2 a1_3 l1_4 a1_5 l1_6 = if a0_0 = a1_0 then (if a0_1 = a1_1 then (if a0_2 = a1_2 then ((laws_eqBits.F a0_3 l0_4 a1_3 l1_4).bind fun t225 => (if t225 = true then ((laws_eqBits.F a0_5 l0_6 a1_5 l1_6).bind fun t226 => (if t226 = true then (some true) else (some false))) else (some false))) else (some false)) else (some false)) else (some false) := by
  refine Sup.unique (laws_eqSparse.F_sup a0_0 a0_1 a0_2 a0_3 l0_4 a0_5 l0_6 a1_0 a1_1 a1_2 a1_3 l1_4 a1_5 l1_6) (Sup.congr (g' := fun k => if a0_0 = a1_0 then (if a0_1 = a1_1 then (if a0_2 = a1_2 then ((laws_eqBits.f k a0_3 l0_4 a1_3 l1_4).bind fun t225 => (if t225 = true then ((laws_eqBits.f k a0_5 l0_6 a1_5 l1_6).bind fun t226 => (if t226 = true then (some true) else (some false))) else (some false))) else (some false)) else (some false)) else (some false)) (fun k => by first | rfl | simp only [laws_eqSparse.f]) ?_)
  repeat' first
    | (with_reducible exact laws_eqBits.F_sup _ _ _ _)
    | (with_reducible refine Sup.ite ?_ ?_)
    | (with_reducible refine Sup.bind ?_ (fun _ => ?_))
    | (with_reducible exact Sup.const _)
    | exact laws_eqBits.F_sup _ _ _ _
    | exact Sup.const _
set_option maxHeartbeats 8000000 in
set_option maxRecDepth 100000 in
theorem laws_eqSparse.calls (k : Nat) (a0_0 : Int) (a0_1 : Int) (a0_2 : Int) (a0_3 : Int) (A0_4 : Option Addr) (c0_4 : Nat) (l0_4 : List Int) (a0_5 : Int) (A0_6 : Option Addr) (c0_6 : Nat) (l0_6 : List Int) (a1_0 : Int) (a1_1 : Int) (a1_2 : Int) (a1_3 : Int) (A1_4 : Option Addr) (c1_4 : Nat) (l1_4 : List Int) (a1_5 : Int) (A1_6 : Option Addr) (c1_6 : Nat) (l1_6 : List Int) (r : Bool) (w : World) (hr0_4 : Kd.C (Kd.int .i64) w A0_4 l0_4.length l0_4) (hc0_4 : l0_4.length ≤ c0_4) (hr0_6 : Kd.C (Kd.int .i64) w A0_6 l0_6.length l0_6) (hc0_6 : l0_6.length ≤ c0_6) (hr1_4 : Kd.C (Kd.int .i64) w A1_4 l1_4.length l1_4) (hc1_4 : l1_4.length ≤ c1_4) (hr1_6 : Kd.C (Kd.int .i64) w A1_6 l1_6.length l1_6) (hc1_6 : l1_6.length ≤ c1_6) (h : laws_eqSparse.f k a0_0 a0_1 a0_2 a0_3 l0_4 a0_5 l0_6 a1_0 a1_1 a1_2 a1_3 l1_4 a1_5 l1_6 = some r) :
    Calls Try.prog 19 #[.agg #[.int .i64 a0_0, .int .i64 a0_1, .int .i64 a0_2, .int .i64 a0_3, .slice A0_4 l0_4.length c0_4, .int .i64 a0_5, .slice A0_6 l0_6.length c0_6], .agg #[.int .i64 a1_0, .int .i64 a1_1, .int .i64 a1_2, .int .i64 a1_3, .slice A1_4 l1_4.length c1_4, .int .i64 a1_5, .slice A1_6 l1_6.length c1_6]] w fun e w' => e = .returned (.bool r) ∧ Below w.heap.size w w' := by
  have hu26 := Try.underlying26; have hu24 := Try.underlying24; have HR0_4 := Qx hr0_4; have HC0_4 := Qx hc0_4; clear hr0_4 hc0_4; have HR0_6 := Qx hr0_6; have HC0_6 := Qx hc0_6; clear hr0_6 hc0_6; have HR1_4 := Qx hr1_4; have HC1_4 := Qx hc1_4; clear hr1_4 hc1_4; have HR1_6 := Qx hr1_6; have HC1_6 := Qx hc1_6; clear hr1_6 hc1_6
  have HB := Qx (Below.refl w.heap.size w)
  have H : (if a0_0 = a1_0 then (if a0_1 = a1_1 then (if a0_2 = a1_2 then ((laws_eqBits.f k a0_3 l0_4 a1_3 l1_4).bind fun t225 => (if t225 = true then ((laws_eqBits.f k a0_5 l0_6 a1_5 l1_6).bind fun t226 => (if t226 = true then (some true) else (some false))) else (some false))) else (some false)) else (some false)) else (some false)) = some r := h
  clear h
  by_cases c3 : a0_0 = a1_0
  ·rw [if_pos c3] at H
   have c3b0 : (a0_0 == a1_0) = true := beq_iff_eq.mpr c3
   have c3b1 : (a0_0 != a1_0) = false := bne_eq_false_iff_eq.mpr c3
   clear c3
   by_cases c4 : a0_1 = a1_1
   ·rw [if_pos c4] at H
    have c4b0 : (a0_1 == a1_1) = true := beq_iff_eq.mpr c4
    have c4b1 : (a0_1 != a1_1) = false := bne_eq_false_iff_eq.mpr c4
    clear c4
    by_cases c5 : a0_2 = a1_2
    ·rw [if_pos c5] at H
     have c5b0 : (a0_2 == a1_2) = true := beq_iff_eq.mpr c5
     have c5b1 : (a0_2 != a1_2) = false := bne_eq_false_iff_eq.mpr c5
     clear c5; replace H := Option.bind_eq_some_iff.mp H; obtain ⟨t225, A60, H⟩ := H
     have A6 := Qx A60; clear A60
     by_cases c7 : t225 = true
     ·subst c7
      have H1 : ((laws_eqBits.f k a0_5 l0_6 a1_5 l1_6).bind fun t226 => (if t226 = true then (some true) else (some false))) = some r := by rw [if_pos rfl] at H; exact H
      clear H; have H := H1; clear H1; replace H := Option.bind_eq_some_iff.mp H; obtain ⟨t226, A80, H⟩ := H
      have A8 := Qx A80; clear A80
      by_cases c9 : t226 = true
      ·subst c9
       have H1 : (some true) = some r := by rw [if_pos rfl] at H; exact H
       clear H; have H := H1; clear H1; obtain rfl := Option.some.inj H
       go_enter Try.func19, Try.ntmps19
       go_wp2_with (first | ((with_reducible refine gate_dst (N := 2) rfl ?_); refine box_event ?hg (N := 2) ?hd (cs := #[.int .i64 a0_0, .int .i64 a0_1, .int .i64 a0_2, .int .i64 a0_3, .slice A0_4 l0_4.length c0_4, .int .i64 a0_5, .slice A0_6 l0_6.length c0_6]) (t := 26) ?hr ?_; (case hd => rfl); (case hg => rfl); (case hr => first | (go_simp; done) | (go_simp; rfl)); intro gb223 hg w10 hbox hb; have n0_ := Qx (Qp (by repeat (first | (with_reducible first | exact HB.out | apply Qa | apply Qn | apply Qd) | exact HB.out)) hb); have n1_ := Qx (hbox); have n2_ := Qx ((by rw [hg]; exact (Qz (by repeat (first | (with_reducible first | exact HB.out | apply Qa | apply Qn | apply Qd) | exact HB.out))) : w.heap.size ≤ gb223)); have n3_ := n2_; clear HB; have HB := n0_; have BK223 := n1_; have GW223 := n2_; have GE223 := n3_; clear n0_ n1_ n2_ n3_ hb hbox hg) | ((with_reducible refine gate_dst (N := 3) rfl ?_); refine box_event ?hg (N := 3) ?hd (cs := #[.int .i64 a1_0, .int .i64 a1_1, .int .i64 a1_2, .int .i64 a1_3, .slice A1_4 l1_4.length c1_4, .int .i64 a1_5, .slice A1_6 l1_6.length c1_6]) (t := 26) ?hr ?_; (case hd => rfl); (case hg => rfl); (case hr => first | (go_simp; done) | (go_simp; rfl)); intro gb224 hg w11 hbox hb; have n0_ := Qx (Qb (g := gb223) (by (with_reducible repeat (first | refine Qm ?_ _ | refine Qw ?_ | refine Qk ?_ _)); exact BK223.out) hb); have n1_ := Qx (Qp (by repeat (first | (with_reducible first | exact HB.out | apply Qa | apply Qn | apply Qd | refine Qs ?_ GE223.out) | exact HB.out)) hb); have n2_ := Qx (hbox); have n3_ := Qx ((by rw [hg]; exact (Qz (by repeat (first | (with_reducible first | exact HB.out | apply Qa | apply Qn | apply Qd | refine Qs ?_ GE223.out) | exact HB.out))) : w.heap.size ≤ gb224)); have n4_ := n3_; have n5_ := Qx ((by rw [hg]; exact Nat.ne_of_lt (blk_lt (g := gb223) (o := .cells #[.int .i64 a0_0, .int .i64 a0_1, .int .i64 a0_2, .int .i64 a0_3, .slice A0_4 l0_4.length c0_4, .int .i64 a0_5, .slice A0_6 l0_6.length c0_6] 26 (0, 0)) (by (with_reducible repeat (first | refine Qm ?_ _ | refine Qw ?_ | refine Qk ?_ _)); exact BK223.out)) : gb223 ≠ gb224)); have n6_ := Qx ((by rw [hg]; exact Nat.ne_of_gt (blk_lt (g := gb223) (o := .cells #[.int .i64 a0_0, .int .i64 a0_1, .int .i64 a0_2, .int .i64 a0_3, .slice A0_4 l0_4.length c0_4, .int .i64 a0_5, .slice A0_6 l0_6.length c0_6] 26 (0, 0)) (by (with_reducible repeat (first | refine Qm ?_ _ | refine Qw ?_ | refine Qk ?_ _)); exact BK223.out)) : gb224 ≠ gb223)); clear BK223 HB; have BK223 := n0_; have HB := n1_; have BK224 := n2_; have GW224 := n3_; have GE224 := n4_; have NB223_224 := n5_; have NB224_223 := n6_; clear n0_ n1_ n2_ n3_ n4_ n5_ n6_ hb hbox hg; have hnb12 := NB223_224.out; have hnc12 := NB224_223.out; obtain ⟨hcz13_0, hcz13_1, hcz13_2, hcz13_3, hcz13_4, hcz13_5, hcz13_6, hfz13_0, hfz13_1, hfz13_2, hfz13_3, hfz13_4, hfz13_5, hfz13_6⟩ := cellsQ7_g3ffb (w := w11) BK223.out; obtain ⟨hcz14_0, hcz14_1, hcz14_2, hcz14_3, hcz14_4, hcz14_5, hcz14_6, hfz14_0, hfz14_1, hfz14_2, hfz14_3, hfz14_4, hfz14_5, hfz14_6⟩ := cellsQ7_g3ffb (w := w11) BK224.out) | ((with_reducible refine gate_callee (f := 57) rfl ?_); refine goesL_ (some 24) rfl rfl Try.func57 (by kernel_rfl) rfl #[.agg #[.int .i64 a0_3, .slice A0_4 l0_4.length c0_4], .agg #[.int .i64 a1_3, .slice A1_4 l1_4.length c1_4]] rfl (by (try simp only [List.map_toArray, List.map_cons, List.map_nil]); first | done | rfl | (simp only [List.length_drop, List.length_take]; rfl)) ?_; (with_reducible refine (laws_eqBits.calls k a0_3 _ _ l0_4 a1_3 _ _ l1_4 true _ ?side1 ?side2 ?side3 ?side4 A6.out).mono ?_); (case side1 => repeat (first | exact (Kd.C_below HR0_4.out HB.out) | (with_reducible refine Kd.C_alloc ?_ _) | (with_reducible refine Kd.C_drewN ?_ _) | (with_reducible refine Kd.C_drew ?_))); (case side2 => exact HC0_4.out); (case side3 => repeat (first | exact (Kd.C_below HR1_4.out HB.out) | (with_reducible refine Kd.C_alloc ?_ _) | (with_reducible refine Kd.C_drewN ?_ _) | (with_reducible refine Kd.C_drew ?_))); (case side4 => exact HC1_4.out); rintro e w15 ⟨rfl, hb⟩; refine ⟨_, rfl, ?_⟩; have n0_ := Qx (Qb (g := gb223) (by (with_reducible repeat (first | refine Qm ?_ _ | refine Qw ?_ | refine Qk ?_ _)); exact BK223.out) hb); have n1_ := Qx (Qb (g := gb224) (by (with_reducible repeat (first | refine Qm ?_ _ | refine Qw ?_ | refine Qk ?_ _)); exact BK224.out) hb); have n2_ := Qx (Qp (by repeat (first | (with_reducible first | exact HB.out | apply Qa | apply Qn | apply Qd | refine Qs ?_ GE223.out | refine Qs ?_ GE224.out) | exact HB.out)) hb); clear BK223 BK224 HB; have BK223 := n0_; have BK224 := n1_; have HB := n2_; clear n0_ n1_ n2_; (try clear hb); (try clear hb2); (try clear hk); (try clear hi); obtain ⟨hcz16_0, hcz16_1, hcz16_2, hcz16_3, hcz16_4, hcz16_5, hcz16_6, hfz16_0, hfz16_1, hfz16_2, hfz16_3, hfz16_4, hfz16_5, hfz16_6⟩ := cellsQ7_g3ffb (w := w15) BK223.out; obtain ⟨hcz17_0, hcz17_1, hcz17_2, hcz17_3, hcz17_4, hcz17_5, hcz17_6, hfz17_0, hfz17_1, hfz17_2, hfz17_3, hfz17_4, hfz17_5, hfz17_6⟩ := cellsQ7_g3ffb (w := w15) BK224.out) | ((with_reducible refine gate_callee (f := 57) rfl ?_); refine goesL_ (some 30) rfl rfl Try.func57 (by kernel_rfl) rfl #[.agg #[.int .i64 a0_5, .slice A0_6 l0_6.length c0_6], .agg #[.int .i64 a1_5, .slice A1_6 l1_6.length c1_6]] rfl (by (try simp only [List.map_toArray, List.map_cons, List.map_nil]); first | done | rfl | (simp only [List.length_drop, List.length_take]; rfl)) ?_; (with_reducible refine (laws_eqBits.calls k a0_5 _ _ l0_6 a1_5 _ _ l1_6 true _ ?side1 ?side2 ?side3 ?side4 A8.out).mono ?_); (case side1 => repeat (first | exact (Kd.C_below HR0_6.out HB.out) | (with_reducible refine Kd.C_alloc ?_ _) | (with_reducible refine Kd.C_drewN ?_ _) | (with_reducible refine Kd.C_drew ?_))); (case side2 => exact HC0_6.out); (case side3 => repeat (first | exact (Kd.C_below HR1_6.out HB.out) | (with_reducible refine Kd.C_alloc ?_ _) | (with_reducible refine Kd.C_drewN ?_ _) | (with_reducible refine Kd.C_drew ?_))); (case side4 => exact HC1_6.out); rintro e w18 ⟨rfl, hb⟩; refine ⟨_, rfl, ?_⟩; have n0_ := Qx (Qb (g := gb223) (by (with_reducible repeat (first | refine Qm ?_ _ | refine Qw ?_ | refine Qk ?_ _)); exact BK223.out) hb); have n1_ := Qx (Qb (g := gb224) (by (with_reducible repeat (first | refine Qm ?_ _ | refine Qw ?_ | refine Qk ?_ _)); exact BK224.out) hb); have n2_ := Qx (Qp (by repeat (first | (with_reducible first | exact HB.out | apply Qa | apply Qn | apply Qd | refine Qs ?_ GE223.out | refine Qs ?_ GE224.out) | exact HB.out)) hb); clear BK223 BK224 HB; have BK223 := n0_; have BK224 := n1_; have HB := n2_; clear n0_ n1_ n2_; (try clear hb); (try clear hb2); (try clear hk); (try clear hi)))
       go_ret
       exact ⟨by first | rfl | (simp [errW_none, errW_some] <;> rfl) | (simp [*, errW_none, errW_some] <;> rfl), by repeat (first | (with_reducible first | exact HB.out | apply Qa | apply Qn | apply Qd | refine Qs ?_ GE223.out | refine Qs ?_ GE224.out) | exact HB.out)⟩
      ·replace c9 := Bool.eq_false_iff.mpr c9; subst c9
       have H1 : (some false) = some r := by rw [if_neg (show ¬ (false = true) by decide)] at H; exact H
       clear H; have H := H1; clear H1; obtain rfl := Option.some.inj H
       go_enter Try.func19, Try.ntmps19
       go_wp2_with (first | ((with_reducible refine gate_dst (N := 2) rfl ?_); refine box_event ?hg (N := 2) ?hd (cs := #[.int .i64 a0_0, .int .i64 a0_1, .int .i64 a0_2, .int .i64 a0_3, .slice A0_4 l0_4.length c0_4, .int .i64 a0_5, .slice A0_6 l0_6.length c0_6]) (t := 26) ?hr ?_; (case hd => rfl); (case hg => rfl); (case hr => first | (go_simp; done) | (go_simp; rfl)); intro gb223 hg w19 hbox hb; have n0_ := Qx (Qp (by repeat (first | (with_reducible first | exact HB.out | apply Qa | apply Qn | apply Qd) | exact HB.out)) hb); have n1_ := Qx (hbox); have n2_ := Qx ((by rw [hg]; exact (Qz (by repeat (first | (with_reducible first | exact HB.out | apply Qa | apply Qn | apply Qd) | exact HB.out))) : w.heap.size ≤ gb223)); have n3_ := n2_; clear HB; have HB := n0_; have BK223 := n1_; have GW223 := n2_; have GE223 := n3_; clear n0_ n1_ n2_ n3_ hb hbox hg) | ((with_reducible refine gate_dst (N := 3) rfl ?_); refine box_event ?hg (N := 3) ?hd (cs := #[.int .i64 a1_0, .int .i64 a1_1, .int .i64 a1_2, .int .i64 a1_3, .slice A1_4 l1_4.length c1_4, .int .i64 a1_5, .slice A1_6 l1_6.length c1_6]) (t := 26) ?hr ?_; (case hd => rfl); (case hg => rfl); (case hr => first | (go_simp; done) | (go_simp; rfl)); intro gb224 hg w20 hbox hb; have n0_ := Qx (Qb (g := gb223) (by (with_reducible repeat (first | refine Qm ?_ _ | refine Qw ?_ | refine Qk ?_ _)); exact BK223.out) hb); have n1_ := Qx (Qp (by repeat (first | (with_reducible first | exact HB.out | apply Qa | apply Qn | apply Qd | refine Qs ?_ GE223.out) | exact HB.out)) hb); have n2_ := Qx (hbox); have n3_ := Qx ((by rw [hg]; exact (Qz (by repeat (first | (with_reducible first | exact HB.out | apply Qa | apply Qn | apply Qd | refine Qs ?_ GE223.out) | exact HB.out))) : w.heap.size ≤ gb224)); have n4_ := n3_; have n5_ := Qx ((by rw [hg]; exact Nat.ne_of_lt (blk_lt (g := gb223) (o := .cells #[.int .i64 a0_0, .int .i64 a0_1, .int .i64 a0_2, .int .i64 a0_3, .slice A0_4 l0_4.length c0_4, .int .i64 a0_5, .slice A0_6 l0_6.length c0_6] 26 (0, 0)) (by (with_reducible repeat (first | refine Qm ?_ _ | refine Qw ?_ | refine Qk ?_ _)); exact BK223.out)) : gb223 ≠ gb224)); have n6_ := Qx ((by rw [hg]; exact Nat.ne_of_gt (blk_lt (g := gb223) (o := .cells #[.int .i64 a0_0, .int .i64 a0_1, .int .i64 a0_2, .int .i64 a0_3, .slice A0_4 l0_4.length c0_4, .int .i64 a0_5, .slice A0_6 l0_6.length c0_6] 26 (0, 0)) (by (with_reducible repeat (first | refine Qm ?_ _ | refine Qw ?_ | refine Qk ?_ _)); exact BK223.out)) : gb224 ≠ gb223)); clear BK223 HB; have BK223 := n0_; have HB := n1_; have BK224 := n2_; have GW224 := n3_; have GE224 := n4_; have NB223_224 := n5_; have NB224_223 := n6_; clear n0_ n1_ n2_ n3_ n4_ n5_ n6_ hb hbox hg; have hnb21 := NB223_224.out; have hnc21 := NB224_223.out; obtain ⟨hcz22_0, hcz22_1, hcz22_2, hcz22_3, hcz22_4, hcz22_5, hcz22_6, hfz22_0, hfz22_1, hfz22_2, hfz22_3, hfz22_4, hfz22_5, hfz22_6⟩ := cellsQ7_g3ffb (w := w20) BK223.out; obtain ⟨hcz23_0, hcz23_1, hcz23_2, hcz23_3, hcz23_4, hcz23_5, hcz23_6, hfz23_0, hfz23_1, hfz23_2, hfz23_3, hfz23_4, hfz23_5, hfz23_6⟩ := cellsQ7_g3ffb (w := w20) BK224.out) | ((with_reducible refine gate_callee (f := 57) rfl ?_); refine goesL_ (some 24) rfl rfl Try.func57 (by kernel_rfl) rfl #[.agg #[.int .i64 a0_3, .slice A0_4 l0_4.length c0_4], .agg #[.int .i64 a1_3, .slice A1_4 l1_4.length c1_4]] rfl (by (try simp only [List.map_toArray, List.map_cons, List.map_nil]); first | done | rfl | (simp only [List.length_drop, List.length_take]; rfl)) ?_; (with_reducible refine (laws_eqBits.calls k a0_3 _ _ l0_4 a1_3 _ _ l1_4 true _ ?side1 ?side2 ?side3 ?side4 A6.out).mono ?_); (case side1 => repeat (first | exact (Kd.C_below HR0_4.out HB.out) | (with_reducible refine Kd.C_alloc ?_ _) | (with_reducible refine Kd.C_drewN ?_ _) | (with_reducible refine Kd.C_drew ?_))); (case side2 => exact HC0_4.out); (case side3 => repeat (first | exact (Kd.C_below HR1_4.out HB.out) | (with_reducible refine Kd.C_alloc ?_ _) | (with_reducible refine Kd.C_drewN ?_ _) | (with_reducible refine Kd.C_drew ?_))); (case side4 => exact HC1_4.out); rintro e w24 ⟨rfl, hb⟩; refine ⟨_, rfl, ?_⟩; have n0_ := Qx (Qb (g := gb223) (by (with_reducible repeat (first | refine Qm ?_ _ | refine Qw ?_ | refine Qk ?_ _)); exact BK223.out) hb); have n1_ := Qx (Qb (g := gb224) (by (with_reducible repeat (first | refine Qm ?_ _ | refine Qw ?_ | refine Qk ?_ _)); exact BK224.out) hb); have n2_ := Qx (Qp (by repeat (first | (with_reducible first | exact HB.out | apply Qa | apply Qn | apply Qd | refine Qs ?_ GE223.out | refine Qs ?_ GE224.out) | exact HB.out)) hb); clear BK223 BK224 HB; have BK223 := n0_; have BK224 := n1_; have HB := n2_; clear n0_ n1_ n2_; (try clear hb); (try clear hb2); (try clear hk); (try clear hi); obtain ⟨hcz25_0, hcz25_1, hcz25_2, hcz25_3, hcz25_4, hcz25_5, hcz25_6, hfz25_0, hfz25_1, hfz25_2, hfz25_3, hfz25_4, hfz25_5, hfz25_6⟩ := cellsQ7_g3ffb (w := w24) BK223.out; obtain ⟨hcz26_0, hcz26_1, hcz26_2, hcz26_3, hcz26_4, hcz26_5, hcz26_6, hfz26_0, hfz26_1, hfz26_2, hfz26_3, hfz26_4, hfz26_5, hfz26_6⟩ := cellsQ7_g3ffb (w := w24) BK224.out) | ((with_reducible refine gate_callee (f := 57) rfl ?_); refine goesL_ (some 30) rfl rfl Try.func57 (by kernel_rfl) rfl #[.agg #[.int .i64 a0_5, .slice A0_6 l0_6.length c0_6], .agg #[.int .i64 a1_5, .slice A1_6 l1_6.length c1_6]] rfl (by (try simp only [List.map_toArray, List.map_cons, List.map_nil]); first | done | rfl | (simp only [List.length_drop, List.length_take]; rfl)) ?_; (with_reducible refine (laws_eqBits.calls k a0_5 _ _ l0_6 a1_5 _ _ l1_6 false _ ?side1 ?side2 ?side3 ?side4 A8.out).mono ?_); (case side1 => repeat (first | exact (Kd.C_below HR0_6.out HB.out) | (with_reducible refine Kd.C_alloc ?_ _) | (with_reducible refine Kd.C_drewN ?_ _) | (with_reducible refine Kd.C_drew ?_))); (case side2 => exact HC0_6.out); (case side3 => repeat (first | exact (Kd.C_below HR1_6.out HB.out) | (with_reducible refine Kd.C_alloc ?_ _) | (with_reducible refine Kd.C_drewN ?_ _) | (with_reducible refine Kd.C_drew ?_))); (case side4 => exact HC1_6.out); rintro e w27 ⟨rfl, hb⟩; refine ⟨_, rfl, ?_⟩; have n0_ := Qx (Qb (g := gb223) (by (with_reducible repeat (first | refine Qm ?_ _ | refine Qw ?_ | refine Qk ?_ _)); exact BK223.out) hb); have n1_ := Qx (Qb (g := gb224) (by (with_reducible repeat (first | refine Qm ?_ _ | refine Qw ?_ | refine Qk ?_ _)); exact BK224.out) hb); have n2_ := Qx (Qp (by repeat (first | (with_reducible first | exact HB.out | apply Qa | apply Qn | apply Qd | refine Qs ?_ GE223.out | refine Qs ?_ GE224.out) | exact HB.out)) hb); clear BK223 BK224 HB; have BK223 := n0_; have BK224 := n1_; have HB := n2_; clear n0_ n1_ n2_; (try clear hb); (try clear hb2); (try clear hk); (try clear hi)))
       go_ret
       exact ⟨by first | rfl | (simp [errW_none, errW_some] <;> rfl) | (simp [*, errW_none, errW_some] <;> rfl), by repeat (first | (with_reducible first | exact HB.out | apply Qa | apply Qn | apply Qd | refine Qs ?_ GE223.out | refine Qs ?_ GE224.out) | exact HB.out)⟩
     ·replace c7 := Bool.eq_false_iff.mpr c7; subst c7
      have H1 : (some false) = some r := by rw [if_neg (show ¬ (false = true) by decide)] at H; exact H
      clear H; have H := H1; clear H1; obtain rfl := Option.some.inj H
      go_enter Try.func19, Try.ntmps19
      go_wp2_with (first | ((with_reducible refine gate_dst (N := 2) rfl ?_); refine box_event ?hg (N := 2) ?hd (cs := #[.int .i64 a0_0, .int .i64 a0_1, .int .i64 a0_2, .int .i64 a0_3, .slice A0_4 l0_4.length c0_4, .int .i64 a0_5, .slice A0_6 l0_6.length c0_6]) (t := 26) ?hr ?_; (case hd => rfl); (case hg => rfl); (case hr => first | (go_simp; done) | (go_simp; rfl)); intro gb223 hg w28 hbox hb; have n0_ := Qx (Qp (by repeat (first | (with_reducible first | exact HB.out | apply Qa | apply Qn | apply Qd) | exact HB.out)) hb); have n1_ := Qx (hbox); have n2_ := Qx ((by rw [hg]; exact (Qz (by repeat (first | (with_reducible first | exact HB.out | apply Qa | apply Qn | apply Qd) | exact HB.out))) : w.heap.size ≤ gb223)); have n3_ := n2_; clear HB; have HB := n0_; have BK223 := n1_; have GW223 := n2_; have GE223 := n3_; clear n0_ n1_ n2_ n3_ hb hbox hg) | ((with_reducible refine gate_dst (N := 3) rfl ?_); refine box_event ?hg (N := 3) ?hd (cs := #[.int .i64 a1_0, .int .i64 a1_1, .int .i64 a1_2, .int .i64 a1_3, .slice A1_4 l1_4.length c1_4, .int .i64 a1_5, .slice A1_6 l1_6.length c1_6]) (t := 26) ?hr ?_; (case hd => rfl); (case hg => rfl); (case hr => first | (go_simp; done) | (go_simp; rfl)); intro gb224 hg w29 hbox hb; have n0_ := Qx (Qb (g := gb223) (by (with_reducible repeat (first | refine Qm ?_ _ | refine Qw ?_ | refine Qk ?_ _)); exact BK223.out) hb); have n1_ := Qx (Qp (by repeat (first | (with_reducible first | exact HB.out | apply Qa | apply Qn | apply Qd | refine Qs ?_ GE223.out) | exact HB.out)) hb); have n2_ := Qx (hbox); have n3_ := Qx ((by rw [hg]; exact (Qz (by repeat (first | (with_reducible first | exact HB.out | apply Qa | apply Qn | apply Qd | refine Qs ?_ GE223.out) | exact HB.out))) : w.heap.size ≤ gb224)); have n4_ := n3_; have n5_ := Qx ((by rw [hg]; exact Nat.ne_of_lt (blk_lt (g := gb223) (o := .cells #[.int .i64 a0_0, .int .i64 a0_1, .int .i64 a0_2, .int .i64 a0_3, .slice A0_4 l0_4.length c0_4, .int .i64 a0_5, .slice A0_6 l0_6.length c0_6] 26 (0, 0)) (by (with_reducible repeat (first | refine Qm ?_ _ | refine Qw ?_ | refine Qk ?_ _)); exact BK223.out)) : gb223 ≠ gb224)); have n6_ := Qx ((by rw [hg]; exact Nat.ne_of_gt (blk_lt (g := gb223) (o := .cells #[.int .i64 a0_0, .int .i64 a0_1, .int .i64 a0_2, .int .i64 a0_3, .slice A0_4 l0_4.length c0_4, .int .i64 a0_5, .slice A0_6 l0_6.length c0_6] 26 (0, 0)) (by (with_reducible repeat (first | refine Qm ?_ _ | refine Qw ?_ | refine Qk ?_ _)); exact BK223.out)) : gb224 ≠ gb223)); clear BK223 HB; have BK223 := n0_; have HB := n1_; have BK224 := n2_; have GW224 := n3_; have GE224 := n4_; have NB223_224 := n5_; have NB224_223 := n6_; clear n0_ n1_ n2_ n3_ n4_ n5_ n6_ hb hbox hg; have hnb30 := NB223_224.out; have hnc30 := NB224_223.out; obtain ⟨hcz31_0, hcz31_1, hcz31_2, hcz31_3, hcz31_4, hcz31_5, hcz31_6, hfz31_0, hfz31_1, hfz31_2, hfz31_3, hfz31_4, hfz31_5, hfz31_6⟩ := cellsQ7_g3ffb (w := w29) BK223.out; obtain ⟨hcz32_0, hcz32_1, hcz32_2, hcz32_3, hcz32_4, hcz32_5, hcz32_6, hfz32_0, hfz32_1, hfz32_2, hfz32_3, hfz32_4, hfz32_5, hfz32_6⟩ := cellsQ7_g3ffb (w := w29) BK224.out) | ((with_reducible refine gate_callee (f := 57) rfl ?_); refine goesL_ (some 24) rfl rfl Try.func57 (by kernel_rfl) rfl #[.agg #[.int .i64 a0_3, .slice A0_4 l0_4.length c0_4], .agg #[.int .i64 a1_3, .slice A1_4 l1_4.length c1_4]] rfl (by (try simp only [List.map_toArray, List.map_cons, List.map_nil]); first | done | rfl | (simp only [List.length_drop, List.length_take]; rfl)) ?_; (with_reducible refine (laws_eqBits.calls k a0_3 _ _ l0_4 a1_3 _ _ l1_4 false _ ?side1 ?side2 ?side3 ?side4 A6.out).mono ?_); (case side1 => repeat (first | exact (Kd.C_below HR0_4.out HB.out) | (with_reducible refine Kd.C_alloc ?_ _) | (with_reducible refine Kd.C_drewN ?_ _) | (with_reducible refine Kd.C_drew ?_))); (case side2 => exact HC0_4.out); (case side3 => repeat (first | exact (Kd.C_below HR1_4.out HB.out) | (with_reducible refine Kd.C_alloc ?_ _) | (with_reducible refine Kd.C_drewN ?_ _) | (with_reducible refine Kd.C_drew ?_))); (case side4 => exact HC1_4.out); rintro e w33 ⟨rfl, hb⟩; refine ⟨_, rfl, ?_⟩; have n0_ := Qx (Qb (g := gb223) (by (with_reducible repeat (first | refine Qm ?_ _ | refine Qw ?_ | refine Qk ?_ _)); exact BK223.out) hb); have n1_ := Qx (Qb (g := gb224) (by (with_reducible repeat (first | refine Qm ?_ _ | refine Qw ?_ | refine Qk ?_ _)); exact BK224.out) hb); have n2_ := Qx (Qp (by repeat (first | (with_reducible first | exact HB.out | apply Qa | apply Qn | apply Qd | refine Qs ?_ GE223.out | refine Qs ?_ GE224.out) | exact HB.out)) hb); clear BK223 BK224 HB; have BK223 := n0_; have BK224 := n1_; have HB := n2_; clear n0_ n1_ n2_; (try clear hb); (try clear hb2); (try clear hk); (try clear hi)))
      go_ret
      exact ⟨by first | rfl | (simp [errW_none, errW_some] <;> rfl) | (simp [*, errW_none, errW_some] <;> rfl), by repeat (first | (with_reducible first | exact HB.out | apply Qa | apply Qn | apply Qd | refine Qs ?_ GE223.out | refine Qs ?_ GE224.out) | exact HB.out)⟩
    ·rw [if_neg c5] at H
     have c5b0 : (a0_2 == a1_2) = false := beq_eq_false_iff_ne.mpr c5
     have c5b1 : (a0_2 != a1_2) = true := bne_iff_ne.mpr c5
     obtain rfl := Option.some.inj H
     go_enter Try.func19, Try.ntmps19
     go_wp2_with (first | ((with_reducible refine gate_dst (N := 2) rfl ?_); refine box_event ?hg (N := 2) ?hd (cs := #[.int .i64 a0_0, .int .i64 a0_1, .int .i64 a0_2, .int .i64 a0_3, .slice A0_4 l0_4.length c0_4, .int .i64 a0_5, .slice A0_6 l0_6.length c0_6]) (t := 26) ?hr ?_; (case hd => rfl); (case hg => rfl); (case hr => first | (go_simp; done) | (go_simp; rfl)); intro gb223 hg w34 hbox hb; have n0_ := Qx (Qp (by repeat (first | (with_reducible first | exact HB.out | apply Qa | apply Qn | apply Qd) | exact HB.out)) hb); have n1_ := Qx (hbox); have n2_ := Qx ((by rw [hg]; exact (Qz (by repeat (first | (with_reducible first | exact HB.out | apply Qa | apply Qn | apply Qd) | exact HB.out))) : w.heap.size ≤ gb223)); have n3_ := n2_; clear HB; have HB := n0_; have BK223 := n1_; have GW223 := n2_; have GE223 := n3_; clear n0_ n1_ n2_ n3_ hb hbox hg) | ((with_reducible refine gate_dst (N := 3) rfl ?_); refine box_event ?hg (N := 3) ?hd (cs := #[.int .i64 a1_0, .int .i64 a1_1, .int .i64 a1_2, .int .i64 a1_3, .slice A1_4 l1_4.length c1_4, .int .i64 a1_5, .slice A1_6 l1_6.length c1_6]) (t := 26) ?hr ?_; (case hd => rfl); (case hg => rfl); (case hr => first | (go_simp; done) | (go_simp; rfl)); intro gb224 hg w35 hbox hb; have n0_ := Qx (Qb (g := gb223) (by (with_reducible repeat (first | refine Qm ?_ _ | refine Qw ?_ | refine Qk ?_ _)); exact BK223.out) hb); have n1_ := Qx (Qp (by repeat (first | (with_reducible first | exact HB.out | apply Qa | apply Qn | apply Qd | refine Qs ?_ GE223.out) | exact HB.out)) hb); have n2_ := Qx (hbox); have n3_ := Qx ((by rw [hg]; exact (Qz (by repeat (first | (with_reducible first | exact HB.out | apply Qa | apply Qn | apply Qd | refine Qs ?_ GE223.out) | exact HB.out))) : w.heap.size ≤ gb224)); have n4_ := n3_; have n5_ := Qx ((by rw [hg]; exact Nat.ne_of_lt (blk_lt (g := gb223) (o := .cells #[.int .i64 a0_0, .int .i64 a0_1, .int .i64 a0_2, .int .i64 a0_3, .slice A0_4 l0_4.length c0_4, .int .i64 a0_5, .slice A0_6 l0_6.length c0_6] 26 (0, 0)) (by (with_reducible repeat (first | refine Qm ?_ _ | refine Qw ?_ | refine Qk ?_ _)); exact BK223.out)) : gb223 ≠ gb224)); have n6_ := Qx ((by rw [hg]; exact Nat.ne_of_gt (blk_lt (g := gb223) (o := .cells #[.int .i64 a0_0, .int .i64 a0_1, .int .i64 a0_2, .int .i64 a0_3, .slice A0_4 l0_4.length c0_4, .int .i64 a0_5, .slice A0_6 l0_6.length c0_6] 26 (0, 0)) (by (with_reducible repeat (first | refine Qm ?_ _ | refine Qw ?_ | refine Qk ?_ _)); exact BK223.out)) : gb224 ≠ gb223)); clear BK223 HB; have BK223 := n0_; have HB := n1_; have BK224 := n2_; have GW224 := n3_; have GE224 := n4_; have NB223_224 := n5_; have NB224_223 := n6_; clear n0_ n1_ n2_ n3_ n4_ n5_ n6_ hb hbox hg; have hnb36 := NB223_224.out; have hnc36 := NB224_223.out; obtain ⟨hcz37_0, hcz37_1, hcz37_2, hcz37_3, hcz37_4, hcz37_5, hcz37_6, hfz37_0, hfz37_1, hfz37_2, hfz37_3, hfz37_4, hfz37_5, hfz37_6⟩ := cellsQ7_g3ffb (w := w35) BK223.out; obtain ⟨hcz38_0, hcz38_1, hcz38_2, hcz38_3, hcz38_4, hcz38_5, hcz38_6, hfz38_0, hfz38_1, hfz38_2, hfz38_3, hfz38_4, hfz38_5, hfz38_6⟩ := cellsQ7_g3ffb (w := w35) BK224.out))
     go_ret
     exact ⟨by first | rfl | (simp [errW_none, errW_some] <;> rfl) | (simp [*, errW_none, errW_some] <;> rfl), by repeat (first | (with_reducible first | exact HB.out | apply Qa | apply Qn | apply Qd | refine Qs ?_ GE223.out | refine Qs ?_ GE224.out) | exact HB.out)⟩
   ·rw [if_neg c4] at H
    have c4b0 : (a0_1 == a1_1) = false := beq_eq_false_iff_ne.mpr c4
    have c4b1 : (a0_1 != a1_1) = true := bne_iff_ne.mpr c4
    obtain rfl := Option.some.inj H
    go_enter Try.func19, Try.ntmps19
    go_wp2_with (first | ((with_reducible refine gate_dst (N := 2) rfl ?_); refine box_event ?hg (N := 2) ?hd (cs := #[.int .i64 a0_0, .int .i64 a0_1, .int .i64 a0_2, .int .i64 a0_3, .slice A0_4 l0_4.length c0_4, .int .i64 a0_5, .slice A0_6 l0_6.length c0_6]) (t := 26) ?hr ?_; (case hd => rfl); (case hg => rfl); (case hr => first | (go_simp; done) | (go_simp; rfl)); intro gb223 hg w39 hbox hb; have n0_ := Qx (Qp (by repeat (first | (with_reducible first | exact HB.out | apply Qa | apply Qn | apply Qd) | exact HB.out)) hb); have n1_ := Qx (hbox); have n2_ := Qx ((by rw [hg]; exact (Qz (by repeat (first | (with_reducible first | exact HB.out | apply Qa | apply Qn | apply Qd) | exact HB.out))) : w.heap.size ≤ gb223)); have n3_ := n2_; clear HB; have HB := n0_; have BK223 := n1_; have GW223 := n2_; have GE223 := n3_; clear n0_ n1_ n2_ n3_ hb hbox hg) | ((with_reducible refine gate_dst (N := 3) rfl ?_); refine box_event ?hg (N := 3) ?hd (cs := #[.int .i64 a1_0, .int .i64 a1_1, .int .i64 a1_2, .int .i64 a1_3, .slice A1_4 l1_4.length c1_4, .int .i64 a1_5, .slice A1_6 l1_6.length c1_6]) (t := 26) ?hr ?_; (case hd => rfl); (case hg => rfl); (case hr => first | (go_simp; done) | (go_simp; rfl)); intro gb224 hg w40 hbox hb; have n0_ := Qx (Qb (g := gb223) (by (with_reducible repeat (first | refine Qm ?_ _ | refine Qw ?_ | refine Qk ?_ _)); exact BK223.out) hb); have n1_ := Qx (Qp (by repeat (first | (with_reducible first | exact HB.out | apply Qa | apply Qn | apply Qd | refine Qs ?_ GE223.out) | exact HB.out)) hb); have n2_ := Qx (hbox); have n3_ := Qx ((by rw [hg]; exact (Qz (by repeat (first | (with_reducible first | exact HB.out | apply Qa | apply Qn | apply Qd | refine Qs ?_ GE223.out) | exact HB.out))) : w.heap.size ≤ gb224)); have n4_ := n3_; have n5_ := Qx ((by rw [hg]; exact Nat.ne_of_lt (blk_lt (g := gb223) (o := .cells #[.int .i64 a0_0, .int .i64 a0_1, .int .i64 a0_2, .int .i64 a0_3, .slice A0_4 l0_4.length c0_4, .int .i64 a0_5, .slice A0_6 l0_6.length c0_6] 26 (0, 0)) (by (with_reducible repeat (first | refine Qm ?_ _ | refine Qw ?_ | refine Qk ?_ _)); exact BK223.out)) : gb223 ≠ gb224)); have n6_ := Qx ((by rw [hg]; exact Nat.ne_of_gt (blk_lt (g := gb223) (o := .cells #[.int .i64 a0_0, .int .i64 a0_1, .int .i64 a0_2, .int .i64 a0_3, .slice A0_4 l0_4.length c0_4, .int .i64 a0_5, .slice A0_6 l0_6.length c0_6] 26 (0, 0)) (by (with_reducible repeat (first | refine Qm ?_ _ | refine Qw ?_ | refine Qk ?_ _)); exact BK223.out)) : gb224 ≠ gb223)); clear BK223 HB; have BK223 := n0_; have HB := n1_; have BK224 := n2_; have GW224 := n3_; have GE224 := n4_; have NB223_224 := n5_; have NB224_223 := n6_; clear n0_ n1_ n2_ n3_ n4_ n5_ n6_ hb hbox hg; have hnb41 := NB223_224.out; have hnc41 := NB224_223.out; obtain ⟨hcz42_0, hcz42_1, hcz42_2, hcz42_3, hcz42_4, hcz42_5, hcz42_6, hfz42_0, hfz42_1, hfz42_2, hfz42_3, hfz42_4, hfz42_5, hfz42_6⟩ := cellsQ7_g3ffb (w := w40) BK223.out; obtain ⟨hcz43_0, hcz43_1, hcz43_2, hcz43_3, hcz43_4, hcz43_5, hcz43_6, hfz43_0, hfz43_1, hfz43_2, hfz43_3, hfz43_4, hfz43_5, hfz43_6⟩ := cellsQ7_g3ffb (w := w40) BK224.out))
    go_ret
    exact ⟨by first | rfl | (simp [errW_none, errW_some] <;> rfl) | (simp [*, errW_none, errW_some] <;> rfl), by repeat (first | (with_reducible first | exact HB.out | apply Qa | apply Qn | apply Qd | refine Qs ?_ GE223.out | refine Qs ?_ GE224.out) | exact HB.out)⟩
  ·rw [if_neg c3] at H
   have c3b0 : (a0_0 == a1_0) = false := beq_eq_false_iff_ne.mpr c3
   have c3b1 : (a0_0 != a1_0) = true := bne_iff_ne.mpr c3
   obtain rfl := Option.some.inj H
   go_enter Try.func19, Try.ntmps19
   go_wp2_with (first | ((with_reducible refine gate_dst (N := 2) rfl ?_); refine box_event ?hg (N := 2) ?hd (cs := #[.int .i64 a0_0, .int .i64 a0_1, .int .i64 a0_2, .int .i64 a0_3, .slice A0_4 l0_4.length c0_4, .int .i64 a0_5, .slice A0_6 l0_6.length c0_6]) (t := 26) ?hr ?_; (case hd => rfl); (case hg => rfl); (case hr => first | (go_simp; done) | (go_simp; rfl)); intro gb223 hg w44 hbox hb; have n0_ := Qx (Qp (by repeat (first | (with_reducible first | exact HB.out | apply Qa | apply Qn | apply Qd) | exact HB.out)) hb); have n1_ := Qx (hbox); have n2_ := Qx ((by rw [hg]; exact (Qz (by repeat (first | (with_reducible first | exact HB.out | apply Qa | apply Qn | apply Qd) | exact HB.out))) : w.heap.size ≤ gb223)); have n3_ := n2_; clear HB; have HB := n0_; have BK223 := n1_; have GW223 := n2_; have GE223 := n3_; clear n0_ n1_ n2_ n3_ hb hbox hg) | ((with_reducible refine gate_dst (N := 3) rfl ?_); refine box_event ?hg (N := 3) ?hd (cs := #[.int .i64 a1_0, .int .i64 a1_1, .int .i64 a1_2, .int .i64 a1_3, .slice A1_4 l1_4.length c1_4, .int .i64 a1_5, .slice A1_6 l1_6.length c1_6]) (t := 26) ?hr ?_; (case hd => rfl); (case hg => rfl); (case hr => first | (go_simp; done) | (go_simp; rfl)); intro gb224 hg w45 hbox hb; have n0_ := Qx (Qb (g := gb223) (by (with_reducible repeat (first | refine Qm ?_ _ | refine Qw ?_ | refine Qk ?_ _)); exact BK223.out) hb); have n1_ := Qx (Qp (by repeat (first | (with_reducible first | exact HB.out | apply Qa | apply Qn | apply Qd | refine Qs ?_ GE223.out) | exact HB.out)) hb); have n2_ := Qx (hbox); have n3_ := Qx ((by rw [hg]; exact (Qz (by repeat (first | (with_reducible first | exact HB.out | apply Qa | apply Qn | apply Qd | refine Qs ?_ GE223.out) | exact HB.out))) : w.heap.size ≤ gb224)); have n4_ := n3_; have n5_ := Qx ((by rw [hg]; exact Nat.ne_of_lt (blk_lt (g := gb223) (o := .cells #[.int .i64 a0_0, .int .i64 a0_1, .int .i64 a0_2, .int .i64 a0_3, .slice A0_4 l0_4.length c0_4, .int .i64 a0_5, .slice A0_6 l0_6.length c0_6] 26 (0, 0)) (by (with_reducible repeat (first | refine Qm ?_ _ | refine Qw ?_ | refine Qk ?_ _)); exact BK223.out)) : gb223 ≠ gb224)); have n6_ := Qx ((by rw [hg]; exact Nat.ne_of_gt (blk_lt (g := gb223) (o := .cells #[.int .i64 a0_0, .int .i64 a0_1, .int .i64 a0_2, .int .i64 a0_3, .slice A0_4 l0_4.length c0_4, .int .i64 a0_5, .slice A0_6 l0_6.length c0_6] 26 (0, 0)) (by (with_reducible repeat (first | refine Qm ?_ _ | refine Qw ?_ | refine Qk ?_ _)); exact BK223.out)) : gb224 ≠ gb223)); clear BK223 HB; have BK223 := n0_; have HB := n1_; have BK224 := n2_; have GW224 := n3_; have GE224 := n4_; have NB223_224 := n5_; have NB224_223 := n6_; clear n0_ n1_ n2_ n3_ n4_ n5_ n6_ hb hbox hg; have hnb46 := NB223_224.out; have hnc46 := NB224_223.out; obtain ⟨hcz47_0, hcz47_1, hcz47_2, hcz47_3, hcz47_4, hcz47_5, hcz47_6, hfz47_0, hfz47_1, hfz47_2, hfz47_3, hfz47_4, hfz47_5, hfz47_6⟩ := cellsQ7_g3ffb (w := w45) BK223.out; obtain ⟨hcz48_0, hcz48_1, hcz48_2, hcz48_3, hcz48_4, hcz48_5, hcz48_6, hfz48_0, hfz48_1, hfz48_2, hfz48_3, hfz48_4, hfz48_5, hfz48_6⟩ := cellsQ7_g3ffb (w := w45) BK224.out))
   go_ret
   exact ⟨by first | rfl | (simp [errW_none, errW_some] <;> rfl) | (simp [*, errW_none, errW_some] <;> rfl), by repeat (first | (with_reducible first | exact HB.out | apply Qa | apply Qn | apply Qd | refine Qs ?_ GE223.out | refine Qs ?_ GE224.out) | exact HB.out)⟩
/-! ### laws_szIntS: function 94 -/
def laws_szIntS.f (l0 : List Int) (a1 : Int) : Option (Int) := if (wrap64 (a1 - (l0.length : Int))) < 0 then (some (-1)) else (some (wrap64 (a1 - (l0.length : Int))))
set_option maxHeartbeats 8000000 in
set_option maxRecDepth 100000 in
theorem laws_szIntS.calls (A0 : Option Addr) (c0 : Nat) (l0 : List Int) (a1 : Int) (r : Int) (w : World) (hr0 : Kd.C (Kd.int .i64) w A0 l0.length l0) (hc0 : l0.length ≤ c0) (h : laws_szIntS.f l0 a1 = some r) :
    Calls Try.prog 94 #[.slice A0 l0.length c0, .int .i64 a1] w fun e w' => e = .returned (.int .i64 r) ∧ Drawn0 w w' := by
  have HR0 := Qx hr0; have HC0 := Qx hc0; clear hr0 hc0
  have H : (if (wrap64 (a1 - (l0.length : Int))) < 0 then (some (-1)) else (some (wrap64 (a1 - (l0.length : Int))))) = some r := h
  clear h
  by_cases c3 : (wrap64 (a1 - (l0.length : Int))) < 0
  ·rw [if_pos c3] at H
   have c3b0 : decide ((wrap64 (a1 - (l0.length : Int))) < 0) = true := decide_eq_true c3
   clear c3; obtain rfl := Option.some.inj H
   go_enter Try.func94, Try.ntmps94
   go_wp2
   go_ret
   exact ⟨by first | rfl | (simp; done) | (simp [*]; done), by repeat (first | exact Drawn0.refl _ | apply Drawn0.step)⟩
  ·rw [if_neg c3] at H
   have c3b0 : decide ((wrap64 (a1 - (l0.length : Int))) < 0) = false := decide_eq_false c3
   clear c3; obtain rfl := Option.some.inj H
   go_enter Try.func94, Try.ntmps94
   go_wp2
   go_ret
   exact ⟨by first | rfl | (simp; done) | (simp [*]; done), by repeat (first | exact Drawn0.refl _ | apply Drawn0.step)⟩
/-! ### spec_l1All: function 117 -/
def spec_l1All.l0 : Nat → Int → Int → List Int → Int → Int → Option (Bool)
  | 0, _, _, _, _, _ => none
  | k + 1, x1, x2, x9, x10, x11 => if x11 < x10 then (if 0 ≤ x11 then (if x11 < (x9.length : Int) then ((spec_l1In.f (rd x9 x11) x1 x2).bind fun t320 => (if t320 = true then (spec_l1All.l0 k x1 x2 x9 x10 (wrap64 (x11 + 1))) else (some false))) else (none)) else (none)) else (some true)
def spec_l1All.f (k : Nat) (l0 : List Int) (a1 : Int) (a2 : Int) : Option (Bool) := spec_l1All.l0 k a1 a2 l0 (l0.length : Int) 0
theorem spec_l1All.mono_l : ∀ k, (∀ y0 y1 y2 y3 y4, LeO (spec_l1All.l0 k y0 y1 y2 y3 y4) (spec_l1All.l0 (k + 1) y0 y1 y2 y3 y4))
  | 0 => fun _ _ _ _ _ r h => by simp [spec_l1All.l0] at h
  | k + 1 => by
    have ih0 := spec_l1All.mono_l k
    · intro y0 y1 y2 y3 y4
      unfold spec_l1All.l0
      repeat' first
      | (with_reducible exact ih0 _ _ _ _ _)
      | (with_reducible exact LeO.refl _)
      | (with_reducible exact LeO.none _)
      | (with_reducible refine LeO.ite ?_ ?_)
      | (with_reducible refine LeO.bind ?_ (fun _ => ?_))
      | exact ih0 _ _ _ _ _
      | exact LeO.none _
      | refine LeO.ite ?_ ?_
      | refine LeO.bind ?_ (fun _ => ?_)
theorem spec_l1All.mono : ∀ a0 a1 a2 k, LeO (spec_l1All.f k a0 a1 a2) (spec_l1All.f (k + 1) a0 a1 a2) := by
  intro a0 a1 a2 k
  have ih0 := spec_l1All.mono_l k
  unfold spec_l1All.f
  repeat' first
      | (with_reducible exact ih0 _ _ _ _ _)
      | (with_reducible exact LeO.refl _)
      | (with_reducible exact LeO.none _)
      | (with_reducible refine LeO.ite ?_ ?_)
      | (with_reducible refine LeO.bind ?_ (fun _ => ?_))
      | exact ih0 _ _ _ _ _
      | exact LeO.none _
      | refine LeO.ite ?_ ?_
      | refine LeO.bind ?_ (fun _ => ?_)
noncomputable def spec_l1All.L0 (y0 : Int) (y1 : Int) (y2 : List Int) (y3 : Int) (y4 : Int) : Option (Bool) := lim fun k => spec_l1All.l0 k y0 y1 y2 y3 y4
theorem spec_l1All.L0_sup (y0 : Int) (y1 : Int) (y2 : List Int) (y3 : Int) (y4 : Int) : Sup (fun k => spec_l1All.l0 k y0 y1 y2 y3 y4) (spec_l1All.L0 y0 y1 y2 y3 y4) := Sup.of_mono fun k => spec_l1All.mono_l k y0 y1 y2 y3 y4
noncomputable def spec_l1All.F (l0 : List Int) (a1 : Int) (a2 : Int) : Option (Bool) := lim fun k => spec_l1All.f k l0 a1 a2
theorem spec_l1All.F_sup (l0 : List Int) (a1 : Int) (a2 : Int) : Sup (fun k => spec_l1All.f k l0 a1 a2) (spec_l1All.F l0 a1 a2) := Sup.of_mono fun k => spec_l1All.mono l0 a1 a2 k
theorem spec_l1All.L0_eq (x1 : Int) (x2 : Int) (x9 : List Int) (x10 : Int) (x11 : Int) : spec_l1All.L0 x1 x2 x9 x10 x11 = if x11 < x10 then (if 0 ≤ x11 then (if x11 < (x9.length : Int) then ((spec_l1In.f (rd x9 x11) x1 x2).bind fun t320 => (if t320 = true then (spec_l1All.L0 x1 x2 x9 x10 (wrap64 (x11 + 1))) else (some false))) else (none)) else (none)) else (some true) := by
  refine Sup.unique (spec_l1All.L0_sup x1 x2 x9 x10 x11) (Sup.shift (fun k => spec_l1All.mono_l k x1 x2 x9 x10 x11) (Sup.congr (g' := fun k => if x11 < x10 then (if 0 ≤ x11 then (if x11 < (x9.length : Int) then ((spec_l1In.f (rd x9 x11) x1 x2).bind fun t320 => (if t320 = true then (spec_l1All.l0 k x1 x2 x9 x10 (wrap64 (x11 + 1))) else (some false))) else (none)) else (none)) else (some true)) (fun k => by first | rfl | simp only [spec_l1All.l0]) ?_))
  repeat' first
    | (with_reducible exact spec_l1All.L0_sup _ _ _ _ _)
    | (with_reducible refine Sup.ite ?_ ?_)
    | (with_reducible refine Sup.bind ?_ (fun _ => ?_))
    | (with_reducible exact Sup.const _)
    | exact spec_l1All.L0_sup _ _ _ _ _
    | exact Sup.const _
theorem spec_l1All.F_eq (l0 : List Int) (a1 : Int) (a2 : Int) : spec_l1All.F l0 a1 a2 = spec_l1All.L0 a1 a2 l0 (l0.length : Int) 0 := by
  refine Sup.unique (spec_l1All.F_sup l0 a1 a2) (Sup.congr (g' := fun k => spec_l1All.l0 k a1 a2 l0 (l0.length : Int) 0) (fun k => by first | rfl | simp only [spec_l1All.f]) ?_)
  repeat' first
    | (with_reducible exact spec_l1All.L0_sup _ _ _ _ _)
    | (with_reducible refine Sup.ite ?_ ?_)
    | (with_reducible refine Sup.bind ?_ (fun _ => ?_))
    | (with_reducible exact Sup.const _)
    | exact spec_l1All.L0_sup _ _ _ _ _
    | exact Sup.const _
set_option maxHeartbeats 8000000 in
set_option maxRecDepth 100000 in
theorem spec_l1All.calls (k : Nat) (A0 : Option Addr) (c0 : Nat) (l0 : List Int) (a1 : Int) (a2 : Int) (r : Bool) (w : World) (hr0 : Kd.C (Kd.int .i64) w A0 l0.length l0) (hc0 : l0.length ≤ c0) (h : spec_l1All.f k l0 a1 a2 = some r) :
    Calls Try.prog 117 #[.slice A0 l0.length c0, .int .i64 a1, .int .i64 a2] w fun e w' => e = .returned (.bool r) ∧ Drawn0 w w' := by
  have HR0 := Qx hr0; have HC0 := Qx hc0; clear hr0 hc0
  have H : (spec_l1All.l0 k a1 a2 l0 (l0.length : Int) 0) = some r := h
  clear h; have H' := Qx H; clear H
  go_enter Try.func117, Try.ntmps117
  go_wp2
  go_loopg [11] k (fun kq v11 w' => ∃ (x11_1 : Int), v11 = .int .i64 x11_1 ∧ Aside0 (spec_l1All.l0 kq a1 a2 l0 (l0.length : Int) x11_1 = some r) ∧ Aside0 (kq ≤ k) ∧ Drawn0 w w')
  case atStart => exact ⟨(0), (by first | rfl | (simp; done) | (simp [*]; done)), H', ⟨Nat.le_refl _⟩, by repeat (first | exact Drawn0.refl _ | apply Drawn0.step)⟩
  case round =>
   clear H'
   try clear c1
   try clear p2
   obtain ⟨x11_1, rfl, HA, HK1, ⟨m1, rfl⟩⟩ := hrel
   cases gk with
   | zero => exact absurd HA.out (by simp [spec_l1All.l0])
   | succ k1 =>
    have H := HA.out; clear HA; simp only [spec_l1All.l0] at H
    by_cases c4 : x11_1 < (l0.length : Int)
    ·rw [if_pos c4] at H
     have c4b0 : decide (x11_1 < (l0.length : Int)) = true := decide_eq_true c4
     clear c4
     by_cases c5 : 0 ≤ x11_1
     ·rw [if_pos c5] at H
      have c5b0 : decide (0 ≤ x11_1) = true := decide_eq_true c5
      clear c5
      by_cases c6 : x11_1 < (l0.length : Int)
      ·rw [if_pos c6] at H
       have c6b0 : decide (x11_1 < (l0.length : Int)) = true := decide_eq_true c6
       clear c6; replace H := Option.bind_eq_some_iff.mp H; obtain ⟨t320, A70, H⟩ := H
       have A7 := Qx A70; clear A70
       by_cases c8 : t320 = true
       ·subst c8
        have H1 : (spec_l1All.l0 k1 a1 a2 l0 (l0.length : Int) (wrap64 (x11_1 + 1))) = some r := by rw [if_pos rfl] at H; exact H
        clear H; have H := H1; clear H1; have H' := Qx H; clear H
        have p319 : 0 ≤ (x11_1 : Int) := of_decide_eq_true (by first | (with_reducible assumption) | assumption)
        have q319 : x11_1 < (l0.length : Int) := of_decide_eq_true (by first | (with_reducible assumption) | assumption)
        obtain ⟨ad319, e319, hx319_0⟩ := Kd.at_int HR0.out x11_1 p319 q319
        cases e319
        replace p319 := eq_true p319; replace q319 := eq_true q319
        go_wp2_with (first | ((with_reducible refine gate_callee (f := 64) rfl ?_); refine goesL_ (some 18) rfl rfl Try.func64 (by kernel_rfl) rfl #[.int .i64 (rd l0 x11_1), .int .i64 a1, .int .i64 a2] rfl (by (try simp only [List.map_toArray, List.map_cons, List.map_nil]); first | done | rfl | (simp only [List.length_drop, List.length_take]; rfl)) ?_; (with_reducible refine (spec_l1In.calls (rd l0 x11_1) a1 a2 true _ A7.out).mono ?_); rintro e w' ⟨rfl, ⟨nd, rfl⟩⟩; refine ⟨_, rfl, ?_⟩))
        go_roundg k1
        case measure => have := HK1.out; omega
        case rel => exact ⟨(wrap64 (x11_1 + 1)), (by first | rfl | (simp; done) | (simp [*]; done)), H', ⟨by have := HK1.out; omega⟩, by repeat (first | exact Drawn0.refl _ | apply Drawn0.step)⟩
       ·replace c8 := Bool.eq_false_iff.mpr c8; subst c8
        have H1 : (some false) = some r := by rw [if_neg (show ¬ (false = true) by decide)] at H; exact H
        clear H; have H := H1; clear H1; obtain rfl := Option.some.inj H
        have p319 : 0 ≤ (x11_1 : Int) := of_decide_eq_true (by first | (with_reducible assumption) | assumption)
        have q319 : x11_1 < (l0.length : Int) := of_decide_eq_true (by first | (with_reducible assumption) | assumption)
        obtain ⟨ad319, e319, hx319_0⟩ := Kd.at_int HR0.out x11_1 p319 q319
        cases e319
        replace p319 := eq_true p319; replace q319 := eq_true q319
        go_wp2_with (first | ((with_reducible refine gate_callee (f := 64) rfl ?_); refine goesL_ (some 18) rfl rfl Try.func64 (by kernel_rfl) rfl #[.int .i64 (rd l0 x11_1), .int .i64 a1, .int .i64 a2] rfl (by (try simp only [List.map_toArray, List.map_cons, List.map_nil]); first | done | rfl | (simp only [List.length_drop, List.length_take]; rfl)) ?_; (with_reducible refine (spec_l1In.calls (rd l0 x11_1) a1 a2 false _ A7.out).mono ?_); rintro e w' ⟨rfl, ⟨nd, rfl⟩⟩; refine ⟨_, rfl, ?_⟩))
        go_ret
        exact ⟨by first | rfl | (simp; done) | (simp [*]; done), by repeat (first | exact Drawn0.refl _ | apply Drawn0.step)⟩
      ·rw [if_neg c6] at H
       exact absurd H (by simp)
     ·rw [if_neg c5] at H
      exact absurd H (by simp)
    ·rw [if_neg c4] at H
     have c4b0 : decide (x11_1 < (l0.length : Int)) = false := decide_eq_false c4
     clear c4; obtain rfl := Option.some.inj H
     go_wp2
     go_ret
     exact ⟨by first | rfl | (simp; done) | (simp [*]; done), by repeat (first | exact Drawn0.refl _ | apply Drawn0.step)⟩
end Go.Proofs.Ytdlbdocpofnfjaa.X
