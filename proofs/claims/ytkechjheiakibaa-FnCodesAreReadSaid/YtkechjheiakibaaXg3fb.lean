/- Written by a program of this session: what functions of the given program compute, and that their calls do so. -/
import Derived.Test.YtkechjheiakibaaXx0
import Derived.Test.YtkechjheiakibaaXg3fa
import Derived.Test.YtkechjheiakibaaXs
namespace Go.Proofs.Ytkechjheiakibaa.X
open Go.RowKit Go.Proofs.YtkechjheiakibaaW.PrintWords Go.Proofs.YtkechjheiakibaaW.PrintLast Go.Proofs.YtkechjheiakibaaW.PrintMore
attribute [local go_sem] max2_int min2_int max_two min_two max_three min_three max_four min_four   -- for this text's walks alone
set_option linter.unusedVariables false
set_option linter.unusedSimpArgs false
/-! ### impl_EncodeDelta: function 19 -/
def impl_EncodeDelta.f (k : Nat) (l0 : List Int) : Option (Int × List Int × Bool) := (impl_encode_at_impl_coder_delta.f k l0).bind fun bt262 => (some (bt262.1, bt262.2.1, bt262.2.2))
theorem impl_EncodeDelta.mono : ∀ a0 k, LeO (impl_EncodeDelta.f k a0) (impl_EncodeDelta.f (k + 1) a0) := by
  intro a0 k
  unfold impl_EncodeDelta.f
  repeat' first
      | (with_reducible exact impl_encode_at_impl_coder_delta.mono _ _)
      | (with_reducible exact LeO.refl _)
      | (with_reducible exact LeO.none _)
      | (with_reducible refine LeO.ite ?_ ?_)
      | (with_reducible refine LeO.bind ?_ (fun _ => ?_))
      | exact impl_encode_at_impl_coder_delta.mono _ _
      | exact LeO.none _
      | refine LeO.ite ?_ ?_
      | refine LeO.bind ?_ (fun _ => ?_)
noncomputable def impl_EncodeDelta.F (l0 : List Int) : Option (Int × List Int × Bool) := lim fun k => impl_EncodeDelta.f k l0
theorem impl_EncodeDelta.F_sup (l0 : List Int) : Sup (fun k => impl_EncodeDelta.f k l0) (impl_EncodeDelta.F l0) := Sup.of_mono fun k => impl_EncodeDelta.mono l0 k
theorem impl_EncodeDelta.F_eq (l0 : List Int) : impl_EncodeDelta.F l0 = (impl_encode_at_impl_coder_delta.F l0).bind fun bt262 => (some (bt262.1, bt262.2.1, bt262.2.2)) := by
  refine Sup.unique (impl_EncodeDelta.F_sup l0) (Sup.congr (g' := fun k => (impl_encode_at_impl_coder_delta.f k l0).bind fun bt262 => (some (bt262.1, bt262.2.1, bt262.2.2))) (fun k => by first | rfl | simp only [impl_EncodeDelta.f]) ?_)
  repeat' first
    | (with_reducible exact impl_encode_at_impl_coder_delta.F_sup _)
    | (with_reducible refine Sup.ite ?_ ?_)
    | (with_reducible refine Sup.bind ?_ (fun _ => ?_))
    | (with_reducible exact Sup.const _)
    | exact impl_encode_at_impl_coder_delta.F_sup _
    | exact Sup.const _
set_option maxHeartbeats 8000000 in
set_option maxRecDepth 100000 in
theorem impl_EncodeDelta.calls (k : Nat) (A0 : Option Addr) (c0 : Nat) (l0 : List Int) (r1 : Int) (r2 : List Int) (r3 : Bool) (w : World) (hr0 : Kd.C (Kd.int .i64) w A0 l0.length l0) (hc0 : l0.length ≤ c0) (h : impl_EncodeDelta.f k l0 = some (r1, r2, r3)) :
    Calls Try.prog 19 #[.slice A0 l0.length c0] w fun e w' => ∃ v1_ : Value, e = .returned (.tuple #[.agg #[.int .i64 r1, v1_], .bool r3]) ∧ Kd.R (Kd.int .i64) 3 w' w.heap.size (fun _ => True) v1_ r2 ∧ Below w.heap.size w w' := by
  have hu24 := Try.underlying24
  have HR0 := Aside0.mk hr0
  have HC0 := Aside0.mk hc0
  clear hr0 hc0
  have HB := Aside0.mk (Below.refl w.heap.size w)
  have H : ((impl_encode_at_impl_coder_delta.f k l0).bind fun bt262 => (some (bt262.1, bt262.2.1, bt262.2.2))) = some (r1, r2, r3) := h
  clear h
  replace H := Option.bind_eq_some_iff.mp H
  obtain ⟨⟨t262, t263, t266⟩, A20, H⟩ := H
  replace H : (some (t262, t263, t266)) = some (r1, r2, r3) := H
  have A2 := Aside0.mk A20
  clear A20
  simp only [Option.some.injEq, Prod.mk.injEq] at H
  obtain ⟨rfl, rfl, rfl⟩ := H
  go_enter Try.func19, Try.ntmps19
  go_wp2_with (first | ((with_reducible refine gate_dst (N := 2) rfl ?_); refine bx_ 2 #[.int .i64 0, .slice none 0 0] 24 ?_; intro gb261 hg w3 hbox hb; have BK261 := Aside0.mk (hbox); have GW261 := Aside0.mk ((ge_ hg)); have GE261 := Aside0.mk ((ge_ hg)); replace HB := Aside0.mk (below_step hB_ hb); clear hb hbox hg) | ((with_reducible refine gate_callee (f := 46) rfl ?_); refine gl_ 5 Try.func46 #[.slice A0 l0.length c0, .func (.func 48) #[] #[]] ?_; (with_reducible refine (impl_encode_at_impl_coder_delta.calls k _ _ l0 t262 t263 t266 _ ?side1 ?side2 A2.out).mono ?_); (case side1 => exact kC_ HR0); (case side2 => exact HC0.out); rintro e w4 ⟨v264, rfl, ho0, hb⟩; refine ⟨_, rfl, ?_⟩; have HO265 := Aside0.mk (Kd.R_lower ho0 (below_size hB_)); replace BK261 := Aside0.mk (blk_below (kB_ BK261) hb); replace HB := Aside0.mk (below_step hB_ hb); (try clear hb); (try clear hb2); (try clear hk); (try clear hi); (try clear ho0); have hcz5_0 : w4.cell? ⟨gb261, 0, none⟩ = some (.int .i64 0) := (blk_cell BK261.out 0).trans rfl; have hcz5_1 : w4.cell? ⟨gb261, 1, none⟩ = some (.slice none 0 0) := (blk_cell BK261.out 1).trans rfl; have hfz5_0 := blk_frozen BK261.out 0; have hfz5_1 := blk_frozen BK261.out 1; obtain ⟨Ao6, co6, eo6⟩ := Kd.R_slice HO265.out; subst eo6))
  refine bodyPost_ret (results_ct rfl _ _ gb261 24 #[.int .i64 t262, .slice Ao6 t263.length co6] (0, 0) _ rfl (by (with_reducible repeat (first | refine blk_drewN ?_ _ | refine blk_drew ?_ | refine blk_alloc ?_ _)); refine blk_put (cs := #[.int .i64 t262, .slice none 0 0]) ?_ 1 _ rfl; (with_reducible repeat (first | refine blk_drewN ?_ _ | refine blk_drew ?_ | refine blk_alloc ?_ _)); refine blk_put (cs := #[.int .i64 0, .slice none 0 0]) ?_ 0 _ rfl; (with_reducible repeat (first | refine blk_drewN ?_ _ | refine blk_drew ?_ | refine blk_alloc ?_ _)); exact BK261.out) Try.underlying24 rfl (by kernel_rfl)) rfl ?_
  exact ⟨_, rf_, by (with_reducible repeat (first | apply Kd.R_alloc | apply Kd.R_drewN | apply Kd.R_drew)); exact Kd.R_mono (Kd.R_far (p := ⟨gb261, 1, none⟩) (Kd.R_far (p := ⟨gb261, 0, none⟩) (Kd.R_types HO265.out BK261.out (by decide)) (fun _ hk => hk.2) (.int .i64 t262)) (fun _ hk => hk.2) (.slice Ao6 t263.length co6)) (fun _ hk => trivial), hB_⟩
end Go.Proofs.Ytkechjheiakibaa.X
