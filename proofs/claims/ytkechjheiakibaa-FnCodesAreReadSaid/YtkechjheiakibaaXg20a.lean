/- Written by a program of this session: what functions of the given program compute, and that their calls do so. -/
import Derived.Test.YtkechjheiakibaaXx0
import Derived.Test.YtkechjheiakibaaXg3fa
import Derived.Test.YtkechjheiakibaaXg70a
import Derived.Test.YtkechjheiakibaaXg7ca
import Derived.Test.YtkechjheiakibaaXg7fa
import Derived.Test.YtkechjheiakibaaXs
namespace Go.Proofs.Ytkechjheiakibaa.X
open Go.RowKit Go.Proofs.YtkechjheiakibaaW.PrintWords Go.Proofs.YtkechjheiakibaaW.PrintLast Go.Proofs.YtkechjheiakibaaW.PrintMore
attribute [local go_sem] max2_int min2_int max_two min_two max_three min_three max_four min_four   -- for this text's walks alone
set_option linter.unusedVariables false
set_option linter.unusedSimpArgs false
/-! ### spec_l1Cur_coded: function 60 -/
mutual
def spec_l1Cur_coded.l0 : Nat → List Int → Int → List Int → Int → Int → Option (List Int × Int × Int)
  | 0, _, _, _, _, _ => none
  | k + 1, x3, x4, x1000, x1001, x1002 => if x4 > 0 then ((spec_l1Cur_pick.f x1000 x1001 x1002 20).bind fun bt619 => ((spec_l1Cur_one.f x1000 bt619.2.1 bt619.2.2 5).bind fun bt622 => (if bt622.1 = true then ((spec_l1Cur_among.f x1000 bt622.2.1 bt622.2.2 (([1, 2, 255, 256, 65535, 65536, 99999, 100000] : List Int))).bind fun bt628 => (if x3.length < 17592186044416 then (spec_l1Cur_coded.l0 k (x3 ++ [bt628.1]) (wrap64 (x4 - 1)) x1000 bt628.2.1 bt628.2.2) else (none))) else (if x3.length < 17592186044416 then (spec_l1Cur_coded.l0 k (x3 ++ [wrap64 (1 + bt619.1)]) (wrap64 (x4 - 1)) x1000 bt622.2.1 bt622.2.2) else (none))))) else ((spec_l1Cur_pick.f x1000 x1001 x1002 16).bind fun bt637 => (if bt637.1 = 0 then ((spec_l1Cur_among.f x1000 bt637.2.1 bt637.2.2 (([0, (-1), 100001] : List Int))).bind fun bt643 => (if x3.length < 17592186044416 then (some ((x3 ++ [bt643.1]), bt643.2.1, bt643.2.2)) else (none))) else (if bt637.1 = 1 then (spec_l1Cur_coded.l1 k x3 x1000 bt637.2.1 bt637.2.2) else (some (x3, bt637.2.1, bt637.2.2)))))
def spec_l1Cur_coded.l1 : Nat → List Int → List Int → Int → Int → Option (List Int × Int × Int)
  | 0, _, _, _, _ => none
  | k + 1, x3, x1000, x1001, x1002 => (spec_l1Cur_pick.f x1000 x1001 x1002 2).bind fun bt649 => (if (x3.length : Int) < (wrap64 (60 + bt649.1)) then (if x3.length < 17592186044416 then (spec_l1Cur_coded.l1 k (x3 ++ [100000]) x1000 bt649.2.1 bt649.2.2) else (none)) else (some (x3, bt649.2.1, bt649.2.2)))
end
def spec_l1Cur_coded.f (k : Nat) (s0_0 : List Int) (s0_1 : Int) (s0_2 : Int) : Option (List Int × Int × Int) := (spec_l1Cur_pick.f s0_0 s0_1 s0_2 6).bind fun bt616 => (spec_l1Cur_coded.l0 k ([] : List Int) bt616.1 s0_0 bt616.2.1 bt616.2.2)
theorem spec_l1Cur_coded.mono_l : ∀ k, (∀ y0 y1 y2 y3 y4, LeO (spec_l1Cur_coded.l0 k y0 y1 y2 y3 y4) (spec_l1Cur_coded.l0 (k + 1) y0 y1 y2 y3 y4)) ∧ (∀ y0 y1 y2 y3, LeO (spec_l1Cur_coded.l1 k y0 y1 y2 y3) (spec_l1Cur_coded.l1 (k + 1) y0 y1 y2 y3))
  | 0 => ⟨fun _ _ _ _ _ r h => by simp [spec_l1Cur_coded.l0] at h, fun _ _ _ _ r h => by simp [spec_l1Cur_coded.l1] at h⟩
  | k + 1 => by
    obtain ⟨ih0, ih1⟩ := spec_l1Cur_coded.mono_l k
    refine ⟨?_, ?_⟩
    · intro y0 y1 y2 y3 y4
      unfold spec_l1Cur_coded.l0
      repeat' first
      | (with_reducible exact ih0 _ _ _ _ _)
      | (with_reducible exact ih1 _ _ _ _)
      | (with_reducible exact LeO.refl _)
      | (with_reducible exact LeO.none _)
      | (with_reducible refine LeO.ite ?_ ?_)
      | (with_reducible refine LeO.bind ?_ (fun _ => ?_))
      | exact ih0 _ _ _ _ _
      | exact ih1 _ _ _ _
      | exact LeO.none _
      | refine LeO.ite ?_ ?_
      | refine LeO.bind ?_ (fun _ => ?_)
    · intro y0 y1 y2 y3
      unfold spec_l1Cur_coded.l1
      repeat' first
      | (with_reducible exact ih0 _ _ _ _ _)
      | (with_reducible exact ih1 _ _ _ _)
      | (with_reducible exact LeO.refl _)
      | (with_reducible exact LeO.none _)
      | (with_reducible refine LeO.ite ?_ ?_)
      | (with_reducible refine LeO.bind ?_ (fun _ => ?_))
      | exact ih0 _ _ _ _ _
      | exact ih1 _ _ _ _
      | exact LeO.none _
      | refine LeO.ite ?_ ?_
      | refine LeO.bind ?_ (fun _ => ?_)
theorem spec_l1Cur_coded.mono : ∀ a0 a1 a2 k, LeO (spec_l1Cur_coded.f k a0 a1 a2) (spec_l1Cur_coded.f (k + 1) a0 a1 a2) := by
  intro a0 a1 a2 k
  obtain ⟨ih0, ih1⟩ := spec_l1Cur_coded.mono_l k
  unfold spec_l1Cur_coded.f
  repeat' first
      | (with_reducible exact ih0 _ _ _ _ _)
      | (with_reducible exact ih1 _ _ _ _)
      | (with_reducible exact LeO.refl _)
      | (with_reducible exact LeO.none _)
      | (with_reducible refine LeO.ite ?_ ?_)
      | (with_reducible refine LeO.bind ?_ (fun _ => ?_))
      | exact ih0 _ _ _ _ _
      | exact ih1 _ _ _ _
      | exact LeO.none _
      | refine LeO.ite ?_ ?_
      | refine LeO.bind ?_ (fun _ => ?_)
noncomputable def spec_l1Cur_coded.L0 (y0 : List Int) (y1 : Int) (y2 : List Int) (y3 : Int) (y4 : Int) : Option (List Int × Int × Int) := lim fun k => spec_l1Cur_coded.l0 k y0 y1 y2 y3 y4
theorem spec_l1Cur_coded.L0_sup (y0 : List Int) (y1 : Int) (y2 : List Int) (y3 : Int) (y4 : Int) : Sup (fun k => spec_l1Cur_coded.l0 k y0 y1 y2 y3 y4) (spec_l1Cur_coded.L0 y0 y1 y2 y3 y4) := Sup.of_mono fun k => (spec_l1Cur_coded.mono_l k).1 y0 y1 y2 y3 y4
noncomputable def spec_l1Cur_coded.L1 (y0 : List Int) (y1 : List Int) (y2 : Int) (y3 : Int) : Option (List Int × Int × Int) := lim fun k => spec_l1Cur_coded.l1 k y0 y1 y2 y3
theorem spec_l1Cur_coded.L1_sup (y0 : List Int) (y1 : List Int) (y2 : Int) (y3 : Int) : Sup (fun k => spec_l1Cur_coded.l1 k y0 y1 y2 y3) (spec_l1Cur_coded.L1 y0 y1 y2 y3) := Sup.of_mono fun k => (spec_l1Cur_coded.mono_l k).2 y0 y1 y2 y3
noncomputable def spec_l1Cur_coded.F (s0_0 : List Int) (s0_1 : Int) (s0_2 : Int) : Option (List Int × Int × Int) := lim fun k => spec_l1Cur_coded.f k s0_0 s0_1 s0_2
theorem spec_l1Cur_coded.F_sup (s0_0 : List Int) (s0_1 : Int) (s0_2 : Int) : Sup (fun k => spec_l1Cur_coded.f k s0_0 s0_1 s0_2) (spec_l1Cur_coded.F s0_0 s0_1 s0_2) := Sup.of_mono fun k => spec_l1Cur_coded.mono s0_0 s0_1 s0_2 k
theorem spec_l1Cur_coded.L0_eq (x3 : List Int) (x4 : Int) (x1000 : List Int) (x1001 : Int) (x1002 : Int) : spec_l1Cur_coded.L0 x3 x4 x1000 x1001 x1002 = if x4 > 0 then ((spec_l1Cur_pick.f x1000 x1001 x1002 20).bind fun bt619 => ((spec_l1Cur_one.f x1000 bt619.2.1 bt619.2.2 5).bind fun bt622 => (if bt622.1 = true then ((spec_l1Cur_among.f x1000 bt622.2.1 bt622.2.2 (([1, 2, 255, 256, 65535, 65536, 99999, 100000] : List Int))).bind fun bt628 => (if x3.length < 17592186044416 then (spec_l1Cur_coded.L0 (x3 ++ [bt628.1]) (wrap64 (x4 - 1)) x1000 bt628.2.1 bt628.2.2) else (none))) else (if x3.length < 17592186044416 then (spec_l1Cur_coded.L0 (x3 ++ [wrap64 (1 + bt619.1)]) (wrap64 (x4 - 1)) x1000 bt622.2.1 bt622.2.2) else (none))))) else ((spec_l1Cur_pick.f x1000 x1001 x1002 16).bind fun bt637 => (if bt637.1 = 0 then ((spec_l1Cur_among.f x1000 bt637.2.1 bt637.2.2 (([0, (-1), 100001] : List Int))).bind fun bt643 => (if x3.length < 17592186044416 then (some ((x3 ++ [bt643.1]), bt643.2.1, bt643.2.2)) else (none))) else (if bt637.1 = 1 then (spec_l1Cur_coded.L1 x3 x1000 bt637.2.1 bt637.2.2) else (some (x3, bt637.2.1, bt637.2.2))))) := by
  refine Sup.unique (spec_l1Cur_coded.L0_sup x3 x4 x1000 x1001 x1002) (Sup.shift (fun k => (spec_l1Cur_coded.mono_l k).1 x3 x4 x1000 x1001 x1002) (Sup.congr (g' := fun k => if x4 > 0 then ((spec_l1Cur_pick.f x1000 x1001 x1002 20).bind fun bt619 => ((spec_l1Cur_one.f x1000 bt619.2.1 bt619.2.2 5).bind fun bt622 => (if bt622.1 = true then ((spec_l1Cur_among.f x1000 bt622.2.1 bt622.2.2 (([1, 2, 255, 256, 65535, 65536, 99999, 100000] : List Int))).bind fun bt628 => (if x3.length < 17592186044416 then (spec_l1Cur_coded.l0 k (x3 ++ [bt628.1]) (wrap64 (x4 - 1)) x1000 bt628.2.1 bt628.2.2) else (none))) else (if x3.length < 17592186044416 then (spec_l1Cur_coded.l0 k (x3 ++ [wrap64 (1 + bt619.1)]) (wrap64 (x4 - 1)) x1000 bt622.2.1 bt622.2.2) else (none))))) else ((spec_l1Cur_pick.f x1000 x1001 x1002 16).bind fun bt637 => (if bt637.1 = 0 then ((spec_l1Cur_among.f x1000 bt637.2.1 bt637.2.2 (([0, (-1), 100001] : List Int))).bind fun bt643 => (if x3.length < 17592186044416 then (some ((x3 ++ [bt643.1]), bt643.2.1, bt643.2.2)) else (none))) else (if bt637.1 = 1 then (spec_l1Cur_coded.l1 k x3 x1000 bt637.2.1 bt637.2.2) else (some (x3, bt637.2.1, bt637.2.2)))))) (fun k => by first | rfl | simp only [spec_l1Cur_coded.l0]) ?_))
  repeat' first
    | (with_reducible exact spec_l1Cur_coded.L0_sup _ _ _ _ _)
    | (with_reducible exact spec_l1Cur_coded.L1_sup _ _ _ _)
    | (with_reducible refine Sup.ite ?_ ?_)
    | (with_reducible refine Sup.bind ?_ (fun _ => ?_))
    | (with_reducible exact Sup.const _)
    | exact spec_l1Cur_coded.L0_sup _ _ _ _ _
    | exact spec_l1Cur_coded.L1_sup _ _ _ _
    | exact Sup.const _
theorem spec_l1Cur_coded.L1_eq (x3 : List Int) (x1000 : List Int) (x1001 : Int) (x1002 : Int) : spec_l1Cur_coded.L1 x3 x1000 x1001 x1002 = (spec_l1Cur_pick.f x1000 x1001 x1002 2).bind fun bt649 => (if (x3.length : Int) < (wrap64 (60 + bt649.1)) then (if x3.length < 17592186044416 then (spec_l1Cur_coded.L1 (x3 ++ [100000]) x1000 bt649.2.1 bt649.2.2) else (none)) else (some (x3, bt649.2.1, bt649.2.2))) := by
  refine Sup.unique (spec_l1Cur_coded.L1_sup x3 x1000 x1001 x1002) (Sup.shift (fun k => (spec_l1Cur_coded.mono_l k).2 x3 x1000 x1001 x1002) (Sup.congr (g' := fun k => (spec_l1Cur_pick.f x1000 x1001 x1002 2).bind fun bt649 => (if (x3.length : Int) < (wrap64 (60 + bt649.1)) then (if x3.length < 17592186044416 then (spec_l1Cur_coded.l1 k (x3 ++ [100000]) x1000 bt649.2.1 bt649.2.2) else (none)) else (some (x3, bt649.2.1, bt649.2.2)))) (fun k => by first | rfl | simp only [spec_l1Cur_coded.l1]) ?_))
  repeat' first
    | (with_reducible exact spec_l1Cur_coded.L0_sup _ _ _ _ _)
    | (with_reducible exact spec_l1Cur_coded.L1_sup _ _ _ _)
    | (with_reducible refine Sup.ite ?_ ?_)
    | (with_reducible refine Sup.bind ?_ (fun _ => ?_))
    | (with_reducible exact Sup.const _)
    | exact spec_l1Cur_coded.L0_sup _ _ _ _ _
    | exact spec_l1Cur_coded.L1_sup _ _ _ _
    | exact Sup.const _
theorem spec_l1Cur_coded.F_eq (s0_0 : List Int) (s0_1 : Int) (s0_2 : Int) : spec_l1Cur_coded.F s0_0 s0_1 s0_2 = (spec_l1Cur_pick.f s0_0 s0_1 s0_2 6).bind fun bt616 => (spec_l1Cur_coded.L0 ([] : List Int) bt616.1 s0_0 bt616.2.1 bt616.2.2) := by
  refine Sup.unique (spec_l1Cur_coded.F_sup s0_0 s0_1 s0_2) (Sup.congr (g' := fun k => (spec_l1Cur_pick.f s0_0 s0_1 s0_2 6).bind fun bt616 => (spec_l1Cur_coded.l0 k ([] : List Int) bt616.1 s0_0 bt616.2.1 bt616.2.2)) (fun k => by first | rfl | simp only [spec_l1Cur_coded.f]) ?_)
  repeat' first
    | (with_reducible exact spec_l1Cur_coded.L0_sup _ _ _ _ _)
    | (with_reducible exact spec_l1Cur_coded.L1_sup _ _ _ _)
    | (with_reducible refine Sup.ite ?_ ?_)
    | (with_reducible refine Sup.bind ?_ (fun _ => ?_))
    | (with_reducible exact Sup.const _)
    | exact spec_l1Cur_coded.L0_sup _ _ _ _ _
    | exact spec_l1Cur_coded.L1_sup _ _ _ _
    | exact Sup.const _
set_option maxHeartbeats 8000000 in
set_option maxRecDepth 100000 in
theorem spec_l1Cur_coded.calls (k : Nat) (g : Nat) (s0_0 : List Int) (s0_1 : Int) (s0_2 : Int) (r1 : List Int) (r2 : Int) (r3 : Int) (w0 w : World) (hI : IsS68 w0 w g s0_0 s0_1 s0_2) (hB : Below w0.heap.size w0 w) (h : spec_l1Cur_coded.f k s0_0 s0_1 s0_2 = some (r1, r2, r3)) :
    Calls Try.prog 60 #[.pointer (some ⟨g, 0, none⟩)] w fun e w' => ∃ v0_ : Value, e = .returned (v0_) ∧ Kd.R (Kd.int .i64) 3 w' w.heap.size (fun _ => True) v0_ r1 ∧ IsS68 w0 w' g s0_0 r2 r3 ∧ Below w0.heap.size w0 w' ∧ KeepBut w w' g none := by
  have HI0 := Aside0.mk hI
  have HK := Aside0.mk (KeepBut.refl w g none)
  have HL := Aside0.mk hB.size
  clear hI
  have HW0 := Aside0.mk hB.size
  have HB := Aside0.mk hB
  clear hB
  have H : ((spec_l1Cur_pick.f s0_0 s0_1 s0_2 6).bind fun bt616 => (spec_l1Cur_coded.l0 k ([] : List Int) bt616.1 s0_0 bt616.2.1 bt616.2.2)) = some (r1, r2, r3) := h
  clear h
  replace H := Option.bind_eq_some_iff.mp H
  obtain ⟨⟨t616, t617, t618⟩, A20, H⟩ := H
  replace H : (spec_l1Cur_coded.l0 k ([] : List Int) t616 s0_0 t617 t618) = some (r1, r2, r3) := H
  have A2 := Aside0.mk A20
  clear A20
  have H' := Aside0.mk H
  clear H
  go_enter Try.func60, Try.ntmps60
  go_wp2_with (first | ((with_reducible refine gate_callee (f := 66) rfl ?_); refine gl_ 7 Try.func66 #[.pointer (some ⟨g, 0, none⟩), .int .i64 6] ?_; (with_reducible refine (spec_l1Cur_pick.calls g s0_0 s0_1 s0_2 6 t616 t617 t618 w0 _ ?side1 ?side2 A2.out).mono ?_); (case side1 => repeat (first | (with_reducible first | exact HI0.out | apply IsS68.alloc | apply IsS68.drewN | apply IsS68.drew | apply IsS68.set_1 | apply IsS68.set_2) | exact HI0.out)); (case side2 => repeat (first | (with_reducible first | exact HB.out | apply below_alloc | apply pw_below_drewN | apply below_drew1 | refine below_set ?_ (IsS68.ge HI0.out)) | exact HB.out)); rintro e w3 ⟨rfl, hi, hb, hk⟩; refine ⟨_, rfl, ?_⟩; replace HK := Aside0.mk (KeepBut.trans (by repeat (first | (with_reducible first | exact HK.out | apply KeepBut.set_ | apply keep_drewN | apply keep_drew | apply keep_alloc) | exact HK.out)) hk (.inl rfl)); replace HB := Aside0.mk (hb); replace HI0 := Aside0.mk (hi); (try clear hb); (try clear hb2); (try clear hk); (try clear hi)))
  go_loopg [3, 4] k (fun kq v3 v4 w' => ∃ (x3_1 : List Int) (x4_1 : Int) (x1001_1 : Int) (x1002_1 : Int), v4 = .int .i64 x4_1 ∧ Aside0 (spec_l1Cur_coded.l0 kq x3_1 x4_1 s0_0 x1001_1 x1002_1 = some (r1, r2, r3)) ∧ Aside0 (kq ≤ k) ∧ Aside0 (Kd.R (Kd.int .i64) 3 w' w.heap.size (fun _ => True) v3 x3_1) ∧ Aside0 (IsS68 w0 w' g s0_0 x1001_1 x1002_1) ∧ Aside0 (KeepBut w w' g none) ∧ Aside0 (Below w0.heap.size w0 w'))
  case atStart => exact ⟨(([] : List Int)), (t616), (t617), (t618), rg_, H', ⟨Nat.le_refl _⟩, ⟨by first | exact Kd.R_nil _ _ _ _ _ | exact Kd.N_nil _ _ _ _ _ | exact Kd.V_nil _ _ _ _ _ | exact Kd.Q_nil _ _ _ _ _ | exact Kd.S_nil _ _ _ _ _⟩, ⟨by repeat (first | (with_reducible first | exact HI0.out | apply IsS68.alloc | apply IsS68.drewN | apply IsS68.drew | apply IsS68.set_1 | apply IsS68.set_2) | exact HI0.out)⟩, ⟨by repeat (first | (with_reducible first | exact HK.out | apply KeepBut.set_ | apply keep_drewN | apply keep_drew | apply keep_alloc) | exact HK.out)⟩, ⟨by repeat (first | (with_reducible first | exact HB.out | apply below_alloc | apply pw_below_drewN | apply below_drew1 | refine below_set ?_ (IsS68.ge HI0.out)) | exact HB.out)⟩⟩
  case round =>
   clear H'
   try clear p2
   obtain ⟨x3_1, x4_1, x1001_1, x1002_1, rfl, HA, HK1, HO_3, HI0, HK, HB⟩ := hrel
   cases gk with
   | zero => exact absurd HA.out (by simp [spec_l1Cur_coded.l0])
   | succ k1 =>
    have H := HA.out
    clear HA
    simp only [spec_l1Cur_coded.l0] at H
    by_cases c4 : x4_1 > 0
    ·rw [if_pos c4] at H
     have c4b0 : decide (0 < x4_1) = true := decide_eq_true c4
     clear c4
     replace H := Option.bind_eq_some_iff.mp H
     obtain ⟨⟨t619, t620, t621⟩, A50, H⟩ := H
     replace H : ((spec_l1Cur_one.f s0_0 t620 t621 5).bind fun bt622 => (if bt622.1 = true then ((spec_l1Cur_among.f s0_0 bt622.2.1 bt622.2.2 (([1, 2, 255, 256, 65535, 65536, 99999, 100000] : List Int))).bind fun bt628 => (if x3_1.length < 17592186044416 then (spec_l1Cur_coded.l0 k1 (x3_1 ++ [bt628.1]) (wrap64 (x4_1 - 1)) s0_0 bt628.2.1 bt628.2.2) else (none))) else (if x3_1.length < 17592186044416 then (spec_l1Cur_coded.l0 k1 (x3_1 ++ [wrap64 (1 + t619)]) (wrap64 (x4_1 - 1)) s0_0 bt622.2.1 bt622.2.2) else (none)))) = some (r1, r2, r3) := H
     have A5 := Aside0.mk A50
     clear A50
     replace H := Option.bind_eq_some_iff.mp H
     obtain ⟨⟨t622, t623, t624⟩, A60, H⟩ := H
     replace H : (if t622 = true then ((spec_l1Cur_among.f s0_0 t623 t624 (([1, 2, 255, 256, 65535, 65536, 99999, 100000] : List Int))).bind fun bt628 => (if x3_1.length < 17592186044416 then (spec_l1Cur_coded.l0 k1 (x3_1 ++ [bt628.1]) (wrap64 (x4_1 - 1)) s0_0 bt628.2.1 bt628.2.2) else (none))) else (if x3_1.length < 17592186044416 then (spec_l1Cur_coded.l0 k1 (x3_1 ++ [wrap64 (1 + t619)]) (wrap64 (x4_1 - 1)) s0_0 t623 t624) else (none))) = some (r1, r2, r3) := H
     have A6 := Aside0.mk A60
     clear A60
     by_cases c7 : t622 = true
     ·subst c7
      have H1 : ((spec_l1Cur_among.f s0_0 t623 t624 (([1, 2, 255, 256, 65535, 65536, 99999, 100000] : List Int))).bind fun bt628 => (if x3_1.length < 17592186044416 then (spec_l1Cur_coded.l0 k1 (x3_1 ++ [bt628.1]) (wrap64 (x4_1 - 1)) s0_0 bt628.2.1 bt628.2.2) else (none))) = some (r1, r2, r3) := by rw [if_pos rfl] at H; exact H
      clear H
      have H := H1
      clear H1
      obtain ⟨y625, hy625⟩ : ∃ y_ : List Int, y_ = (([1, 2, 255, 256, 65535, 65536, 99999, 100000] : List Int)) := ⟨_, rfl⟩
      replace H : ((spec_l1Cur_among.f s0_0 t623 t624 y625).bind fun bt628 => (if x3_1.length < 17592186044416 then (spec_l1Cur_coded.l0 k1 (x3_1 ++ [bt628.1]) (wrap64 (x4_1 - 1)) s0_0 bt628.2.1 bt628.2.2) else (none))) = some (r1, r2, r3) := by first | (rw [hy625]; with_reducible exact H) | (have H2_ := (Option.bind_some _ _).symm.trans H; rw [hy625]; with_reducible exact H2_) | (have H2_ := (Option.bind_some _ _).symm.trans H; with_reducible exact H2_) | with_reducible exact H | (rw [hy625]; exact H) | exact H
      have Ny625 := Aside0.mk hy625
      clear hy625
      replace H := Option.bind_eq_some_iff.mp H
      obtain ⟨⟨t628, t629, t630⟩, A80, H⟩ := H
      replace H : (if x3_1.length < 17592186044416 then (spec_l1Cur_coded.l0 k1 (x3_1 ++ [t628]) (wrap64 (x4_1 - 1)) s0_0 t629 t630) else (none)) = some (r1, r2, r3) := H
      have A8 := Aside0.mk A80
      clear A80
      by_cases c9 : x3_1.length < 17592186044416
      ·rw [if_pos c9] at H
       have LMc9 := Aside0.mk c9
       clear c9
       obtain ⟨y631, hy631⟩ : ∃ y_ : List Int, y_ = (x3_1 ++ [t628]) := ⟨_, rfl⟩
       replace H : (spec_l1Cur_coded.l0 k1 y631 (wrap64 (x4_1 - 1)) s0_0 t629 t630) = some (r1, r2, r3) := by first | (rw [hy631]; with_reducible exact H) | (have H2_ := (Option.bind_some _ _).symm.trans H; rw [hy631]; with_reducible exact H2_) | (have H2_ := (Option.bind_some _ _).symm.trans H; with_reducible exact H2_) | with_reducible exact H | (rw [hy631]; exact H) | exact H
       have Ny631 := Aside0.mk hy631
       clear hy631
       have H' := Aside0.mk H
       clear H
       go_wp2_with (first | ((with_reducible refine gate_callee (f := 66) rfl ?_); refine gl_ 13 Try.func66 #[.pointer (some ⟨g, 0, none⟩), .int .i64 20] ?_; (with_reducible refine (spec_l1Cur_pick.calls g s0_0 x1001_1 x1002_1 20 t619 t620 t621 w0 _ ?side1 ?side2 A5.out).mono ?_); (case side1 => repeat (first | (with_reducible first | exact HI0.out | apply IsS68.alloc | apply IsS68.drewN | apply IsS68.drew | apply IsS68.set_1 | apply IsS68.set_2) | exact HI0.out)); (case side2 => repeat (first | (with_reducible first | exact HB.out | apply below_alloc | apply pw_below_drewN | apply below_drew1 | refine below_set ?_ (IsS68.ge HI0.out)) | exact HB.out)); rintro e w10 ⟨rfl, hi, hb, hk⟩; refine ⟨_, rfl, ?_⟩; replace HO_3 := Aside0.mk (Kd.R_mono (Kd.R_keep (IsS68.apart (show IsS68 w0 _ g s0_0 x1001_1 x1002_1 from by repeat (first | (with_reducible first | exact HI0.out | apply IsS68.alloc | apply IsS68.drewN | apply IsS68.drew | apply IsS68.set_1 | apply IsS68.set_2) | exact HI0.out)) (kR_ HO_3) (by decide)) hk (fun _ h => h.2)) (fun _ h => h.1)); replace HK := Aside0.mk (KeepBut.trans (by repeat (first | (with_reducible first | exact HK.out | apply KeepBut.set_ | apply keep_drewN | apply keep_drew | apply keep_alloc) | exact HK.out)) hk (.inl rfl)); replace HB := Aside0.mk (hb); replace HI0 := Aside0.mk (hi); (try clear hb); (try clear hb2); (try clear hk); (try clear hi)) | ((with_reducible refine gate_callee (f := 68) rfl ?_); refine gl_ 16 Try.func68 #[.pointer (some ⟨g, 0, none⟩), .int .i64 5] ?_; (with_reducible refine (spec_l1Cur_one.calls g s0_0 t620 t621 5 true t623 t624 w0 _ ?side1 ?side2 A6.out).mono ?_); (case side1 => repeat (first | (with_reducible first | exact HI0.out | apply IsS68.alloc | apply IsS68.drewN | apply IsS68.drew | apply IsS68.set_1 | apply IsS68.set_2) | exact HI0.out)); (case side2 => repeat (first | (with_reducible first | exact HB.out | apply below_alloc | apply pw_below_drewN | apply below_drew1 | refine below_set ?_ (IsS68.ge HI0.out)) | exact HB.out)); rintro e w11 ⟨rfl, hi, hb, hk⟩; refine ⟨_, rfl, ?_⟩; replace HO_3 := Aside0.mk (Kd.R_mono (Kd.R_keep (IsS68.apart (show IsS68 w0 _ g s0_0 t620 t621 from by repeat (first | (with_reducible first | exact HI0.out | apply IsS68.alloc | apply IsS68.drewN | apply IsS68.drew | apply IsS68.set_1 | apply IsS68.set_2) | exact HI0.out)) (kR_ HO_3) (by decide)) hk (fun _ h => h.2)) (fun _ h => h.1)); replace HK := Aside0.mk (KeepBut.trans (by repeat (first | (with_reducible first | exact HK.out | apply KeepBut.set_ | apply keep_drewN | apply keep_drew | apply keep_alloc) | exact HK.out)) hk (.inl rfl)); replace HB := Aside0.mk (hb); replace HI0 := Aside0.mk (hi); (try clear hb); (try clear hb2); (try clear hk); (try clear hi)) | ((with_reducible refine gate_dst (N := 18) rfl ?_); refine Kd.R_lit (Kd.int .i64) _ 3 ?hg (N := 18) ?hd (xs := ([1, 2, 255, 256, 65535, 65536, 99999, 100000] : List Int)) (inner := [.int .i64 1, .int .i64 2, .int .i64 255, .int .i64 256, .int .i64 65535, .int .i64 65536, .int .i64 99999, .int .i64 100000]) (ok := fun _ => True) (okp := fun _ => True) ?hr ?hp (fun _ hk => hk) trivial (Below.refl _ _) (Nat.le_refl _) (by simp) ?_; (case hd => rfl); (case hg => rfl); (case hr => first | (go_simp; done) | (go_simp; rfl)); (case hp => exact (Reps.one (show Kd.M (Kd.int .i64) _ _ _ 1 [.int .i64 1] from rfl) (Reps.one (show Kd.M (Kd.int .i64) _ _ _ 2 [.int .i64 2] from rfl) (Reps.one (show Kd.M (Kd.int .i64) _ _ _ 255 [.int .i64 255] from rfl) (Reps.one (show Kd.M (Kd.int .i64) _ _ _ 256 [.int .i64 256] from rfl) (Reps.one (show Kd.M (Kd.int .i64) _ _ _ 65535 [.int .i64 65535] from rfl) (Reps.one (show Kd.M (Kd.int .i64) _ _ _ 65536 [.int .i64 65536] from rfl) (Reps.one (show Kd.M (Kd.int .i64) _ _ _ 99999 [.int .i64 99999] from rfl) (Reps.one (show Kd.M (Kd.int .i64) _ _ _ 100000 [.int .i64 100000] from rfl) (Reps.none _ _)))))))))); intro v626 w12 ho13 hb hg_ hnew_; clear hg_ hnew_; (first | rw [← Ny625.out] at ho13 | (simp only [Int.reduceToNat] at ho13; rw [← Ny625.out] at ho13)); have HO627 := Aside0.mk (Kd.R_lower (Kd.R_new' ho13 (Kd.R_lt (kR_ HO_3))) (keep_size (w := w) (g := g) (row := none) (by repeat (first | (with_reducible first | exact HK.out | apply KeepBut.set_ | apply keep_drewN | apply keep_drew | apply keep_alloc) | exact HK.out)))); replace HO_3 := Aside0.mk (Kd.R_elder' (kR_ HO_3) (Kd.R_base ho13) hb); replace HK := Aside0.mk (KeepBut.trans (by repeat (first | (with_reducible first | exact HK.out | apply KeepBut.set_ | apply keep_drewN | apply keep_drew | apply keep_alloc) | exact HK.out)) (KeepBut.of_below hb g none) (.inl rfl)); replace HB := Aside0.mk (below_step (by repeat (first | (with_reducible first | exact HB.out | apply below_alloc | apply pw_below_drewN | apply below_drew1 | refine below_set ?_ (IsS68.ge HI0.out)) | exact HB.out)) hb); replace HI0 := Aside0.mk (IsS68.below (by repeat (first | (with_reducible first | exact HI0.out | apply IsS68.alloc | apply IsS68.drewN | apply IsS68.drew | apply IsS68.set_1 | apply IsS68.set_2) | exact HI0.out)) hb); clear hb ho13; obtain ⟨Ao14, co14, eo14⟩ := Kd.R_slice HO627.out; subst eo14) | ((with_reducible refine gate_callee (f := 91) rfl ?_); refine gl_ 19 Try.func91 #[.pointer (some ⟨g, 0, none⟩), .slice Ao14 y625.length co14] ?_; (with_reducible refine (spec_l1Cur_among.calls g s0_0 t623 t624 _ _ y625 t628 t629 t630 w0 _ ?side1 ?side2 ?side3 ?side4 ?side5 A8.out).mono ?_); (case side1 => repeat (first | (with_reducible first | exact HI0.out | apply IsS68.alloc | apply IsS68.drewN | apply IsS68.drew | apply IsS68.set_1 | apply IsS68.set_2) | exact HI0.out)); (case side2 => repeat (first | (with_reducible first | exact HB.out | apply below_alloc | apply pw_below_drewN | apply below_drew1 | refine below_set ?_ (IsS68.ge HI0.out)) | exact HB.out)); (case side3 => exact kD_ HO627); (case side4 => exact (Kd.R_reads' HO627.out).2.1); (case side5 => exact far_slice (IsS68.own_ne HI0.out HO627.out (by decide))); rintro e w15 ⟨rfl, hi, hb, hk⟩; refine ⟨_, rfl, ?_⟩; replace HO_3 := Aside0.mk (Kd.R_mono (Kd.R_keep (IsS68.apart (show IsS68 w0 _ g s0_0 t623 t624 from by repeat (first | (with_reducible first | exact HI0.out | apply IsS68.alloc | apply IsS68.drewN | apply IsS68.drew | apply IsS68.set_1 | apply IsS68.set_2) | exact HI0.out)) (kR_ HO_3) (by decide)) hk (fun _ h => h.2)) (fun _ h => h.1)); replace HO627 := Aside0.mk (Kd.R_mono (Kd.R_keep (IsS68.apart (show IsS68 w0 _ g s0_0 t623 t624 from by repeat (first | (with_reducible first | exact HI0.out | apply IsS68.alloc | apply IsS68.drewN | apply IsS68.drew | apply IsS68.set_1 | apply IsS68.set_2) | exact HI0.out)) (kR_ HO627) (by decide)) hk (fun _ h => h.2)) (fun _ h => h.1)); replace HK := Aside0.mk (KeepBut.trans (by repeat (first | (with_reducible first | exact HK.out | apply KeepBut.set_ | apply keep_drewN | apply keep_drew | apply keep_alloc) | exact HK.out)) hk (.inl rfl)); replace HB := Aside0.mk (hb); replace HI0 := Aside0.mk (hi); (try clear hb); (try clear hb2); (try clear hk); (try clear hi)) | ((with_reducible refine gate_builtin (b := .append) (xs := #[.tmp 20, .tmp 22]) rfl ?_); at_builtin; refine Kd.R_append (Kd.int .i64) w.heap.size rfl (.tmp 20) (.tmp 22) 22 3 (.int .i64 0) 8 rfl Try.underlying22 info3 rfl (by decide) (by omega) u3 x3_1 t628 [.int .i64 t628] (fun k_ => some k_ ≠ (.slice Ao14 y625.length co14 : Value).ownBlock) (fun _ => False) rfl rfl ?aP (fun _ hk => hk.elim) ?aF ?aO (Below.refl _ _) ?aS ?aL ?_; (case aP => exact rfl); (case aF => exact (fun k_ hk => Kd.fresh' (Kd.R_lt (kR_ HO627)) k_ hk)); (case aO => exact (by (with_reducible repeat (first | apply Kd.R_alloc | apply Kd.R_drewN | apply Kd.R_drew)); exact Kd.R_mono HO_3.out (fun _ hk => hk.2))); (case aS => exact (keep_size (w := w) (g := g) (row := none) (by repeat (first | (with_reducible first | exact HK.out | apply KeepBut.set_ | apply keep_drewN | apply keep_drew | apply keep_alloc) | exact HK.out)))); (case aL => have := LMc9.out; omega); intro v632 w16 ho hb hg hat; rw [← Ny631.out] at ho; have n0_ := Aside0.mk (IsS68.grown (by repeat (first | (with_reducible first | exact HI0.out | apply IsS68.alloc | apply IsS68.drewN | apply IsS68.drew | apply IsS68.set_1 | apply IsS68.set_2) | exact HI0.out)) hg (IsS68.own_ne HI0.out HO_3.out (by decide))); have n1_ := Aside0.mk (Kd.R_after (ok := (fun _ => True)) (kR_ HO627) hg hat); have n2_ := Aside0.mk (below_weaken (by repeat (first | (with_reducible first | exact HB.out | apply below_alloc | apply pw_below_drewN | apply below_drew1 | refine below_set ?_ (IsS68.ge HI0.out)) | exact HB.out)) HL.out hb); have n3_ := Aside0.mk (KeepBut.trans (by repeat (first | (with_reducible first | exact HK.out | apply KeepBut.set_ | apply keep_drewN | apply keep_drew | apply keep_alloc) | exact HK.out)) (KeepBut.of_grown hg g) (Kd.R_base2 HO_3.out)); have n4_ := Aside0.mk (ho); clear HI0; clear HO627; clear HB; clear HK; clear HO_3; have HI0 := n0_; have HO627 := n1_; have HB := n2_; have HK := n3_; have HO633 := n4_; clear n0_ n1_ n2_ n3_ n4_; clear ho hb hg hat))
       go_roundg k1
       case measure => have := HK1.out; omega
       case rel => exact ⟨(y631), (wrap64 (x4_1 - 1)), (t629), (t630), rg_, H', ⟨by have := HK1.out; omega⟩, ⟨by (with_reducible repeat (first | apply Kd.R_alloc | apply Kd.R_drewN | apply Kd.R_drew)); exact Kd.R_mono HO633.out (fun _ hk => trivial)⟩, ⟨by repeat (first | (with_reducible first | exact HI0.out | apply IsS68.alloc | apply IsS68.drewN | apply IsS68.drew | apply IsS68.set_1 | apply IsS68.set_2) | exact HI0.out)⟩, ⟨by repeat (first | (with_reducible first | exact HK.out | apply KeepBut.set_ | apply keep_drewN | apply keep_drew | apply keep_alloc) | exact HK.out)⟩, ⟨by repeat (first | (with_reducible first | exact HB.out | apply below_alloc | apply pw_below_drewN | apply below_drew1 | refine below_set ?_ (IsS68.ge HI0.out)) | exact HB.out)⟩⟩
      ·rw [if_neg c9] at H
       exact absurd H (by simp)
     ·replace c7 := Bool.eq_false_iff.mpr c7
      subst c7
      have H1 : (if x3_1.length < 17592186044416 then (spec_l1Cur_coded.l0 k1 (x3_1 ++ [wrap64 (1 + t619)]) (wrap64 (x4_1 - 1)) s0_0 t623 t624) else (none)) = some (r1, r2, r3) := by rw [if_neg (show ¬ (false = true) by decide)] at H; exact H
      clear H
      have H := H1
      clear H1
      by_cases c17 : x3_1.length < 17592186044416
      ·rw [if_pos c17] at H
       have LMc17 := Aside0.mk c17
       clear c17
       obtain ⟨y634, hy634⟩ : ∃ y_ : List Int, y_ = (x3_1 ++ [wrap64 (1 + t619)]) := ⟨_, rfl⟩
       replace H : (spec_l1Cur_coded.l0 k1 y634 (wrap64 (x4_1 - 1)) s0_0 t623 t624) = some (r1, r2, r3) := by first | (rw [hy634]; with_reducible exact H) | (have H2_ := (Option.bind_some _ _).symm.trans H; rw [hy634]; with_reducible exact H2_) | (have H2_ := (Option.bind_some _ _).symm.trans H; with_reducible exact H2_) | with_reducible exact H | (rw [hy634]; exact H) | exact H
       have Ny634 := Aside0.mk hy634
       clear hy634
       have H' := Aside0.mk H
       clear H
       go_wp2_with (first | ((with_reducible refine gate_callee (f := 66) rfl ?_); refine gl_ 13 Try.func66 #[.pointer (some ⟨g, 0, none⟩), .int .i64 20] ?_; (with_reducible refine (spec_l1Cur_pick.calls g s0_0 x1001_1 x1002_1 20 t619 t620 t621 w0 _ ?side1 ?side2 A5.out).mono ?_); (case side1 => repeat (first | (with_reducible first | exact HI0.out | apply IsS68.alloc | apply IsS68.drewN | apply IsS68.drew | apply IsS68.set_1 | apply IsS68.set_2) | exact HI0.out)); (case side2 => repeat (first | (with_reducible first | exact HB.out | apply below_alloc | apply pw_below_drewN | apply below_drew1 | refine below_set ?_ (IsS68.ge HI0.out)) | exact HB.out)); rintro e w18 ⟨rfl, hi, hb, hk⟩; refine ⟨_, rfl, ?_⟩; replace HO_3 := Aside0.mk (Kd.R_mono (Kd.R_keep (IsS68.apart (show IsS68 w0 _ g s0_0 x1001_1 x1002_1 from by repeat (first | (with_reducible first | exact HI0.out | apply IsS68.alloc | apply IsS68.drewN | apply IsS68.drew | apply IsS68.set_1 | apply IsS68.set_2) | exact HI0.out)) (kR_ HO_3) (by decide)) hk (fun _ h => h.2)) (fun _ h => h.1)); replace HK := Aside0.mk (KeepBut.trans (by repeat (first | (with_reducible first | exact HK.out | apply KeepBut.set_ | apply keep_drewN | apply keep_drew | apply keep_alloc) | exact HK.out)) hk (.inl rfl)); replace HB := Aside0.mk (hb); replace HI0 := Aside0.mk (hi); (try clear hb); (try clear hb2); (try clear hk); (try clear hi)) | ((with_reducible refine gate_callee (f := 68) rfl ?_); refine gl_ 16 Try.func68 #[.pointer (some ⟨g, 0, none⟩), .int .i64 5] ?_; (with_reducible refine (spec_l1Cur_one.calls g s0_0 t620 t621 5 false t623 t624 w0 _ ?side1 ?side2 A6.out).mono ?_); (case side1 => repeat (first | (with_reducible first | exact HI0.out | apply IsS68.alloc | apply IsS68.drewN | apply IsS68.drew | apply IsS68.set_1 | apply IsS68.set_2) | exact HI0.out)); (case side2 => repeat (first | (with_reducible first | exact HB.out | apply below_alloc | apply pw_below_drewN | apply below_drew1 | refine below_set ?_ (IsS68.ge HI0.out)) | exact HB.out)); rintro e w19 ⟨rfl, hi, hb, hk⟩; refine ⟨_, rfl, ?_⟩; replace HO_3 := Aside0.mk (Kd.R_mono (Kd.R_keep (IsS68.apart (show IsS68 w0 _ g s0_0 t620 t621 from by repeat (first | (with_reducible first | exact HI0.out | apply IsS68.alloc | apply IsS68.drewN | apply IsS68.drew | apply IsS68.set_1 | apply IsS68.set_2) | exact HI0.out)) (kR_ HO_3) (by decide)) hk (fun _ h => h.2)) (fun _ h => h.1)); replace HK := Aside0.mk (KeepBut.trans (by repeat (first | (with_reducible first | exact HK.out | apply KeepBut.set_ | apply keep_drewN | apply keep_drew | apply keep_alloc) | exact HK.out)) hk (.inl rfl)); replace HB := Aside0.mk (hb); replace HI0 := Aside0.mk (hi); (try clear hb); (try clear hb2); (try clear hk); (try clear hi)) | ((with_reducible refine gate_builtin (b := .append) (xs := #[.tmp 20, .tmp 22]) rfl ?_); at_builtin; refine Kd.R_append (Kd.int .i64) w.heap.size rfl (.tmp 20) (.tmp 22) 22 3 (.int .i64 0) 8 rfl Try.underlying22 info3 rfl (by decide) (by omega) u3 x3_1 (wrap64 (1 + t619)) [.int .i64 (wrap64 (1 + t619))] (fun _ => True) (fun _ => False) rfl rfl ?aP (fun _ hk => hk.elim) ?aF ?aO (Below.refl _ _) ?aS ?aL ?_; (case aP => exact rfl); (case aF => exact (fun _ _ => trivial)); (case aO => exact (kR_ HO_3)); (case aS => exact (keep_size (w := w) (g := g) (row := none) (by repeat (first | (with_reducible first | exact HK.out | apply KeepBut.set_ | apply keep_drewN | apply keep_drew | apply keep_alloc) | exact HK.out)))); (case aL => have := LMc17.out; omega); intro v635 w20 ho hb hg hat; rw [← Ny634.out] at ho; have n0_ := Aside0.mk (IsS68.grown (by repeat (first | (with_reducible first | exact HI0.out | apply IsS68.alloc | apply IsS68.drewN | apply IsS68.drew | apply IsS68.set_1 | apply IsS68.set_2) | exact HI0.out)) hg (IsS68.own_ne HI0.out HO_3.out (by decide))); have n1_ := Aside0.mk (below_weaken (by repeat (first | (with_reducible first | exact HB.out | apply below_alloc | apply pw_below_drewN | apply below_drew1 | refine below_set ?_ (IsS68.ge HI0.out)) | exact HB.out)) HL.out hb); have n2_ := Aside0.mk (KeepBut.trans (by repeat (first | (with_reducible first | exact HK.out | apply KeepBut.set_ | apply keep_drewN | apply keep_drew | apply keep_alloc) | exact HK.out)) (KeepBut.of_grown hg g) (Kd.R_base2 HO_3.out)); have n3_ := Aside0.mk (ho); clear HI0; clear HB; clear HK; clear HO_3; have HI0 := n0_; have HB := n1_; have HK := n2_; have HO636 := n3_; clear n0_ n1_ n2_ n3_; clear ho hb hg hat))
       go_roundg k1
       case measure => have := HK1.out; omega
       case rel => exact ⟨(y634), (wrap64 (x4_1 - 1)), (t623), (t624), rg_, H', ⟨by have := HK1.out; omega⟩, ⟨kR_ HO636⟩, ⟨by repeat (first | (with_reducible first | exact HI0.out | apply IsS68.alloc | apply IsS68.drewN | apply IsS68.drew | apply IsS68.set_1 | apply IsS68.set_2) | exact HI0.out)⟩, ⟨by repeat (first | (with_reducible first | exact HK.out | apply KeepBut.set_ | apply keep_drewN | apply keep_drew | apply keep_alloc) | exact HK.out)⟩, ⟨by repeat (first | (with_reducible first | exact HB.out | apply below_alloc | apply pw_below_drewN | apply below_drew1 | refine below_set ?_ (IsS68.ge HI0.out)) | exact HB.out)⟩⟩
      ·rw [if_neg c17] at H
       exact absurd H (by simp)
    ·rw [if_neg c4] at H
     have c4b0 : decide (0 < x4_1) = false := decide_eq_false c4
     clear c4
     replace H := Option.bind_eq_some_iff.mp H
     obtain ⟨⟨t637, t638, t639⟩, A210, H⟩ := H
     replace H : (if t637 = 0 then ((spec_l1Cur_among.f s0_0 t638 t639 (([0, (-1), 100001] : List Int))).bind fun bt643 => (if x3_1.length < 17592186044416 then (some ((x3_1 ++ [bt643.1]), bt643.2.1, bt643.2.2)) else (none))) else (if t637 = 1 then (spec_l1Cur_coded.l1 k1 x3_1 s0_0 t638 t639) else (some (x3_1, t638, t639)))) = some (r1, r2, r3) := H
     have A21 := Aside0.mk A210
     clear A210
     by_cases c22 : t637 = 0
     ·rw [if_pos c22] at H
      have c22b0 : (t637 == 0) = true := beq_iff_eq.mpr c22
      have c22b1 : (t637 != 0) = false := bne_eq_false_iff_eq.mpr c22
      clear c22
      obtain ⟨y640, hy640⟩ : ∃ y_ : List Int, y_ = (([0, (-1), 100001] : List Int)) := ⟨_, rfl⟩
      replace H : ((spec_l1Cur_among.f s0_0 t638 t639 y640).bind fun bt643 => (if x3_1.length < 17592186044416 then (some ((x3_1 ++ [bt643.1]), bt643.2.1, bt643.2.2)) else (none))) = some (r1, r2, r3) := by first | (rw [hy640]; with_reducible exact H) | (have H2_ := (Option.bind_some _ _).symm.trans H; rw [hy640]; with_reducible exact H2_) | (have H2_ := (Option.bind_some _ _).symm.trans H; with_reducible exact H2_) | with_reducible exact H | (rw [hy640]; exact H) | exact H
      have Ny640 := Aside0.mk hy640
      clear hy640
      replace H := Option.bind_eq_some_iff.mp H
      obtain ⟨⟨t643, t644, t645⟩, A230, H⟩ := H
      replace H : (if x3_1.length < 17592186044416 then (some ((x3_1 ++ [t643]), t644, t645)) else (none)) = some (r1, r2, r3) := H
      have A23 := Aside0.mk A230
      clear A230
      by_cases c24 : x3_1.length < 17592186044416
      ·rw [if_pos c24] at H
       have LMc24 := Aside0.mk c24
       clear c24
       obtain ⟨y646, hy646⟩ : ∃ y_ : List Int, y_ = (x3_1 ++ [t643]) := ⟨_, rfl⟩
       replace H : (some (y646, t644, t645)) = some (r1, r2, r3) := by first | (rw [hy646]; with_reducible exact H) | (have H2_ := (Option.bind_some _ _).symm.trans H; rw [hy646]; with_reducible exact H2_) | (have H2_ := (Option.bind_some _ _).symm.trans H; with_reducible exact H2_) | with_reducible exact H | (rw [hy646]; exact H) | exact H
       have Ny646 := Aside0.mk hy646
       clear hy646
       simp only [Option.some.injEq, Prod.mk.injEq] at H
       obtain ⟨rfl, rfl, rfl⟩ := H
       go_wp2_with (first | ((with_reducible refine gate_callee (f := 66) rfl ?_); refine gl_ 25 Try.func66 #[.pointer (some ⟨g, 0, none⟩), .int .i64 16] ?_; (with_reducible refine (spec_l1Cur_pick.calls g s0_0 x1001_1 x1002_1 16 t637 t638 t639 w0 _ ?side1 ?side2 A21.out).mono ?_); (case side1 => repeat (first | (with_reducible first | exact HI0.out | apply IsS68.alloc | apply IsS68.drewN | apply IsS68.drew | apply IsS68.set_1 | apply IsS68.set_2) | exact HI0.out)); (case side2 => repeat (first | (with_reducible first | exact HB.out | apply below_alloc | apply pw_below_drewN | apply below_drew1 | refine below_set ?_ (IsS68.ge HI0.out)) | exact HB.out)); rintro e w25 ⟨rfl, hi, hb, hk⟩; refine ⟨_, rfl, ?_⟩; replace HO_3 := Aside0.mk (Kd.R_mono (Kd.R_keep (IsS68.apart (show IsS68 w0 _ g s0_0 x1001_1 x1002_1 from by repeat (first | (with_reducible first | exact HI0.out | apply IsS68.alloc | apply IsS68.drewN | apply IsS68.drew | apply IsS68.set_1 | apply IsS68.set_2) | exact HI0.out)) (kR_ HO_3) (by decide)) hk (fun _ h => h.2)) (fun _ h => h.1)); replace HK := Aside0.mk (KeepBut.trans (by repeat (first | (with_reducible first | exact HK.out | apply KeepBut.set_ | apply keep_drewN | apply keep_drew | apply keep_alloc) | exact HK.out)) hk (.inl rfl)); replace HB := Aside0.mk (hb); replace HI0 := Aside0.mk (hi); (try clear hb); (try clear hb2); (try clear hk); (try clear hi)) | ((with_reducible refine gate_dst (N := 30) rfl ?_); refine Kd.R_lit (Kd.int .i64) _ 3 ?hg (N := 30) ?hd (xs := ([0, (-1), 100001] : List Int)) (inner := [.int .i64 0, .int .i64 (-1), .int .i64 100001]) (ok := fun _ => True) (okp := fun _ => True) ?hr ?hp (fun _ hk => hk) trivial (Below.refl _ _) (Nat.le_refl _) (by simp) ?_; (case hd => rfl); (case hg => rfl); (case hr => first | (go_simp; done) | (go_simp; rfl)); (case hp => exact (Reps.one (show Kd.M (Kd.int .i64) _ _ _ 0 [.int .i64 0] from rfl) (Reps.one (show Kd.M (Kd.int .i64) _ _ _ (-1) [.int .i64 (-1)] from rfl) (Reps.one (show Kd.M (Kd.int .i64) _ _ _ 100001 [.int .i64 100001] from rfl) (Reps.none _ _))))); intro v641 w26 ho27 hb hg_ hnew_; clear hg_ hnew_; (first | rw [← Ny640.out] at ho27 | (simp only [Int.reduceToNat] at ho27; rw [← Ny640.out] at ho27)); have HO642 := Aside0.mk (Kd.R_lower (Kd.R_new' ho27 (Kd.R_lt (kR_ HO_3))) (keep_size (w := w) (g := g) (row := none) (by repeat (first | (with_reducible first | exact HK.out | apply KeepBut.set_ | apply keep_drewN | apply keep_drew | apply keep_alloc) | exact HK.out)))); replace HO_3 := Aside0.mk (Kd.R_elder' (kR_ HO_3) (Kd.R_base ho27) hb); replace HK := Aside0.mk (KeepBut.trans (by repeat (first | (with_reducible first | exact HK.out | apply KeepBut.set_ | apply keep_drewN | apply keep_drew | apply keep_alloc) | exact HK.out)) (KeepBut.of_below hb g none) (.inl rfl)); replace HB := Aside0.mk (below_step (by repeat (first | (with_reducible first | exact HB.out | apply below_alloc | apply pw_below_drewN | apply below_drew1 | refine below_set ?_ (IsS68.ge HI0.out)) | exact HB.out)) hb); replace HI0 := Aside0.mk (IsS68.below (by repeat (first | (with_reducible first | exact HI0.out | apply IsS68.alloc | apply IsS68.drewN | apply IsS68.drew | apply IsS68.set_1 | apply IsS68.set_2) | exact HI0.out)) hb); clear hb ho27; obtain ⟨Ao28, co28, eo28⟩ := Kd.R_slice HO642.out; subst eo28) | ((with_reducible refine gate_callee (f := 91) rfl ?_); refine gl_ 31 Try.func91 #[.pointer (some ⟨g, 0, none⟩), .slice Ao28 y640.length co28] ?_; (with_reducible refine (spec_l1Cur_among.calls g s0_0 t638 t639 _ _ y640 t643 t644 t645 w0 _ ?side1 ?side2 ?side3 ?side4 ?side5 A23.out).mono ?_); (case side1 => repeat (first | (with_reducible first | exact HI0.out | apply IsS68.alloc | apply IsS68.drewN | apply IsS68.drew | apply IsS68.set_1 | apply IsS68.set_2) | exact HI0.out)); (case side2 => repeat (first | (with_reducible first | exact HB.out | apply below_alloc | apply pw_below_drewN | apply below_drew1 | refine below_set ?_ (IsS68.ge HI0.out)) | exact HB.out)); (case side3 => exact kD_ HO642); (case side4 => exact (Kd.R_reads' HO642.out).2.1); (case side5 => exact far_slice (IsS68.own_ne HI0.out HO642.out (by decide))); rintro e w29 ⟨rfl, hi, hb, hk⟩; refine ⟨_, rfl, ?_⟩; replace HO_3 := Aside0.mk (Kd.R_mono (Kd.R_keep (IsS68.apart (show IsS68 w0 _ g s0_0 t638 t639 from by repeat (first | (with_reducible first | exact HI0.out | apply IsS68.alloc | apply IsS68.drewN | apply IsS68.drew | apply IsS68.set_1 | apply IsS68.set_2) | exact HI0.out)) (kR_ HO_3) (by decide)) hk (fun _ h => h.2)) (fun _ h => h.1)); replace HO642 := Aside0.mk (Kd.R_mono (Kd.R_keep (IsS68.apart (show IsS68 w0 _ g s0_0 t638 t639 from by repeat (first | (with_reducible first | exact HI0.out | apply IsS68.alloc | apply IsS68.drewN | apply IsS68.drew | apply IsS68.set_1 | apply IsS68.set_2) | exact HI0.out)) (kR_ HO642) (by decide)) hk (fun _ h => h.2)) (fun _ h => h.1)); replace HK := Aside0.mk (KeepBut.trans (by repeat (first | (with_reducible first | exact HK.out | apply KeepBut.set_ | apply keep_drewN | apply keep_drew | apply keep_alloc) | exact HK.out)) hk (.inl rfl)); replace HB := Aside0.mk (hb); replace HI0 := Aside0.mk (hi); (try clear hb); (try clear hb2); (try clear hk); (try clear hi)) | ((with_reducible refine gate_builtin (b := .append) (xs := #[.tmp 28, .tmp 32]) rfl ?_); at_builtin; refine Kd.R_append (Kd.int .i64) w.heap.size rfl (.tmp 28) (.tmp 32) 22 3 (.int .i64 0) 8 rfl Try.underlying22 info3 rfl (by decide) (by omega) u3 x3_1 t643 [.int .i64 t643] (fun k_ => some k_ ≠ (.slice Ao28 y640.length co28 : Value).ownBlock) (fun _ => False) rfl rfl ?aP (fun _ hk => hk.elim) ?aF ?aO (Below.refl _ _) ?aS ?aL ?_; (case aP => exact rfl); (case aF => exact (fun k_ hk => Kd.fresh' (Kd.R_lt (kR_ HO642)) k_ hk)); (case aO => exact (by (with_reducible repeat (first | apply Kd.R_alloc | apply Kd.R_drewN | apply Kd.R_drew)); exact Kd.R_mono HO_3.out (fun _ hk => hk.2))); (case aS => exact (keep_size (w := w) (g := g) (row := none) (by repeat (first | (with_reducible first | exact HK.out | apply KeepBut.set_ | apply keep_drewN | apply keep_drew | apply keep_alloc) | exact HK.out)))); (case aL => have := LMc24.out; omega); intro v647 w30 ho hb hg hat; rw [← Ny646.out] at ho; have n0_ := Aside0.mk (IsS68.grown (by repeat (first | (with_reducible first | exact HI0.out | apply IsS68.alloc | apply IsS68.drewN | apply IsS68.drew | apply IsS68.set_1 | apply IsS68.set_2) | exact HI0.out)) hg (IsS68.own_ne HI0.out HO_3.out (by decide))); have n1_ := Aside0.mk (Kd.R_after (ok := (fun _ => True)) (kR_ HO642) hg hat); have n2_ := Aside0.mk (below_weaken (by repeat (first | (with_reducible first | exact HB.out | apply below_alloc | apply pw_below_drewN | apply below_drew1 | refine below_set ?_ (IsS68.ge HI0.out)) | exact HB.out)) HL.out hb); have n3_ := Aside0.mk (KeepBut.trans (by repeat (first | (with_reducible first | exact HK.out | apply KeepBut.set_ | apply keep_drewN | apply keep_drew | apply keep_alloc) | exact HK.out)) (KeepBut.of_grown hg g) (Kd.R_base2 HO_3.out)); have n4_ := Aside0.mk (ho); clear HI0; clear HO642; clear HB; clear HK; clear HO_3; have HI0 := n0_; have HO642 := n1_; have HB := n2_; have HK := n3_; have HO648 := n4_; clear n0_ n1_ n2_ n3_ n4_; clear ho hb hg hat))
       go_ret
       exact ⟨_, rf_, by (with_reducible repeat (first | apply Kd.R_alloc | apply Kd.R_drewN | apply Kd.R_drew)); exact Kd.R_mono HO648.out (fun _ hk => trivial), by repeat (first | (with_reducible first | exact HI0.out | apply IsS68.alloc | apply IsS68.drewN | apply IsS68.drew | apply IsS68.set_1 | apply IsS68.set_2) | exact HI0.out), by repeat (first | (with_reducible first | exact HB.out | apply below_alloc | apply pw_below_drewN | apply below_drew1 | refine below_set ?_ (IsS68.ge HI0.out)) | exact HB.out), by repeat (first | (with_reducible first | exact HK.out | apply KeepBut.set_ | apply keep_drewN | apply keep_drew | apply keep_alloc) | exact HK.out)⟩
      ·rw [if_neg c24] at H
       exact absurd H (by simp)
     ·rw [if_neg c22] at H
      have c22b0 : (t637 == 0) = false := beq_eq_false_iff_ne.mpr c22
      have c22b1 : (t637 != 0) = true := bne_iff_ne.mpr c22
      by_cases c31 : t637 = 1
      ·rw [if_pos c31] at H
       have c31b0 : (t637 == 1) = true := beq_iff_eq.mpr c31
       have c31b1 : (t637 != 1) = false := bne_eq_false_iff_eq.mpr c31
       clear c31
       have H' := Aside0.mk H
       clear H
       go_wp2_with (first | ((with_reducible refine gate_callee (f := 66) rfl ?_); refine gl_ 25 Try.func66 #[.pointer (some ⟨g, 0, none⟩), .int .i64 16] ?_; (with_reducible refine (spec_l1Cur_pick.calls g s0_0 x1001_1 x1002_1 16 t637 t638 t639 w0 _ ?side1 ?side2 A21.out).mono ?_); (case side1 => repeat (first | (with_reducible first | exact HI0.out | apply IsS68.alloc | apply IsS68.drewN | apply IsS68.drew | apply IsS68.set_1 | apply IsS68.set_2) | exact HI0.out)); (case side2 => repeat (first | (with_reducible first | exact HB.out | apply below_alloc | apply pw_below_drewN | apply below_drew1 | refine below_set ?_ (IsS68.ge HI0.out)) | exact HB.out)); rintro e w32 ⟨rfl, hi, hb, hk⟩; refine ⟨_, rfl, ?_⟩; replace HO_3 := Aside0.mk (Kd.R_mono (Kd.R_keep (IsS68.apart (show IsS68 w0 _ g s0_0 x1001_1 x1002_1 from by repeat (first | (with_reducible first | exact HI0.out | apply IsS68.alloc | apply IsS68.drewN | apply IsS68.drew | apply IsS68.set_1 | apply IsS68.set_2) | exact HI0.out)) (kR_ HO_3) (by decide)) hk (fun _ h => h.2)) (fun _ h => h.1)); replace HK := Aside0.mk (KeepBut.trans (by repeat (first | (with_reducible first | exact HK.out | apply KeepBut.set_ | apply keep_drewN | apply keep_drew | apply keep_alloc) | exact HK.out)) hk (.inl rfl)); replace HB := Aside0.mk (hb); replace HI0 := Aside0.mk (hi); (try clear hb); (try clear hb2); (try clear hk); (try clear hi)))
       go_loopg [3] k1 (fun kq v3 w' => ∃ (x3_2 : List Int) (x1001_2 : Int) (x1002_2 : Int), Aside0 (spec_l1Cur_coded.l1 kq x3_2 s0_0 x1001_2 x1002_2 = some (r1, r2, r3)) ∧ Aside0 (kq ≤ k1) ∧ Aside0 (Kd.R (Kd.int .i64) 3 w' w.heap.size (fun _ => True) v3 x3_2) ∧ Aside0 (IsS68 w0 w' g s0_0 x1001_2 x1002_2) ∧ Aside0 (KeepBut w w' g none) ∧ Aside0 (Below w0.heap.size w0 w'))
       case atStart => exact ⟨(x3_1), (t638), (t639), H', ⟨Nat.le_refl _⟩, ⟨kR_ HO_3⟩, ⟨by repeat (first | (with_reducible first | exact HI0.out | apply IsS68.alloc | apply IsS68.drewN | apply IsS68.drew | apply IsS68.set_1 | apply IsS68.set_2) | exact HI0.out)⟩, ⟨by repeat (first | (with_reducible first | exact HK.out | apply KeepBut.set_ | apply keep_drewN | apply keep_drew | apply keep_alloc) | exact HK.out)⟩, ⟨by repeat (first | (with_reducible first | exact HB.out | apply below_alloc | apply pw_below_drewN | apply below_drew1 | refine below_set ?_ (IsS68.ge HI0.out)) | exact HB.out)⟩⟩
       case round =>
        clear H'
        try clear c1
        try clear c2
        try clear p2
        try clear c3
        try clear c4
        try clear c4b0
        try clear c6
        try clear p6
        try clear c7
        try clear c9
        try clear c17
        try clear c22
        try clear c22b0
        try clear c22b1
        try clear c24
        try clear c31
        try clear c31b0
        try clear c31b1
        try clear p2
        obtain ⟨x3_2, x1001_2, x1002_2, HA, HK2, HO_3, HI0, HK, HB⟩ := hrel
        cases gk with
        | zero => exact absurd HA.out (by simp [spec_l1Cur_coded.l1])
        | succ k2 =>
         have H := HA.out
         clear HA
         simp only [spec_l1Cur_coded.l1] at H
         replace H := Option.bind_eq_some_iff.mp H
         obtain ⟨⟨t649, t650, t651⟩, A330, H⟩ := H
         replace H : (if (x3_2.length : Int) < (wrap64 (60 + t649)) then (if x3_2.length < 17592186044416 then (spec_l1Cur_coded.l1 k2 (x3_2 ++ [100000]) s0_0 t650 t651) else (none)) else (some (x3_2, t650, t651))) = some (r1, r2, r3) := H
         have A33 := Aside0.mk A330
         clear A330
         by_cases c34 : (x3_2.length : Int) < (wrap64 (60 + t649))
         ·rw [if_pos c34] at H
          have c34b0 : decide ((x3_2.length : Int) < (wrap64 (60 + t649))) = true := decide_eq_true c34
          clear c34
          by_cases c35 : x3_2.length < 17592186044416
          ·rw [if_pos c35] at H
           have LMc35 := Aside0.mk c35
           clear c35
           obtain ⟨y652, hy652⟩ : ∃ y_ : List Int, y_ = (x3_2 ++ [100000]) := ⟨_, rfl⟩
           replace H : (spec_l1Cur_coded.l1 k2 y652 s0_0 t650 t651) = some (r1, r2, r3) := by first | (rw [hy652]; with_reducible exact H) | (have H2_ := (Option.bind_some _ _).symm.trans H; rw [hy652]; with_reducible exact H2_) | (have H2_ := (Option.bind_some _ _).symm.trans H; with_reducible exact H2_) | with_reducible exact H | (rw [hy652]; exact H) | exact H
           have Ny652 := Aside0.mk hy652
           clear hy652
           have H' := Aside0.mk H
           clear H
           obtain ⟨Ao36, co36, eo36⟩ := Kd.R_slice HO_3.out
           subst eo36
           go_wp2_with (first | ((with_reducible refine gate_callee (f := 66) rfl ?_); refine gl_ 39 Try.func66 #[.pointer (some ⟨g, 0, none⟩), .int .i64 2] ?_; (with_reducible refine (spec_l1Cur_pick.calls g s0_0 x1001_2 x1002_2 2 t649 t650 t651 w0 _ ?side1 ?side2 A33.out).mono ?_); (case side1 => repeat (first | (with_reducible first | exact HI0.out | apply IsS68.alloc | apply IsS68.drewN | apply IsS68.drew | apply IsS68.set_1 | apply IsS68.set_2) | exact HI0.out)); (case side2 => repeat (first | (with_reducible first | exact HB.out | apply below_alloc | apply pw_below_drewN | apply below_drew1 | refine below_set ?_ (IsS68.ge HI0.out)) | exact HB.out)); rintro e w37 ⟨rfl, hi, hb, hk⟩; refine ⟨_, rfl, ?_⟩; replace HO_3 := Aside0.mk (Kd.R_mono (Kd.R_keep (IsS68.apart (show IsS68 w0 _ g s0_0 x1001_2 x1002_2 from by repeat (first | (with_reducible first | exact HI0.out | apply IsS68.alloc | apply IsS68.drewN | apply IsS68.drew | apply IsS68.set_1 | apply IsS68.set_2) | exact HI0.out)) (kR_ HO_3) (by decide)) hk (fun _ h => h.2)) (fun _ h => h.1)); replace HK := Aside0.mk (KeepBut.trans (by repeat (first | (with_reducible first | exact HK.out | apply KeepBut.set_ | apply keep_drewN | apply keep_drew | apply keep_alloc) | exact HK.out)) hk (.inl rfl)); replace HB := Aside0.mk (hb); replace HI0 := Aside0.mk (hi); (try clear hb); (try clear hb2); (try clear hk); (try clear hi)) | ((with_reducible refine gate_builtin (b := .append) (xs := #[.tmp 42, .tmp 43]) rfl ?_); at_builtin; refine Kd.R_append (Kd.int .i64) w.heap.size rfl (.tmp 42) (.tmp 43) 22 3 (.int .i64 0) 8 rfl Try.underlying22 info3 rfl (by decide) (by omega) (.slice Ao36 x3_2.length co36) x3_2 100000 [.int .i64 100000] (fun _ => True) (fun _ => False) rfl rfl ?aP (fun _ hk => hk.elim) ?aF ?aO (Below.refl _ _) ?aS ?aL ?_; (case aP => exact rfl); (case aF => exact (fun _ _ => trivial)); (case aO => exact (kR_ HO_3)); (case aS => exact (keep_size (w := w) (g := g) (row := none) (by repeat (first | (with_reducible first | exact HK.out | apply KeepBut.set_ | apply keep_drewN | apply keep_drew | apply keep_alloc) | exact HK.out)))); (case aL => have := LMc35.out; omega); intro v653 w38 ho hb hg hat; rw [← Ny652.out] at ho; have n0_ := Aside0.mk (IsS68.grown (by repeat (first | (with_reducible first | exact HI0.out | apply IsS68.alloc | apply IsS68.drewN | apply IsS68.drew | apply IsS68.set_1 | apply IsS68.set_2) | exact HI0.out)) hg (IsS68.own_ne HI0.out HO_3.out (by decide))); have n1_ := Aside0.mk (below_weaken (by repeat (first | (with_reducible first | exact HB.out | apply below_alloc | apply pw_below_drewN | apply below_drew1 | refine below_set ?_ (IsS68.ge HI0.out)) | exact HB.out)) HL.out hb); have n2_ := Aside0.mk (KeepBut.trans (by repeat (first | (with_reducible first | exact HK.out | apply KeepBut.set_ | apply keep_drewN | apply keep_drew | apply keep_alloc) | exact HK.out)) (KeepBut.of_grown hg g) (Kd.R_base2 HO_3.out)); have n3_ := Aside0.mk (ho); clear HI0; clear HB; clear HK; clear HO_3; have HI0 := n0_; have HB := n1_; have HK := n2_; have HO654 := n3_; clear n0_ n1_ n2_ n3_; clear ho hb hg hat))
           go_roundg k2
           case measure => have := HK1.out; have := HK2.out; omega
           case rel => exact ⟨(y652), (t650), (t651), H', ⟨by have := HK1.out; have := HK2.out; omega⟩, ⟨kR_ HO654⟩, ⟨by repeat (first | (with_reducible first | exact HI0.out | apply IsS68.alloc | apply IsS68.drewN | apply IsS68.drew | apply IsS68.set_1 | apply IsS68.set_2) | exact HI0.out)⟩, ⟨by repeat (first | (with_reducible first | exact HK.out | apply KeepBut.set_ | apply keep_drewN | apply keep_drew | apply keep_alloc) | exact HK.out)⟩, ⟨by repeat (first | (with_reducible first | exact HB.out | apply below_alloc | apply pw_below_drewN | apply below_drew1 | refine below_set ?_ (IsS68.ge HI0.out)) | exact HB.out)⟩⟩
          ·rw [if_neg c35] at H
           exact absurd H (by simp)
         ·rw [if_neg c34] at H
          have c34b0 : decide ((x3_2.length : Int) < (wrap64 (60 + t649))) = false := decide_eq_false c34
          clear c34
          simp only [Option.some.injEq, Prod.mk.injEq] at H
          obtain ⟨rfl, rfl, rfl⟩ := H
          obtain ⟨Ao39, co39, eo39⟩ := Kd.R_slice HO_3.out
          subst eo39
          go_wp2_with (first | ((with_reducible refine gate_callee (f := 66) rfl ?_); refine gl_ 39 Try.func66 #[.pointer (some ⟨g, 0, none⟩), .int .i64 2] ?_; (with_reducible refine (spec_l1Cur_pick.calls g s0_0 x1001_2 x1002_2 2 t649 t650 t651 w0 _ ?side1 ?side2 A33.out).mono ?_); (case side1 => repeat (first | (with_reducible first | exact HI0.out | apply IsS68.alloc | apply IsS68.drewN | apply IsS68.drew | apply IsS68.set_1 | apply IsS68.set_2) | exact HI0.out)); (case side2 => repeat (first | (with_reducible first | exact HB.out | apply below_alloc | apply pw_below_drewN | apply below_drew1 | refine below_set ?_ (IsS68.ge HI0.out)) | exact HB.out)); rintro e w40 ⟨rfl, hi, hb, hk⟩; refine ⟨_, rfl, ?_⟩; replace HO_3 := Aside0.mk (Kd.R_mono (Kd.R_keep (IsS68.apart (show IsS68 w0 _ g s0_0 x1001_2 x1002_2 from by repeat (first | (with_reducible first | exact HI0.out | apply IsS68.alloc | apply IsS68.drewN | apply IsS68.drew | apply IsS68.set_1 | apply IsS68.set_2) | exact HI0.out)) (kR_ HO_3) (by decide)) hk (fun _ h => h.2)) (fun _ h => h.1)); replace HK := Aside0.mk (KeepBut.trans (by repeat (first | (with_reducible first | exact HK.out | apply KeepBut.set_ | apply keep_drewN | apply keep_drew | apply keep_alloc) | exact HK.out)) hk (.inl rfl)); replace HB := Aside0.mk (hb); replace HI0 := Aside0.mk (hi); (try clear hb); (try clear hb2); (try clear hk); (try clear hi)))
          go_ret
          exact ⟨_, rf_, kR_ HO_3, by repeat (first | (with_reducible first | exact HI0.out | apply IsS68.alloc | apply IsS68.drewN | apply IsS68.drew | apply IsS68.set_1 | apply IsS68.set_2) | exact HI0.out), by repeat (first | (with_reducible first | exact HB.out | apply below_alloc | apply pw_below_drewN | apply below_drew1 | refine below_set ?_ (IsS68.ge HI0.out)) | exact HB.out), by repeat (first | (with_reducible first | exact HK.out | apply KeepBut.set_ | apply keep_drewN | apply keep_drew | apply keep_alloc) | exact HK.out)⟩
      ·rw [if_neg c31] at H
       have c31b0 : (t637 == 1) = false := beq_eq_false_iff_ne.mpr c31
       have c31b1 : (t637 != 1) = true := bne_iff_ne.mpr c31
       simp only [Option.some.injEq, Prod.mk.injEq] at H
       obtain ⟨rfl, rfl, rfl⟩ := H
       go_wp2_with (first | ((with_reducible refine gate_callee (f := 66) rfl ?_); refine gl_ 25 Try.func66 #[.pointer (some ⟨g, 0, none⟩), .int .i64 16] ?_; (with_reducible refine (spec_l1Cur_pick.calls g s0_0 x1001_1 x1002_1 16 t637 t638 t639 w0 _ ?side1 ?side2 A21.out).mono ?_); (case side1 => repeat (first | (with_reducible first | exact HI0.out | apply IsS68.alloc | apply IsS68.drewN | apply IsS68.drew | apply IsS68.set_1 | apply IsS68.set_2) | exact HI0.out)); (case side2 => repeat (first | (with_reducible first | exact HB.out | apply below_alloc | apply pw_below_drewN | apply below_drew1 | refine below_set ?_ (IsS68.ge HI0.out)) | exact HB.out)); rintro e w41 ⟨rfl, hi, hb, hk⟩; refine ⟨_, rfl, ?_⟩; replace HO_3 := Aside0.mk (Kd.R_mono (Kd.R_keep (IsS68.apart (show IsS68 w0 _ g s0_0 x1001_1 x1002_1 from by repeat (first | (with_reducible first | exact HI0.out | apply IsS68.alloc | apply IsS68.drewN | apply IsS68.drew | apply IsS68.set_1 | apply IsS68.set_2) | exact HI0.out)) (kR_ HO_3) (by decide)) hk (fun _ h => h.2)) (fun _ h => h.1)); replace HK := Aside0.mk (KeepBut.trans (by repeat (first | (with_reducible first | exact HK.out | apply KeepBut.set_ | apply keep_drewN | apply keep_drew | apply keep_alloc) | exact HK.out)) hk (.inl rfl)); replace HB := Aside0.mk (hb); replace HI0 := Aside0.mk (hi); (try clear hb); (try clear hb2); (try clear hk); (try clear hi)))
       go_ret
       exact ⟨_, rf_, kR_ HO_3, by repeat (first | (with_reducible first | exact HI0.out | apply IsS68.alloc | apply IsS68.drewN | apply IsS68.drew | apply IsS68.set_1 | apply IsS68.set_2) | exact HI0.out), by repeat (first | (with_reducible first | exact HB.out | apply below_alloc | apply pw_below_drewN | apply below_drew1 | refine below_set ?_ (IsS68.ge HI0.out)) | exact HB.out), by repeat (first | (with_reducible first | exact HK.out | apply KeepBut.set_ | apply keep_drewN | apply keep_drew | apply keep_alloc) | exact HK.out)⟩
/-! ### spec_DrawEncodeGamma: function 33 -/
def spec_DrawEncodeGamma.f (k : Nat) (l0 : List Int) : Option (List Int) := (spec_l1Cur_coded.f k l0 0 0).bind fun bt656 => (some bt656.1)
theorem spec_DrawEncodeGamma.mono : ∀ a0 k, LeO (spec_DrawEncodeGamma.f k a0) (spec_DrawEncodeGamma.f (k + 1) a0) := by
  intro a0 k
  unfold spec_DrawEncodeGamma.f
  repeat' first
      | (with_reducible exact spec_l1Cur_coded.mono _ _ _ _)
      | (with_reducible exact LeO.refl _)
      | (with_reducible exact LeO.none _)
      | (with_reducible refine LeO.ite ?_ ?_)
      | (with_reducible refine LeO.bind ?_ (fun _ => ?_))
      | exact spec_l1Cur_coded.mono _ _ _ _
      | exact LeO.none _
      | refine LeO.ite ?_ ?_
      | refine LeO.bind ?_ (fun _ => ?_)
noncomputable def spec_DrawEncodeGamma.F (l0 : List Int) : Option (List Int) := lim fun k => spec_DrawEncodeGamma.f k l0
theorem spec_DrawEncodeGamma.F_sup (l0 : List Int) : Sup (fun k => spec_DrawEncodeGamma.f k l0) (spec_DrawEncodeGamma.F l0) := Sup.of_mono fun k => spec_DrawEncodeGamma.mono l0 k
theorem spec_DrawEncodeGamma.F_eq (l0 : List Int) : spec_DrawEncodeGamma.F l0 = (spec_l1Cur_coded.F l0 0 0).bind fun bt656 => (some bt656.1) := by
  refine Sup.unique (spec_DrawEncodeGamma.F_sup l0) (Sup.congr (g' := fun k => (spec_l1Cur_coded.f k l0 0 0).bind fun bt656 => (some bt656.1)) (fun k => by first | rfl | simp only [spec_DrawEncodeGamma.f]) ?_)
  repeat' first
    | (with_reducible exact spec_l1Cur_coded.F_sup _ _ _)
    | (with_reducible refine Sup.ite ?_ ?_)
    | (with_reducible refine Sup.bind ?_ (fun _ => ?_))
    | (with_reducible exact Sup.const _)
    | exact spec_l1Cur_coded.F_sup _ _ _
    | exact Sup.const _
set_option maxHeartbeats 8000000 in
set_option maxRecDepth 100000 in
theorem spec_DrawEncodeGamma.calls (k : Nat) (A0 : Option Addr) (c0 : Nat) (l0 : List Int) (r : List Int) (w : World) (hr0 : Kd.C (Kd.int .u8) w A0 l0.length l0) (hc0 : l0.length ≤ c0) (h : spec_DrawEncodeGamma.f k l0 = some r) :
    Calls Try.prog 33 #[.slice A0 l0.length c0] w fun e w' => ∃ v0_ : Value, e = .returned (v0_) ∧ Kd.R (Kd.int .i64) 3 w' w.heap.size (fun _ => True) v0_ r ∧ Below w.heap.size w w' := by
  have hu68 := Try.underlying68
  have HR0 := Aside0.mk hr0
  have HC0 := Aside0.mk hc0
  clear hr0 hc0
  have HB := Aside0.mk (Below.refl w.heap.size w)
  have H : ((spec_l1Cur_coded.f k l0 0 0).bind fun bt656 => (some bt656.1)) = some r := h
  clear h
  replace H := Option.bind_eq_some_iff.mp H
  obtain ⟨⟨t656, t659, t660⟩, A20, H⟩ := H
  replace H : (some t656) = some r := H
  have A2 := Aside0.mk A20
  clear A20
  obtain rfl := Option.some.inj H
  go_enter Try.func33, Try.ntmps33
  go_wp2_with (first | ((with_reducible refine gate_dst (N := 6) rfl ?_); refine bx_ 6 #[.slice A0 l0.length c0, .int .i64 0, .int .u64 0] 68 ?_; intro gb655 hg w3 hbox hb; have HI655 := Aside0.mk ((show IsS68 w w3 gb655 l0 0 0 from ⟨_, _, hbox, (ge_ hg), HR0.out⟩)); have GW655 := Aside0.mk ((ge_ hg)); have GE655 := Aside0.mk ((ge_ hg)); replace HB := Aside0.mk (below_step hB_ hb); clear hb hbox hg) | ((with_reducible refine gate_callee (f := 60) rfl ?_); refine gl_ 8 Try.func60 #[.pointer (some ⟨gb655, 0, none⟩)] ?_; (with_reducible refine (spec_l1Cur_coded.calls k gb655 l0 0 0 t656 t659 t660 w _ ?side1 ?side2 A2.out).mono ?_); (case side1 => repeat (first | (with_reducible first | exact HI655.out | apply IsS68.alloc | apply IsS68.drewN | apply IsS68.drew | apply IsS68.set_1 | apply IsS68.set_2) | exact HI655.out)); (case side2 => repeat (first | (with_reducible first | exact HB.out | apply below_alloc | apply pw_below_drewN | apply below_drew1 | refine below_set ?_ (IsS68.ge HI655.out)) | exact HB.out)); rintro e w4 ⟨v657, rfl, ho0, hi, hb, hk⟩; refine ⟨_, rfl, ?_⟩; have HO658 := Aside0.mk (Kd.R_lower ho0 (below_size (by repeat (first | (with_reducible first | exact HB.out | apply below_alloc | apply pw_below_drewN | apply below_drew1 | refine below_set ?_ (IsS68.ge HI655.out)) | exact HB.out)))); replace HB := Aside0.mk (hb); replace HI655 := Aside0.mk (hi); (try clear hb); (try clear hb2); (try clear hk); (try clear hi); (try clear ho0)))
  go_ret
  exact ⟨_, rf_, kR_ HO658, by repeat (first | (with_reducible first | exact HB.out | apply below_alloc | apply pw_below_drewN | apply below_drew1 | refine below_set ?_ (IsS68.ge HI655.out)) | exact HB.out)⟩
/-! ### spec_DrawEncodeDelta: function 34 -/
def spec_DrawEncodeDelta.f (k : Nat) (l0 : List Int) : Option (List Int) := (spec_l1Cur_coded.f k l0 0 0).bind fun bt662 => (some bt662.1)
theorem spec_DrawEncodeDelta.mono : ∀ a0 k, LeO (spec_DrawEncodeDelta.f k a0) (spec_DrawEncodeDelta.f (k + 1) a0) := by
  intro a0 k
  unfold spec_DrawEncodeDelta.f
  repeat' first
      | (with_reducible exact spec_l1Cur_coded.mono _ _ _ _)
      | (with_reducible exact LeO.refl _)
      | (with_reducible exact LeO.none _)
      | (with_reducible refine LeO.ite ?_ ?_)
      | (with_reducible refine LeO.bind ?_ (fun _ => ?_))
      | exact spec_l1Cur_coded.mono _ _ _ _
      | exact LeO.none _
      | refine LeO.ite ?_ ?_
      | refine LeO.bind ?_ (fun _ => ?_)
noncomputable def spec_DrawEncodeDelta.F (l0 : List Int) : Option (List Int) := lim fun k => spec_DrawEncodeDelta.f k l0
theorem spec_DrawEncodeDelta.F_sup (l0 : List Int) : Sup (fun k => spec_DrawEncodeDelta.f k l0) (spec_DrawEncodeDelta.F l0) := Sup.of_mono fun k => spec_DrawEncodeDelta.mono l0 k
theorem spec_DrawEncodeDelta.F_eq (l0 : List Int) : spec_DrawEncodeDelta.F l0 = (spec_l1Cur_coded.F l0 0 0).bind fun bt662 => (some bt662.1) := by
  refine Sup.unique (spec_DrawEncodeDelta.F_sup l0) (Sup.congr (g' := fun k => (spec_l1Cur_coded.f k l0 0 0).bind fun bt662 => (some bt662.1)) (fun k => by first | rfl | simp only [spec_DrawEncodeDelta.f]) ?_)
  repeat' first
    | (with_reducible exact spec_l1Cur_coded.F_sup _ _ _)
    | (with_reducible refine Sup.ite ?_ ?_)
    | (with_reducible refine Sup.bind ?_ (fun _ => ?_))
    | (with_reducible exact Sup.const _)
    | exact spec_l1Cur_coded.F_sup _ _ _
    | exact Sup.const _
set_option maxHeartbeats 8000000 in
set_option maxRecDepth 100000 in
theorem spec_DrawEncodeDelta.calls (k : Nat) (A0 : Option Addr) (c0 : Nat) (l0 : List Int) (r : List Int) (w : World) (hr0 : Kd.C (Kd.int .u8) w A0 l0.length l0) (hc0 : l0.length ≤ c0) (h : spec_DrawEncodeDelta.f k l0 = some r) :
    Calls Try.prog 34 #[.slice A0 l0.length c0] w fun e w' => ∃ v0_ : Value, e = .returned (v0_) ∧ Kd.R (Kd.int .i64) 3 w' w.heap.size (fun _ => True) v0_ r ∧ Below w.heap.size w w' := by
  have hu68 := Try.underlying68
  have HR0 := Aside0.mk hr0
  have HC0 := Aside0.mk hc0
  clear hr0 hc0
  have HB := Aside0.mk (Below.refl w.heap.size w)
  have H : ((spec_l1Cur_coded.f k l0 0 0).bind fun bt662 => (some bt662.1)) = some r := h
  clear h
  replace H := Option.bind_eq_some_iff.mp H
  obtain ⟨⟨t662, t665, t666⟩, A20, H⟩ := H
  replace H : (some t662) = some r := H
  have A2 := Aside0.mk A20
  clear A20
  obtain rfl := Option.some.inj H
  go_enter Try.func34, Try.ntmps34
  go_wp2_with (first | ((with_reducible refine gate_dst (N := 6) rfl ?_); refine bx_ 6 #[.slice A0 l0.length c0, .int .i64 0, .int .u64 0] 68 ?_; intro gb661 hg w3 hbox hb; have HI661 := Aside0.mk ((show IsS68 w w3 gb661 l0 0 0 from ⟨_, _, hbox, (ge_ hg), HR0.out⟩)); have GW661 := Aside0.mk ((ge_ hg)); have GE661 := Aside0.mk ((ge_ hg)); replace HB := Aside0.mk (below_step hB_ hb); clear hb hbox hg) | ((with_reducible refine gate_callee (f := 60) rfl ?_); refine gl_ 8 Try.func60 #[.pointer (some ⟨gb661, 0, none⟩)] ?_; (with_reducible refine (spec_l1Cur_coded.calls k gb661 l0 0 0 t662 t665 t666 w _ ?side1 ?side2 A2.out).mono ?_); (case side1 => repeat (first | (with_reducible first | exact HI661.out | apply IsS68.alloc | apply IsS68.drewN | apply IsS68.drew | apply IsS68.set_1 | apply IsS68.set_2) | exact HI661.out)); (case side2 => repeat (first | (with_reducible first | exact HB.out | apply below_alloc | apply pw_below_drewN | apply below_drew1 | refine below_set ?_ (IsS68.ge HI661.out)) | exact HB.out)); rintro e w4 ⟨v663, rfl, ho0, hi, hb, hk⟩; refine ⟨_, rfl, ?_⟩; have HO664 := Aside0.mk (Kd.R_lower ho0 (below_size (by repeat (first | (with_reducible first | exact HB.out | apply below_alloc | apply pw_below_drewN | apply below_drew1 | refine below_set ?_ (IsS68.ge HI661.out)) | exact HB.out)))); replace HB := Aside0.mk (hb); replace HI661 := Aside0.mk (hi); (try clear hb); (try clear hb2); (try clear hk); (try clear hi); (try clear ho0)))
  go_ret
  exact ⟨_, rf_, kR_ HO664, by repeat (first | (with_reducible first | exact HB.out | apply below_alloc | apply pw_below_drewN | apply below_drew1 | refine below_set ?_ (IsS68.ge HI661.out)) | exact HB.out)⟩
/-! ### impl_GammaLength: function 36 -/
def impl_GammaLength.f (k : Nat) (a0 : Int) : Option (Int × Bool) := (impl_in.f a0 1 100000).bind fun t670 => (if t670 = true then ((impl_digits.f k a0).bind fun t671 => (some (wrap64 ((wrap64 (2 * t671)) + 1), true))) else (some (0, false)))
theorem impl_GammaLength.mono : ∀ a0 k, LeO (impl_GammaLength.f k a0) (impl_GammaLength.f (k + 1) a0) := by
  intro a0 k
  unfold impl_GammaLength.f
  repeat' first
      | (with_reducible exact impl_digits.mono _ _)
      | (with_reducible exact LeO.refl _)
      | (with_reducible exact LeO.none _)
      | (with_reducible refine LeO.ite ?_ ?_)
      | (with_reducible refine LeO.bind ?_ (fun _ => ?_))
      | exact impl_digits.mono _ _
      | exact LeO.none _
      | refine LeO.ite ?_ ?_
      | refine LeO.bind ?_ (fun _ => ?_)
noncomputable def impl_GammaLength.F (a0 : Int) : Option (Int × Bool) := lim fun k => impl_GammaLength.f k a0
theorem impl_GammaLength.F_sup (a0 : Int) : Sup (fun k => impl_GammaLength.f k a0) (impl_GammaLength.F a0) := Sup.of_mono fun k => impl_GammaLength.mono a0 k
theorem impl_GammaLength.F_eq (a0 : Int) : impl_GammaLength.F a0 = (impl_in.f a0 1 100000).bind fun t670 => (if t670 = true then ((impl_digits.F a0).bind fun t671 => (some (wrap64 ((wrap64 (2 * t671)) + 1), true))) else (some (0, false))) := by
  refine Sup.unique (impl_GammaLength.F_sup a0) (Sup.congr (g' := fun k => (impl_in.f a0 1 100000).bind fun t670 => (if t670 = true then ((impl_digits.f k a0).bind fun t671 => (some (wrap64 ((wrap64 (2 * t671)) + 1), true))) else (some (0, false)))) (fun k => by first | rfl | simp only [impl_GammaLength.f]) ?_)
  repeat' first
    | (with_reducible exact impl_digits.F_sup _)
    | (with_reducible refine Sup.ite ?_ ?_)
    | (with_reducible refine Sup.bind ?_ (fun _ => ?_))
    | (with_reducible exact Sup.const _)
    | exact impl_digits.F_sup _
    | exact Sup.const _
set_option maxHeartbeats 8000000 in
set_option maxRecDepth 100000 in
theorem impl_GammaLength.calls (k : Nat) (a0 : Int) (r1 : Int) (r2 : Bool) (w : World) (h : impl_GammaLength.f k a0 = some (r1, r2)) :
    Calls Try.prog 36 #[.int .i64 a0] w fun e w' => e = .returned (.tuple #[.int .i64 r1, .bool r2]) ∧ Drawn0 w w' := by
  have H : ((impl_in.f a0 1 100000).bind fun t670 => (if t670 = true then ((impl_digits.f k a0).bind fun t671 => (some (wrap64 ((wrap64 (2 * t671)) + 1), true))) else (some (0, false)))) = some (r1, r2) := h
  clear h
  replace H := Option.bind_eq_some_iff.mp H
  obtain ⟨t670, A20, H⟩ := H
  replace H : (if t670 = true then ((impl_digits.f k a0).bind fun t671 => (some (wrap64 ((wrap64 (2 * t671)) + 1), true))) else (some (0, false))) = some (r1, r2) := H
  have A2 := Aside0.mk A20
  clear A20
  by_cases c3 : t670 = true
  ·subst c3
   have H1 : ((impl_digits.f k a0).bind fun t671 => (some (wrap64 ((wrap64 (2 * t671)) + 1), true))) = some (r1, r2) := by rw [if_pos rfl] at H; exact H
   clear H
   have H := H1
   clear H1
   replace H := Option.bind_eq_some_iff.mp H
   obtain ⟨t671, A40, H⟩ := H
   replace H : (some (wrap64 ((wrap64 (2 * t671)) + 1), true)) = some (r1, r2) := H
   have A4 := Aside0.mk A40
   clear A40
   simp only [Option.some.injEq, Prod.mk.injEq] at H
   obtain ⟨rfl, rfl⟩ := H
   go_enter Try.func36, Try.ntmps36
   go_wp2_with (first | ((with_reducible refine gate_callee (f := 58) rfl ?_); refine gl_ 5 Try.func58 #[.int .i64 a0, .int .i64 1, .int .i64 100000] ?_; (with_reducible refine (impl_in.calls a0 1 100000 true _ A2.out).mono ?_); rintro e w' ⟨rfl, ⟨nd, rfl⟩⟩; refine ⟨_, rfl, ?_⟩) | ((with_reducible refine gate_callee (f := 61) rfl ?_); refine gl_ 8 Try.func61 #[.int .i64 a0] ?_; (with_reducible refine (impl_digits.calls k a0 t671 _ A4.out).mono ?_); rintro e w' ⟨rfl, ⟨nd, rfl⟩⟩; refine ⟨_, rfl, ?_⟩))
   go_ret2
   exact ⟨rg_, by repeat (first | exact Drawn0.refl _ | apply Drawn0.step)⟩
  ·replace c3 := Bool.eq_false_iff.mpr c3
   subst c3
   have H1 : (some (0, false)) = some (r1, r2) := by rw [if_neg (show ¬ (false = true) by decide)] at H; exact H
   clear H
   have H := H1
   clear H1
   simp only [Option.some.injEq, Prod.mk.injEq] at H
   obtain ⟨rfl, rfl⟩ := H
   go_enter Try.func36, Try.ntmps36
   go_wp2_with (first | ((with_reducible refine gate_callee (f := 58) rfl ?_); refine gl_ 5 Try.func58 #[.int .i64 a0, .int .i64 1, .int .i64 100000] ?_; (with_reducible refine (impl_in.calls a0 1 100000 false _ A2.out).mono ?_); rintro e w' ⟨rfl, ⟨nd, rfl⟩⟩; refine ⟨_, rfl, ?_⟩))
   go_ret2
   exact ⟨rg_, by repeat (first | exact Drawn0.refl _ | apply Drawn0.step)⟩
/-! ### impl_DeltaLength: function 37 -/
def impl_DeltaLength.f (k : Nat) (a0 : Int) : Option (Int × Bool) := (impl_in.f a0 1 100000).bind fun t672 => (if t672 = true then ((impl_digits.f k a0).bind fun t673 => ((impl_digits.f k (wrap64 (t673 + 1))).bind fun t674 => (some (wrap64 ((wrap64 ((wrap64 (2 * t674)) + 1)) + t673), true)))) else (some (0, false)))
theorem impl_DeltaLength.mono : ∀ a0 k, LeO (impl_DeltaLength.f k a0) (impl_DeltaLength.f (k + 1) a0) := by
  intro a0 k
  unfold impl_DeltaLength.f
  repeat' first
      | (with_reducible exact impl_digits.mono _ _)
      | (with_reducible exact LeO.refl _)
      | (with_reducible exact LeO.none _)
      | (with_reducible refine LeO.ite ?_ ?_)
      | (with_reducible refine LeO.bind ?_ (fun _ => ?_))
      | exact impl_digits.mono _ _
      | exact LeO.none _
      | refine LeO.ite ?_ ?_
      | refine LeO.bind ?_ (fun _ => ?_)
noncomputable def impl_DeltaLength.F (a0 : Int) : Option (Int × Bool) := lim fun k => impl_DeltaLength.f k a0
theorem impl_DeltaLength.F_sup (a0 : Int) : Sup (fun k => impl_DeltaLength.f k a0) (impl_DeltaLength.F a0) := Sup.of_mono fun k => impl_DeltaLength.mono a0 k
theorem impl_DeltaLength.F_eq (a0 : Int) : impl_DeltaLength.F a0 = (impl_in.f a0 1 100000).bind fun t672 => (if t672 = true then ((impl_digits.F a0).bind fun t673 => ((impl_digits.F (wrap64 (t673 + 1))).bind fun t674 => (some (wrap64 ((wrap64 ((wrap64 (2 * t674)) + 1)) + t673), true)))) else (some (0, false))) := by
  refine Sup.unique (impl_DeltaLength.F_sup a0) (Sup.congr (g' := fun k => (impl_in.f a0 1 100000).bind fun t672 => (if t672 = true then ((impl_digits.f k a0).bind fun t673 => ((impl_digits.f k (wrap64 (t673 + 1))).bind fun t674 => (some (wrap64 ((wrap64 ((wrap64 (2 * t674)) + 1)) + t673), true)))) else (some (0, false)))) (fun k => by first | rfl | simp only [impl_DeltaLength.f]) ?_)
  repeat' first
    | (with_reducible exact impl_digits.F_sup _)
    | (with_reducible refine Sup.ite ?_ ?_)
    | (with_reducible refine Sup.bind ?_ (fun _ => ?_))
    | (with_reducible exact Sup.const _)
    | exact impl_digits.F_sup _
    | exact Sup.const _
set_option maxHeartbeats 8000000 in
set_option maxRecDepth 100000 in
theorem impl_DeltaLength.calls (k : Nat) (a0 : Int) (r1 : Int) (r2 : Bool) (w : World) (h : impl_DeltaLength.f k a0 = some (r1, r2)) :
    Calls Try.prog 37 #[.int .i64 a0] w fun e w' => e = .returned (.tuple #[.int .i64 r1, .bool r2]) ∧ Drawn0 w w' := by
  have H : ((impl_in.f a0 1 100000).bind fun t672 => (if t672 = true then ((impl_digits.f k a0).bind fun t673 => ((impl_digits.f k (wrap64 (t673 + 1))).bind fun t674 => (some (wrap64 ((wrap64 ((wrap64 (2 * t674)) + 1)) + t673), true)))) else (some (0, false)))) = some (r1, r2) := h
  clear h
  replace H := Option.bind_eq_some_iff.mp H
  obtain ⟨t672, A20, H⟩ := H
  replace H : (if t672 = true then ((impl_digits.f k a0).bind fun t673 => ((impl_digits.f k (wrap64 (t673 + 1))).bind fun t674 => (some (wrap64 ((wrap64 ((wrap64 (2 * t674)) + 1)) + t673), true)))) else (some (0, false))) = some (r1, r2) := H
  have A2 := Aside0.mk A20
  clear A20
  by_cases c3 : t672 = true
  ·subst c3
   have H1 : ((impl_digits.f k a0).bind fun t673 => ((impl_digits.f k (wrap64 (t673 + 1))).bind fun t674 => (some (wrap64 ((wrap64 ((wrap64 (2 * t674)) + 1)) + t673), true)))) = some (r1, r2) := by rw [if_pos rfl] at H; exact H
   clear H
   have H := H1
   clear H1
   replace H := Option.bind_eq_some_iff.mp H
   obtain ⟨t673, A40, H⟩ := H
   replace H : ((impl_digits.f k (wrap64 (t673 + 1))).bind fun t674 => (some (wrap64 ((wrap64 ((wrap64 (2 * t674)) + 1)) + t673), true))) = some (r1, r2) := H
   have A4 := Aside0.mk A40
   clear A40
   replace H := Option.bind_eq_some_iff.mp H
   obtain ⟨t674, A50, H⟩ := H
   replace H : (some (wrap64 ((wrap64 ((wrap64 (2 * t674)) + 1)) + t673), true)) = some (r1, r2) := H
   have A5 := Aside0.mk A50
   clear A50
   simp only [Option.some.injEq, Prod.mk.injEq] at H
   obtain ⟨rfl, rfl⟩ := H
   go_enter Try.func37, Try.ntmps37
   go_wp2_with (first | ((with_reducible refine gate_callee (f := 58) rfl ?_); refine gl_ 6 Try.func58 #[.int .i64 a0, .int .i64 1, .int .i64 100000] ?_; (with_reducible refine (impl_in.calls a0 1 100000 true _ A2.out).mono ?_); rintro e w' ⟨rfl, ⟨nd, rfl⟩⟩; refine ⟨_, rfl, ?_⟩) | ((with_reducible refine gate_callee (f := 61) rfl ?_); refine gl_ 9 Try.func61 #[.int .i64 a0] ?_; (with_reducible refine (impl_digits.calls k a0 t673 _ A4.out).mono ?_); rintro e w' ⟨rfl, ⟨nd, rfl⟩⟩; refine ⟨_, rfl, ?_⟩) | ((with_reducible refine gate_callee (f := 61) rfl ?_); refine gl_ 12 Try.func61 #[.int .i64 (wrap64 (t673 + 1))] ?_; (with_reducible refine (impl_digits.calls k (wrap64 (t673 + 1)) t674 _ A5.out).mono ?_); rintro e w' ⟨rfl, ⟨nd, rfl⟩⟩; refine ⟨_, rfl, ?_⟩))
   go_ret2
   exact ⟨rg_, by repeat (first | exact Drawn0.refl _ | apply Drawn0.step)⟩
  ·replace c3 := Bool.eq_false_iff.mpr c3
   subst c3
   have H1 : (some (0, false)) = some (r1, r2) := by rw [if_neg (show ¬ (false = true) by decide)] at H; exact H
   clear H
   have H := H1
   clear H1
   simp only [Option.some.injEq, Prod.mk.injEq] at H
   obtain ⟨rfl, rfl⟩ := H
   go_enter Try.func37, Try.ntmps37
   go_wp2_with (first | ((with_reducible refine gate_callee (f := 58) rfl ?_); refine gl_ 6 Try.func58 #[.int .i64 a0, .int .i64 1, .int .i64 100000] ?_; (with_reducible refine (impl_in.calls a0 1 100000 false _ A2.out).mono ?_); rintro e w' ⟨rfl, ⟨nd, rfl⟩⟩; refine ⟨_, rfl, ?_⟩))
   go_ret2
   exact ⟨rg_, by repeat (first | exact Drawn0.refl _ | apply Drawn0.step)⟩
/-! ### impl_joinBits_1: function 94 -/
def impl_joinBits_1.f (a0 : Int) (a1_0 : Int) (l1_1 : List Int) (a2_0 : Int) (l2_1 : List Int) : Option (Bool) := if a0 < a1_0 then ((impl_Bits_at.f a1_0 l1_1 a0).bind fun t675 => (some t675)) else ((impl_Bits_at.f a2_0 l2_1 (wrap64 (a0 - a1_0))).bind fun t676 => (some t676))
set_option maxHeartbeats 8000000 in
set_option maxRecDepth 100000 in
theorem impl_joinBits_1.calls (a0 : Int) (gb1_ : Nat) (a1_0 : Int) (A1_1 : Option Addr) (c1_1 : Nat) (l1_1 : List Int) (gb2_ : Nat) (a2_0 : Int) (A2_1 : Option Addr) (c2_1 : Nat) (l2_1 : List Int) (r : Bool) (w : World) (hr1_1 : Kd.C (Kd.int .i64) w A1_1 l1_1.length l1_1) (hc1_1 : l1_1.length ≤ c1_1) (hr2_1 : Kd.C (Kd.int .i64) w A2_1 l2_1.length l2_1) (hc2_1 : l2_1.length ≤ c2_1) (hb1_ : w.heap[gb1_]? = some (.cells #[.int .i64 a1_0, .slice A1_1 l1_1.length c1_1] 24 (0, 0))) (hb2_ : w.heap[gb2_]? = some (.cells #[.int .i64 a2_0, .slice A2_1 l2_1.length c2_1] 24 (0, 0))) (h : impl_joinBits_1.f a0 a1_0 l1_1 a2_0 l2_1 = some r) :
    Calls Try.prog 94 #[.int .i64 a0, .pointer (some ⟨gb1_, 0, none⟩), .pointer (some ⟨gb2_, 0, none⟩)] w fun e w' => e = .returned (.bool r) ∧ Drawn0 w w' := by
  have HR1_1 := Aside0.mk hr1_1
  have HC1_1 := Aside0.mk hc1_1
  clear hr1_1 hc1_1
  have HR2_1 := Aside0.mk hr2_1
  have HC2_1 := Aside0.mk hc2_1
  clear hr2_1 hc2_1
  have BK1 := Aside0.mk hb1_
  clear hb1_
  have BK2 := Aside0.mk hb2_
  clear hb2_
  have H : (if a0 < a1_0 then ((impl_Bits_at.f a1_0 l1_1 a0).bind fun t675 => (some t675)) else ((impl_Bits_at.f a2_0 l2_1 (wrap64 (a0 - a1_0))).bind fun t676 => (some t676))) = some r := h
  clear h
  by_cases c4 : a0 < a1_0
  ·rw [if_pos c4] at H
   have c4b0 : decide (a0 < a1_0) = true := decide_eq_true c4
   clear c4
   replace H := Option.bind_eq_some_iff.mp H
   obtain ⟨t675, A50, H⟩ := H
   replace H : (some t675) = some r := H
   have A5 := Aside0.mk A50
   clear A50
   obtain rfl := Option.some.inj H
   have hcz6_0 : w.cell? ⟨gb1_, 0, none⟩ = some (.int .i64 a1_0) := (blk_cell BK1.out 0).trans rfl
   have hcz6_1 : w.cell? ⟨gb1_, 1, none⟩ = some (.slice A1_1 l1_1.length c1_1) := (blk_cell BK1.out 1).trans rfl
   have hfz6_0 := blk_frozen BK1.out 0
   have hfz6_1 := blk_frozen BK1.out 1
   go_enter Try.func94, Try.ntmps94
   go_wp2_with (first | ((with_reducible refine gate_callee (f := 78) rfl ?_); refine gl_ 10 Try.func78 #[.pointer (some ⟨gb1_, 0, none⟩), .int .i64 a0] ?_; (with_reducible refine (impl_Bits_at.calls gb1_ a1_0 A1_1 c1_1 l1_1 a0 t675 _ ?side1 ?side2 ?side3 A5.out).mono ?_); (case side1 => exact kE_ HR1_1); (case side2 => exact HC1_1.out); (case side3 => exact (kB_ BK1)); rintro e w' ⟨rfl, ⟨nd, rfl⟩⟩; refine ⟨_, rfl, ?_⟩))
   go_ret
   exact ⟨rg_, by repeat (first | exact Drawn0.refl _ | apply Drawn0.step)⟩
  ·rw [if_neg c4] at H
   have c4b0 : decide (a0 < a1_0) = false := decide_eq_false c4
   clear c4
   replace H := Option.bind_eq_some_iff.mp H
   obtain ⟨t676, A70, H⟩ := H
   replace H : (some t676) = some r := H
   have A7 := Aside0.mk A70
   clear A70
   obtain rfl := Option.some.inj H
   have hcz8_0 : w.cell? ⟨gb1_, 0, none⟩ = some (.int .i64 a1_0) := (blk_cell BK1.out 0).trans rfl
   have hcz8_1 : w.cell? ⟨gb1_, 1, none⟩ = some (.slice A1_1 l1_1.length c1_1) := (blk_cell BK1.out 1).trans rfl
   have hfz8_0 := blk_frozen BK1.out 0
   have hfz8_1 := blk_frozen BK1.out 1
   go_enter Try.func94, Try.ntmps94
   go_wp2_with (first | ((with_reducible refine gate_callee (f := 78) rfl ?_); refine gl_ 15 Try.func78 #[.pointer (some ⟨gb2_, 0, none⟩), .int .i64 (wrap64 (a0 - a1_0))] ?_; (with_reducible refine (impl_Bits_at.calls gb2_ a2_0 A2_1 c2_1 l2_1 (wrap64 (a0 - a1_0)) t676 _ ?side1 ?side2 ?side3 A7.out).mono ?_); (case side1 => exact kE_ HR2_1); (case side2 => exact HC2_1.out); (case side3 => exact (kB_ BK2)); rintro e w' ⟨rfl, ⟨nd, rfl⟩⟩; refine ⟨_, rfl, ?_⟩))
   go_ret
   exact ⟨rg_, by repeat (first | exact Drawn0.refl _ | apply Drawn0.step)⟩
/-! ### impl_madeBits_at_impl_joinBits_1: function 134 -/
def impl_madeBits_at_impl_joinBits_1.l0 : Nat → Int → Int → Int → List Int → Int → List Int → Int → List Int → Option (Int × List Int)
  | 0, _, _, _, _, _, _, _, _ => none
  | k + 1, x9, x10, x2000, x2001, x3000, x3001, x683000, x683001 => if x10 < x9 then ((impl_joinBits_1.f x10 x2000 x2001 x3000 x3001).bind fun t683 => ((impl_Bits_set.f x683000 x683001 x10 t683).bind fun t684 => (impl_madeBits_at_impl_joinBits_1.l0 k x9 (wrap64 (x10 + 1)) x2000 x2001 x3000 x3001 x683000 t684))) else (some (x683000, x683001))
def impl_madeBits_at_impl_joinBits_1.f (k : Nat) (a0 : Int) (a1_0 : Int) (l1_1 : List Int) (a2_0 : Int) (l2_1 : List Int) : Option (Int × List Int) := (impl_blank.f a0).bind fun bt678 => (impl_madeBits_at_impl_joinBits_1.l0 k a0 0 a1_0 l1_1 a2_0 l2_1 bt678.1 bt678.2)
theorem impl_madeBits_at_impl_joinBits_1.mono_l : ∀ k, (∀ y0 y1 y2 y3 y4 y5 y6 y7, LeO (impl_madeBits_at_impl_joinBits_1.l0 k y0 y1 y2 y3 y4 y5 y6 y7) (impl_madeBits_at_impl_joinBits_1.l0 (k + 1) y0 y1 y2 y3 y4 y5 y6 y7))
  | 0 => fun _ _ _ _ _ _ _ _ r h => by simp [impl_madeBits_at_impl_joinBits_1.l0] at h
  | k + 1 => by
    have ih0 := impl_madeBits_at_impl_joinBits_1.mono_l k
    · intro y0 y1 y2 y3 y4 y5 y6 y7
      unfold impl_madeBits_at_impl_joinBits_1.l0
      repeat' first
      | (with_reducible exact ih0 _ _ _ _ _ _ _ _)
      | (with_reducible exact LeO.refl _)
      | (with_reducible exact LeO.none _)
      | (with_reducible refine LeO.ite ?_ ?_)
      | (with_reducible refine LeO.bind ?_ (fun _ => ?_))
      | exact ih0 _ _ _ _ _ _ _ _
      | exact LeO.none _
      | refine LeO.ite ?_ ?_
      | refine LeO.bind ?_ (fun _ => ?_)
theorem impl_madeBits_at_impl_joinBits_1.mono : ∀ a0 a1 a2 a3 a4 k, LeO (impl_madeBits_at_impl_joinBits_1.f k a0 a1 a2 a3 a4) (impl_madeBits_at_impl_joinBits_1.f (k + 1) a0 a1 a2 a3 a4) := by
  intro a0 a1 a2 a3 a4 k
  have ih0 := impl_madeBits_at_impl_joinBits_1.mono_l k
  unfold impl_madeBits_at_impl_joinBits_1.f
  repeat' first
      | (with_reducible exact ih0 _ _ _ _ _ _ _ _)
      | (with_reducible exact LeO.refl _)
      | (with_reducible exact LeO.none _)
      | (with_reducible refine LeO.ite ?_ ?_)
      | (with_reducible refine LeO.bind ?_ (fun _ => ?_))
      | exact ih0 _ _ _ _ _ _ _ _
      | exact LeO.none _
      | refine LeO.ite ?_ ?_
      | refine LeO.bind ?_ (fun _ => ?_)
noncomputable def impl_madeBits_at_impl_joinBits_1.L0 (y0 : Int) (y1 : Int) (y2 : Int) (y3 : List Int) (y4 : Int) (y5 : List Int) (y6 : Int) (y7 : List Int) : Option (Int × List Int) := lim fun k => impl_madeBits_at_impl_joinBits_1.l0 k y0 y1 y2 y3 y4 y5 y6 y7
theorem impl_madeBits_at_impl_joinBits_1.L0_sup (y0 : Int) (y1 : Int) (y2 : Int) (y3 : List Int) (y4 : Int) (y5 : List Int) (y6 : Int) (y7 : List Int) : Sup (fun k => impl_madeBits_at_impl_joinBits_1.l0 k y0 y1 y2 y3 y4 y5 y6 y7) (impl_madeBits_at_impl_joinBits_1.L0 y0 y1 y2 y3 y4 y5 y6 y7) := Sup.of_mono fun k => impl_madeBits_at_impl_joinBits_1.mono_l k y0 y1 y2 y3 y4 y5 y6 y7
noncomputable def impl_madeBits_at_impl_joinBits_1.F (a0 : Int) (a1_0 : Int) (l1_1 : List Int) (a2_0 : Int) (l2_1 : List Int) : Option (Int × List Int) := lim fun k => impl_madeBits_at_impl_joinBits_1.f k a0 a1_0 l1_1 a2_0 l2_1
theorem impl_madeBits_at_impl_joinBits_1.F_sup (a0 : Int) (a1_0 : Int) (l1_1 : List Int) (a2_0 : Int) (l2_1 : List Int) : Sup (fun k => impl_madeBits_at_impl_joinBits_1.f k a0 a1_0 l1_1 a2_0 l2_1) (impl_madeBits_at_impl_joinBits_1.F a0 a1_0 l1_1 a2_0 l2_1) := Sup.of_mono fun k => impl_madeBits_at_impl_joinBits_1.mono a0 a1_0 l1_1 a2_0 l2_1 k
theorem impl_madeBits_at_impl_joinBits_1.L0_eq (x9 : Int) (x10 : Int) (x2000 : Int) (x2001 : List Int) (x3000 : Int) (x3001 : List Int) (x683000 : Int) (x683001 : List Int) : impl_madeBits_at_impl_joinBits_1.L0 x9 x10 x2000 x2001 x3000 x3001 x683000 x683001 = if x10 < x9 then ((impl_joinBits_1.f x10 x2000 x2001 x3000 x3001).bind fun t683 => ((impl_Bits_set.f x683000 x683001 x10 t683).bind fun t684 => (impl_madeBits_at_impl_joinBits_1.L0 x9 (wrap64 (x10 + 1)) x2000 x2001 x3000 x3001 x683000 t684))) else (some (x683000, x683001)) := by
  refine Sup.unique (impl_madeBits_at_impl_joinBits_1.L0_sup x9 x10 x2000 x2001 x3000 x3001 x683000 x683001) (Sup.shift (fun k => impl_madeBits_at_impl_joinBits_1.mono_l k x9 x10 x2000 x2001 x3000 x3001 x683000 x683001) (Sup.congr (g' := fun k => if x10 < x9 then ((impl_joinBits_1.f x10 x2000 x2001 x3000 x3001).bind fun t683 => ((impl_Bits_set.f x683000 x683001 x10 t683).bind fun t684 => (impl_madeBits_at_impl_joinBits_1.l0 k x9 (wrap64 (x10 + 1)) x2000 x2001 x3000 x3001 x683000 t684))) else (some (x683000, x683001))) (fun k => by first | rfl | simp only [impl_madeBits_at_impl_joinBits_1.l0]) ?_))
  repeat' first
    | (with_reducible exact impl_madeBits_at_impl_joinBits_1.L0_sup _ _ _ _ _ _ _ _)
    | (with_reducible refine Sup.ite ?_ ?_)
    | (with_reducible refine Sup.bind ?_ (fun _ => ?_))
    | (with_reducible exact Sup.const _)
    | exact impl_madeBits_at_impl_joinBits_1.L0_sup _ _ _ _ _ _ _ _
    | exact Sup.const _
theorem impl_madeBits_at_impl_joinBits_1.F_eq (a0 : Int) (a1_0 : Int) (l1_1 : List Int) (a2_0 : Int) (l2_1 : List Int) : impl_madeBits_at_impl_joinBits_1.F a0 a1_0 l1_1 a2_0 l2_1 = (impl_blank.f a0).bind fun bt678 => (impl_madeBits_at_impl_joinBits_1.L0 a0 0 a1_0 l1_1 a2_0 l2_1 bt678.1 bt678.2) := by
  refine Sup.unique (impl_madeBits_at_impl_joinBits_1.F_sup a0 a1_0 l1_1 a2_0 l2_1) (Sup.congr (g' := fun k => (impl_blank.f a0).bind fun bt678 => (impl_madeBits_at_impl_joinBits_1.l0 k a0 0 a1_0 l1_1 a2_0 l2_1 bt678.1 bt678.2)) (fun k => by first | rfl | simp only [impl_madeBits_at_impl_joinBits_1.f]) ?_)
  repeat' first
    | (with_reducible exact impl_madeBits_at_impl_joinBits_1.L0_sup _ _ _ _ _ _ _ _)
    | (with_reducible refine Sup.ite ?_ ?_)
    | (with_reducible refine Sup.bind ?_ (fun _ => ?_))
    | (with_reducible exact Sup.const _)
    | exact impl_madeBits_at_impl_joinBits_1.L0_sup _ _ _ _ _ _ _ _
    | exact Sup.const _
set_option maxHeartbeats 8000000 in
set_option maxRecDepth 100000 in
theorem impl_madeBits_at_impl_joinBits_1.calls (k : Nat) (a0 : Int) (gb1_ : Nat) (a1_0 : Int) (A1_1 : Option Addr) (c1_1 : Nat) (l1_1 : List Int) (gb2_ : Nat) (a2_0 : Int) (A2_1 : Option Addr) (c2_1 : Nat) (l2_1 : List Int) (r1 : Int) (r2 : List Int) (w : World) (hr1_1 : Kd.C (Kd.int .i64) w A1_1 l1_1.length l1_1) (hc1_1 : l1_1.length ≤ c1_1) (hr2_1 : Kd.C (Kd.int .i64) w A2_1 l2_1.length l2_1) (hc2_1 : l2_1.length ≤ c2_1) (hb1_ : w.heap[gb1_]? = some (.cells #[.int .i64 a1_0, .slice A1_1 l1_1.length c1_1] 24 (0, 0))) (hb2_ : w.heap[gb2_]? = some (.cells #[.int .i64 a2_0, .slice A2_1 l2_1.length c2_1] 24 (0, 0))) (h : impl_madeBits_at_impl_joinBits_1.f k a0 a1_0 l1_1 a2_0 l2_1 = some (r1, r2)) :
    Calls Try.prog 82 #[.int .i64 a0, .func (.func 94) #[] #[.pointer (some ⟨gb1_, 0, none⟩), .pointer (some ⟨gb2_, 0, none⟩)]] w fun e w' => ∃ v1_ : Value, e = .returned (.agg #[.int .i64 r1, v1_]) ∧ Kd.R (Kd.int .i64) 3 w' w.heap.size (fun _ => True) v1_ r2 ∧ Below w.heap.size w w' := by
  have hu24 := Try.underlying24
  have HR1_1 := Aside0.mk hr1_1
  have HC1_1 := Aside0.mk hc1_1
  clear hr1_1 hc1_1
  have HR2_1 := Aside0.mk hr2_1
  have HC2_1 := Aside0.mk hc2_1
  clear hr2_1 hc2_1
  have BK1 := Aside0.mk hb1_
  clear hb1_
  have BK2 := Aside0.mk hb2_
  clear hb2_
  have HB := Aside0.mk (Below.refl w.heap.size w)
  have H : ((impl_blank.f a0).bind fun bt678 => (impl_madeBits_at_impl_joinBits_1.l0 k a0 0 a1_0 l1_1 a2_0 l2_1 bt678.1 bt678.2)) = some (r1, r2) := h
  clear h
  replace H := Option.bind_eq_some_iff.mp H
  obtain ⟨⟨t678, t679⟩, A40, H⟩ := H
  replace H : (impl_madeBits_at_impl_joinBits_1.l0 k a0 0 a1_0 l1_1 a2_0 l2_1 t678 t679) = some (r1, r2) := H
  have A4 := Aside0.mk A40
  clear A40
  have H' := Aside0.mk H
  clear H
  go_enter Try.func82, Try.ntmps82
  go_wp2_with (first | ((with_reducible refine gate_dst (N := 4) rfl ?_); refine bx_ 4 #[.int .i64 0, .slice none 0 0] 24 ?_; intro gb677 hg w5 hbox hb; have BK677 := Aside0.mk (hbox); have GW677 := Aside0.mk ((ge_ hg)); have GE677 := Aside0.mk ((ge_ hg)); replace HB := Aside0.mk (below_step hB_ hb); have NB1_677 := Aside0.mk ((ne_ hg BK1)); have NB677_1 := Aside0.mk ((nf_ hg BK1)); replace BK1 := Aside0.mk (blk_below (kB_ BK1) hb); have NB2_677 := Aside0.mk ((ne_ hg BK2)); have NB677_2 := Aside0.mk ((nf_ hg BK2)); replace BK2 := Aside0.mk (blk_below (kB_ BK2) hb); clear hb hbox hg) | ((with_reducible refine gate_callee (f := 106) rfl ?_); refine gl_ 8 Try.func106 #[.int .i64 a0] ?_; (with_reducible refine (impl_blank.calls a0 t678 t679 _ A4.out).mono ?_); rintro e w6 ⟨v680, rfl, ho0, hb⟩; refine ⟨_, rfl, ?_⟩; have HO681 := Aside0.mk (Kd.R_lower ho0 (below_size hB_)); replace BK1 := Aside0.mk (blk_below (kB_ BK1) hb); replace BK2 := Aside0.mk (blk_below (kB_ BK2) hb); replace BK677 := Aside0.mk (blk_below (kB_ BK677) hb); replace HB := Aside0.mk (below_step hB_ hb); (try clear hb); (try clear hb2); (try clear hk); (try clear hi); (try clear ho0)) | ((with_reducible refine gate_dst (N := 5) rfl ?_); refine bx_ 5 #[.int .i64 0, .slice none 0 0] 24 ?_; intro gb682 hg w7 hbox hb; replace HO681 := Aside0.mk (Kd.R_below (kR_ HO681) hb); have BK682 := Aside0.mk (hbox); have GW682 := Aside0.mk ((ge_ hg)); have GE682 := Aside0.mk ((ge_ hg)); replace HB := Aside0.mk (below_step hB_ hb); have NB1_682 := Aside0.mk ((ne_ hg BK1)); have NB682_1 := Aside0.mk ((nf_ hg BK1)); replace BK1 := Aside0.mk (blk_below (kB_ BK1) hb); have NB2_682 := Aside0.mk ((ne_ hg BK2)); have NB682_2 := Aside0.mk ((nf_ hg BK2)); replace BK2 := Aside0.mk (blk_below (kB_ BK2) hb); have NB677_682 := Aside0.mk ((ne_ hg BK677)); have NB682_677 := Aside0.mk ((nf_ hg BK677)); replace BK677 := Aside0.mk (blk_below (kB_ BK677) hb); clear hb hbox hg; have hnb8 := NB682_1.out; have hnc8 := NB1_682.out; have hnb9 := NB682_2.out; have hnc9 := NB2_682.out; have hnb10 := NB682_677.out; have hnc10 := NB677_682.out; have hcz11_0 : w7.cell? ⟨gb682, 0, none⟩ = some (.int .i64 0) := (blk_cell BK682.out 0).trans rfl; have hcz11_1 : w7.cell? ⟨gb682, 1, none⟩ = some (.slice none 0 0) := (blk_cell BK682.out 1).trans rfl; have hfz11_0 := blk_frozen BK682.out 0; have hfz11_1 := blk_frozen BK682.out 1; obtain ⟨Ao12, co12, eo12⟩ := Kd.R_slice HO681.out; subst eo12))
  go_loopg [10] k (fun kq v10 w' => ∃ (x10_1 : Int) (x683001_1 : List Int) (u683001 : Value), v10 = .int .i64 x10_1 ∧ Aside0 (impl_madeBits_at_impl_joinBits_1.l0 kq a0 x10_1 a1_0 l1_1 a2_0 l2_1 t678 x683001_1 = some (r1, r2)) ∧ Aside0 (kq ≤ k) ∧ Aside0 (Kd.R (Kd.int .i64) 3 w' w.heap.size (fun _ => True) u683001 x683001_1) ∧ Aside0 (w'.heap[gb1_]? = some (.cells #[.int .i64 a1_0, (.slice A1_1 l1_1.length c1_1)] 24 (0, 0))) ∧ Aside0 (w'.heap[gb2_]? = some (.cells #[.int .i64 a2_0, (.slice A2_1 l2_1.length c2_1)] 24 (0, 0))) ∧ Aside0 (w'.heap[gb677]? = some (.cells #[.int .i64 0, (.slice none 0 0)] 24 (0, 0))) ∧ Aside0 (w'.heap[gb682]? = some (.cells #[.int .i64 t678, u683001] 24 (0, 0))) ∧ Aside0 (Below w.heap.size w w'))
  case atStart => exact ⟨(0), (t679), (.slice Ao12 t679.length co12), rg_, H', ⟨Nat.le_refl _⟩, ⟨by (with_reducible repeat (first | apply Kd.R_alloc | apply Kd.R_drewN | apply Kd.R_drew)); exact Kd.R_mono (Kd.R_far (p := ⟨gb682, 1, none⟩) (Kd.R_far (p := ⟨gb682, 0, none⟩) (Kd.R_types HO681.out BK682.out (by decide)) (fun _ hk => hk.2) (.int .i64 t678)) (fun _ hk => hk.2) (.slice Ao12 t679.length co12)) (fun _ hk => trivial)⟩, ⟨by (with_reducible repeat (first | refine blk_drewN ?_ _ | refine blk_drew ?_ | refine blk_alloc ?_ _)); refine blk_far ?_ NB1_682.out _; (with_reducible repeat (first | refine blk_drewN ?_ _ | refine blk_drew ?_ | refine blk_alloc ?_ _)); refine blk_far ?_ NB1_682.out _; (with_reducible repeat (first | refine blk_drewN ?_ _ | refine blk_drew ?_ | refine blk_alloc ?_ _)); exact BK1.out⟩, ⟨by (with_reducible repeat (first | refine blk_drewN ?_ _ | refine blk_drew ?_ | refine blk_alloc ?_ _)); refine blk_far ?_ NB2_682.out _; (with_reducible repeat (first | refine blk_drewN ?_ _ | refine blk_drew ?_ | refine blk_alloc ?_ _)); refine blk_far ?_ NB2_682.out _; (with_reducible repeat (first | refine blk_drewN ?_ _ | refine blk_drew ?_ | refine blk_alloc ?_ _)); exact BK2.out⟩, ⟨by (with_reducible repeat (first | refine blk_drewN ?_ _ | refine blk_drew ?_ | refine blk_alloc ?_ _)); refine blk_far ?_ NB677_682.out _; (with_reducible repeat (first | refine blk_drewN ?_ _ | refine blk_drew ?_ | refine blk_alloc ?_ _)); refine blk_far ?_ NB677_682.out _; (with_reducible repeat (first | refine blk_drewN ?_ _ | refine blk_drew ?_ | refine blk_alloc ?_ _)); exact BK677.out⟩, ⟨by (with_reducible repeat (first | refine blk_drewN ?_ _ | refine blk_drew ?_ | refine blk_alloc ?_ _)); refine blk_put (cs := #[.int .i64 t678, .slice none 0 0]) ?_ 1 _ rfl; (with_reducible repeat (first | refine blk_drewN ?_ _ | refine blk_drew ?_ | refine blk_alloc ?_ _)); refine blk_put (cs := #[.int .i64 0, .slice none 0 0]) ?_ 0 _ rfl; (with_reducible repeat (first | refine blk_drewN ?_ _ | refine blk_drew ?_ | refine blk_alloc ?_ _)); exact BK682.out⟩, ⟨hB_⟩⟩
  case round =>
   clear H'
   try clear c1
   try clear c2
   try clear p2
   try clear c8
   try clear c9
   try clear c10
   try clear hcz11_0
   try clear hcz11_1
   try clear hfz11_0
   try clear hfz11_1
   obtain ⟨x10_1, x683001_1, u683001, rfl, HA, HK1, HO_683001, BK1, BK2, BK677, BK682, HB⟩ := hrel
   cases gk with
   | zero => exact absurd HA.out (by simp [impl_madeBits_at_impl_joinBits_1.l0])
   | succ k1 =>
    have H := HA.out
    clear HA
    simp only [impl_madeBits_at_impl_joinBits_1.l0] at H
    by_cases c13 : x10_1 < a0
    ·rw [if_pos c13] at H
     have c13b0 : decide (x10_1 < a0) = true := decide_eq_true c13
     clear c13
     replace H := Option.bind_eq_some_iff.mp H
     obtain ⟨t683, A140, H⟩ := H
     replace H : ((impl_Bits_set.f t678 x683001_1 x10_1 t683).bind fun t684 => (impl_madeBits_at_impl_joinBits_1.l0 k1 a0 (wrap64 (x10_1 + 1)) a1_0 l1_1 a2_0 l2_1 t678 t684)) = some (r1, r2) := H
     have A14 := Aside0.mk A140
     clear A140
     replace H := Option.bind_eq_some_iff.mp H
     obtain ⟨t684, A150, H⟩ := H
     replace H : (impl_madeBits_at_impl_joinBits_1.l0 k1 a0 (wrap64 (x10_1 + 1)) a1_0 l1_1 a2_0 l2_1 t678 t684) = some (r1, r2) := H
     have A15 := Aside0.mk A150
     clear A150
     have H' := Aside0.mk H
     clear H
     go_wp2_with (first | (go_at_call 94; (with_reducible refine (impl_joinBits_1.calls x10_1 gb1_ a1_0 A1_1 c1_1 l1_1 gb2_ a2_0 A2_1 c2_1 l2_1 t683 _ ?side1 ?side2 ?side3 ?side4 ?side5 ?side6 A14.out).mono ?_); (case side1 => exact kC_ HR1_1); (case side2 => exact HC1_1.out); (case side3 => exact kC_ HR2_1); (case side4 => exact HC2_1.out); (case side5 => exact (kB_ BK1)); (case side6 => exact (kB_ BK2)); rintro e w' ⟨rfl, ⟨nd, rfl⟩⟩; obtain ⟨Ao16, co16, eo16⟩ := Kd.R_slice HO_683001.out; subst eo16) | ((with_reducible refine gate_callee (f := 101) rfl ?_); refine gl_ 17 Try.func101 #[.pointer (some ⟨gb682, 0, none⟩), .int .i64 x10_1, .bool t683] ?_; (with_reducible refine (impl_Bits_set.calls gb682 t678 (fun k_ => some k_ = (.slice Ao16 x683001_1.length co16 : Value).ownBlock) (.slice Ao16 x683001_1.length co16) x683001_1 x10_1 t683 t684 w _ ?side1 ?side2 ?side3 A15.out).mono ?_); (case side1 => exact hB_); (case side2 => exact Kd.R_tight rfl HO_683001.out); (case side3 => exact (kB_ BK682)); rintro e w17 ⟨rfl, hy0, hb, hkp⟩; refine ⟨_, rfl, ?_⟩; replace BK1 := Aside0.mk (blk_kept (kB_ BK1) hkp (fun hs_ => (fun e_ => (Kd.R_ne HO_683001.out BK1.out (by decide)) e_) hs_)); replace BK2 := Aside0.mk (blk_kept (kB_ BK2) hkp (fun hs_ => (fun e_ => (Kd.R_ne HO_683001.out BK2.out (by decide)) e_) hs_)); replace BK677 := Aside0.mk (blk_kept (kB_ BK677) hkp (fun hs_ => (fun e_ => (Kd.R_ne HO_683001.out BK677.out (by decide)) e_) hs_)); replace BK682 := Aside0.mk (blk_kept (kB_ BK682) hkp (fun hs_ => (fun e_ => (Kd.R_ne HO_683001.out BK682.out (by decide)) e_) hs_)); replace HO_683001 := Aside0.mk (Kd.R_reok rfl hy0 (fun k_ e_ => HO_683001.out.1 k_ e_)); replace HB := Aside0.mk (hb); (try clear hb); (try clear hkp); (try clear hy0)))
     go_roundg k1
     case measure => have := HK1.out; omega
     case rel => exact ⟨(wrap64 (x10_1 + 1)), (t684), (.slice Ao16 x683001_1.length co16), rg_, H', ⟨by have := HK1.out; omega⟩, ⟨kR_ HO_683001⟩, ⟨kB_ BK1⟩, ⟨kB_ BK2⟩, ⟨kB_ BK677⟩, ⟨kB_ BK682⟩, ⟨hB_⟩⟩
    ·rw [if_neg c13] at H
     have c13b0 : decide (x10_1 < a0) = false := decide_eq_false c13
     clear c13
     simp only [Option.some.injEq, Prod.mk.injEq] at H
     obtain ⟨rfl, rfl⟩ := H
     have hnb18 := NB682_1.out
     have hnc18 := NB1_682.out
     have hnb19 := NB682_2.out
     have hnc19 := NB2_682.out
     have hnb20 := NB682_677.out
     have hnc20 := NB677_682.out
     have hcz21_0 : wr.cell? ⟨gb682, 0, none⟩ = some (.int .i64 t678) := (blk_cell BK682.out 0).trans rfl
     have hcz21_1 : wr.cell? ⟨gb682, 1, none⟩ = some (u683001) := (blk_cell BK682.out 1).trans rfl
     have hfz21_0 := blk_frozen BK682.out 0
     have hfz21_1 := blk_frozen BK682.out 1
     have hnb22 := NB677_1.out
     have hnc22 := NB1_677.out
     have hnb23 := NB677_2.out
     have hnc23 := NB2_677.out
     have hcz24_0 : wr.cell? ⟨gb677, 0, none⟩ = some (.int .i64 0) := (blk_cell BK677.out 0).trans rfl
     have hcz24_1 : wr.cell? ⟨gb677, 1, none⟩ = some (.slice none 0 0) := (blk_cell BK677.out 1).trans rfl
     have hfz24_0 := blk_frozen BK677.out 0
     have hfz24_1 := blk_frozen BK677.out 1
     obtain ⟨Ao25, co25, eo25⟩ := Kd.R_slice HO_683001.out
     subst eo25
     go_wp2
     refine bodyPost_ret (results_cell_row rfl _ _ gb677 24 #[.int .i64 t678, .slice Ao25 x683001_1.length co25] (0, 0) _ rfl (by (with_reducible repeat (first | refine blk_drewN ?_ _ | refine blk_drew ?_ | refine blk_alloc ?_ _)); refine blk_put (cs := #[.int .i64 t678, .slice none 0 0]) ?_ 1 _ rfl; (with_reducible repeat (first | refine blk_drewN ?_ _ | refine blk_drew ?_ | refine blk_alloc ?_ _)); refine blk_put (cs := #[.int .i64 0, .slice none 0 0]) ?_ 0 _ rfl; (with_reducible repeat (first | refine blk_drewN ?_ _ | refine blk_drew ?_ | refine blk_alloc ?_ _)); exact BK677.out) Try.underlying24 rfl (by kernel_rfl)) rfl ?_
     exact ⟨_, rf_, by (with_reducible repeat (first | apply Kd.R_alloc | apply Kd.R_drewN | apply Kd.R_drew)); exact Kd.R_mono (Kd.R_far (p := ⟨gb677, 1, none⟩) (Kd.R_far (p := ⟨gb677, 0, none⟩) (Kd.R_types HO_683001.out BK677.out (by decide)) (fun _ hk => hk.2) (.int .i64 t678)) (fun _ hk => hk.2) (.slice Ao25 x683001_1.length co25)) (fun _ hk => trivial), hB_⟩
/-! ### impl_joinBits: function 63 -/
def impl_joinBits.f (k : Nat) (a0_0 : Int) (l0_1 : List Int) (a1_0 : Int) (l1_1 : List Int) : Option (Int × List Int) := (impl_madeBits_at_impl_joinBits_1.f k (wrap64 (a0_0 + a1_0)) a0_0 l0_1 a1_0 l1_1).bind fun bt688 => (some (bt688.1, bt688.2))
theorem impl_joinBits.mono : ∀ a0 a1 a2 a3 k, LeO (impl_joinBits.f k a0 a1 a2 a3) (impl_joinBits.f (k + 1) a0 a1 a2 a3) := by
  intro a0 a1 a2 a3 k
  unfold impl_joinBits.f
  repeat' first
      | (with_reducible exact impl_madeBits_at_impl_joinBits_1.mono _ _ _ _ _ _)
      | (with_reducible exact LeO.refl _)
      | (with_reducible exact LeO.none _)
      | (with_reducible refine LeO.ite ?_ ?_)
      | (with_reducible refine LeO.bind ?_ (fun _ => ?_))
      | exact impl_madeBits_at_impl_joinBits_1.mono _ _ _ _ _ _
      | exact LeO.none _
      | refine LeO.ite ?_ ?_
      | refine LeO.bind ?_ (fun _ => ?_)
noncomputable def impl_joinBits.F (a0_0 : Int) (l0_1 : List Int) (a1_0 : Int) (l1_1 : List Int) : Option (Int × List Int) := lim fun k => impl_joinBits.f k a0_0 l0_1 a1_0 l1_1
theorem impl_joinBits.F_sup (a0_0 : Int) (l0_1 : List Int) (a1_0 : Int) (l1_1 : List Int) : Sup (fun k => impl_joinBits.f k a0_0 l0_1 a1_0 l1_1) (impl_joinBits.F a0_0 l0_1 a1_0 l1_1) := Sup.of_mono fun k => impl_joinBits.mono a0_0 l0_1 a1_0 l1_1 k
theorem impl_joinBits.F_eq (a0_0 : Int) (l0_1 : List Int) (a1_0 : Int) (l1_1 : List Int) : impl_joinBits.F a0_0 l0_1 a1_0 l1_1 = (impl_madeBits_at_impl_joinBits_1.F (wrap64 (a0_0 + a1_0)) a0_0 l0_1 a1_0 l1_1).bind fun bt688 => (some (bt688.1, bt688.2)) := by
  refine Sup.unique (impl_joinBits.F_sup a0_0 l0_1 a1_0 l1_1) (Sup.congr (g' := fun k => (impl_madeBits_at_impl_joinBits_1.f k (wrap64 (a0_0 + a1_0)) a0_0 l0_1 a1_0 l1_1).bind fun bt688 => (some (bt688.1, bt688.2))) (fun k => by first | rfl | simp only [impl_joinBits.f]) ?_)
  repeat' first
    | (with_reducible exact impl_madeBits_at_impl_joinBits_1.F_sup _ _ _ _ _)
    | (with_reducible refine Sup.ite ?_ ?_)
    | (with_reducible refine Sup.bind ?_ (fun _ => ?_))
    | (with_reducible exact Sup.const _)
    | exact impl_madeBits_at_impl_joinBits_1.F_sup _ _ _ _ _
    | exact Sup.const _
set_option maxHeartbeats 8000000 in
set_option maxRecDepth 100000 in
theorem impl_joinBits.calls (k : Nat) (a0_0 : Int) (A0_1 : Option Addr) (c0_1 : Nat) (l0_1 : List Int) (a1_0 : Int) (A1_1 : Option Addr) (c1_1 : Nat) (l1_1 : List Int) (r1 : Int) (r2 : List Int) (w : World) (hr0_1 : Kd.C (Kd.int .i64) w A0_1 l0_1.length l0_1) (hc0_1 : l0_1.length ≤ c0_1) (hr1_1 : Kd.C (Kd.int .i64) w A1_1 l1_1.length l1_1) (hc1_1 : l1_1.length ≤ c1_1) (h : impl_joinBits.f k a0_0 l0_1 a1_0 l1_1 = some (r1, r2)) :
    Calls Try.prog 63 #[.agg #[.int .i64 a0_0, .slice A0_1 l0_1.length c0_1], .agg #[.int .i64 a1_0, .slice A1_1 l1_1.length c1_1]] w fun e w' => ∃ v1_ : Value, e = .returned (.agg #[.int .i64 r1, v1_]) ∧ Kd.R (Kd.int .i64) 3 w' w.heap.size (fun _ => True) v1_ r2 ∧ Below w.heap.size w w' := by
  have hu24 := Try.underlying24
  have HR0_1 := Aside0.mk hr0_1
  have HC0_1 := Aside0.mk hc0_1
  clear hr0_1 hc0_1
  have HR1_1 := Aside0.mk hr1_1
  have HC1_1 := Aside0.mk hc1_1
  clear hr1_1 hc1_1
  have HB := Aside0.mk (Below.refl w.heap.size w)
  have H : ((impl_madeBits_at_impl_joinBits_1.f k (wrap64 (a0_0 + a1_0)) a0_0 l0_1 a1_0 l1_1).bind fun bt688 => (some (bt688.1, bt688.2))) = some (r1, r2) := h
  clear h
  replace H := Option.bind_eq_some_iff.mp H
  obtain ⟨⟨t688, t689⟩, A30, H⟩ := H
  replace H : (some (t688, t689)) = some (r1, r2) := H
  have A3 := Aside0.mk A30
  clear A30
  simp only [Option.some.injEq, Prod.mk.injEq] at H
  obtain ⟨rfl, rfl⟩ := H
  go_enter Try.func63, Try.ntmps63
  go_wp2_with (first | ((with_reducible refine gate_dst (N := 2) rfl ?_); refine bx_ 2 #[.int .i64 a0_0, .slice A0_1 l0_1.length c0_1] 24 ?_; intro gb685 hg w4 hbox hb; have BK685 := Aside0.mk (hbox); have GW685 := Aside0.mk ((ge_ hg)); have GE685 := Aside0.mk ((ge_ hg)); replace HB := Aside0.mk (below_step hB_ hb); clear hb hbox hg) | ((with_reducible refine gate_dst (N := 3) rfl ?_); refine bx_ 3 #[.int .i64 a1_0, .slice A1_1 l1_1.length c1_1] 24 ?_; intro gb686 hg w5 hbox hb; have BK686 := Aside0.mk (hbox); have GW686 := Aside0.mk ((ge_ hg)); have GE686 := Aside0.mk ((ge_ hg)); replace HB := Aside0.mk (below_step hB_ hb); have NB685_686 := Aside0.mk ((ne_ hg BK685)); have NB686_685 := Aside0.mk ((nf_ hg BK685)); replace BK685 := Aside0.mk (blk_below (kB_ BK685) hb); clear hb hbox hg) | ((with_reducible refine gate_dst (N := 4) rfl ?_); refine bx_ 4 #[.int .i64 0, .slice none 0 0] 24 ?_; intro gb687 hg w6 hbox hb; have BK687 := Aside0.mk (hbox); have GW687 := Aside0.mk ((ge_ hg)); have GE687 := Aside0.mk ((ge_ hg)); replace HB := Aside0.mk (below_step hB_ hb); have NB685_687 := Aside0.mk ((ne_ hg BK685)); have NB687_685 := Aside0.mk ((nf_ hg BK685)); replace BK685 := Aside0.mk (blk_below (kB_ BK685) hb); have NB686_687 := Aside0.mk ((ne_ hg BK686)); have NB687_686 := Aside0.mk ((nf_ hg BK686)); replace BK686 := Aside0.mk (blk_below (kB_ BK686) hb); clear hb hbox hg; have hnb7 := NB685_686.out; have hnc7 := NB686_685.out; have hnb8 := NB685_687.out; have hnc8 := NB687_685.out; have hcz9_0 : w6.cell? ⟨gb685, 0, none⟩ = some (.int .i64 a0_0) := (blk_cell BK685.out 0).trans rfl; have hcz9_1 : w6.cell? ⟨gb685, 1, none⟩ = some (.slice A0_1 l0_1.length c0_1) := (blk_cell BK685.out 1).trans rfl; have hfz9_0 := blk_frozen BK685.out 0; have hfz9_1 := blk_frozen BK685.out 1; have hnb10 := NB686_687.out; have hnc10 := NB687_686.out; have hcz11_0 : w6.cell? ⟨gb686, 0, none⟩ = some (.int .i64 a1_0) := (blk_cell BK686.out 0).trans rfl; have hcz11_1 : w6.cell? ⟨gb686, 1, none⟩ = some (.slice A1_1 l1_1.length c1_1) := (blk_cell BK686.out 1).trans rfl; have hfz11_0 := blk_frozen BK686.out 0; have hfz11_1 := blk_frozen BK686.out 1) | ((with_reducible refine gate_callee (f := 82) rfl ?_); refine gl_ 11 Try.func82 #[.int .i64 (wrap64 (a0_0 + a1_0)), .func (.func 94) #[] #[.pointer (some ⟨gb685, 0, none⟩), .pointer (some ⟨gb686, 0, none⟩)]] ?_; (with_reducible refine (impl_madeBits_at_impl_joinBits_1.calls k (wrap64 (a0_0 + a1_0)) gb685 a0_0 A0_1 c0_1 l0_1 gb686 a1_0 A1_1 c1_1 l1_1 t688 t689 _ ?side1 ?side2 ?side3 ?side4 ?side5 ?side6 A3.out).mono ?_); (case side1 => exact kC_ HR0_1); (case side2 => exact HC0_1.out); (case side3 => exact kC_ HR1_1); (case side4 => exact HC1_1.out); (case side5 => exact (kB_ BK685)); (case side6 => exact (kB_ BK686)); rintro e w12 ⟨v690, rfl, ho0, hb⟩; refine ⟨_, rfl, ?_⟩; have HO691 := Aside0.mk (Kd.R_lower ho0 (below_size hB_)); replace BK685 := Aside0.mk (blk_below (kB_ BK685) hb); replace BK686 := Aside0.mk (blk_below (kB_ BK686) hb); replace BK687 := Aside0.mk (blk_below (kB_ BK687) hb); replace HB := Aside0.mk (below_step hB_ hb); (try clear hb); (try clear hb2); (try clear hk); (try clear hi); (try clear ho0); have hcz13_0 : w12.cell? ⟨gb687, 0, none⟩ = some (.int .i64 0) := (blk_cell BK687.out 0).trans rfl; have hcz13_1 : w12.cell? ⟨gb687, 1, none⟩ = some (.slice none 0 0) := (blk_cell BK687.out 1).trans rfl; have hfz13_0 := blk_frozen BK687.out 0; have hfz13_1 := blk_frozen BK687.out 1; obtain ⟨Ao14, co14, eo14⟩ := Kd.R_slice HO691.out; subst eo14))
  refine bodyPost_ret (results_cell_row rfl _ _ gb687 24 #[.int .i64 t688, .slice Ao14 t689.length co14] (0, 0) _ rfl (by (with_reducible repeat (first | refine blk_drewN ?_ _ | refine blk_drew ?_ | refine blk_alloc ?_ _)); refine blk_put (cs := #[.int .i64 t688, .slice none 0 0]) ?_ 1 _ rfl; (with_reducible repeat (first | refine blk_drewN ?_ _ | refine blk_drew ?_ | refine blk_alloc ?_ _)); refine blk_put (cs := #[.int .i64 0, .slice none 0 0]) ?_ 0 _ rfl; (with_reducible repeat (first | refine blk_drewN ?_ _ | refine blk_drew ?_ | refine blk_alloc ?_ _)); exact BK687.out) Try.underlying24 rfl (by kernel_rfl)) rfl ?_
  exact ⟨_, rf_, by (with_reducible repeat (first | apply Kd.R_alloc | apply Kd.R_drewN | apply Kd.R_drew)); exact Kd.R_mono (Kd.R_far (p := ⟨gb687, 1, none⟩) (Kd.R_far (p := ⟨gb687, 0, none⟩) (Kd.R_types HO691.out BK687.out (by decide)) (fun _ hk => hk.2) (.int .i64 t688)) (fun _ hk => hk.2) (.slice Ao14 t689.length co14)) (fun _ hk => trivial), hB_⟩
/-! ### impl_JoinBits: function 38 -/
def impl_JoinBits.f (k : Nat) (a0_0 : Int) (l0_1 : List Int) (a1_0 : Int) (l1_1 : List Int) : Option (Int × List Int × Bool) := (impl_IsBits.f k a0_0 l0_1).bind fun t695 => (if t695 = true then ((impl_IsBits.f k a1_0 l1_1).bind fun t696 => (if t696 = true then (if (wrap64 (a0_0 + a1_0)) > 4096 then (some (0, ([] : List Int), false)) else ((impl_joinBits.f k a0_0 l0_1 a1_0 l1_1).bind fun bt697 => (some (bt697.1, bt697.2, true)))) else (some (0, ([] : List Int), false)))) else (some (0, ([] : List Int), false)))
theorem impl_JoinBits.mono : ∀ a0 a1 a2 a3 k, LeO (impl_JoinBits.f k a0 a1 a2 a3) (impl_JoinBits.f (k + 1) a0 a1 a2 a3) := by
  intro a0 a1 a2 a3 k
  unfold impl_JoinBits.f
  repeat' first
      | (with_reducible exact impl_IsBits.mono _ _ _)
      | (with_reducible exact impl_joinBits.mono _ _ _ _ _)
      | (with_reducible exact LeO.refl _)
      | (with_reducible exact LeO.none _)
      | (with_reducible refine LeO.ite ?_ ?_)
      | (with_reducible refine LeO.bind ?_ (fun _ => ?_))
      | exact impl_IsBits.mono _ _ _
      | exact impl_joinBits.mono _ _ _ _ _
      | exact LeO.none _
      | refine LeO.ite ?_ ?_
      | refine LeO.bind ?_ (fun _ => ?_)
noncomputable def impl_JoinBits.F (a0_0 : Int) (l0_1 : List Int) (a1_0 : Int) (l1_1 : List Int) : Option (Int × List Int × Bool) := lim fun k => impl_JoinBits.f k a0_0 l0_1 a1_0 l1_1
theorem impl_JoinBits.F_sup (a0_0 : Int) (l0_1 : List Int) (a1_0 : Int) (l1_1 : List Int) : Sup (fun k => impl_JoinBits.f k a0_0 l0_1 a1_0 l1_1) (impl_JoinBits.F a0_0 l0_1 a1_0 l1_1) := Sup.of_mono fun k => impl_JoinBits.mono a0_0 l0_1 a1_0 l1_1 k
theorem impl_JoinBits.F_eq (a0_0 : Int) (l0_1 : List Int) (a1_0 : Int) (l1_1 : List Int) : impl_JoinBits.F a0_0 l0_1 a1_0 l1_1 = (impl_IsBits.F a0_0 l0_1).bind fun t695 => (if t695 = true then ((impl_IsBits.F a1_0 l1_1).bind fun t696 => (if t696 = true then (if (wrap64 (a0_0 + a1_0)) > 4096 then (some (0, ([] : List Int), false)) else ((impl_joinBits.F a0_0 l0_1 a1_0 l1_1).bind fun bt697 => (some (bt697.1, bt697.2, true)))) else (some (0, ([] : List Int), false)))) else (some (0, ([] : List Int), false))) := by
  refine Sup.unique (impl_JoinBits.F_sup a0_0 l0_1 a1_0 l1_1) (Sup.congr (g' := fun k => (impl_IsBits.f k a0_0 l0_1).bind fun t695 => (if t695 = true then ((impl_IsBits.f k a1_0 l1_1).bind fun t696 => (if t696 = true then (if (wrap64 (a0_0 + a1_0)) > 4096 then (some (0, ([] : List Int), false)) else ((impl_joinBits.f k a0_0 l0_1 a1_0 l1_1).bind fun bt697 => (some (bt697.1, bt697.2, true)))) else (some (0, ([] : List Int), false)))) else (some (0, ([] : List Int), false)))) (fun k => by first | rfl | simp only [impl_JoinBits.f]) ?_)
  repeat' first
    | (with_reducible exact impl_IsBits.F_sup _ _)
    | (with_reducible exact impl_joinBits.F_sup _ _ _ _)
    | (with_reducible refine Sup.ite ?_ ?_)
    | (with_reducible refine Sup.bind ?_ (fun _ => ?_))
    | (with_reducible exact Sup.const _)
    | exact impl_IsBits.F_sup _ _
    | exact impl_joinBits.F_sup _ _ _ _
    | exact Sup.const _
set_option maxHeartbeats 8000000 in
set_option maxRecDepth 100000 in
theorem impl_JoinBits.calls (k : Nat) (a0_0 : Int) (A0_1 : Option Addr) (c0_1 : Nat) (l0_1 : List Int) (a1_0 : Int) (A1_1 : Option Addr) (c1_1 : Nat) (l1_1 : List Int) (r1 : Int) (r2 : List Int) (r3 : Bool) (w : World) (hr0_1 : Kd.C (Kd.int .i64) w A0_1 l0_1.length l0_1) (hc0_1 : l0_1.length ≤ c0_1) (hr1_1 : Kd.C (Kd.int .i64) w A1_1 l1_1.length l1_1) (hc1_1 : l1_1.length ≤ c1_1) (h : impl_JoinBits.f k a0_0 l0_1 a1_0 l1_1 = some (r1, r2, r3)) :
    Calls Try.prog 38 #[.agg #[.int .i64 a0_0, .slice A0_1 l0_1.length c0_1], .agg #[.int .i64 a1_0, .slice A1_1 l1_1.length c1_1]] w fun e w' => ∃ v1_ : Value, e = .returned (.tuple #[.agg #[.int .i64 r1, v1_], .bool r3]) ∧ Kd.R (Kd.int .i64) 3 w' w.heap.size (fun _ => True) v1_ r2 ∧ Below w.heap.size w w' := by
  have hu24 := Try.underlying24
  have HR0_1 := Aside0.mk hr0_1
  have HC0_1 := Aside0.mk hc0_1
  clear hr0_1 hc0_1
  have HR1_1 := Aside0.mk hr1_1
  have HC1_1 := Aside0.mk hc1_1
  clear hr1_1 hc1_1
  have HB := Aside0.mk (Below.refl w.heap.size w)
  have H : ((impl_IsBits.f k a0_0 l0_1).bind fun t695 => (if t695 = true then ((impl_IsBits.f k a1_0 l1_1).bind fun t696 => (if t696 = true then (if (wrap64 (a0_0 + a1_0)) > 4096 then (some (0, ([] : List Int), false)) else ((impl_joinBits.f k a0_0 l0_1 a1_0 l1_1).bind fun bt697 => (some (bt697.1, bt697.2, true)))) else (some (0, ([] : List Int), false)))) else (some (0, ([] : List Int), false)))) = some (r1, r2, r3) := h
  clear h
  replace H := Option.bind_eq_some_iff.mp H
  obtain ⟨t695, A30, H⟩ := H
  replace H : (if t695 = true then ((impl_IsBits.f k a1_0 l1_1).bind fun t696 => (if t696 = true then (if (wrap64 (a0_0 + a1_0)) > 4096 then (some (0, ([] : List Int), false)) else ((impl_joinBits.f k a0_0 l0_1 a1_0 l1_1).bind fun bt697 => (some (bt697.1, bt697.2, true)))) else (some (0, ([] : List Int), false)))) else (some (0, ([] : List Int), false))) = some (r1, r2, r3) := H
  have A3 := Aside0.mk A30
  clear A30
  by_cases c4 : t695 = true
  ·subst c4
   have H1 : ((impl_IsBits.f k a1_0 l1_1).bind fun t696 => (if t696 = true then (if (wrap64 (a0_0 + a1_0)) > 4096 then (some (0, ([] : List Int), false)) else ((impl_joinBits.f k a0_0 l0_1 a1_0 l1_1).bind fun bt697 => (some (bt697.1, bt697.2, true)))) else (some (0, ([] : List Int), false)))) = some (r1, r2, r3) := by rw [if_pos rfl] at H; exact H
   clear H
   have H := H1
   clear H1
   replace H := Option.bind_eq_some_iff.mp H
   obtain ⟨t696, A50, H⟩ := H
   replace H : (if t696 = true then (if (wrap64 (a0_0 + a1_0)) > 4096 then (some (0, ([] : List Int), false)) else ((impl_joinBits.f k a0_0 l0_1 a1_0 l1_1).bind fun bt697 => (some (bt697.1, bt697.2, true)))) else (some (0, ([] : List Int), false))) = some (r1, r2, r3) := H
   have A5 := Aside0.mk A50
   clear A50
   by_cases c6 : t696 = true
   ·subst c6
    have H1 : (if (wrap64 (a0_0 + a1_0)) > 4096 then (some (0, ([] : List Int), false)) else ((impl_joinBits.f k a0_0 l0_1 a1_0 l1_1).bind fun bt697 => (some (bt697.1, bt697.2, true)))) = some (r1, r2, r3) := by rw [if_pos rfl] at H; exact H
    clear H
    have H := H1
    clear H1
    by_cases c7 : (wrap64 (a0_0 + a1_0)) > 4096
    ·rw [if_pos c7] at H
     have c7b0 : decide (4096 < (wrap64 (a0_0 + a1_0))) = true := decide_eq_true c7
     clear c7
     simp only [Option.some.injEq, Prod.mk.injEq] at H
     obtain ⟨rfl, rfl, rfl⟩ := H
     go_enter Try.func38, Try.ntmps38
     go_wp2_with (first | ((with_reducible refine gate_dst (N := 2) rfl ?_); refine bx_ 2 #[.int .i64 a0_0, .slice A0_1 l0_1.length c0_1] 24 ?_; intro gb692 hg w8 hbox hb; have BK692 := Aside0.mk (hbox); have GW692 := Aside0.mk ((ge_ hg)); have GE692 := Aside0.mk ((ge_ hg)); replace HB := Aside0.mk (below_step hB_ hb); clear hb hbox hg) | ((with_reducible refine gate_dst (N := 3) rfl ?_); refine bx_ 3 #[.int .i64 a1_0, .slice A1_1 l1_1.length c1_1] 24 ?_; intro gb693 hg w9 hbox hb; have BK693 := Aside0.mk (hbox); have GW693 := Aside0.mk ((ge_ hg)); have GE693 := Aside0.mk ((ge_ hg)); replace HB := Aside0.mk (below_step hB_ hb); have NB692_693 := Aside0.mk ((ne_ hg BK692)); have NB693_692 := Aside0.mk ((nf_ hg BK692)); replace BK692 := Aside0.mk (blk_below (kB_ BK692) hb); clear hb hbox hg) | ((with_reducible refine gate_dst (N := 4) rfl ?_); refine bx_ 4 #[.int .i64 0, .slice none 0 0] 24 ?_; intro gb694 hg w10 hbox hb; have BK694 := Aside0.mk (hbox); have GW694 := Aside0.mk ((ge_ hg)); have GE694 := Aside0.mk ((ge_ hg)); replace HB := Aside0.mk (below_step hB_ hb); have NB692_694 := Aside0.mk ((ne_ hg BK692)); have NB694_692 := Aside0.mk ((nf_ hg BK692)); replace BK692 := Aside0.mk (blk_below (kB_ BK692) hb); have NB693_694 := Aside0.mk ((ne_ hg BK693)); have NB694_693 := Aside0.mk ((nf_ hg BK693)); replace BK693 := Aside0.mk (blk_below (kB_ BK693) hb); clear hb hbox hg; have hnb11 := NB692_693.out; have hnc11 := NB693_692.out; have hnb12 := NB692_694.out; have hnc12 := NB694_692.out; have hcz13_0 : w10.cell? ⟨gb692, 0, none⟩ = some (.int .i64 a0_0) := (blk_cell BK692.out 0).trans rfl; have hcz13_1 : w10.cell? ⟨gb692, 1, none⟩ = some (.slice A0_1 l0_1.length c0_1) := (blk_cell BK692.out 1).trans rfl; have hfz13_0 := blk_frozen BK692.out 0; have hfz13_1 := blk_frozen BK692.out 1) | ((with_reducible refine gate_callee (f := 62) rfl ?_); refine gl_ 7 Try.func62 #[.agg #[.int .i64 a0_0, .slice A0_1 l0_1.length c0_1]] ?_; (with_reducible refine (impl_IsBits.calls k a0_0 _ _ l0_1 true _ ?side1 ?side2 A3.out).mono ?_); (case side1 => exact kC_ HR0_1); (case side2 => exact HC0_1.out); rintro e w14 ⟨rfl, hb⟩; refine ⟨_, rfl, ?_⟩; replace BK692 := Aside0.mk (blk_below (kB_ BK692) hb); replace BK693 := Aside0.mk (blk_below (kB_ BK693) hb); replace BK694 := Aside0.mk (blk_below (kB_ BK694) hb); replace HB := Aside0.mk (below_step hB_ hb); (try clear hb); (try clear hb2); (try clear hk); (try clear hi); have hnb15 := NB693_694.out; have hnc15 := NB694_693.out; have hcz16_0 : w14.cell? ⟨gb693, 0, none⟩ = some (.int .i64 a1_0) := (blk_cell BK693.out 0).trans rfl; have hcz16_1 : w14.cell? ⟨gb693, 1, none⟩ = some (.slice A1_1 l1_1.length c1_1) := (blk_cell BK693.out 1).trans rfl; have hfz16_0 := blk_frozen BK693.out 0; have hfz16_1 := blk_frozen BK693.out 1) | (go_at_call 62; (with_reducible refine (impl_IsBits.calls k a1_0 _ _ l1_1 true _ ?side1 ?side2 A5.out).mono ?_); (case side1 => exact kC_ HR1_1); (case side2 => exact HC1_1.out); rintro e w17 ⟨rfl, hb⟩; replace BK692 := Aside0.mk (blk_below (kB_ BK692) hb); replace BK693 := Aside0.mk (blk_below (kB_ BK693) hb); replace BK694 := Aside0.mk (blk_below (kB_ BK694) hb); replace HB := Aside0.mk (below_step hB_ hb); (try clear hb); (try clear hb2); (try clear hk); (try clear hi); have hcz18_0 : w17.cell? ⟨gb692, 0, none⟩ = some (.int .i64 a0_0) := (blk_cell BK692.out 0).trans rfl; have hcz18_1 : w17.cell? ⟨gb692, 1, none⟩ = some (.slice A0_1 l0_1.length c0_1) := (blk_cell BK692.out 1).trans rfl; have hfz18_0 := blk_frozen BK692.out 0; have hfz18_1 := blk_frozen BK692.out 1; have hcz19_0 : w17.cell? ⟨gb693, 0, none⟩ = some (.int .i64 a1_0) := (blk_cell BK693.out 0).trans rfl; have hcz19_1 : w17.cell? ⟨gb693, 1, none⟩ = some (.slice A1_1 l1_1.length c1_1) := (blk_cell BK693.out 1).trans rfl; have hfz19_0 := blk_frozen BK693.out 0; have hfz19_1 := blk_frozen BK693.out 1; have hcz20_0 : w17.cell? ⟨gb694, 0, none⟩ = some (.int .i64 0) := (blk_cell BK694.out 0).trans rfl; have hcz20_1 : w17.cell? ⟨gb694, 1, none⟩ = some (.slice none 0 0) := (blk_cell BK694.out 1).trans rfl; have hfz20_0 := blk_frozen BK694.out 0; have hfz20_1 := blk_frozen BK694.out 1))
     refine bodyPost_ret (results_ct rfl _ _ gb694 24 #[.int .i64 0, .slice none 0 0] (0, 0) _ rfl (by (with_reducible repeat (first | refine blk_drewN ?_ _ | refine blk_drew ?_ | refine blk_alloc ?_ _)); refine blk_put (cs := #[.int .i64 0, .slice none 0 0]) ?_ 1 _ rfl; (with_reducible repeat (first | refine blk_drewN ?_ _ | refine blk_drew ?_ | refine blk_alloc ?_ _)); refine blk_put (cs := #[.int .i64 0, .slice none 0 0]) ?_ 0 _ rfl; (with_reducible repeat (first | refine blk_drewN ?_ _ | refine blk_drew ?_ | refine blk_alloc ?_ _)); exact BK694.out) Try.underlying24 rfl (by kernel_rfl)) rfl ?_
     exact ⟨_, rf_, by first | exact Kd.R_nil _ _ _ _ _ | exact Kd.N_nil _ _ _ _ _ | exact Kd.V_nil _ _ _ _ _ | exact Kd.Q_nil _ _ _ _ _ | exact Kd.S_nil _ _ _ _ _, hB_⟩
    ·rw [if_neg c7] at H
     have c7b0 : decide (4096 < (wrap64 (a0_0 + a1_0))) = false := decide_eq_false c7
     clear c7
     replace H := Option.bind_eq_some_iff.mp H
     obtain ⟨⟨t697, t698⟩, A210, H⟩ := H
     replace H : (some (t697, t698, true)) = some (r1, r2, r3) := H
     have A21 := Aside0.mk A210
     clear A210
     simp only [Option.some.injEq, Prod.mk.injEq] at H
     obtain ⟨rfl, rfl, rfl⟩ := H
     go_enter Try.func38, Try.ntmps38
     go_wp2_with (first | ((with_reducible refine gate_dst (N := 2) rfl ?_); refine bx_ 2 #[.int .i64 a0_0, .slice A0_1 l0_1.length c0_1] 24 ?_; intro gb692 hg w22 hbox hb; have BK692 := Aside0.mk (hbox); have GW692 := Aside0.mk ((ge_ hg)); have GE692 := Aside0.mk ((ge_ hg)); replace HB := Aside0.mk (below_step hB_ hb); clear hb hbox hg) | ((with_reducible refine gate_dst (N := 3) rfl ?_); refine bx_ 3 #[.int .i64 a1_0, .slice A1_1 l1_1.length c1_1] 24 ?_; intro gb693 hg w23 hbox hb; have BK693 := Aside0.mk (hbox); have GW693 := Aside0.mk ((ge_ hg)); have GE693 := Aside0.mk ((ge_ hg)); replace HB := Aside0.mk (below_step hB_ hb); have NB692_693 := Aside0.mk ((ne_ hg BK692)); have NB693_692 := Aside0.mk ((nf_ hg BK692)); replace BK692 := Aside0.mk (blk_below (kB_ BK692) hb); clear hb hbox hg) | ((with_reducible refine gate_dst (N := 4) rfl ?_); refine bx_ 4 #[.int .i64 0, .slice none 0 0] 24 ?_; intro gb694 hg w24 hbox hb; have BK694 := Aside0.mk (hbox); have GW694 := Aside0.mk ((ge_ hg)); have GE694 := Aside0.mk ((ge_ hg)); replace HB := Aside0.mk (below_step hB_ hb); have NB692_694 := Aside0.mk ((ne_ hg BK692)); have NB694_692 := Aside0.mk ((nf_ hg BK692)); replace BK692 := Aside0.mk (blk_below (kB_ BK692) hb); have NB693_694 := Aside0.mk ((ne_ hg BK693)); have NB694_693 := Aside0.mk ((nf_ hg BK693)); replace BK693 := Aside0.mk (blk_below (kB_ BK693) hb); clear hb hbox hg; have hnb25 := NB692_693.out; have hnc25 := NB693_692.out; have hnb26 := NB692_694.out; have hnc26 := NB694_692.out; have hcz27_0 : w24.cell? ⟨gb692, 0, none⟩ = some (.int .i64 a0_0) := (blk_cell BK692.out 0).trans rfl; have hcz27_1 : w24.cell? ⟨gb692, 1, none⟩ = some (.slice A0_1 l0_1.length c0_1) := (blk_cell BK692.out 1).trans rfl; have hfz27_0 := blk_frozen BK692.out 0; have hfz27_1 := blk_frozen BK692.out 1) | ((with_reducible refine gate_callee (f := 62) rfl ?_); refine gl_ 7 Try.func62 #[.agg #[.int .i64 a0_0, .slice A0_1 l0_1.length c0_1]] ?_; (with_reducible refine (impl_IsBits.calls k a0_0 _ _ l0_1 true _ ?side1 ?side2 A3.out).mono ?_); (case side1 => exact kC_ HR0_1); (case side2 => exact HC0_1.out); rintro e w28 ⟨rfl, hb⟩; refine ⟨_, rfl, ?_⟩; replace BK692 := Aside0.mk (blk_below (kB_ BK692) hb); replace BK693 := Aside0.mk (blk_below (kB_ BK693) hb); replace BK694 := Aside0.mk (blk_below (kB_ BK694) hb); replace HB := Aside0.mk (below_step hB_ hb); (try clear hb); (try clear hb2); (try clear hk); (try clear hi); have hnb29 := NB693_694.out; have hnc29 := NB694_693.out; have hcz30_0 : w28.cell? ⟨gb693, 0, none⟩ = some (.int .i64 a1_0) := (blk_cell BK693.out 0).trans rfl; have hcz30_1 : w28.cell? ⟨gb693, 1, none⟩ = some (.slice A1_1 l1_1.length c1_1) := (blk_cell BK693.out 1).trans rfl; have hfz30_0 := blk_frozen BK693.out 0; have hfz30_1 := blk_frozen BK693.out 1) | (go_at_call 62; (with_reducible refine (impl_IsBits.calls k a1_0 _ _ l1_1 true _ ?side1 ?side2 A5.out).mono ?_); (case side1 => exact kC_ HR1_1); (case side2 => exact HC1_1.out); rintro e w31 ⟨rfl, hb⟩; replace BK692 := Aside0.mk (blk_below (kB_ BK692) hb); replace BK693 := Aside0.mk (blk_below (kB_ BK693) hb); replace BK694 := Aside0.mk (blk_below (kB_ BK694) hb); replace HB := Aside0.mk (below_step hB_ hb); (try clear hb); (try clear hb2); (try clear hk); (try clear hi); have hcz32_0 : w31.cell? ⟨gb692, 0, none⟩ = some (.int .i64 a0_0) := (blk_cell BK692.out 0).trans rfl; have hcz32_1 : w31.cell? ⟨gb692, 1, none⟩ = some (.slice A0_1 l0_1.length c0_1) := (blk_cell BK692.out 1).trans rfl; have hfz32_0 := blk_frozen BK692.out 0; have hfz32_1 := blk_frozen BK692.out 1; have hcz33_0 : w31.cell? ⟨gb693, 0, none⟩ = some (.int .i64 a1_0) := (blk_cell BK693.out 0).trans rfl; have hcz33_1 : w31.cell? ⟨gb693, 1, none⟩ = some (.slice A1_1 l1_1.length c1_1) := (blk_cell BK693.out 1).trans rfl; have hfz33_0 := blk_frozen BK693.out 0; have hfz33_1 := blk_frozen BK693.out 1) | ((with_reducible refine gate_callee (f := 63) rfl ?_); refine gl_ 25 Try.func63 #[.agg #[.int .i64 a0_0, .slice A0_1 l0_1.length c0_1], .agg #[.int .i64 a1_0, .slice A1_1 l1_1.length c1_1]] ?_; (with_reducible refine (impl_joinBits.calls k a0_0 _ _ l0_1 a1_0 _ _ l1_1 t697 t698 _ ?side1 ?side2 ?side3 ?side4 A21.out).mono ?_); (case side1 => exact kC_ HR0_1); (case side2 => exact HC0_1.out); (case side3 => exact kC_ HR1_1); (case side4 => exact HC1_1.out); rintro e w34 ⟨v699, rfl, ho0, hb⟩; refine ⟨_, rfl, ?_⟩; have HO700 := Aside0.mk (Kd.R_lower ho0 (below_size hB_)); replace BK692 := Aside0.mk (blk_below (kB_ BK692) hb); replace BK693 := Aside0.mk (blk_below (kB_ BK693) hb); replace BK694 := Aside0.mk (blk_below (kB_ BK694) hb); replace HB := Aside0.mk (below_step hB_ hb); (try clear hb); (try clear hb2); (try clear hk); (try clear hi); (try clear ho0); have hcz35_0 : w34.cell? ⟨gb694, 0, none⟩ = some (.int .i64 0) := (blk_cell BK694.out 0).trans rfl; have hcz35_1 : w34.cell? ⟨gb694, 1, none⟩ = some (.slice none 0 0) := (blk_cell BK694.out 1).trans rfl; have hfz35_0 := blk_frozen BK694.out 0; have hfz35_1 := blk_frozen BK694.out 1; obtain ⟨Ao36, co36, eo36⟩ := Kd.R_slice HO700.out; subst eo36))
     refine bodyPost_ret (results_ct rfl _ _ gb694 24 #[.int .i64 t697, .slice Ao36 t698.length co36] (0, 0) _ rfl (by (with_reducible repeat (first | refine blk_drewN ?_ _ | refine blk_drew ?_ | refine blk_alloc ?_ _)); refine blk_put (cs := #[.int .i64 t697, .slice none 0 0]) ?_ 1 _ rfl; (with_reducible repeat (first | refine blk_drewN ?_ _ | refine blk_drew ?_ | refine blk_alloc ?_ _)); refine blk_put (cs := #[.int .i64 0, .slice none 0 0]) ?_ 0 _ rfl; (with_reducible repeat (first | refine blk_drewN ?_ _ | refine blk_drew ?_ | refine blk_alloc ?_ _)); exact BK694.out) Try.underlying24 rfl (by kernel_rfl)) rfl ?_
     exact ⟨_, rf_, by (with_reducible repeat (first | apply Kd.R_alloc | apply Kd.R_drewN | apply Kd.R_drew)); exact Kd.R_mono (Kd.R_far (p := ⟨gb694, 1, none⟩) (Kd.R_far (p := ⟨gb694, 0, none⟩) (Kd.R_types HO700.out BK694.out (by decide)) (fun _ hk => hk.2) (.int .i64 t697)) (fun _ hk => hk.2) (.slice Ao36 t698.length co36)) (fun _ hk => trivial), hB_⟩
   ·replace c6 := Bool.eq_false_iff.mpr c6
    subst c6
    have H1 : (some (0, ([] : List Int), false)) = some (r1, r2, r3) := by rw [if_neg (show ¬ (false = true) by decide)] at H; exact H
    clear H
    have H := H1
    clear H1
    simp only [Option.some.injEq, Prod.mk.injEq] at H
    obtain ⟨rfl, rfl, rfl⟩ := H
    go_enter Try.func38, Try.ntmps38
    go_wp2_with (first | ((with_reducible refine gate_dst (N := 2) rfl ?_); refine bx_ 2 #[.int .i64 a0_0, .slice A0_1 l0_1.length c0_1] 24 ?_; intro gb692 hg w37 hbox hb; have BK692 := Aside0.mk (hbox); have GW692 := Aside0.mk ((ge_ hg)); have GE692 := Aside0.mk ((ge_ hg)); replace HB := Aside0.mk (below_step hB_ hb); clear hb hbox hg) | ((with_reducible refine gate_dst (N := 3) rfl ?_); refine bx_ 3 #[.int .i64 a1_0, .slice A1_1 l1_1.length c1_1] 24 ?_; intro gb693 hg w38 hbox hb; have BK693 := Aside0.mk (hbox); have GW693 := Aside0.mk ((ge_ hg)); have GE693 := Aside0.mk ((ge_ hg)); replace HB := Aside0.mk (below_step hB_ hb); have NB692_693 := Aside0.mk ((ne_ hg BK692)); have NB693_692 := Aside0.mk ((nf_ hg BK692)); replace BK692 := Aside0.mk (blk_below (kB_ BK692) hb); clear hb hbox hg) | ((with_reducible refine gate_dst (N := 4) rfl ?_); refine bx_ 4 #[.int .i64 0, .slice none 0 0] 24 ?_; intro gb694 hg w39 hbox hb; have BK694 := Aside0.mk (hbox); have GW694 := Aside0.mk ((ge_ hg)); have GE694 := Aside0.mk ((ge_ hg)); replace HB := Aside0.mk (below_step hB_ hb); have NB692_694 := Aside0.mk ((ne_ hg BK692)); have NB694_692 := Aside0.mk ((nf_ hg BK692)); replace BK692 := Aside0.mk (blk_below (kB_ BK692) hb); have NB693_694 := Aside0.mk ((ne_ hg BK693)); have NB694_693 := Aside0.mk ((nf_ hg BK693)); replace BK693 := Aside0.mk (blk_below (kB_ BK693) hb); clear hb hbox hg; have hnb40 := NB692_693.out; have hnc40 := NB693_692.out; have hnb41 := NB692_694.out; have hnc41 := NB694_692.out; have hcz42_0 : w39.cell? ⟨gb692, 0, none⟩ = some (.int .i64 a0_0) := (blk_cell BK692.out 0).trans rfl; have hcz42_1 : w39.cell? ⟨gb692, 1, none⟩ = some (.slice A0_1 l0_1.length c0_1) := (blk_cell BK692.out 1).trans rfl; have hfz42_0 := blk_frozen BK692.out 0; have hfz42_1 := blk_frozen BK692.out 1) | ((with_reducible refine gate_callee (f := 62) rfl ?_); refine gl_ 7 Try.func62 #[.agg #[.int .i64 a0_0, .slice A0_1 l0_1.length c0_1]] ?_; (with_reducible refine (impl_IsBits.calls k a0_0 _ _ l0_1 true _ ?side1 ?side2 A3.out).mono ?_); (case side1 => exact kC_ HR0_1); (case side2 => exact HC0_1.out); rintro e w43 ⟨rfl, hb⟩; refine ⟨_, rfl, ?_⟩; replace BK692 := Aside0.mk (blk_below (kB_ BK692) hb); replace BK693 := Aside0.mk (blk_below (kB_ BK693) hb); replace BK694 := Aside0.mk (blk_below (kB_ BK694) hb); replace HB := Aside0.mk (below_step hB_ hb); (try clear hb); (try clear hb2); (try clear hk); (try clear hi); have hnb44 := NB693_694.out; have hnc44 := NB694_693.out; have hcz45_0 : w43.cell? ⟨gb693, 0, none⟩ = some (.int .i64 a1_0) := (blk_cell BK693.out 0).trans rfl; have hcz45_1 : w43.cell? ⟨gb693, 1, none⟩ = some (.slice A1_1 l1_1.length c1_1) := (blk_cell BK693.out 1).trans rfl; have hfz45_0 := blk_frozen BK693.out 0; have hfz45_1 := blk_frozen BK693.out 1) | (go_at_call 62; (with_reducible refine (impl_IsBits.calls k a1_0 _ _ l1_1 false _ ?side1 ?side2 A5.out).mono ?_); (case side1 => exact kC_ HR1_1); (case side2 => exact HC1_1.out); rintro e w46 ⟨rfl, hb⟩; replace BK692 := Aside0.mk (blk_below (kB_ BK692) hb); replace BK693 := Aside0.mk (blk_below (kB_ BK693) hb); replace BK694 := Aside0.mk (blk_below (kB_ BK694) hb); replace HB := Aside0.mk (below_step hB_ hb); (try clear hb); (try clear hb2); (try clear hk); (try clear hi); have hcz47_0 : w46.cell? ⟨gb694, 0, none⟩ = some (.int .i64 0) := (blk_cell BK694.out 0).trans rfl; have hcz47_1 : w46.cell? ⟨gb694, 1, none⟩ = some (.slice none 0 0) := (blk_cell BK694.out 1).trans rfl; have hfz47_0 := blk_frozen BK694.out 0; have hfz47_1 := blk_frozen BK694.out 1))
    refine bodyPost_ret (results_ct rfl _ _ gb694 24 #[.int .i64 0, .slice none 0 0] (0, 0) _ rfl (by (with_reducible repeat (first | refine blk_drewN ?_ _ | refine blk_drew ?_ | refine blk_alloc ?_ _)); refine blk_put (cs := #[.int .i64 0, .slice none 0 0]) ?_ 1 _ rfl; (with_reducible repeat (first | refine blk_drewN ?_ _ | refine blk_drew ?_ | refine blk_alloc ?_ _)); refine blk_put (cs := #[.int .i64 0, .slice none 0 0]) ?_ 0 _ rfl; (with_reducible repeat (first | refine blk_drewN ?_ _ | refine blk_drew ?_ | refine blk_alloc ?_ _)); exact BK694.out) Try.underlying24 rfl (by kernel_rfl)) rfl ?_
    exact ⟨_, rf_, by first | exact Kd.R_nil _ _ _ _ _ | exact Kd.N_nil _ _ _ _ _ | exact Kd.V_nil _ _ _ _ _ | exact Kd.Q_nil _ _ _ _ _ | exact Kd.S_nil _ _ _ _ _, hB_⟩
  ·replace c4 := Bool.eq_false_iff.mpr c4
   subst c4
   have H1 : (some (0, ([] : List Int), false)) = some (r1, r2, r3) := by rw [if_neg (show ¬ (false = true) by decide)] at H; exact H
   clear H
   have H := H1
   clear H1
   simp only [Option.some.injEq, Prod.mk.injEq] at H
   obtain ⟨rfl, rfl, rfl⟩ := H
   go_enter Try.func38, Try.ntmps38
   go_wp2_with (first | ((with_reducible refine gate_dst (N := 2) rfl ?_); refine bx_ 2 #[.int .i64 a0_0, .slice A0_1 l0_1.length c0_1] 24 ?_; intro gb692 hg w48 hbox hb; have BK692 := Aside0.mk (hbox); have GW692 := Aside0.mk ((ge_ hg)); have GE692 := Aside0.mk ((ge_ hg)); replace HB := Aside0.mk (below_step hB_ hb); clear hb hbox hg) | ((with_reducible refine gate_dst (N := 3) rfl ?_); refine bx_ 3 #[.int .i64 a1_0, .slice A1_1 l1_1.length c1_1] 24 ?_; intro gb693 hg w49 hbox hb; have BK693 := Aside0.mk (hbox); have GW693 := Aside0.mk ((ge_ hg)); have GE693 := Aside0.mk ((ge_ hg)); replace HB := Aside0.mk (below_step hB_ hb); have NB692_693 := Aside0.mk ((ne_ hg BK692)); have NB693_692 := Aside0.mk ((nf_ hg BK692)); replace BK692 := Aside0.mk (blk_below (kB_ BK692) hb); clear hb hbox hg) | ((with_reducible refine gate_dst (N := 4) rfl ?_); refine bx_ 4 #[.int .i64 0, .slice none 0 0] 24 ?_; intro gb694 hg w50 hbox hb; have BK694 := Aside0.mk (hbox); have GW694 := Aside0.mk ((ge_ hg)); have GE694 := Aside0.mk ((ge_ hg)); replace HB := Aside0.mk (below_step hB_ hb); have NB692_694 := Aside0.mk ((ne_ hg BK692)); have NB694_692 := Aside0.mk ((nf_ hg BK692)); replace BK692 := Aside0.mk (blk_below (kB_ BK692) hb); have NB693_694 := Aside0.mk ((ne_ hg BK693)); have NB694_693 := Aside0.mk ((nf_ hg BK693)); replace BK693 := Aside0.mk (blk_below (kB_ BK693) hb); clear hb hbox hg; have hnb51 := NB692_693.out; have hnc51 := NB693_692.out; have hnb52 := NB692_694.out; have hnc52 := NB694_692.out; have hcz53_0 : w50.cell? ⟨gb692, 0, none⟩ = some (.int .i64 a0_0) := (blk_cell BK692.out 0).trans rfl; have hcz53_1 : w50.cell? ⟨gb692, 1, none⟩ = some (.slice A0_1 l0_1.length c0_1) := (blk_cell BK692.out 1).trans rfl; have hfz53_0 := blk_frozen BK692.out 0; have hfz53_1 := blk_frozen BK692.out 1) | ((with_reducible refine gate_callee (f := 62) rfl ?_); refine gl_ 7 Try.func62 #[.agg #[.int .i64 a0_0, .slice A0_1 l0_1.length c0_1]] ?_; (with_reducible refine (impl_IsBits.calls k a0_0 _ _ l0_1 false _ ?side1 ?side2 A3.out).mono ?_); (case side1 => exact kC_ HR0_1); (case side2 => exact HC0_1.out); rintro e w54 ⟨rfl, hb⟩; refine ⟨_, rfl, ?_⟩; replace BK692 := Aside0.mk (blk_below (kB_ BK692) hb); replace BK693 := Aside0.mk (blk_below (kB_ BK693) hb); replace BK694 := Aside0.mk (blk_below (kB_ BK694) hb); replace HB := Aside0.mk (below_step hB_ hb); (try clear hb); (try clear hb2); (try clear hk); (try clear hi); have hnb55 := NB694_693.out; have hnc55 := NB693_694.out; have hcz56_0 : w54.cell? ⟨gb694, 0, none⟩ = some (.int .i64 0) := (blk_cell BK694.out 0).trans rfl; have hcz56_1 : w54.cell? ⟨gb694, 1, none⟩ = some (.slice none 0 0) := (blk_cell BK694.out 1).trans rfl; have hfz56_0 := blk_frozen BK694.out 0; have hfz56_1 := blk_frozen BK694.out 1))
   refine bodyPost_ret (results_ct rfl _ _ gb694 24 #[.int .i64 0, .slice none 0 0] (0, 0) _ rfl (by (with_reducible repeat (first | refine blk_drewN ?_ _ | refine blk_drew ?_ | refine blk_alloc ?_ _)); refine blk_put (cs := #[.int .i64 0, .slice none 0 0]) ?_ 1 _ rfl; (with_reducible repeat (first | refine blk_drewN ?_ _ | refine blk_drew ?_ | refine blk_alloc ?_ _)); refine blk_put (cs := #[.int .i64 0, .slice none 0 0]) ?_ 0 _ rfl; (with_reducible repeat (first | refine blk_drewN ?_ _ | refine blk_drew ?_ | refine blk_alloc ?_ _)); exact BK694.out) Try.underlying24 rfl (by kernel_rfl)) rfl ?_
   exact ⟨_, rf_, by first | exact Kd.R_nil _ _ _ _ _ | exact Kd.N_nil _ _ _ _ _ | exact Kd.V_nil _ _ _ _ _ | exact Kd.Q_nil _ _ _ _ _ | exact Kd.S_nil _ _ _ _ _, hB_⟩
end Go.Proofs.Ytkechjheiakibaa.X
