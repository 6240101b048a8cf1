/- Written by a program of this session: what functions of the given program compute, and that their calls do so. -/
import Derived.Test.YtgfiakboloifnaaXx0
import Derived.Test.YtgfiakboloifnaaXx1
namespace Go.Proofs.Ytgfiakboloifnaa.X
open Go.RowKit Go.Proofs.YtgfiakboloifnaaW.PrintWords Go.Proofs.YtgfiakboloifnaaW.PrintLast Go.Proofs.YtgfiakboloifnaaW.PrintMore
attribute [local go_sem] max2_int min2_int max_two min_two max_three min_three max_four min_four   -- for this text's walks alone
set_option linter.unusedVariables false
set_option linter.unusedSimpArgs false

/-! ### spec_biKeys: function 62 -/
def spec_biKeys.l0 : Nat → List ByteArray → List ByteArray → Int → Int → Option (Bool)
  | 0, _, _, _, _ => none
  | k + 1, x0, x5, x6, x7 => if x7 < x6 then (if 0 ≤ x7 then (if x7 < (x5.length : Int) then ((spec_IsKey.f k (rdOf ByteArray.empty x5 x7)).bind fun t346 => (if t346 = true then (if x7 > 0 then (if 0 ≤ (wrap64 (x7 - 1)) then (if (wrap64 (x7 - 1)) < (x0.length : Int) then (if ((Op.bytesLess ((rdOf ByteArray.empty x0 (wrap64 (x7 - 1))).toList) ((rdOf ByteArray.empty x5 x7).toList)) = true) then (spec_biKeys.l0 k x0 x5 x6 (wrap64 (x7 + 1))) else (some false)) else (none)) else (none)) else (spec_biKeys.l0 k x0 x5 x6 (wrap64 (x7 + 1)))) else (some false))) else (none)) else (none)) else (some (decide ((x0.length : Int) ≤ 40)))
def spec_biKeys.f (k : Nat) (l0 : List ByteArray) : Option (Bool) := spec_biKeys.l0 k l0 l0 (l0.length : Int) 0
theorem spec_biKeys.mono_l : ∀ k, (∀ y0 y1 y2 y3, LeO (spec_biKeys.l0 k y0 y1 y2 y3) (spec_biKeys.l0 (k + 1) y0 y1 y2 y3))
  | 0 => fun _ _ _ _ r h => by simp [spec_biKeys.l0] at h
  | k + 1 => by
    have ih0 := spec_biKeys.mono_l k
    · intro y0 y1 y2 y3
      unfold spec_biKeys.l0
      repeat' first
      | (with_reducible exact ih0 _ _ _ _)
      | (with_reducible exact spec_IsKey.mono _ _)
      | (with_reducible exact LeO.refl _)
      | (with_reducible exact LeO.none _)
      | (with_reducible refine LeO.ite ?_ ?_)
      | (with_reducible refine LeO.bind ?_ (fun _ => ?_))
      | exact ih0 _ _ _ _
      | exact spec_IsKey.mono _ _
      | exact LeO.none _
      | refine LeO.ite ?_ ?_
      | refine LeO.bind ?_ (fun _ => ?_)
theorem spec_biKeys.mono : ∀ a0 k, LeO (spec_biKeys.f k a0) (spec_biKeys.f (k + 1) a0) := by
  intro a0 k
  have ih0 := spec_biKeys.mono_l k
  unfold spec_biKeys.f
  repeat' first
      | (with_reducible exact ih0 _ _ _ _)
      | (with_reducible exact spec_IsKey.mono _ _)
      | (with_reducible exact LeO.refl _)
      | (with_reducible exact LeO.none _)
      | (with_reducible refine LeO.ite ?_ ?_)
      | (with_reducible refine LeO.bind ?_ (fun _ => ?_))
      | exact ih0 _ _ _ _
      | exact spec_IsKey.mono _ _
      | exact LeO.none _
      | refine LeO.ite ?_ ?_
      | refine LeO.bind ?_ (fun _ => ?_)
noncomputable def spec_biKeys.L0 (y0 : List ByteArray) (y1 : List ByteArray) (y2 : Int) (y3 : Int) : Option (Bool) := lim fun k => spec_biKeys.l0 k y0 y1 y2 y3
theorem spec_biKeys.L0_sup (y0 : List ByteArray) (y1 : List ByteArray) (y2 : Int) (y3 : Int) : Sup (fun k => spec_biKeys.l0 k y0 y1 y2 y3) (spec_biKeys.L0 y0 y1 y2 y3) := Sup.of_mono fun k => spec_biKeys.mono_l k y0 y1 y2 y3
noncomputable def spec_biKeys.F (l0 : List ByteArray) : Option (Bool) := lim fun k => spec_biKeys.f k l0
theorem spec_biKeys.F_sup (l0 : List ByteArray) : Sup (fun k => spec_biKeys.f k l0) (spec_biKeys.F l0) := Sup.of_mono fun k => spec_biKeys.mono l0 k
theorem spec_biKeys.L0_eq (x0 : List ByteArray) (x5 : List ByteArray) (x6 : Int) (x7 : Int) : spec_biKeys.L0 x0 x5 x6 x7 = if x7 < x6 then (if 0 ≤ x7 then (if x7 < (x5.length : Int) then ((spec_IsKey.F (rdOf ByteArray.empty x5 x7)).bind fun t346 => (if t346 = true then (if x7 > 0 then (if 0 ≤ (wrap64 (x7 - 1)) then (if (wrap64 (x7 - 1)) < (x0.length : Int) then (if ((Op.bytesLess ((rdOf ByteArray.empty x0 (wrap64 (x7 - 1))).toList) ((rdOf ByteArray.empty x5 x7).toList)) = true) then (spec_biKeys.L0 x0 x5 x6 (wrap64 (x7 + 1))) else (some false)) else (none)) else (none)) else (spec_biKeys.L0 x0 x5 x6 (wrap64 (x7 + 1)))) else (some false))) else (none)) else (none)) else (some (decide ((x0.length : Int) ≤ 40))) := by
  refine Sup.unique (spec_biKeys.L0_sup x0 x5 x6 x7) (Sup.shift (fun k => spec_biKeys.mono_l k x0 x5 x6 x7) (Sup.congr (g' := fun k => if x7 < x6 then (if 0 ≤ x7 then (if x7 < (x5.length : Int) then ((spec_IsKey.f k (rdOf ByteArray.empty x5 x7)).bind fun t346 => (if t346 = true then (if x7 > 0 then (if 0 ≤ (wrap64 (x7 - 1)) then (if (wrap64 (x7 - 1)) < (x0.length : Int) then (if ((Op.bytesLess ((rdOf ByteArray.empty x0 (wrap64 (x7 - 1))).toList) ((rdOf ByteArray.empty x5 x7).toList)) = true) then (spec_biKeys.l0 k x0 x5 x6 (wrap64 (x7 + 1))) else (some false)) else (none)) else (none)) else (spec_biKeys.l0 k x0 x5 x6 (wrap64 (x7 + 1)))) else (some false))) else (none)) else (none)) else (some (decide ((x0.length : Int) ≤ 40)))) (fun k => by first | rfl | simp only [spec_biKeys.l0]) ?_))
  repeat' first
    | (with_reducible exact spec_biKeys.L0_sup _ _ _ _)
    | (with_reducible exact spec_IsKey.F_sup _)
    | (with_reducible refine Sup.ite ?_ ?_)
    | (with_reducible refine Sup.bind ?_ (fun _ => ?_))
    | (with_reducible exact Sup.const _)
    | exact spec_biKeys.L0_sup _ _ _ _
    | exact spec_IsKey.F_sup _
    | exact Sup.const _
theorem spec_biKeys.F_eq (l0 : List ByteArray) : spec_biKeys.F l0 = spec_biKeys.L0 l0 l0 (l0.length : Int) 0 := by
  refine Sup.unique (spec_biKeys.F_sup l0) (Sup.congr (g' := fun k => spec_biKeys.l0 k l0 l0 (l0.length : Int) 0) (fun k => by first | rfl | simp only [spec_biKeys.f]) ?_)
  repeat' first
    | (with_reducible exact spec_biKeys.L0_sup _ _ _ _)
    | (with_reducible exact spec_IsKey.F_sup _)
    | (with_reducible refine Sup.ite ?_ ?_)
    | (with_reducible refine Sup.bind ?_ (fun _ => ?_))
    | (with_reducible exact Sup.const _)
    | exact spec_biKeys.L0_sup _ _ _ _
    | exact spec_IsKey.F_sup _
    | exact Sup.const _
set_option maxHeartbeats 8000000 in
set_option maxRecDepth 100000 in
theorem spec_biKeys.calls (k : Nat) (A0 : Option Addr) (c0 : Nat) (l0 : List ByteArray) (r : Bool) (w : World) (hr0 : Kd.C Kd.string w A0 l0.length l0) (hc0 : l0.length ≤ c0) (h : spec_biKeys.f k l0 = some r) :
    Calls Try.prog 62 #[.slice A0 l0.length c0] w fun e w' => e = .returned (.bool r) ∧ Drawn0 w w' := by
  have HR0 := Aside0.mk hr0
  have HC0 := Aside0.mk hc0
  clear hr0 hc0
  have H : (spec_biKeys.l0 k l0 l0 (l0.length : Int) 0) = some r := h
  clear h
  have H' := Aside0.mk H
  clear H
  go_enter Try.func62, Try.ntmps62
  go_wp2
  go_loopg [7] k (fun kq v7 w' => ∃ (x7_1 : Int), v7 = .int .i64 x7_1 ∧ Aside0 (spec_biKeys.l0 kq l0 l0 (l0.length : Int) x7_1 = some r) ∧ Aside0 (kq ≤ k) ∧ Drawn0 w w')
  case atStart => exact ⟨(0), (by first | rfl | (simp; done) | (simp [*]; done)), H', ⟨Nat.le_refl _⟩, by repeat (first | exact Drawn0.refl _ | apply Drawn0.step)⟩
  case round =>
    clear H'
    obtain ⟨x7_1, rfl, HA, HK1, ⟨m1, rfl⟩⟩ := hrel
    cases gk with
    | zero => exact absurd HA.out (by simp [spec_biKeys.l0])
    | succ k1 =>
      have H := HA.out
      clear HA
      simp only [spec_biKeys.l0] at H
      by_cases c2 : x7_1 < (l0.length : Int)
      · rw [if_pos c2] at H
        have c2b0 : decide (x7_1 < (l0.length : Int)) = true := decide_eq_true c2
        clear c2
        by_cases c3 : 0 ≤ x7_1
        · rw [if_pos c3] at H
          have c3b0 : decide (0 ≤ x7_1) = true := decide_eq_true c3
          clear c3
          by_cases c4 : x7_1 < (l0.length : Int)
          · rw [if_pos c4] at H
            have c4b0 : decide (x7_1 < (l0.length : Int)) = true := decide_eq_true c4
            clear c4
            replace H := Option.bind_eq_some_iff.mp H
            obtain ⟨t346, A50, H⟩ := H
            replace H : (if t346 = true then (if x7_1 > 0 then (if 0 ≤ (wrap64 (x7_1 - 1)) then (if (wrap64 (x7_1 - 1)) < (l0.length : Int) then (if ((Op.bytesLess ((rdOf ByteArray.empty l0 (wrap64 (x7_1 - 1))).toList) ((rdOf ByteArray.empty l0 x7_1).toList)) = true) then (spec_biKeys.l0 k1 l0 l0 (l0.length : Int) (wrap64 (x7_1 + 1))) else (some false)) else (none)) else (none)) else (spec_biKeys.l0 k1 l0 l0 (l0.length : Int) (wrap64 (x7_1 + 1)))) else (some false)) = some r := H
            have A5 := Aside0.mk A50
            clear A50
            by_cases c6 : t346 = true
            · subst c6
              have H1 : (if x7_1 > 0 then (if 0 ≤ (wrap64 (x7_1 - 1)) then (if (wrap64 (x7_1 - 1)) < (l0.length : Int) then (if ((Op.bytesLess ((rdOf ByteArray.empty l0 (wrap64 (x7_1 - 1))).toList) ((rdOf ByteArray.empty l0 x7_1).toList)) = true) then (spec_biKeys.l0 k1 l0 l0 (l0.length : Int) (wrap64 (x7_1 + 1))) else (some false)) else (none)) else (none)) else (spec_biKeys.l0 k1 l0 l0 (l0.length : Int) (wrap64 (x7_1 + 1)))) = some r := by rw [if_pos rfl] at H; exact H
              clear H
              have H := H1
              clear H1
              by_cases c7 : x7_1 > 0
              · rw [if_pos c7] at H
                have c7b0 : decide (0 < x7_1) = true := decide_eq_true c7
                clear c7
                obtain ⟨ji8, hji8⟩ : ∃ j_ : Int, (wrap64 (x7_1 - 1)) = j_ := ⟨_, rfl⟩
                replace H : (if 0 ≤ (ji8) then (if (ji8) < (l0.length : Int) then (if ((Op.bytesLess ((rdOf ByteArray.empty l0 (ji8)).toList) ((rdOf ByteArray.empty l0 x7_1).toList)) = true) then (spec_biKeys.l0 k1 l0 l0 (l0.length : Int) (wrap64 (x7_1 + 1))) else (some false)) else (none)) else (none)) = some r := by first | (rw [hji8] at H; exact H) | (simp only [hji8] at H ⊢; exact H)
                (try rw [hji8] at A5)
                have hji8w : (IntKind.i64.wrap (x7_1 - 1)) = ji8 := (i64_w _).trans hji8
                by_cases c9 : 0 ≤ (ji8)
                · rw [if_pos c9] at H
                  have c9b0 : decide (0 ≤ (ji8)) = true := decide_eq_true c9
                  clear c9
                  by_cases c10 : (ji8) < (l0.length : Int)
                  · rw [if_pos c10] at H
                    have c10b0 : decide ((ji8) < (l0.length : Int)) = true := decide_eq_true c10
                    clear c10
                    by_cases c11 : ((Op.bytesLess ((rdOf ByteArray.empty l0 (ji8)).toList) ((rdOf ByteArray.empty l0 x7_1).toList)) = true)
                    · rw [if_pos c11] at H
                      have c11b0 : (Op.bytesLess ((rdOf ByteArray.empty l0 (ji8)).toList) ((rdOf ByteArray.empty l0 x7_1).toList)) = true := c11
                      clear c11
                      have H' := Aside0.mk H
                      clear H
                      have p345 : 0 ≤ (x7_1 : Int) := of_decide_eq_true (by first | (with_reducible assumption) | assumption)
                      have q345 : x7_1 < (l0.length : Int) := of_decide_eq_true (by first | (with_reducible assumption) | assumption)
                      obtain ⟨ad345, e345, hx345_0⟩ := Kd.at_string HR0.out x7_1 p345 q345
                      cases e345
                      replace p345 := eq_true p345
                      replace q345 := eq_true q345
                      go_wp2_with (first | ((with_reducible refine gate_callee (f := 37) rfl ?_); refine goesL_ (some 13) rfl rfl Try.func37 (by kernel_rfl) rfl #[.string (rdOf ByteArray.empty l0 x7_1)] rfl (by (try simp only [List.map_toArray, List.map_cons, List.map_nil]); first | done | rfl | (simp only [List.length_drop, List.length_take]; rfl)) ?_; (with_reducible refine (spec_IsKey.calls k1 (rdOf ByteArray.empty l0 x7_1) true _ A5.out).mono ?_); rintro e w' ⟨rfl, ⟨nd, rfl⟩⟩; refine ⟨_, rfl, ?_⟩; have p347 : 0 ≤ ((ji8) : Int) := of_decide_eq_true (by first | (with_reducible assumption) | assumption); have q347 : (ji8) < (l0.length : Int) := of_decide_eq_true (by first | (with_reducible assumption) | assumption); obtain ⟨ad347, e347, hx347_0⟩ := Kd.at_string HR0.out (ji8) p347 q347; obtain rfl : ad345 = ad347 := (by injection e347); replace p347 := eq_true p347; replace q347 := eq_true q347))
                      go_roundg k1
                      case measure => have := HK1.out; omega
                      case rel => exact ⟨(wrap64 (x7_1 + 1)), (by first | rfl | (simp; done) | (simp [*]; done)), H', ⟨by have := HK1.out; omega⟩, by repeat (first | exact Drawn0.refl _ | apply Drawn0.step)⟩
                    · rw [if_neg c11] at H
                      have c11b0 : (Op.bytesLess ((rdOf ByteArray.empty l0 (ji8)).toList) ((rdOf ByteArray.empty l0 x7_1).toList)) = false := by simpa using c11
                      clear c11
                      obtain rfl := Option.some.inj H
                      have p345 : 0 ≤ (x7_1 : Int) := of_decide_eq_true (by first | (with_reducible assumption) | assumption)
                      have q345 : x7_1 < (l0.length : Int) := of_decide_eq_true (by first | (with_reducible assumption) | assumption)
                      obtain ⟨ad345, e345, hx345_0⟩ := Kd.at_string HR0.out x7_1 p345 q345
                      cases e345
                      replace p345 := eq_true p345
                      replace q345 := eq_true q345
                      go_wp2_with (first | ((with_reducible refine gate_callee (f := 37) rfl ?_); refine goesL_ (some 13) rfl rfl Try.func37 (by kernel_rfl) rfl #[.string (rdOf ByteArray.empty l0 x7_1)] rfl (by (try simp only [List.map_toArray, List.map_cons, List.map_nil]); first | done | rfl | (simp only [List.length_drop, List.length_take]; rfl)) ?_; (with_reducible refine (spec_IsKey.calls k1 (rdOf ByteArray.empty l0 x7_1) true _ A5.out).mono ?_); rintro e w' ⟨rfl, ⟨nd, rfl⟩⟩; refine ⟨_, rfl, ?_⟩; have p347 : 0 ≤ ((ji8) : Int) := of_decide_eq_true (by first | (with_reducible assumption) | assumption); have q347 : (ji8) < (l0.length : Int) := of_decide_eq_true (by first | (with_reducible assumption) | assumption); obtain ⟨ad347, e347, hx347_0⟩ := Kd.at_string HR0.out (ji8) p347 q347; obtain rfl : ad345 = ad347 := (by injection e347); replace p347 := eq_true p347; replace q347 := eq_true q347))
                      go_ret
                      exact ⟨by first | rfl | (simp; done) | (simp only [← hji8] <;> (first | rfl | simp)) | (simp [*]; done), by repeat (first | exact Drawn0.refl _ | apply Drawn0.step)⟩
                  · rw [if_neg c10] at H
                    exact absurd H (by simp)
                · rw [if_neg c9] at H
                  exact absurd H (by simp)
              · rw [if_neg c7] at H
                have c7b0 : decide (0 < x7_1) = false := decide_eq_false c7
                clear c7
                have H' := Aside0.mk H
                clear H
                have p345 : 0 ≤ (x7_1 : Int) := of_decide_eq_true (by first | (with_reducible assumption) | assumption)
                have q345 : x7_1 < (l0.length : Int) := of_decide_eq_true (by first | (with_reducible assumption) | assumption)
                obtain ⟨ad345, e345, hx345_0⟩ := Kd.at_string HR0.out x7_1 p345 q345
                cases e345
                replace p345 := eq_true p345
                replace q345 := eq_true q345
                go_wp2_with (first | ((with_reducible refine gate_callee (f := 37) rfl ?_); refine goesL_ (some 13) rfl rfl Try.func37 (by kernel_rfl) rfl #[.string (rdOf ByteArray.empty l0 x7_1)] rfl (by (try simp only [List.map_toArray, List.map_cons, List.map_nil]); first | done | rfl | (simp only [List.length_drop, List.length_take]; rfl)) ?_; (with_reducible refine (spec_IsKey.calls k1 (rdOf ByteArray.empty l0 x7_1) true _ A5.out).mono ?_); rintro e w' ⟨rfl, ⟨nd, rfl⟩⟩; refine ⟨_, rfl, ?_⟩))
                go_roundg k1
                case measure => have := HK1.out; omega
                case rel => exact ⟨(wrap64 (x7_1 + 1)), (by first | rfl | (simp; done) | (simp [*]; done)), H', ⟨by have := HK1.out; omega⟩, by repeat (first | exact Drawn0.refl _ | apply Drawn0.step)⟩
            · replace c6 := Bool.eq_false_iff.mpr c6
              subst c6
              have H1 : (some false) = some r := by rw [if_neg (show ¬ (false = true) by decide)] at H; exact H
              clear H
              have H := H1
              clear H1
              obtain rfl := Option.some.inj H
              have p345 : 0 ≤ (x7_1 : Int) := of_decide_eq_true (by first | (with_reducible assumption) | assumption)
              have q345 : x7_1 < (l0.length : Int) := of_decide_eq_true (by first | (with_reducible assumption) | assumption)
              obtain ⟨ad345, e345, hx345_0⟩ := Kd.at_string HR0.out x7_1 p345 q345
              cases e345
              replace p345 := eq_true p345
              replace q345 := eq_true q345
              go_wp2_with (first | ((with_reducible refine gate_callee (f := 37) rfl ?_); refine goesL_ (some 13) rfl rfl Try.func37 (by kernel_rfl) rfl #[.string (rdOf ByteArray.empty l0 x7_1)] rfl (by (try simp only [List.map_toArray, List.map_cons, List.map_nil]); first | done | rfl | (simp only [List.length_drop, List.length_take]; rfl)) ?_; (with_reducible refine (spec_IsKey.calls k1 (rdOf ByteArray.empty l0 x7_1) false _ A5.out).mono ?_); rintro e w' ⟨rfl, ⟨nd, rfl⟩⟩; refine ⟨_, rfl, ?_⟩))
              go_ret
              exact ⟨by first | rfl | (simp; done) | (simp [*]; done), by repeat (first | exact Drawn0.refl _ | apply Drawn0.step)⟩
          · rw [if_neg c4] at H
            exact absurd H (by simp)
        · rw [if_neg c3] at H
          exact absurd H (by simp)
      · rw [if_neg c2] at H
        have c2b0 : decide (x7_1 < (l0.length : Int)) = false := decide_eq_false c2
        clear c2
        obtain rfl := Option.some.inj H
        go_wp2
        go_ret
        exact ⟨by first | rfl | (simp; done) | (simp [*]; done), by repeat (first | exact Drawn0.refl _ | apply Drawn0.step)⟩

/-! ### spec_biPlaces: function 63 -/
def spec_biPlaces.l0 : Nat → Int → Int → Int → List Int → List ByteArray → Int → Int → Option (List Int)
  | 0, _, _, _, _, _, _, _ => none
  | k + 1, x0, x1, x3, x9, x12, x13, x14 => if x14 < x13 then (if 0 ≤ x14 then (if x14 < (x12.length : Int) then ((spec_biPlace.f k x0 x1 (rdOf ByteArray.empty x12 x14) x3).bind fun t349 => (if x9.length < 17592186044416 then (spec_biPlaces.l0 k x0 x1 x3 (x9 ++ [t349]) x12 x13 (wrap64 (x14 + 1))) else (none))) else (none)) else (none)) else (some x9)
def spec_biPlaces.f (k : Nat) (a0 : Int) (a1 : Int) (l2 : List ByteArray) (a3 : Int) : Option (List Int) := spec_biPlaces.l0 k a0 a1 a3 ([] : List Int) l2 (l2.length : Int) 0
theorem spec_biPlaces.mono_l : ∀ k, (∀ y0 y1 y2 y3 y4 y5 y6, LeO (spec_biPlaces.l0 k y0 y1 y2 y3 y4 y5 y6) (spec_biPlaces.l0 (k + 1) y0 y1 y2 y3 y4 y5 y6))
  | 0 => fun _ _ _ _ _ _ _ r h => by simp [spec_biPlaces.l0] at h
  | k + 1 => by
    have ih0 := spec_biPlaces.mono_l k
    · intro y0 y1 y2 y3 y4 y5 y6
      unfold spec_biPlaces.l0
      repeat' first
      | (with_reducible exact ih0 _ _ _ _ _ _ _)
      | (with_reducible exact spec_biPlace.mono _ _ _ _ _)
      | (with_reducible exact LeO.refl _)
      | (with_reducible exact LeO.none _)
      | (with_reducible refine LeO.ite ?_ ?_)
      | (with_reducible refine LeO.bind ?_ (fun _ => ?_))
      | exact ih0 _ _ _ _ _ _ _
      | exact spec_biPlace.mono _ _ _ _ _
      | exact LeO.none _
      | refine LeO.ite ?_ ?_
      | refine LeO.bind ?_ (fun _ => ?_)
theorem spec_biPlaces.mono : ∀ a0 a1 a2 a3 k, LeO (spec_biPlaces.f k a0 a1 a2 a3) (spec_biPlaces.f (k + 1) a0 a1 a2 a3) := by
  intro a0 a1 a2 a3 k
  have ih0 := spec_biPlaces.mono_l k
  unfold spec_biPlaces.f
  repeat' first
      | (with_reducible exact ih0 _ _ _ _ _ _ _)
      | (with_reducible exact spec_biPlace.mono _ _ _ _ _)
      | (with_reducible exact LeO.refl _)
      | (with_reducible exact LeO.none _)
      | (with_reducible refine LeO.ite ?_ ?_)
      | (with_reducible refine LeO.bind ?_ (fun _ => ?_))
      | exact ih0 _ _ _ _ _ _ _
      | exact spec_biPlace.mono _ _ _ _ _
      | exact LeO.none _
      | refine LeO.ite ?_ ?_
      | refine LeO.bind ?_ (fun _ => ?_)
noncomputable def spec_biPlaces.L0 (y0 : Int) (y1 : Int) (y2 : Int) (y3 : List Int) (y4 : List ByteArray) (y5 : Int) (y6 : Int) : Option (List Int) := lim fun k => spec_biPlaces.l0 k y0 y1 y2 y3 y4 y5 y6
theorem spec_biPlaces.L0_sup (y0 : Int) (y1 : Int) (y2 : Int) (y3 : List Int) (y4 : List ByteArray) (y5 : Int) (y6 : Int) : Sup (fun k => spec_biPlaces.l0 k y0 y1 y2 y3 y4 y5 y6) (spec_biPlaces.L0 y0 y1 y2 y3 y4 y5 y6) := Sup.of_mono fun k => spec_biPlaces.mono_l k y0 y1 y2 y3 y4 y5 y6
noncomputable def spec_biPlaces.F (a0 : Int) (a1 : Int) (l2 : List ByteArray) (a3 : Int) : Option (List Int) := lim fun k => spec_biPlaces.f k a0 a1 l2 a3
theorem spec_biPlaces.F_sup (a0 : Int) (a1 : Int) (l2 : List ByteArray) (a3 : Int) : Sup (fun k => spec_biPlaces.f k a0 a1 l2 a3) (spec_biPlaces.F a0 a1 l2 a3) := Sup.of_mono fun k => spec_biPlaces.mono a0 a1 l2 a3 k
theorem spec_biPlaces.L0_eq (x0 : Int) (x1 : Int) (x3 : Int) (x9 : List Int) (x12 : List ByteArray) (x13 : Int) (x14 : Int) : spec_biPlaces.L0 x0 x1 x3 x9 x12 x13 x14 = if x14 < x13 then (if 0 ≤ x14 then (if x14 < (x12.length : Int) then ((spec_biPlace.F x0 x1 (rdOf ByteArray.empty x12 x14) x3).bind fun t349 => (if x9.length < 17592186044416 then (spec_biPlaces.L0 x0 x1 x3 (x9 ++ [t349]) x12 x13 (wrap64 (x14 + 1))) else (none))) else (none)) else (none)) else (some x9) := by
  refine Sup.unique (spec_biPlaces.L0_sup x0 x1 x3 x9 x12 x13 x14) (Sup.shift (fun k => spec_biPlaces.mono_l k x0 x1 x3 x9 x12 x13 x14) (Sup.congr (g' := fun k => if x14 < x13 then (if 0 ≤ x14 then (if x14 < (x12.length : Int) then ((spec_biPlace.f k x0 x1 (rdOf ByteArray.empty x12 x14) x3).bind fun t349 => (if x9.length < 17592186044416 then (spec_biPlaces.l0 k x0 x1 x3 (x9 ++ [t349]) x12 x13 (wrap64 (x14 + 1))) else (none))) else (none)) else (none)) else (some x9)) (fun k => by first | rfl | simp only [spec_biPlaces.l0]) ?_))
  repeat' first
    | (with_reducible exact spec_biPlaces.L0_sup _ _ _ _ _ _ _)
    | (with_reducible exact spec_biPlace.F_sup _ _ _ _)
    | (with_reducible refine Sup.ite ?_ ?_)
    | (with_reducible refine Sup.bind ?_ (fun _ => ?_))
    | (with_reducible exact Sup.const _)
    | exact spec_biPlaces.L0_sup _ _ _ _ _ _ _
    | exact spec_biPlace.F_sup _ _ _ _
    | exact Sup.const _
theorem spec_biPlaces.F_eq (a0 : Int) (a1 : Int) (l2 : List ByteArray) (a3 : Int) : spec_biPlaces.F a0 a1 l2 a3 = spec_biPlaces.L0 a0 a1 a3 ([] : List Int) l2 (l2.length : Int) 0 := by
  refine Sup.unique (spec_biPlaces.F_sup a0 a1 l2 a3) (Sup.congr (g' := fun k => spec_biPlaces.l0 k a0 a1 a3 ([] : List Int) l2 (l2.length : Int) 0) (fun k => by first | rfl | simp only [spec_biPlaces.f]) ?_)
  repeat' first
    | (with_reducible exact spec_biPlaces.L0_sup _ _ _ _ _ _ _)
    | (with_reducible exact spec_biPlace.F_sup _ _ _ _)
    | (with_reducible refine Sup.ite ?_ ?_)
    | (with_reducible refine Sup.bind ?_ (fun _ => ?_))
    | (with_reducible exact Sup.const _)
    | exact spec_biPlaces.L0_sup _ _ _ _ _ _ _
    | exact spec_biPlace.F_sup _ _ _ _
    | exact Sup.const _
set_option maxHeartbeats 8000000 in
set_option maxRecDepth 100000 in
theorem spec_biPlaces.calls (k : Nat) (a0 : Int) (a1 : Int) (A2 : Option Addr) (c2 : Nat) (l2 : List ByteArray) (a3 : Int) (r : List Int) (w : World) (hr2 : Kd.C Kd.string w A2 l2.length l2) (hc2 : l2.length ≤ c2) (h : spec_biPlaces.f k a0 a1 l2 a3 = some r) :
    Calls Try.prog 63 #[.int .i64 a0, .int .i64 a1, .slice A2 l2.length c2, .int .i64 a3] w fun e w' => ∃ v0_ : Value, e = .returned (v0_) ∧ Kd.R (Kd.int .i64) 3 w' w.heap.size (fun _ => True) v0_ r ∧ Below w.heap.size w w' := by
  have HR2 := Aside0.mk hr2
  have HC2 := Aside0.mk hc2
  clear hr2 hc2
  have HB := Aside0.mk (Below.refl w.heap.size w)
  have H : (spec_biPlaces.l0 k a0 a1 a3 ([] : List Int) l2 (l2.length : Int) 0) = some r := h
  clear h
  have H' := Aside0.mk H
  clear H
  go_enter Try.func63, Try.ntmps63
  go_wp2
  go_loopg [9, 14] k (fun kq v9 v14 w' => ∃ (x9_1 : List Int) (x14_1 : Int), v14 = .int .i64 x14_1 ∧ Aside0 (spec_biPlaces.l0 kq a0 a1 a3 x9_1 l2 (l2.length : Int) x14_1 = some r) ∧ Aside0 (kq ≤ k) ∧ Aside0 (Kd.R (Kd.int .i64) 3 w' w.heap.size (fun _ => True) v9 x9_1) ∧ Aside0 (Below w.heap.size w w'))
  case atStart => exact ⟨(([] : List Int)), (0), (by first | rfl | (simp; done) | (simp [*]; done)), H', ⟨Nat.le_refl _⟩, ⟨by first | exact Kd.R_nil _ _ _ _ _ | exact Kd.N_nil _ _ _ _ _ | exact Kd.V_nil _ _ _ _ _ | exact Kd.Q_nil _ _ _ _ _ | exact Kd.S_nil _ _ _ _ _⟩, ⟨by repeat (first | (with_reducible first | exact HB.out | apply below_alloc | apply pw_below_drewN | apply below_drew1) | exact HB.out)⟩⟩
  case round =>
    clear H'
    try clear c2
    try clear p2
    obtain ⟨x9_1, x14_1, rfl, HA, HK1, HO_9, HB⟩ := hrel
    cases gk with
    | zero => exact absurd HA.out (by simp [spec_biPlaces.l0])
    | succ k1 =>
      have H := HA.out
      clear HA
      simp only [spec_biPlaces.l0] at H
      by_cases c5 : x14_1 < (l2.length : Int)
      · rw [if_pos c5] at H
        have c5b0 : decide (x14_1 < (l2.length : Int)) = true := decide_eq_true c5
        clear c5
        by_cases c6 : 0 ≤ x14_1
        · rw [if_pos c6] at H
          have c6b0 : decide (0 ≤ x14_1) = true := decide_eq_true c6
          clear c6
          by_cases c7 : x14_1 < (l2.length : Int)
          · rw [if_pos c7] at H
            have c7b0 : decide (x14_1 < (l2.length : Int)) = true := decide_eq_true c7
            clear c7
            replace H := Option.bind_eq_some_iff.mp H
            obtain ⟨t349, A80, H⟩ := H
            replace H : (if x9_1.length < 17592186044416 then (spec_biPlaces.l0 k1 a0 a1 a3 (x9_1 ++ [t349]) l2 (l2.length : Int) (wrap64 (x14_1 + 1))) else (none)) = some r := H
            have A8 := Aside0.mk A80
            clear A80
            by_cases c9 : x9_1.length < 17592186044416
            · rw [if_pos c9] at H
              have LMc9 := Aside0.mk c9
              clear c9
              obtain ⟨y350, hy350⟩ : ∃ y_ : List Int, y_ = (x9_1 ++ [t349]) := ⟨_, rfl⟩
              replace H : (spec_biPlaces.l0 k1 a0 a1 a3 y350 l2 (l2.length : Int) (wrap64 (x14_1 + 1))) = some r := by first | (rw [hy350]; with_reducible exact H) | (have H2_ := (Option.bind_some _ _).symm.trans H; rw [hy350]; with_reducible exact H2_) | (have H2_ := (Option.bind_some _ _).symm.trans H; with_reducible exact H2_) | with_reducible exact H | (rw [hy350]; exact H) | exact H
              have Ny350 := Aside0.mk hy350
              clear hy350
              have H' := Aside0.mk H
              clear H
              have p348 : 0 ≤ (x14_1 : Int) := of_decide_eq_true (by first | (with_reducible assumption) | assumption)
              have q348 : x14_1 < (l2.length : Int) := of_decide_eq_true (by first | (with_reducible assumption) | assumption)
              obtain ⟨ad348, e348, hx348_0⟩ := Kd.at_string HR2.out x14_1 p348 q348
              cases e348
              replace hx348_0 := (HB.out.cell (World.block_lt_of_cell? w _ hx348_0)).trans hx348_0
              replace p348 := eq_true p348
              replace q348 := eq_true q348
              go_wp2_with (first | ((with_reducible refine gate_callee (f := 39) rfl ?_); refine goesL_ (some 23) rfl rfl Try.func39 (by kernel_rfl) rfl #[.int .i64 a0, .int .i64 a1, .string (rdOf ByteArray.empty l2 x14_1), .int .i64 a3] rfl (by (try simp only [List.map_toArray, List.map_cons, List.map_nil]); first | done | rfl | (simp only [List.length_drop, List.length_take]; rfl)) ?_; (with_reducible refine (spec_biPlace.calls k1 a0 a1 (rdOf ByteArray.empty l2 x14_1) a3 t349 _ A8.out).mono ?_); rintro e w' ⟨rfl, ⟨nd, rfl⟩⟩; refine ⟨_, rfl, ?_⟩) | ((with_reducible refine gate_builtin (b := .append) (xs := #[.tmp 18, .tmp 24]) rfl ?_); at_builtin; refine Kd.R_append (Kd.int .i64) (w0 := w) w.heap.size rfl (.tmp 18) (.tmp 24) 25 3 (.int .i64 0) 8 rfl Try.underlying25 info3 rfl (by decide) (by omega) u9 x9_1 t349 [.int .i64 t349] (fun _ => True) (fun _ => False) rfl rfl ?aP (fun _ hk => hk.elim) ?aF ?aO ?aB ?aS ?aL ?_; (case aP => exact rfl); (case aB => exact (by repeat (first | (with_reducible first | exact HB.out | apply below_alloc | apply pw_below_drewN | apply below_drew1) | exact HB.out))); (case aF => exact (fun _ _ => trivial)); (case aO => exact (by (with_reducible repeat (first | apply Kd.R_alloc | apply Kd.R_drewN | apply Kd.R_drew)); exact HO_9.out)); (case aS => exact (below_size (by repeat (first | (with_reducible first | exact HB.out | apply below_alloc | apply pw_below_drewN | apply below_drew1) | exact HB.out)))); (case aL => have := LMc9.out; omega); intro v351 w10 ho hb hg hat; rw [← Ny350.out] at ho; have n0_ := Aside0.mk (hb); have n1_ := Aside0.mk (ho); clear HB; clear HO_9; have HB := n0_; have HO352 := n1_; clear n0_ n1_; clear ho hb hg hat))
              go_roundg k1
              case measure => have := HK1.out; omega
              case rel => exact ⟨(y350), (wrap64 (x14_1 + 1)), (by first | rfl | (simp; done) | (simp [*]; done)), H', ⟨by have := HK1.out; omega⟩, ⟨by (with_reducible repeat (first | apply Kd.R_alloc | apply Kd.R_drewN | apply Kd.R_drew)); exact HO352.out⟩, ⟨by repeat (first | (with_reducible first | exact HB.out | apply below_alloc | apply pw_below_drewN | apply below_drew1) | exact HB.out)⟩⟩
            · rw [if_neg c9] at H
              exact absurd H (by simp)
          · rw [if_neg c7] at H
            exact absurd H (by simp)
        · rw [if_neg c6] at H
          exact absurd H (by simp)
      · rw [if_neg c5] at H
        have c5b0 : decide (x14_1 < (l2.length : Int)) = false := decide_eq_false c5
        clear c5
        obtain rfl := Option.some.inj H
        go_wp2
        go_ret
        exact ⟨_, by first | rfl | (simp [errW_none, errW_some] <;> rfl) | (simp [*, errW_none, errW_some] <;> rfl), by (with_reducible repeat (first | apply Kd.R_alloc | apply Kd.R_drewN | apply Kd.R_drew)); exact HO_9.out, by repeat (first | (with_reducible first | exact HB.out | apply below_alloc | apply pw_below_drewN | apply below_drew1) | exact HB.out)⟩

/-! ### spec_CollisionOf: function 32 -/
mutual
def spec_CollisionOf.j0 : Nat → Int → Int → List ByteArray → Int → Bool → Option (Int × Int × Bool)
  | 0, _, _, _, _, _ => none
  | k + 1, x0, x1, x2, x3, x28 => if x28 = true then (some (0, 0, false)) else ((spec_biPlaces.f k x0 x1 x2 x3).bind fun t356 => (spec_CollisionOf.l0 k t356 t356 (t356.length : Int) 0))
def spec_CollisionOf.l0 : Nat → List Int → List Int → Int → Int → Option (Int × Int × Bool)
  | 0, _, _, _, _ => none
  | k + 1, x11, x34, x35, x36 => if x36 < x35 then (if 0 ≤ x36 then (if x36 < (x34.length : Int) then (spec_CollisionOf.l1 k x11 x36 (rd x34 x36) (wrap64 (x36 + 1)) x34 x35 x36) else (none)) else (none)) else (some (0, 0, false))
def spec_CollisionOf.l1 : Nat → List Int → Int → Int → Int → List Int → Int → Int → Option (Int × Int × Bool)
  | 0, _, _, _, _, _, _, _ => none
  | k + 1, x11, x12, x13, x14, x34, x35, x36 => if x14 < (x11.length : Int) then (if 0 ≤ x14 then (if (rd x11 x14) = x13 then (some (x12, x14, true)) else (spec_CollisionOf.l1 k x11 x12 x13 (wrap64 (x14 + 1)) x34 x35 x36)) else (none)) else (spec_CollisionOf.l0 k x11 x34 x35 (wrap64 (x36 + 1)))
end
def spec_CollisionOf.f (k : Nat) (a0 : Int) (a1 : Int) (l2 : List ByteArray) (a3 : Int) : Option (Int × Int × Bool) := (spec_biSeed.f a0 a1).bind fun t353 => (if t353 = true then ((spec_biKeys.f k l2).bind fun t354 => (if t354 = true then ((spec_l1In.f a3 1 4096).bind fun t355 => (spec_CollisionOf.j0 k a0 a1 l2 a3 (!t355))) else (spec_CollisionOf.j0 k a0 a1 l2 a3 true))) else (spec_CollisionOf.j0 k a0 a1 l2 a3 true))
theorem spec_CollisionOf.mono_l : ∀ k, (∀ y0 y1 y2 y3 y4, LeO (spec_CollisionOf.j0 k y0 y1 y2 y3 y4) (spec_CollisionOf.j0 (k + 1) y0 y1 y2 y3 y4)) ∧ (∀ y0 y1 y2 y3, LeO (spec_CollisionOf.l0 k y0 y1 y2 y3) (spec_CollisionOf.l0 (k + 1) y0 y1 y2 y3)) ∧ (∀ y0 y1 y2 y3 y4 y5 y6, LeO (spec_CollisionOf.l1 k y0 y1 y2 y3 y4 y5 y6) (spec_CollisionOf.l1 (k + 1) y0 y1 y2 y3 y4 y5 y6))
  | 0 => ⟨fun _ _ _ _ _ r h => by simp [spec_CollisionOf.j0] at h, fun _ _ _ _ r h => by simp [spec_CollisionOf.l0] at h, fun _ _ _ _ _ _ _ r h => by simp [spec_CollisionOf.l1] at h⟩
  | k + 1 => by
    obtain ⟨ih0, ih1, ih2⟩ := spec_CollisionOf.mono_l k
    refine ⟨?_, ?_, ?_⟩
    · intro y0 y1 y2 y3 y4
      unfold spec_CollisionOf.j0
      repeat' first
      | (with_reducible exact ih0 _ _ _ _ _)
      | (with_reducible exact ih1 _ _ _ _)
      | (with_reducible exact ih2 _ _ _ _ _ _ _)
      | (with_reducible exact spec_biKeys.mono _ _)
      | (with_reducible exact spec_biPlaces.mono _ _ _ _ _)
      | (with_reducible exact LeO.refl _)
      | (with_reducible exact LeO.none _)
      | (with_reducible refine LeO.ite ?_ ?_)
      | (with_reducible refine LeO.bind ?_ (fun _ => ?_))
      | exact ih0 _ _ _ _ _
      | exact ih1 _ _ _ _
      | exact ih2 _ _ _ _ _ _ _
      | exact spec_biKeys.mono _ _
      | exact spec_biPlaces.mono _ _ _ _ _
      | exact LeO.none _
      | refine LeO.ite ?_ ?_
      | refine LeO.bind ?_ (fun _ => ?_)
    · intro y0 y1 y2 y3
      unfold spec_CollisionOf.l0
      repeat' first
      | (with_reducible exact ih0 _ _ _ _ _)
      | (with_reducible exact ih1 _ _ _ _)
      | (with_reducible exact ih2 _ _ _ _ _ _ _)
      | (with_reducible exact spec_biKeys.mono _ _)
      | (with_reducible exact spec_biPlaces.mono _ _ _ _ _)
      | (with_reducible exact LeO.refl _)
      | (with_reducible exact LeO.none _)
      | (with_reducible refine LeO.ite ?_ ?_)
      | (with_reducible refine LeO.bind ?_ (fun _ => ?_))
      | exact ih0 _ _ _ _ _
      | exact ih1 _ _ _ _
      | exact ih2 _ _ _ _ _ _ _
      | exact spec_biKeys.mono _ _
      | exact spec_biPlaces.mono _ _ _ _ _
      | exact LeO.none _
      | refine LeO.ite ?_ ?_
      | refine LeO.bind ?_ (fun _ => ?_)
    · intro y0 y1 y2 y3 y4 y5 y6
      unfold spec_CollisionOf.l1
      repeat' first
      | (with_reducible exact ih0 _ _ _ _ _)
      | (with_reducible exact ih1 _ _ _ _)
      | (with_reducible exact ih2 _ _ _ _ _ _ _)
      | (with_reducible exact spec_biKeys.mono _ _)
      | (with_reducible exact spec_biPlaces.mono _ _ _ _ _)
      | (with_reducible exact LeO.refl _)
      | (with_reducible exact LeO.none _)
      | (with_reducible refine LeO.ite ?_ ?_)
      | (with_reducible refine LeO.bind ?_ (fun _ => ?_))
      | exact ih0 _ _ _ _ _
      | exact ih1 _ _ _ _
      | exact ih2 _ _ _ _ _ _ _
      | exact spec_biKeys.mono _ _
      | exact spec_biPlaces.mono _ _ _ _ _
      | exact LeO.none _
      | refine LeO.ite ?_ ?_
      | refine LeO.bind ?_ (fun _ => ?_)
theorem spec_CollisionOf.mono : ∀ a0 a1 a2 a3 k, LeO (spec_CollisionOf.f k a0 a1 a2 a3) (spec_CollisionOf.f (k + 1) a0 a1 a2 a3) := by
  intro a0 a1 a2 a3 k
  obtain ⟨ih0, ih1, ih2⟩ := spec_CollisionOf.mono_l k
  unfold spec_CollisionOf.f
  repeat' first
      | (with_reducible exact ih0 _ _ _ _ _)
      | (with_reducible exact ih1 _ _ _ _)
      | (with_reducible exact ih2 _ _ _ _ _ _ _)
      | (with_reducible exact spec_biKeys.mono _ _)
      | (with_reducible exact spec_biPlaces.mono _ _ _ _ _)
      | (with_reducible exact LeO.refl _)
      | (with_reducible exact LeO.none _)
      | (with_reducible refine LeO.ite ?_ ?_)
      | (with_reducible refine LeO.bind ?_ (fun _ => ?_))
      | exact ih0 _ _ _ _ _
      | exact ih1 _ _ _ _
      | exact ih2 _ _ _ _ _ _ _
      | exact spec_biKeys.mono _ _
      | exact spec_biPlaces.mono _ _ _ _ _
      | exact LeO.none _
      | refine LeO.ite ?_ ?_
      | refine LeO.bind ?_ (fun _ => ?_)
noncomputable def spec_CollisionOf.J0 (y0 : Int) (y1 : Int) (y2 : List ByteArray) (y3 : Int) (y4 : Bool) : Option (Int × Int × Bool) := lim fun k => spec_CollisionOf.j0 k y0 y1 y2 y3 y4
theorem spec_CollisionOf.J0_sup (y0 : Int) (y1 : Int) (y2 : List ByteArray) (y3 : Int) (y4 : Bool) : Sup (fun k => spec_CollisionOf.j0 k y0 y1 y2 y3 y4) (spec_CollisionOf.J0 y0 y1 y2 y3 y4) := Sup.of_mono fun k => (spec_CollisionOf.mono_l k).1 y0 y1 y2 y3 y4
noncomputable def spec_CollisionOf.L0 (y0 : List Int) (y1 : List Int) (y2 : Int) (y3 : Int) : Option (Int × Int × Bool) := lim fun k => spec_CollisionOf.l0 k y0 y1 y2 y3
theorem spec_CollisionOf.L0_sup (y0 : List Int) (y1 : List Int) (y2 : Int) (y3 : Int) : Sup (fun k => spec_CollisionOf.l0 k y0 y1 y2 y3) (spec_CollisionOf.L0 y0 y1 y2 y3) := Sup.of_mono fun k => (spec_CollisionOf.mono_l k).2.1 y0 y1 y2 y3
noncomputable def spec_CollisionOf.L1 (y0 : List Int) (y1 : Int) (y2 : Int) (y3 : Int) (y4 : List Int) (y5 : Int) (y6 : Int) : Option (Int × Int × Bool) := lim fun k => spec_CollisionOf.l1 k y0 y1 y2 y3 y4 y5 y6
theorem spec_CollisionOf.L1_sup (y0 : List Int) (y1 : Int) (y2 : Int) (y3 : Int) (y4 : List Int) (y5 : Int) (y6 : Int) : Sup (fun k => spec_CollisionOf.l1 k y0 y1 y2 y3 y4 y5 y6) (spec_CollisionOf.L1 y0 y1 y2 y3 y4 y5 y6) := Sup.of_mono fun k => (spec_CollisionOf.mono_l k).2.2 y0 y1 y2 y3 y4 y5 y6
noncomputable def spec_CollisionOf.F (a0 : Int) (a1 : Int) (l2 : List ByteArray) (a3 : Int) : Option (Int × Int × Bool) := lim fun k => spec_CollisionOf.f k a0 a1 l2 a3
theorem spec_CollisionOf.F_sup (a0 : Int) (a1 : Int) (l2 : List ByteArray) (a3 : Int) : Sup (fun k => spec_CollisionOf.f k a0 a1 l2 a3) (spec_CollisionOf.F a0 a1 l2 a3) := Sup.of_mono fun k => spec_CollisionOf.mono a0 a1 l2 a3 k
theorem spec_CollisionOf.J0_eq (x0 : Int) (x1 : Int) (x2 : List ByteArray) (x3 : Int) (x28 : Bool) : spec_CollisionOf.J0 x0 x1 x2 x3 x28 = if x28 = true then (some (0, 0, false)) else ((spec_biPlaces.F x0 x1 x2 x3).bind fun t356 => (spec_CollisionOf.L0 t356 t356 (t356.length : Int) 0)) := by
  refine Sup.unique (spec_CollisionOf.J0_sup x0 x1 x2 x3 x28) (Sup.shift (fun k => (spec_CollisionOf.mono_l k).1 x0 x1 x2 x3 x28) (Sup.congr (g' := fun k => if x28 = true then (some (0, 0, false)) else ((spec_biPlaces.f k x0 x1 x2 x3).bind fun t356 => (spec_CollisionOf.l0 k t356 t356 (t356.length : Int) 0))) (fun k => by first | rfl | simp only [spec_CollisionOf.j0]) ?_))
  repeat' first
    | (with_reducible exact spec_CollisionOf.J0_sup _ _ _ _ _)
    | (with_reducible exact spec_CollisionOf.L0_sup _ _ _ _)
    | (with_reducible exact spec_CollisionOf.L1_sup _ _ _ _ _ _ _)
    | (with_reducible exact spec_biKeys.F_sup _)
    | (with_reducible exact spec_biPlaces.F_sup _ _ _ _)
    | (with_reducible refine Sup.ite ?_ ?_)
    | (with_reducible refine Sup.bind ?_ (fun _ => ?_))
    | (with_reducible exact Sup.const _)
    | exact spec_CollisionOf.J0_sup _ _ _ _ _
    | exact spec_CollisionOf.L0_sup _ _ _ _
    | exact spec_CollisionOf.L1_sup _ _ _ _ _ _ _
    | exact spec_biKeys.F_sup _
    | exact spec_biPlaces.F_sup _ _ _ _
    | exact Sup.const _
theorem spec_CollisionOf.L0_eq (x11 : List Int) (x34 : List Int) (x35 : Int) (x36 : Int) : spec_CollisionOf.L0 x11 x34 x35 x36 = if x36 < x35 then (if 0 ≤ x36 then (if x36 < (x34.length : Int) then (spec_CollisionOf.L1 x11 x36 (rd x34 x36) (wrap64 (x36 + 1)) x34 x35 x36) else (none)) else (none)) else (some (0, 0, false)) := by
  refine Sup.unique (spec_CollisionOf.L0_sup x11 x34 x35 x36) (Sup.shift (fun k => (spec_CollisionOf.mono_l k).2.1 x11 x34 x35 x36) (Sup.congr (g' := fun k => if x36 < x35 then (if 0 ≤ x36 then (if x36 < (x34.length : Int) then (spec_CollisionOf.l1 k x11 x36 (rd x34 x36) (wrap64 (x36 + 1)) x34 x35 x36) else (none)) else (none)) else (some (0, 0, false))) (fun k => by first | rfl | simp only [spec_CollisionOf.l0]) ?_))
  repeat' first
    | (with_reducible exact spec_CollisionOf.J0_sup _ _ _ _ _)
    | (with_reducible exact spec_CollisionOf.L0_sup _ _ _ _)
    | (with_reducible exact spec_CollisionOf.L1_sup _ _ _ _ _ _ _)
    | (with_reducible exact spec_biKeys.F_sup _)
    | (with_reducible exact spec_biPlaces.F_sup _ _ _ _)
    | (with_reducible refine Sup.ite ?_ ?_)
    | (with_reducible refine Sup.bind ?_ (fun _ => ?_))
    | (with_reducible exact Sup.const _)
    | exact spec_CollisionOf.J0_sup _ _ _ _ _
    | exact spec_CollisionOf.L0_sup _ _ _ _
    | exact spec_CollisionOf.L1_sup _ _ _ _ _ _ _
    | exact spec_biKeys.F_sup _
    | exact spec_biPlaces.F_sup _ _ _ _
    | exact Sup.const _
theorem spec_CollisionOf.L1_eq (x11 : List Int) (x12 : Int) (x13 : Int) (x14 : Int) (x34 : List Int) (x35 : Int) (x36 : Int) : spec_CollisionOf.L1 x11 x12 x13 x14 x34 x35 x36 = if x14 < (x11.length : Int) then (if 0 ≤ x14 then (if (rd x11 x14) = x13 then (some (x12, x14, true)) else (spec_CollisionOf.L1 x11 x12 x13 (wrap64 (x14 + 1)) x34 x35 x36)) else (none)) else (spec_CollisionOf.L0 x11 x34 x35 (wrap64 (x36 + 1))) := by
  refine Sup.unique (spec_CollisionOf.L1_sup x11 x12 x13 x14 x34 x35 x36) (Sup.shift (fun k => (spec_CollisionOf.mono_l k).2.2 x11 x12 x13 x14 x34 x35 x36) (Sup.congr (g' := fun k => if x14 < (x11.length : Int) then (if 0 ≤ x14 then (if (rd x11 x14) = x13 then (some (x12, x14, true)) else (spec_CollisionOf.l1 k x11 x12 x13 (wrap64 (x14 + 1)) x34 x35 x36)) else (none)) else (spec_CollisionOf.l0 k x11 x34 x35 (wrap64 (x36 + 1)))) (fun k => by first | rfl | simp only [spec_CollisionOf.l1]) ?_))
  repeat' first
    | (with_reducible exact spec_CollisionOf.J0_sup _ _ _ _ _)
    | (with_reducible exact spec_CollisionOf.L0_sup _ _ _ _)
    | (with_reducible exact spec_CollisionOf.L1_sup _ _ _ _ _ _ _)
    | (with_reducible exact spec_biKeys.F_sup _)
    | (with_reducible exact spec_biPlaces.F_sup _ _ _ _)
    | (with_reducible refine Sup.ite ?_ ?_)
    | (with_reducible refine Sup.bind ?_ (fun _ => ?_))
    | (with_reducible exact Sup.const _)
    | exact spec_CollisionOf.J0_sup _ _ _ _ _
    | exact spec_CollisionOf.L0_sup _ _ _ _
    | exact spec_CollisionOf.L1_sup _ _ _ _ _ _ _
    | exact spec_biKeys.F_sup _
    | exact spec_biPlaces.F_sup _ _ _ _
    | exact Sup.const _
theorem spec_CollisionOf.F_eq (a0 : Int) (a1 : Int) (l2 : List ByteArray) (a3 : Int) : spec_CollisionOf.F a0 a1 l2 a3 = (spec_biSeed.f a0 a1).bind fun t353 => (if t353 = true then ((spec_biKeys.F l2).bind fun t354 => (if t354 = true then ((spec_l1In.f a3 1 4096).bind fun t355 => (spec_CollisionOf.J0 a0 a1 l2 a3 (!t355))) else (spec_CollisionOf.J0 a0 a1 l2 a3 true))) else (spec_CollisionOf.J0 a0 a1 l2 a3 true)) := by
  refine Sup.unique (spec_CollisionOf.F_sup a0 a1 l2 a3) (Sup.congr (g' := fun k => (spec_biSeed.f a0 a1).bind fun t353 => (if t353 = true then ((spec_biKeys.f k l2).bind fun t354 => (if t354 = true then ((spec_l1In.f a3 1 4096).bind fun t355 => (spec_CollisionOf.j0 k a0 a1 l2 a3 (!t355))) else (spec_CollisionOf.j0 k a0 a1 l2 a3 true))) else (spec_CollisionOf.j0 k a0 a1 l2 a3 true))) (fun k => by first | rfl | simp only [spec_CollisionOf.f]) ?_)
  repeat' first
    | (with_reducible exact spec_CollisionOf.J0_sup _ _ _ _ _)
    | (with_reducible exact spec_CollisionOf.L0_sup _ _ _ _)
    | (with_reducible exact spec_CollisionOf.L1_sup _ _ _ _ _ _ _)
    | (with_reducible exact spec_biKeys.F_sup _)
    | (with_reducible exact spec_biPlaces.F_sup _ _ _ _)
    | (with_reducible refine Sup.ite ?_ ?_)
    | (with_reducible refine Sup.bind ?_ (fun _ => ?_))
    | (with_reducible exact Sup.const _)
    | exact spec_CollisionOf.J0_sup _ _ _ _ _
    | exact spec_CollisionOf.L0_sup _ _ _ _
    | exact spec_CollisionOf.L1_sup _ _ _ _ _ _ _
    | exact spec_biKeys.F_sup _
    | exact spec_biPlaces.F_sup _ _ _ _
    | exact Sup.const _
set_option maxHeartbeats 8000000 in
set_option maxRecDepth 100000 in
theorem spec_CollisionOf.calls (k : Nat) (a0 : Int) (a1 : Int) (A2 : Option Addr) (c2 : Nat) (l2 : List ByteArray) (a3 : Int) (r1 : Int) (r2 : Int) (r3 : Bool) (w : World) (hr2 : Kd.C Kd.string w A2 l2.length l2) (hc2 : l2.length ≤ c2) (h : spec_CollisionOf.f k a0 a1 l2 a3 = some (r1, r2, r3)) :
    Calls Try.prog 32 #[.int .i64 a0, .int .i64 a1, .slice A2 l2.length c2, .int .i64 a3] w fun e w' => e = .returned (.tuple #[.int .i64 r1, .int .i64 r2, .bool r3]) ∧ Below w.heap.size w w' := by
  have HR2 := Aside0.mk hr2
  have HC2 := Aside0.mk hc2
  clear hr2 hc2
  have HB := Aside0.mk (Below.refl w.heap.size w)
  have H : ((spec_biSeed.f a0 a1).bind fun t353 => (if t353 = true then ((spec_biKeys.f k l2).bind fun t354 => (if t354 = true then ((spec_l1In.f a3 1 4096).bind fun t355 => (spec_CollisionOf.j0 k a0 a1 l2 a3 (!t355))) else (spec_CollisionOf.j0 k a0 a1 l2 a3 true))) else (spec_CollisionOf.j0 k a0 a1 l2 a3 true))) = some (r1, r2, r3) := h
  clear h
  have HC5 := Aside0.mk H
  clear H
  go_enter Try.func32, Try.ntmps32
  go_upto_region 1 with (fail)
  go_cut [28] (fun v28 wc => ∃ (kq : Nat) (x28_4 : Bool), v28 = .bool x28_4 ∧ Aside0 (spec_CollisionOf.j0 kq a0 a1 l2 a3 x28_4 = some (r1, r2, r3)) ∧ Aside0 (kq ≤ k) ∧ Aside0 (Below w.heap.size w wc))
  case first =>
    have H := HC5.out
    clear HC5
    replace H := Option.bind_eq_some_iff.mp H
    obtain ⟨t353, A60, H⟩ := H
    replace H : (if t353 = true then ((spec_biKeys.f k l2).bind fun t354 => (if t354 = true then ((spec_l1In.f a3 1 4096).bind fun t355 => (spec_CollisionOf.j0 k a0 a1 l2 a3 (!t355))) else (spec_CollisionOf.j0 k a0 a1 l2 a3 true))) else (spec_CollisionOf.j0 k a0 a1 l2 a3 true)) = some (r1, r2, r3) := H
    have A6 := Aside0.mk A60
    clear A60
    by_cases c7 : t353 = true
    · subst c7
      have H1 : ((spec_biKeys.f k l2).bind fun t354 => (if t354 = true then ((spec_l1In.f a3 1 4096).bind fun t355 => (spec_CollisionOf.j0 k a0 a1 l2 a3 (!t355))) else (spec_CollisionOf.j0 k a0 a1 l2 a3 true))) = some (r1, r2, r3) := by rw [if_pos rfl] at H; exact H
      clear H
      have H := H1
      clear H1
      replace H := Option.bind_eq_some_iff.mp H
      obtain ⟨t354, A80, H⟩ := H
      replace H : (if t354 = true then ((spec_l1In.f a3 1 4096).bind fun t355 => (spec_CollisionOf.j0 k a0 a1 l2 a3 (!t355))) else (spec_CollisionOf.j0 k a0 a1 l2 a3 true)) = some (r1, r2, r3) := H
      have A8 := Aside0.mk A80
      clear A80
      by_cases c9 : t354 = true
      · subst c9
        have H1 : ((spec_l1In.f a3 1 4096).bind fun t355 => (spec_CollisionOf.j0 k a0 a1 l2 a3 (!t355))) = some (r1, r2, r3) := by rw [if_pos rfl] at H; exact H
        clear H
        have H := H1
        clear H1
        replace H := Option.bind_eq_some_iff.mp H
        obtain ⟨t355, A100, H⟩ := H
        replace H : (spec_CollisionOf.j0 k a0 a1 l2 a3 (!t355)) = some (r1, r2, r3) := H
        have A10 := Aside0.mk A100
        clear A100
        have H' := Aside0.mk H
        clear H
        go_wp2_with (first | ((with_reducible refine gate_callee (f := 36) rfl ?_); refine goesL_ (some 17) rfl rfl Try.func36 (by kernel_rfl) rfl #[.int .i64 a0, .int .i64 a1] rfl (by (try simp only [List.map_toArray, List.map_cons, List.map_nil]); first | done | rfl | (simp only [List.length_drop, List.length_take]; rfl)) ?_; (with_reducible refine (spec_biSeed.calls a0 a1 true _ A6.out).mono ?_); rintro e w' ⟨rfl, ⟨nd, rfl⟩⟩; refine ⟨_, rfl, ?_⟩) | (go_at_call 62; (with_reducible refine (spec_biKeys.calls k _ _ l2 true _ ?side1 ?side2 A8.out).mono ?_); (case side1 => repeat (first | exact (Kd.C_below HR2.out (by repeat (first | (with_reducible first | exact HB.out | apply below_alloc | apply pw_below_drewN | apply below_drew1) | exact HB.out))) | (with_reducible refine Kd.C_alloc ?_ _) | (with_reducible refine Kd.C_drewN ?_ _) | (with_reducible refine Kd.C_drew ?_))); (case side2 => exact HC2.out); rintro e w' ⟨rfl, ⟨nd, rfl⟩⟩) | (go_at_call 38; (with_reducible refine (spec_l1In.calls a3 1 4096 t355 _ A10.out).mono ?_); rintro e w' ⟨rfl, ⟨nd, rfl⟩⟩))
        go_meet
        case rel => exact ⟨_, (!t355), (by first | rfl | (simp; done) | (simp [*]; done)), H', ⟨by first | omega | exact Nat.le_refl _⟩, ⟨by repeat (first | (with_reducible first | exact HB.out | apply below_alloc | apply pw_below_drewN | apply below_drew1) | exact HB.out)⟩⟩
      · replace c9 := Bool.eq_false_iff.mpr c9
        subst c9
        have H1 : (spec_CollisionOf.j0 k a0 a1 l2 a3 true) = some (r1, r2, r3) := by rw [if_neg (show ¬ (false = true) by decide)] at H; exact H
        clear H
        have H := H1
        clear H1
        have H' := Aside0.mk H
        clear H
        go_wp2_with (first | ((with_reducible refine gate_callee (f := 36) rfl ?_); refine goesL_ (some 17) rfl rfl Try.func36 (by kernel_rfl) rfl #[.int .i64 a0, .int .i64 a1] rfl (by (try simp only [List.map_toArray, List.map_cons, List.map_nil]); first | done | rfl | (simp only [List.length_drop, List.length_take]; rfl)) ?_; (with_reducible refine (spec_biSeed.calls a0 a1 true _ A6.out).mono ?_); rintro e w' ⟨rfl, ⟨nd, rfl⟩⟩; refine ⟨_, rfl, ?_⟩) | (go_at_call 62; (with_reducible refine (spec_biKeys.calls k _ _ l2 false _ ?side1 ?side2 A8.out).mono ?_); (case side1 => repeat (first | exact (Kd.C_below HR2.out (by repeat (first | (with_reducible first | exact HB.out | apply below_alloc | apply pw_below_drewN | apply below_drew1) | exact HB.out))) | (with_reducible refine Kd.C_alloc ?_ _) | (with_reducible refine Kd.C_drewN ?_ _) | (with_reducible refine Kd.C_drew ?_))); (case side2 => exact HC2.out); rintro e w' ⟨rfl, ⟨nd, rfl⟩⟩))
        go_meet
        case rel => exact ⟨_, (true), (by first | rfl | (simp; done) | (simp [*]; done)), H', ⟨by first | omega | exact Nat.le_refl _⟩, ⟨by repeat (first | (with_reducible first | exact HB.out | apply below_alloc | apply pw_below_drewN | apply below_drew1) | exact HB.out)⟩⟩
    · replace c7 := Bool.eq_false_iff.mpr c7
      subst c7
      have H1 : (spec_CollisionOf.j0 k a0 a1 l2 a3 true) = some (r1, r2, r3) := by rw [if_neg (show ¬ (false = true) by decide)] at H; exact H
      clear H
      have H := H1
      clear H1
      have H' := Aside0.mk H
      clear H
      go_wp2_with (first | ((with_reducible refine gate_callee (f := 36) rfl ?_); refine goesL_ (some 17) rfl rfl Try.func36 (by kernel_rfl) rfl #[.int .i64 a0, .int .i64 a1] rfl (by (try simp only [List.map_toArray, List.map_cons, List.map_nil]); first | done | rfl | (simp only [List.length_drop, List.length_take]; rfl)) ?_; (with_reducible refine (spec_biSeed.calls a0 a1 false _ A6.out).mono ?_); rintro e w' ⟨rfl, ⟨nd, rfl⟩⟩; refine ⟨_, rfl, ?_⟩))
      go_meet
      case rel => exact ⟨_, (true), (by first | rfl | (simp; done) | (simp [*]; done)), H', ⟨by first | omega | exact Nat.le_refl _⟩, ⟨by repeat (first | (with_reducible first | exact HB.out | apply below_alloc | apply pw_below_drewN | apply below_drew1) | exact HB.out)⟩⟩
  case rest =>
    clear HC5
    try clear c2
    try clear p2
    try clear c3
    try clear c7
    try clear c9
    obtain ⟨kq, x28_4, rfl, HA, HJ4, HB⟩ := hcut
    cases kq with
    | zero => exact absurd HA.out (by simp [spec_CollisionOf.j0])
    | succ kj4 =>
      have H := HA.out
      clear HA
      simp only [spec_CollisionOf.j0] at H
      by_cases c11 : x28_4 = true
      · subst c11
        have H1 : (some (0, 0, false)) = some (r1, r2, r3) := by rw [if_pos rfl] at H; exact H
        clear H
        have H := H1
        clear H1
        simp only [Option.some.injEq, Prod.mk.injEq] at H
        obtain ⟨rfl, rfl, rfl⟩ := H
        go_wp2
        go_ret3
        exact ⟨by first | rfl | (simp [errW_none, errW_some] <;> rfl) | (simp [*, errW_none, errW_some] <;> rfl), by repeat (first | (with_reducible first | exact HB.out | apply below_alloc | apply pw_below_drewN | apply below_drew1) | exact HB.out)⟩
      · replace c11 := Bool.eq_false_iff.mpr c11
        subst c11
        have H1 : ((spec_biPlaces.f kj4 a0 a1 l2 a3).bind fun t356 => (spec_CollisionOf.l0 kj4 t356 t356 (t356.length : Int) 0)) = some (r1, r2, r3) := by rw [if_neg (show ¬ (false = true) by decide)] at H; exact H
        clear H
        have H := H1
        clear H1
        replace H := Option.bind_eq_some_iff.mp H
        obtain ⟨t356, A120, H⟩ := H
        replace H : (spec_CollisionOf.l0 kj4 t356 t356 (t356.length : Int) 0) = some (r1, r2, r3) := H
        have A12 := Aside0.mk A120
        clear A120
        have H' := Aside0.mk H
        clear H
        go_wp2_with (first | ((with_reducible refine gate_callee (f := 63) rfl ?_); refine goesL_ (some 33) rfl rfl Try.func63 (by kernel_rfl) rfl #[.int .i64 a0, .int .i64 a1, .slice A2 l2.length c2, .int .i64 a3] rfl (by (try simp only [List.map_toArray, List.map_cons, List.map_nil]); first | done | rfl | (simp only [List.length_drop, List.length_take]; rfl)) ?_; (with_reducible refine (spec_biPlaces.calls kj4 a0 a1 _ _ l2 a3 t356 _ ?side1 ?side2 A12.out).mono ?_); (case side1 => repeat (first | exact (Kd.C_below HR2.out HB.out) | (with_reducible refine Kd.C_alloc ?_ _) | (with_reducible refine Kd.C_drewN ?_ _) | (with_reducible refine Kd.C_drew ?_))); (case side2 => exact HC2.out); rintro e w13 ⟨v357, rfl, ho0, hb⟩; refine ⟨_, rfl, ?_⟩; have n0_ := Aside0.mk (Kd.R_lower ho0 (below_size (by repeat (first | (with_reducible first | exact HB.out | apply below_alloc | apply pw_below_drewN | apply below_drew1) | exact HB.out)))); have n1_ := Aside0.mk (below_step (by repeat (first | (with_reducible first | exact HB.out | apply below_alloc | apply pw_below_drewN | apply below_drew1) | exact HB.out)) hb); clear HB; have HO358 := n0_; have HB := n1_; clear n0_ n1_; (try clear hb); (try clear hb2); (try clear hk); (try clear hi); (try clear ho0); obtain ⟨Ao14, co14, eo14⟩ := Kd.R_slice HO358.out; subst eo14))
        go_loopg [36] kj4 (fun kq v36 w' => ∃ (x36_2 : Int), v36 = .int .i64 x36_2 ∧ Aside0 (spec_CollisionOf.l0 kq t356 t356 (t356.length : Int) x36_2 = some (r1, r2, r3)) ∧ Aside0 (kq ≤ kj4) ∧ Aside0 (Kd.R (Kd.int .i64) 3 w' w.heap.size (fun _ => True) (.slice Ao14 t356.length co14) t356) ∧ Aside0 (Kd.R (Kd.int .i64) 3 w' w.heap.size (fun _ => True) (.slice Ao14 t356.length co14) t356) ∧ Aside0 (Below w.heap.size w w'))
        case atStart => exact ⟨(0), (by first | rfl | (simp; done) | (simp [*]; done)), H', ⟨Nat.le_refl _⟩, ⟨by (with_reducible repeat (first | apply Kd.R_alloc | apply Kd.R_drewN | apply Kd.R_drew)); exact HO358.out⟩, ⟨by (with_reducible repeat (first | apply Kd.R_alloc | apply Kd.R_drewN | apply Kd.R_drew)); exact HO358.out⟩, ⟨by repeat (first | (with_reducible first | exact HB.out | apply below_alloc | apply pw_below_drewN | apply below_drew1) | exact HB.out)⟩⟩
        case round =>
          clear H'
          try clear c1
          try clear c2
          try clear p2
          try clear c3
          try clear c6
          try clear c7
          try clear c9
          try clear c11
          try clear p2
          obtain ⟨x36_2, rfl, HA, HK2, HO_11, HO_34, HB⟩ := hrel
          cases gk with
          | zero => exact absurd HA.out (by simp [spec_CollisionOf.l0])
          | succ k2 =>
            have H := HA.out
            clear HA
            simp only [spec_CollisionOf.l0] at H
            by_cases c15 : x36_2 < (t356.length : Int)
            · rw [if_pos c15] at H
              have c15b0 : decide (x36_2 < (t356.length : Int)) = true := decide_eq_true c15
              clear c15
              by_cases c16 : 0 ≤ x36_2
              · rw [if_pos c16] at H
                have c16b0 : decide (0 ≤ x36_2) = true := decide_eq_true c16
                clear c16
                by_cases c17 : x36_2 < (t356.length : Int)
                · rw [if_pos c17] at H
                  have c17b0 : decide (x36_2 < (t356.length : Int)) = true := decide_eq_true c17
                  clear c17
                  have H' := Aside0.mk H
                  clear H
                  have p359 : 0 ≤ (x36_2 : Int) := of_decide_eq_true (by first | (with_reducible assumption) | assumption)
                  have q359 : x36_2 < (t356.length : Int) := of_decide_eq_true (by first | (with_reducible assumption) | assumption)
                  obtain ⟨ad359, e359, hx359_0⟩ := Kd.at_int (Kd.R_reads' HO_34.out).2.2 x36_2 p359 q359
                  cases e359
                  replace p359 := eq_true p359
                  replace q359 := eq_true q359
                  go_wp2
                  go_loopg [14] k2 (fun kq v14 w' => ∃ (x14_3 : Int), v14 = .int .i64 x14_3 ∧ Aside0 (spec_CollisionOf.l1 kq t356 x36_2 (rd t356 x36_2) x14_3 t356 (t356.length : Int) x36_2 = some (r1, r2, r3)) ∧ Aside0 (kq ≤ k2) ∧ Aside0 (Kd.R (Kd.int .i64) 3 w' w.heap.size (fun _ => True) (.slice (some ad359) t356.length co14) t356) ∧ Aside0 (Kd.R (Kd.int .i64) 3 w' w.heap.size (fun _ => True) (.slice (some ad359) t356.length co14) t356) ∧ Aside0 (Below w.heap.size w w'))
                  case atStart => exact ⟨(wrap64 (x36_2 + 1)), (by first | rfl | (simp; done) | (simp [*]; done)), H', ⟨Nat.le_refl _⟩, ⟨by (with_reducible repeat (first | apply Kd.R_alloc | apply Kd.R_drewN | apply Kd.R_drew)); exact HO_11.out⟩, ⟨by (with_reducible repeat (first | apply Kd.R_alloc | apply Kd.R_drewN | apply Kd.R_drew)); exact HO_34.out⟩, ⟨by repeat (first | (with_reducible first | exact HB.out | apply below_alloc | apply pw_below_drewN | apply below_drew1) | exact HB.out)⟩⟩
                  case round =>
                    clear H'
                    try clear c1
                    try clear c2
                    try clear p2
                    try clear c3
                    try clear p3
                    try clear q3
                    try clear hx3
                    try clear c6
                    try clear p6
                    try clear c7
                    try clear c9
                    try clear c11
                    try clear c15
                    try clear c15b0
                    try clear c16
                    try clear c16b0
                    try clear c17
                    try clear c17b0
                    try clear hx359_0
                    try clear p2
                    try clear p359
                    try clear q359
                    obtain ⟨x14_3, rfl, HA, HK3, HO_11, HO_34, HB⟩ := hrel
                    cases gk with
                    | zero => exact absurd HA.out (by simp [spec_CollisionOf.l1])
                    | succ k3 =>
                      have H := HA.out
                      clear HA
                      simp only [spec_CollisionOf.l1] at H
                      by_cases c18 : x14_3 < (t356.length : Int)
                      · rw [if_pos c18] at H
                        have c18b0 : decide (x14_3 < (t356.length : Int)) = true := decide_eq_true c18
                        clear c18
                        by_cases c19 : 0 ≤ x14_3
                        · rw [if_pos c19] at H
                          have c19b0 : decide (0 ≤ x14_3) = true := decide_eq_true c19
                          clear c19
                          by_cases c20 : (rd t356 x14_3) = (rd t356 x36_2)
                          · rw [if_pos c20] at H
                            have c20b0 : ((rd t356 x14_3) == (rd t356 x36_2)) = true := beq_iff_eq.mpr c20
                            have c20b1 : ((rd t356 x14_3) != (rd t356 x36_2)) = false := bne_eq_false_iff_eq.mpr c20
                            clear c20
                            simp only [Option.some.injEq, Prod.mk.injEq] at H
                            obtain ⟨rfl, rfl, rfl⟩ := H
                            have p360 : 0 ≤ (x14_3 : Int) := of_decide_eq_true (by first | (with_reducible assumption) | assumption)
                            have q360 : x14_3 < (t356.length : Int) := of_decide_eq_true (by first | (with_reducible assumption) | assumption)
                            obtain ⟨ad360, e360, hx360_0⟩ := Kd.at_int (Kd.R_reads' HO_11.out).2.2 x14_3 p360 q360
                            obtain rfl : ad359 = ad360 := (by injection e360)
                            replace p360 := eq_true p360
                            replace q360 := eq_true q360
                            go_wp2
                            go_ret3
                            exact ⟨by first | rfl | (simp [errW_none, errW_some] <;> rfl) | (simp [*, errW_none, errW_some] <;> rfl), by repeat (first | (with_reducible first | exact HB.out | apply below_alloc | apply pw_below_drewN | apply below_drew1) | exact HB.out)⟩
                          · rw [if_neg c20] at H
                            have c20b0 : ((rd t356 x14_3) == (rd t356 x36_2)) = false := beq_eq_false_iff_ne.mpr c20
                            have c20b1 : ((rd t356 x14_3) != (rd t356 x36_2)) = true := bne_iff_ne.mpr c20
                            have H' := Aside0.mk H
                            clear H
                            have p360 : 0 ≤ (x14_3 : Int) := of_decide_eq_true (by first | (with_reducible assumption) | assumption)
                            have q360 : x14_3 < (t356.length : Int) := of_decide_eq_true (by first | (with_reducible assumption) | assumption)
                            obtain ⟨ad360, e360, hx360_0⟩ := Kd.at_int (Kd.R_reads' HO_11.out).2.2 x14_3 p360 q360
                            obtain rfl : ad359 = ad360 := (by injection e360)
                            replace p360 := eq_true p360
                            replace q360 := eq_true q360
                            go_wp2
                            go_roundg k3
                            case measure => have := HJ4.out; have := HK2.out; have := HK3.out; omega
                            case rel => exact ⟨(wrap64 (x14_3 + 1)), (by first | rfl | (simp; done) | (simp [*]; done)), H', ⟨by have := HJ4.out; have := HK2.out; have := HK3.out; omega⟩, ⟨by (with_reducible repeat (first | apply Kd.R_alloc | apply Kd.R_drewN | apply Kd.R_drew)); exact HO_11.out⟩, ⟨by (with_reducible repeat (first | apply Kd.R_alloc | apply Kd.R_drewN | apply Kd.R_drew)); exact HO_34.out⟩, ⟨by repeat (first | (with_reducible first | exact HB.out | apply below_alloc | apply pw_below_drewN | apply below_drew1) | exact HB.out)⟩⟩
                        · rw [if_neg c19] at H
                          exact absurd H (by simp)
                      · rw [if_neg c18] at H
                        have c18b0 : decide (x14_3 < (t356.length : Int)) = false := decide_eq_false c18
                        clear c18
                        have H' := Aside0.mk H
                        clear H
                        go_wp2
                        go_roundg k3
                        case measure => have := HJ4.out; have := HK2.out; have := HK3.out; omega
                        case rel => exact ⟨(wrap64 (x36_2 + 1)), (by first | rfl | (simp; done) | (simp [*]; done)), H', ⟨by have := HJ4.out; have := HK2.out; have := HK3.out; omega⟩, ⟨by (with_reducible repeat (first | apply Kd.R_alloc | apply Kd.R_drewN | apply Kd.R_drew)); exact HO_11.out⟩, ⟨by (with_reducible repeat (first | apply Kd.R_alloc | apply Kd.R_drewN | apply Kd.R_drew)); exact HO_34.out⟩, ⟨by repeat (first | (with_reducible first | exact HB.out | apply below_alloc | apply pw_below_drewN | apply below_drew1) | exact HB.out)⟩⟩
                · rw [if_neg c17] at H
                  exact absurd H (by simp)
              · rw [if_neg c16] at H
                exact absurd H (by simp)
            · rw [if_neg c15] at H
              have c15b0 : decide (x36_2 < (t356.length : Int)) = false := decide_eq_false c15
              clear c15
              simp only [Option.some.injEq, Prod.mk.injEq] at H
              obtain ⟨rfl, rfl, rfl⟩ := H
              go_wp2
              go_ret3
              exact ⟨by first | rfl | (simp [errW_none, errW_some] <;> rfl) | (simp [*, errW_none, errW_some] <;> rfl), by repeat (first | (with_reducible first | exact HB.out | apply below_alloc | apply pw_below_drewN | apply below_drew1) | exact HB.out)⟩

end Go.Proofs.Ytgfiakboloifnaa.X
