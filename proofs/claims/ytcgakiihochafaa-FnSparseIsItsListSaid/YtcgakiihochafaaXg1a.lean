/- Written by a program of this session: what functions of the given program compute, and that their calls do so. -/
import Derived.Test.YtcgakiihochafaaXx0
import Derived.Test.YtcgakiihochafaaXs
namespace Go.Proofs.Ytcgakiihochafaa.X
open Go.RowKit Go.Proofs.YtcgakiihochafaaW.PrintWords Go.Proofs.YtcgakiihochafaaW.PrintLast Go.Proofs.YtcgakiihochafaaW.PrintMore
open Go.Proofs.YtcgakiihochafaaW.PrintWords renaming pw_below_drewN → Qn, below_drew1 → Qd, below_alloc → Qa, below_set → Qs, below_step → Qp
open Go.Proofs.YtcgakiihochafaaW.PrintWords.Kd renaming R_drewN → Qrn, R_alloc → Qra, R_drew → Qrd, R_mono → Qrm
open Go.Proofs.YtcgakiihochafaaW.PrintWords.Aside0 renaming mk → Qx
attribute [local go_sem] max2_int min2_int max_two min_two max_three min_three max_four min_four   -- for this text's walks alone
set_option linter.unusedVariables false
set_option linter.unusedSimpArgs false
/-! ### laws_big: function 4 -/
def laws_big.f (l0 : List Int) (l1 : List Int) : Option (Bool) := if (l0.length : Int) > 1048576 then (some true) else (some (decide ((l1.length : Int) > (wrap64 (1048576 - (l0.length : Int))))))
set_option maxHeartbeats 8000000 in
set_option maxRecDepth 100000 in
theorem laws_big.calls (A0 : Option Addr) (c0 : Nat) (l0 : List Int) (A1 : Option Addr) (c1 : Nat) (l1 : List Int) (r : Bool) (w : World) (hr0 : Kd.C (Kd.int .u8) w A0 l0.length l0) (hc0 : l0.length ≤ c0) (hr1 : Kd.C (Kd.int .u8) w A1 l1.length l1) (hc1 : l1.length ≤ c1) (h : laws_big.f l0 l1 = some r) :
    Calls Try.prog 4 #[.slice A0 l0.length c0, .slice A1 l1.length c1] w fun e w' => e = .returned (.bool r) ∧ Drawn0 w w' := by
  have HR0 := Qx hr0; have HC0 := Qx hc0; clear hr0 hc0; have HR1 := Qx hr1; have HC1 := Qx hc1; clear hr1 hc1
  have H : (if (l0.length : Int) > 1048576 then (some true) else (some (decide ((l1.length : Int) > (wrap64 (1048576 - (l0.length : Int))))))) = some r := h
  clear h
  by_cases c3 : (l0.length : Int) > 1048576
  ·rw [if_pos c3] at H
   have c3b0 : decide (1048576 < (l0.length : Int)) = true := decide_eq_true c3
   have c3b1 : decide (1048576 < l0.length) = true := decide_eq_true (by omega)
   clear c3; obtain rfl := Option.some.inj H
   go_enter Try.func4, Try.ntmps4
   go_wp2
   go_ret
   exact ⟨rg_, by repeat (first | exact Drawn0.refl _ | apply Drawn0.step)⟩
  ·rw [if_neg c3] at H
   have c3b0 : decide (1048576 < (l0.length : Int)) = false := decide_eq_false c3
   have c3b1 : decide (1048576 < l0.length) = false := decide_eq_false (by omega)
   clear c3; obtain rfl := Option.some.inj H
   go_enter Try.func4, Try.ntmps4
   go_wp2
   go_ret
   exact ⟨rg_, by repeat (first | exact Drawn0.refl _ | apply Drawn0.step)⟩

/-- A state of type 43 at block g of W; what its slices lead to came in by w0. -/
def IsS43 (w0 W : World) (g : Nat) (f0 : List Int) (f1 : Int) (f2 : Int) : Prop := ∃ A0 c0, W.heap[g]? = some (.cells #[.slice A0 f0.length c0, .int .i64 f1, .int .u64 f2] 43 (0, 0)) ∧ w0.heap.size ≤ g ∧ Kd.C (Kd.int .u8) w0 A0 f0.length f0
theorem IsS43.grown {w0 W : World} {g : Nat} {f0 : List Int} {f1 : Int} {f2 : Int} {W1 : World} {row : Option Nat} (h : IsS43 w0 W g f0 f1 f2) (hw : W.grownBy W1 row) (hne : some g ≠ row) : IsS43 w0 W1 g f0 f1 f2 := by
  obtain ⟨A0, c0, hb, hg, hr0⟩ := h
  exact ⟨A0, c0, blk_grown hb hw hne, hg, hr0⟩
theorem IsS43.own_neN {w0 W : World} {g : Nat} {f0 : List Int} {f1 : Int} {f2 : Int} {α : Type} {d : Kd α} {e : Nat} {base : Nat} {ok : Nat → Prop} {v : Value} {xs : List α} (h : IsS43 w0 W g f0 f1 f2) (ho : Kd.N d e W base ok v xs) (ht : e ≠ 43) : some g ≠ v.ownBlock := by
  obtain ⟨A0, c0, hb, hg, hr0⟩ := h
  exact Kd.N_ne ho hb ht
theorem IsS43.fresh {w0 W : World} {g : Nat} {f0 : List Int} {f1 : Int} {f2 : Int} (h : IsS43 w0 W g f0 f1 f2) : ∀ k, W.heap.size ≤ k → k ≠ g := by
  obtain ⟨A0, c0, hb, hg, hr0⟩ := h
  exact Kd.freshB hb
theorem IsS43.kept {w0 W : World} {g : Nat} {f0 : List Int} {f1 : Int} {f2 : Int} {W1 : World} {S : Nat → Prop} (h : IsS43 w0 W g f0 f1 f2) (hk : Kept W W1 S) (hne : ¬ S g) : IsS43 w0 W1 g f0 f1 f2 := by
  obtain ⟨A0, c0, hb, hg, hr0⟩ := h
  exact ⟨A0, c0, blk_kept hb hk hne, hg, hr0⟩
theorem IsS43.below {w0 W : World} {g : Nat} {f0 : List Int} {f1 : Int} {f2 : Int} {W1 : World} (h : IsS43 w0 W g f0 f1 f2) (hw : Below W.heap.size W W1) : IsS43 w0 W1 g f0 f1 f2 := h.grown (grown_of_below hw none) (by simp)
theorem IsS43.alloc {w0 W : World} {g : Nat} {f0 : List Int} {f1 : Int} {f2 : Int} (h : IsS43 w0 W g f0 f1 f2) (o : Obj) : IsS43 w0 (W.alloc o) g f0 f1 f2 := h.below (Qa (Below.refl _ _) o)
theorem IsS43.drewN {w0 W : World} {g : Nat} {f0 : List Int} {f1 : Int} {f2 : Int} (h : IsS43 w0 W g f0 f1 f2) (m : Nat) : IsS43 w0 (W.drewN m) g f0 f1 f2 := h
theorem IsS43.drew {w0 W : World} {g : Nat} {f0 : List Int} {f1 : Int} {f2 : Int} (h : IsS43 w0 W g f0 f1 f2) : IsS43 w0 W.drew g f0 f1 f2 := h
theorem IsS43.at_ {w0 W : World} {g : Nat} {f0 : List Int} {f1 : Int} {f2 : Int} {w' : World} {m : Nat} (hq : W.drewN m = w') (h : IsS43 w0 W g f0 f1 f2) : IsS43 w0 w' g f0 f1 f2 := by subst hq; exact IsS43.drewN h m
theorem IsS43.apart {w0 W : World} {g : Nat} {f0 : List Int} {f1 : Int} {f2 : Int} {α : Type} {d : Kd α} {e : Nat} {base : Nat} {ok : Nat → Prop} {v : Value} {xs : List α} (h : IsS43 w0 W g f0 f1 f2) (ho : d.R e W base ok v xs) (ht : ∀ q, q ∈ e :: d.E → q ≠ 43) : d.R e W base (fun k => ok k ∧ k ≠ g) v xs := by
  obtain ⟨A0, c0, hb, hg, hr0⟩ := h
  exact Kd.R_types ho hb ht
theorem IsS43.own_ne {w0 W : World} {g : Nat} {f0 : List Int} {f1 : Int} {f2 : Int} {α : Type} {d : Kd α} {e : Nat} {base : Nat} {ok : Nat → Prop} {v : Value} {xs : List α} (h : IsS43 w0 W g f0 f1 f2) (ho : d.R e W base ok v xs) (ht : e ≠ 43) : some g ≠ v.ownBlock := by
  obtain ⟨A0, c0, hb, hg, hr0⟩ := h
  exact Kd.R_ne ho hb ht
theorem IsS43.apartQ {w0 W : World} {g : Nat} {f0 : List Int} {f1 : Int} {f2 : Int} {α : Type} {d : Kd α} {e : Nat} {base : Nat} {ok : Nat → Prop} {v : Value} {xs : List α} (h : IsS43 w0 W g f0 f1 f2) (ho : d.Q e W base ok v xs) (ht : ∀ q, q ∈ e :: d.E → q ≠ 43) : d.Q e W base (fun k => ok k ∧ k ≠ g) v xs := by
  obtain ⟨A0, c0, hb, hg, hr0⟩ := h
  exact Kd.Q_types ho hb ht
theorem IsS43.own_neQ {w0 W : World} {g : Nat} {f0 : List Int} {f1 : Int} {f2 : Int} {α : Type} {d : Kd α} {e : Nat} {base : Nat} {ok : Nat → Prop} {v : Value} {xs : List α} (h : IsS43 w0 W g f0 f1 f2) (ho : d.Q e W base ok v xs) (ht : e ≠ 43) : some g ≠ v.ownBlock := by
  obtain ⟨A0, c0, hb, hg, hr0⟩ := h
  exact Kd.Q_ne ho hb ht
theorem IsS43.apartS {w0 W : World} {g : Nat} {f0 : List Int} {f1 : Int} {f2 : Int} {α : Type} {d : Kd α} {e : Nat} {base : Nat} {ok : Nat → Prop} {v : Value} {xs : List α} (h : IsS43 w0 W g f0 f1 f2) (ho : d.S e W base ok v xs) (ht : ∀ q, q ∈ e :: d.E → q ≠ 43) : d.S e W base (fun k => ok k ∧ k ≠ g) v xs := by
  obtain ⟨A0, c0, hb, hg, hr0⟩ := h
  exact Kd.S_types ho hb ht
theorem IsS43.own_neS {w0 W : World} {g : Nat} {f0 : List Int} {f1 : Int} {f2 : Int} {α : Type} {d : Kd α} {e : Nat} {base : Nat} {ok : Nat → Prop} {v : Value} {xs : List α} (h : IsS43 w0 W g f0 f1 f2) (ho : d.S e W base ok v xs) (ht : e ≠ 43) : some g ≠ v.ownBlock := by
  obtain ⟨A0, c0, hb, hg, hr0⟩ := h
  exact Kd.S_ne ho hb ht
theorem IsS43.lt {w0 W : World} {g : Nat} {f0 : List Int} {f1 : Int} {f2 : Int} (h : IsS43 w0 W g f0 f1 f2) : g < W.heap.size := by
  obtain ⟨A0, c0, hb, hg, hr0⟩ := h
  exact blk_lt hb
theorem IsS43.ge {w0 W : World} {g : Nat} {f0 : List Int} {f1 : Int} {f2 : Int} (h : IsS43 w0 W g f0 f1 f2) : w0.heap.size ≤ g := by
  obtain ⟨A0, c0, hb, hg, hr0⟩ := h
  exact hg
theorem IsS43.ne_blk {w0 W : World} {g : Nat} {f0 : List Int} {f1 : Int} {f2 : Int} {a : Nat} {cs : Array Value} {t : TypeId} {fr : Nat × Nat} (h : IsS43 w0 W g f0 f1 f2) (hb2 : W.heap[a]? = some (.cells cs t fr)) (ht : t ≠ 43) : g ≠ a := by
  obtain ⟨A0, c0, hb, hg, hr0⟩ := h
  rintro rfl
  rw [hb] at hb2
  injection hb2 with hb2
  injection hb2 with _ ht2
  exact ht ht2.symm
theorem IsS43.far {w0 W : World} {g : Nat} {f0 : List Int} {f1 : Int} {f2 : Int} {p : Addr} (h : IsS43 w0 W g f0 f1 f2) (hne : g ≠ p.block) (u : Value) : IsS43 w0 (W.setCell p u) g f0 f1 f2 := by
  obtain ⟨A0, c0, hb, hg, hr0⟩ := h
  exact ⟨A0, c0, blk_far hb hne u, hg, hr0⟩
theorem cellS43_0 {W : World} {g : Nat} {A0 : Option Addr} {c0 : Nat} {f0 : List Int} {f1 : Int} {f2 : Int} (h : W.heap[g]? = some (.cells #[.slice A0 f0.length c0, .int .i64 f1, .int .u64 f2] 43 (0, 0))) : W.cell? ⟨g, 0, none⟩ = some (.slice A0 f0.length c0) := (blk_cell h 0).trans rfl
theorem cellS43_1 {W : World} {g : Nat} {A0 : Option Addr} {c0 : Nat} {f0 : List Int} {f1 : Int} {f2 : Int} (h : W.heap[g]? = some (.cells #[.slice A0 f0.length c0, .int .i64 f1, .int .u64 f2] 43 (0, 0))) : W.cell? ⟨g, 1, none⟩ = some (.int .i64 f1) := (blk_cell h 1).trans rfl
theorem IsS43.set_1 {w0 W : World} {g : Nat} {f0 : List Int} {f1 : Int} {f2 : Int} (h : IsS43 w0 W g f0 f1 f2) (x : Int) : IsS43 w0 (W.setCell ⟨g, 1, none⟩ (.int .i64 x)) g f0 x f2 := by
  obtain ⟨A0, c0, hb, hg, hr0⟩ := h
  exact ⟨A0, c0, by simpa using blk_set hb 1 (.int .i64 x), hg, hr0⟩
theorem cellS43_2 {W : World} {g : Nat} {A0 : Option Addr} {c0 : Nat} {f0 : List Int} {f1 : Int} {f2 : Int} (h : W.heap[g]? = some (.cells #[.slice A0 f0.length c0, .int .i64 f1, .int .u64 f2] 43 (0, 0))) : W.cell? ⟨g, 2, none⟩ = some (.int .u64 f2) := (blk_cell h 2).trans rfl
theorem IsS43.set_2 {w0 W : World} {g : Nat} {f0 : List Int} {f1 : Int} {f2 : Int} (h : IsS43 w0 W g f0 f1 f2) (x : Int) : IsS43 w0 (W.setCell ⟨g, 2, none⟩ (.int .u64 x)) g f0 f1 x := by
  obtain ⟨A0, c0, hb, hg, hr0⟩ := h
  exact ⟨A0, c0, by simpa using blk_set hb 2 (.int .u64 x), hg, hr0⟩
theorem IsS43.new (w0 W : World) (A0 : Option Addr) (c0 : Nat) (f0 : List Int) (f1 : Int) (f2 : Int) (hB : Below w0.heap.size w0 W) (hr0 : Kd.C (Kd.int .u8) w0 A0 f0.length f0) : IsS43 w0 (W.alloc (.cells #[.slice A0 f0.length c0, .int .i64 f1, .int .u64 f2] 43)) W.heap.size f0 f1 f2 := ⟨A0, c0, by simpa using heap_alloc_new W _, hB.size, hr0⟩
/-! ### spec_l1Cur_next: function 47 -/
def spec_l1Cur_next.f (s0_0 : List Int) (s0_1 : Int) (s0_2 : Int) : Option (Int × Int × Int) := if s0_1 < (s0_0.length : Int) then (if 0 ≤ s0_1 then (if (wrap64 (s0_1 + 1)) ≤ (s0_0.length : Int) then (some (wrap64 (rd s0_0 s0_1), wrap64 (s0_1 + 1), IntKind.u64.wrap ((IntKind.u64.wrap ((IntKind.u64.wrap (s0_2 * 6364136223846793005)) + (IntKind.u64.wrap (wrap64 (rd s0_0 s0_1))))) + 1442695040888963407))) else (some (wrap64 (Go.bits .and .u64 ((IntKind.u64.wrap ((IntKind.u64.wrap ((IntKind.u64.wrap (s0_2 * 6364136223846793005)) + (IntKind.u64.wrap (wrap64 (rd s0_0 s0_1))))) + 1442695040888963407)) / 1099511627776) 255), wrap64 (s0_1 + 1), IntKind.u64.wrap ((IntKind.u64.wrap ((IntKind.u64.wrap (s0_2 * 6364136223846793005)) + (IntKind.u64.wrap (wrap64 (rd s0_0 s0_1))))) + 1442695040888963407)))) else (none)) else (if (wrap64 (s0_1 + 1)) ≤ (s0_0.length : Int) then (some (0, wrap64 (s0_1 + 1), IntKind.u64.wrap ((IntKind.u64.wrap ((IntKind.u64.wrap (s0_2 * 6364136223846793005)))) + 1442695040888963407))) else (some (wrap64 (Go.bits .and .u64 ((IntKind.u64.wrap ((IntKind.u64.wrap ((IntKind.u64.wrap (s0_2 * 6364136223846793005)))) + 1442695040888963407)) / 1099511627776) 255), wrap64 (s0_1 + 1), IntKind.u64.wrap ((IntKind.u64.wrap ((IntKind.u64.wrap (s0_2 * 6364136223846793005)))) + 1442695040888963407))))
set_option maxHeartbeats 8000000 in
set_option maxRecDepth 100000 in
theorem spec_l1Cur_next.calls (g : Nat) (s0_0 : List Int) (s0_1 : Int) (s0_2 : Int) (r1 : Int) (r2 : Int) (r3 : Int) (w0 w : World) (hI : IsS43 w0 w g s0_0 s0_1 s0_2) (hB : Below w0.heap.size w0 w) (h : spec_l1Cur_next.f s0_0 s0_1 s0_2 = some (r1, r2, r3)) :
    Calls Try.prog 47 #[.pointer (some ⟨g, 0, none⟩)] w fun e w' => e = .returned (.int .i64 r1) ∧ IsS43 w0 w' g s0_0 r2 r3 ∧ Below w0.heap.size w0 w' ∧ KeepBut w w' g none := by
  have hu22 := Try.underlying22; have HI0 := Qx hI
  have HK := Qx (KeepBut.refl w g none)
  have HL := Qx hB.size; clear hI; have HW0 := Qx hB.size; have HB := Qx hB; clear hB
  have H : (if s0_1 < (s0_0.length : Int) then (if 0 ≤ s0_1 then (if (wrap64 (s0_1 + 1)) ≤ (s0_0.length : Int) then (some (wrap64 (rd s0_0 s0_1), wrap64 (s0_1 + 1), IntKind.u64.wrap ((IntKind.u64.wrap ((IntKind.u64.wrap (s0_2 * 6364136223846793005)) + (IntKind.u64.wrap (wrap64 (rd s0_0 s0_1))))) + 1442695040888963407))) else (some (wrap64 (Go.bits .and .u64 ((IntKind.u64.wrap ((IntKind.u64.wrap ((IntKind.u64.wrap (s0_2 * 6364136223846793005)) + (IntKind.u64.wrap (wrap64 (rd s0_0 s0_1))))) + 1442695040888963407)) / 1099511627776) 255), wrap64 (s0_1 + 1), IntKind.u64.wrap ((IntKind.u64.wrap ((IntKind.u64.wrap (s0_2 * 6364136223846793005)) + (IntKind.u64.wrap (wrap64 (rd s0_0 s0_1))))) + 1442695040888963407)))) else (none)) else (if (wrap64 (s0_1 + 1)) ≤ (s0_0.length : Int) then (some (0, wrap64 (s0_1 + 1), IntKind.u64.wrap ((IntKind.u64.wrap ((IntKind.u64.wrap (s0_2 * 6364136223846793005)))) + 1442695040888963407))) else (some (wrap64 (Go.bits .and .u64 ((IntKind.u64.wrap ((IntKind.u64.wrap ((IntKind.u64.wrap (s0_2 * 6364136223846793005)))) + 1442695040888963407)) / 1099511627776) 255), wrap64 (s0_1 + 1), IntKind.u64.wrap ((IntKind.u64.wrap ((IntKind.u64.wrap (s0_2 * 6364136223846793005)))) + 1442695040888963407))))) = some (r1, r2, r3) := h
  clear h
  by_cases c2 : s0_1 < (s0_0.length : Int)
  ·rw [if_pos c2] at H
   have c2b0 : decide (s0_1 < (s0_0.length : Int)) = true := decide_eq_true c2
   clear c2
   by_cases c3 : 0 ≤ s0_1
   ·rw [if_pos c3] at H
    have c3b0 : decide (0 ≤ s0_1) = true := decide_eq_true c3
    clear c3
    by_cases c4 : (wrap64 (s0_1 + 1)) ≤ (s0_0.length : Int)
    ·rw [if_pos c4] at H
     have c4b0 : decide ((wrap64 (s0_1 + 1)) ≤ (s0_0.length : Int)) = true := decide_eq_true c4
     clear c4; simp only [Option.some.injEq, Prod.mk.injEq] at H; obtain ⟨rfl, rfl, rfl⟩ := H; obtain ⟨ASz5_0, cSz5_0, HGz5, hgz5, HSz5_0⟩ := HI0.out; have hcz5_0 := cellS43_0 HGz5; have hcz5_1 := cellS43_1 HGz5; have hcz5_2 := cellS43_2 HGz5; have hfz5_1 := blk_frozen HGz5 1; have hfz5_2 := blk_frozen HGz5 2; clear HGz5 hgz5
     have p101 : 0 ≤ (s0_1 : Int) := of_decide_eq_true as_
     have q101 : s0_1 < (s0_0.length : Int) := of_decide_eq_true as_
     obtain ⟨ad101, e101, hx101_0⟩ := Kd.at_int HSz5_0 s0_1 p101 q101
     cases e101
     replace hx101_0 := pw_cell_below HB.out hx101_0; replace p101 := eq_true p101; replace q101 := eq_true q101
     go_enter Try.func47, Try.ntmps47
     go_wp2
     repeat (go_quiet (fail); try go_wp2)
     go_ret
     exact ⟨rf_, by repeat (first | (with_reducible first | exact HI0.out | apply IsS43.alloc | apply IsS43.drewN | apply IsS43.drew | apply IsS43.set_1 | apply IsS43.set_2) | exact HI0.out), by repeat (first | (with_reducible first | exact HB.out | apply Qa | apply Qn | apply Qd | refine Qs ?_ (IsS43.ge HI0.out)) | exact HB.out), by repeat (first | (with_reducible first | exact HK.out | apply KeepBut.set_ | apply keep_drewN | apply keep_drew | apply keep_alloc) | exact HK.out)⟩
    ·rw [if_neg c4] at H
     have c4b0 : decide ((wrap64 (s0_1 + 1)) ≤ (s0_0.length : Int)) = false := decide_eq_false c4
     clear c4; simp only [Option.some.injEq, Prod.mk.injEq] at H; obtain ⟨rfl, rfl, rfl⟩ := H; obtain ⟨ASz6_0, cSz6_0, HGz6, hgz6, HSz6_0⟩ := HI0.out; have hcz6_0 := cellS43_0 HGz6; have hcz6_1 := cellS43_1 HGz6; have hcz6_2 := cellS43_2 HGz6; have hfz6_1 := blk_frozen HGz6 1; have hfz6_2 := blk_frozen HGz6 2; clear HGz6 hgz6
     have p101 : 0 ≤ (s0_1 : Int) := of_decide_eq_true as_
     have q101 : s0_1 < (s0_0.length : Int) := of_decide_eq_true as_
     obtain ⟨ad101, e101, hx101_0⟩ := Kd.at_int HSz6_0 s0_1 p101 q101
     cases e101
     replace hx101_0 := pw_cell_below HB.out hx101_0; replace p101 := eq_true p101; replace q101 := eq_true q101
     go_enter Try.func47, Try.ntmps47
     go_wp2
     repeat (go_quiet (fail); try go_wp2)
     go_ret
     exact ⟨rf_, by repeat (first | (with_reducible first | exact HI0.out | apply IsS43.alloc | apply IsS43.drewN | apply IsS43.drew | apply IsS43.set_1 | apply IsS43.set_2) | exact HI0.out), by repeat (first | (with_reducible first | exact HB.out | apply Qa | apply Qn | apply Qd | refine Qs ?_ (IsS43.ge HI0.out)) | exact HB.out), by repeat (first | (with_reducible first | exact HK.out | apply KeepBut.set_ | apply keep_drewN | apply keep_drew | apply keep_alloc) | exact HK.out)⟩
   ·rw [if_neg c3] at H
    exact absurd H (by simp)
  ·rw [if_neg c2] at H
   have c2b0 : decide (s0_1 < (s0_0.length : Int)) = false := decide_eq_false c2
   clear c2
   by_cases c7 : (wrap64 (s0_1 + 1)) ≤ (s0_0.length : Int)
   ·rw [if_pos c7] at H
    have c7b0 : decide ((wrap64 (s0_1 + 1)) ≤ (s0_0.length : Int)) = true := decide_eq_true c7
    clear c7; simp only [Option.some.injEq, Prod.mk.injEq] at H; obtain ⟨rfl, rfl, rfl⟩ := H; obtain ⟨ASz8_0, cSz8_0, HGz8, hgz8, HSz8_0⟩ := HI0.out; have hcz8_0 := cellS43_0 HGz8; have hcz8_1 := cellS43_1 HGz8; have hcz8_2 := cellS43_2 HGz8; have hfz8_1 := blk_frozen HGz8 1; have hfz8_2 := blk_frozen HGz8 2; clear HGz8 hgz8
    go_enter Try.func47, Try.ntmps47
    go_wp2
    repeat (go_quiet (fail); try go_wp2)
    go_ret
    exact ⟨rf_, by repeat (first | (with_reducible first | exact HI0.out | apply IsS43.alloc | apply IsS43.drewN | apply IsS43.drew | apply IsS43.set_1 | apply IsS43.set_2) | exact HI0.out), by repeat (first | (with_reducible first | exact HB.out | apply Qa | apply Qn | apply Qd | refine Qs ?_ (IsS43.ge HI0.out)) | exact HB.out), by repeat (first | (with_reducible first | exact HK.out | apply KeepBut.set_ | apply keep_drewN | apply keep_drew | apply keep_alloc) | exact HK.out)⟩
   ·rw [if_neg c7] at H
    have c7b0 : decide ((wrap64 (s0_1 + 1)) ≤ (s0_0.length : Int)) = false := decide_eq_false c7
    clear c7; simp only [Option.some.injEq, Prod.mk.injEq] at H; obtain ⟨rfl, rfl, rfl⟩ := H; obtain ⟨ASz9_0, cSz9_0, HGz9, hgz9, HSz9_0⟩ := HI0.out; have hcz9_0 := cellS43_0 HGz9; have hcz9_1 := cellS43_1 HGz9; have hcz9_2 := cellS43_2 HGz9; have hfz9_1 := blk_frozen HGz9 1; have hfz9_2 := blk_frozen HGz9 2; clear HGz9 hgz9
    go_enter Try.func47, Try.ntmps47
    go_wp2
    repeat (go_quiet (fail); try go_wp2)
    go_ret
    exact ⟨rf_, by repeat (first | (with_reducible first | exact HI0.out | apply IsS43.alloc | apply IsS43.drewN | apply IsS43.drew | apply IsS43.set_1 | apply IsS43.set_2) | exact HI0.out), by repeat (first | (with_reducible first | exact HB.out | apply Qa | apply Qn | apply Qd | refine Qs ?_ (IsS43.ge HI0.out)) | exact HB.out), by repeat (first | (with_reducible first | exact HK.out | apply KeepBut.set_ | apply keep_drewN | apply keep_drew | apply keep_alloc) | exact HK.out)⟩
/-! ### spec_l1Cur_pick: function 27 -/
def spec_l1Cur_pick.f (s0_0 : List Int) (s0_1 : Int) (s0_2 : Int) (a1 : Int) : Option (Int × Int × Int) := if a1 ≤ 1 then (some (0, s0_1, s0_2)) else ((spec_l1Cur_next.f s0_0 s0_1 s0_2).bind fun bt102 => (if a1 > 200 then ((spec_l1Cur_next.f s0_0 bt102.2.1 bt102.2.2).bind fun bt105 => (if a1 = 0 then (none) else (some (Int.tmod (wrap64 ((wrap64 (bt102.1 * 256)) + bt105.1)) a1, bt105.2.1, bt105.2.2)))) else (if a1 = 0 then (none) else (some (Int.tmod bt102.1 a1, bt102.2.1, bt102.2.2)))))
set_option maxHeartbeats 8000000 in
set_option maxRecDepth 100000 in
theorem spec_l1Cur_pick.calls (g : Nat) (s0_0 : List Int) (s0_1 : Int) (s0_2 : Int) (a1 : Int) (r1 : Int) (r2 : Int) (r3 : Int) (w0 w : World) (hI : IsS43 w0 w g s0_0 s0_1 s0_2) (hB : Below w0.heap.size w0 w) (h : spec_l1Cur_pick.f s0_0 s0_1 s0_2 a1 = some (r1, r2, r3)) :
    Calls Try.prog 27 #[.pointer (some ⟨g, 0, none⟩), .int .i64 a1] w fun e w' => e = .returned (.int .i64 r1) ∧ IsS43 w0 w' g s0_0 r2 r3 ∧ Below w0.heap.size w0 w' ∧ KeepBut w w' g none := by
  have HI0 := Qx hI
  have HK := Qx (KeepBut.refl w g none)
  have HL := Qx hB.size; clear hI; have HW0 := Qx hB.size; have HB := Qx hB; clear hB
  have H : (if a1 ≤ 1 then (some (0, s0_1, s0_2)) else ((spec_l1Cur_next.f s0_0 s0_1 s0_2).bind fun bt102 => (if a1 > 200 then ((spec_l1Cur_next.f s0_0 bt102.2.1 bt102.2.2).bind fun bt105 => (if a1 = 0 then (none) else (some (Int.tmod (wrap64 ((wrap64 (bt102.1 * 256)) + bt105.1)) a1, bt105.2.1, bt105.2.2)))) else (if a1 = 0 then (none) else (some (Int.tmod bt102.1 a1, bt102.2.1, bt102.2.2)))))) = some (r1, r2, r3) := h
  clear h
  by_cases c3 : a1 ≤ 1
  ·rw [if_pos c3] at H
   have c3b0 : decide (a1 ≤ 1) = true := decide_eq_true c3
   clear c3; simp only [Option.some.injEq, Prod.mk.injEq] at H; obtain ⟨rfl, rfl, rfl⟩ := H
   go_enter Try.func27, Try.ntmps27
   go_wp2
   go_ret
   exact ⟨rf_, by repeat (first | (with_reducible first | exact HI0.out | apply IsS43.alloc | apply IsS43.drewN | apply IsS43.drew | apply IsS43.set_1 | apply IsS43.set_2) | exact HI0.out), by repeat (first | (with_reducible first | exact HB.out | apply Qa | apply Qn | apply Qd | refine Qs ?_ (IsS43.ge HI0.out)) | exact HB.out), by repeat (first | (with_reducible first | exact HK.out | apply KeepBut.set_ | apply keep_drewN | apply keep_drew | apply keep_alloc) | exact HK.out)⟩
  ·rw [if_neg c3] at H
   have c3b0 : decide (a1 ≤ 1) = false := decide_eq_false c3
   clear c3; replace H := Option.bind_eq_some_iff.mp H; obtain ⟨⟨t102, t103, t104⟩, A40, H⟩ := H
   have A4 := Qx A40; clear A40
   by_cases c5 : a1 > 200
   ·rw [if_pos c5] at H
    have c5b0 : decide (200 < a1) = true := decide_eq_true c5
    clear c5; replace H := Option.bind_eq_some_iff.mp H; obtain ⟨⟨t105, t106, t107⟩, A60, H⟩ := H
    have A6 := Qx A60; clear A60
    by_cases c7 : a1 = 0
    ·rw [if_pos c7] at H
     exact absurd H (by simp)
    ·rw [if_neg c7] at H
     have c7b0 : (a1 == 0) = false := beq_eq_false_iff_ne.mpr c7
     have c7b1 : (a1 != 0) = true := bne_iff_ne.mpr c7
     simp only [Option.some.injEq, Prod.mk.injEq] at H; obtain ⟨rfl, rfl, rfl⟩ := H
     go_enter Try.func27, Try.ntmps27
     go_wp2_with (first | ((with_reducible refine gate_callee (f := 47) rfl ?_); refine gl_ 9 Try.func47 #[.pointer (some ⟨g, 0, none⟩)] ?_; (with_reducible refine (spec_l1Cur_next.calls g s0_0 s0_1 s0_2 t102 t103 t104 w0 _ ?side1 ?side2 A4.out).mono ?_); (case side1 => repeat (first | (with_reducible first | exact HI0.out | apply IsS43.alloc | apply IsS43.drewN | apply IsS43.drew | apply IsS43.set_1 | apply IsS43.set_2) | exact HI0.out)); (case side2 => repeat (first | (with_reducible first | exact HB.out | apply Qa | apply Qn | apply Qd | refine Qs ?_ (IsS43.ge HI0.out)) | exact HB.out)); rintro e w8 ⟨rfl, hi, hb, hk⟩; refine ⟨_, rfl, ?_⟩; replace HK := Qx (KeepBut.trans (by repeat (first | (with_reducible first | exact HK.out | apply KeepBut.set_ | apply keep_drewN | apply keep_drew | apply keep_alloc) | exact HK.out)) hk (.inl rfl)); replace HB := Qx (hb); replace HI0 := Qx (hi); (try clear hb); (try clear hb2); (try clear hk); (try clear hi)) | ((with_reducible refine gate_callee (f := 47) rfl ?_); refine gl_ 15 Try.func47 #[.pointer (some ⟨g, 0, none⟩)] ?_; (with_reducible refine (spec_l1Cur_next.calls g s0_0 t103 t104 t105 t106 t107 w0 _ ?side1 ?side2 A6.out).mono ?_); (case side1 => repeat (first | (with_reducible first | exact HI0.out | apply IsS43.alloc | apply IsS43.drewN | apply IsS43.drew | apply IsS43.set_1 | apply IsS43.set_2) | exact HI0.out)); (case side2 => repeat (first | (with_reducible first | exact HB.out | apply Qa | apply Qn | apply Qd | refine Qs ?_ (IsS43.ge HI0.out)) | exact HB.out)); rintro e w9 ⟨rfl, hi, hb, hk⟩; refine ⟨_, rfl, ?_⟩; replace HK := Qx (KeepBut.trans (by repeat (first | (with_reducible first | exact HK.out | apply KeepBut.set_ | apply keep_drewN | apply keep_drew | apply keep_alloc) | exact HK.out)) hk (.inl rfl)); replace HB := Qx (hb); replace HI0 := Qx (hi); (try clear hb); (try clear hb2); (try clear hk); (try clear hi)))
     go_ret
     exact ⟨rf_, by repeat (first | (with_reducible first | exact HI0.out | apply IsS43.alloc | apply IsS43.drewN | apply IsS43.drew | apply IsS43.set_1 | apply IsS43.set_2) | exact HI0.out), by repeat (first | (with_reducible first | exact HB.out | apply Qa | apply Qn | apply Qd | refine Qs ?_ (IsS43.ge HI0.out)) | exact HB.out), by repeat (first | (with_reducible first | exact HK.out | apply KeepBut.set_ | apply keep_drewN | apply keep_drew | apply keep_alloc) | exact HK.out)⟩
   ·rw [if_neg c5] at H
    have c5b0 : decide (200 < a1) = false := decide_eq_false c5
    clear c5
    by_cases c10 : a1 = 0
    ·rw [if_pos c10] at H
     exact absurd H (by simp)
    ·rw [if_neg c10] at H
     have c10b0 : (a1 == 0) = false := beq_eq_false_iff_ne.mpr c10
     have c10b1 : (a1 != 0) = true := bne_iff_ne.mpr c10
     simp only [Option.some.injEq, Prod.mk.injEq] at H; obtain ⟨rfl, rfl, rfl⟩ := H
     go_enter Try.func27, Try.ntmps27
     go_wp2_with (first | ((with_reducible refine gate_callee (f := 47) rfl ?_); refine gl_ 9 Try.func47 #[.pointer (some ⟨g, 0, none⟩)] ?_; (with_reducible refine (spec_l1Cur_next.calls g s0_0 s0_1 s0_2 t102 t103 t104 w0 _ ?side1 ?side2 A4.out).mono ?_); (case side1 => repeat (first | (with_reducible first | exact HI0.out | apply IsS43.alloc | apply IsS43.drewN | apply IsS43.drew | apply IsS43.set_1 | apply IsS43.set_2) | exact HI0.out)); (case side2 => repeat (first | (with_reducible first | exact HB.out | apply Qa | apply Qn | apply Qd | refine Qs ?_ (IsS43.ge HI0.out)) | exact HB.out)); rintro e w11 ⟨rfl, hi, hb, hk⟩; refine ⟨_, rfl, ?_⟩; replace HK := Qx (KeepBut.trans (by repeat (first | (with_reducible first | exact HK.out | apply KeepBut.set_ | apply keep_drewN | apply keep_drew | apply keep_alloc) | exact HK.out)) hk (.inl rfl)); replace HB := Qx (hb); replace HI0 := Qx (hi); (try clear hb); (try clear hb2); (try clear hk); (try clear hi)))
     go_ret
     exact ⟨rf_, by repeat (first | (with_reducible first | exact HI0.out | apply IsS43.alloc | apply IsS43.drewN | apply IsS43.drew | apply IsS43.set_1 | apply IsS43.set_2) | exact HI0.out), by repeat (first | (with_reducible first | exact HB.out | apply Qa | apply Qn | apply Qd | refine Qs ?_ (IsS43.ge HI0.out)) | exact HB.out), by repeat (first | (with_reducible first | exact HK.out | apply KeepBut.set_ | apply keep_drewN | apply keep_drew | apply keep_alloc) | exact HK.out)⟩
/-! ### spec_l1Cur_among: function 28 -/
def spec_l1Cur_among.f (s0_0 : List Int) (s0_1 : Int) (s0_2 : Int) (l1 : List Int) : Option (Int × Int × Int) := (spec_l1Cur_pick.f s0_0 s0_1 s0_2 (l1.length : Int)).bind fun bt108 => (if 0 ≤ bt108.1 then (if bt108.1 < (l1.length : Int) then (some (rd l1 bt108.1, bt108.2.1, bt108.2.2)) else (none)) else (none))
set_option maxHeartbeats 8000000 in
set_option maxRecDepth 100000 in
theorem spec_l1Cur_among.calls (g : Nat) (s0_0 : List Int) (s0_1 : Int) (s0_2 : Int) (A1 : Option Addr) (c1 : Nat) (l1 : List Int) (r1 : Int) (r2 : Int) (r3 : Int) (w0 w : World) (hI : IsS43 w0 w g s0_0 s0_1 s0_2) (hB : Below w0.heap.size w0 w) (hr1 : Kd.C (Kd.int .i64) w A1 l1.length l1) (hc1 : l1.length ≤ c1) (hf1 : ∀ ad, A1 = some ad → 0 < l1.length → ad.block ≠ g) (h : spec_l1Cur_among.f s0_0 s0_1 s0_2 l1 = some (r1, r2, r3)) :
    Calls Try.prog 28 #[.pointer (some ⟨g, 0, none⟩), .slice A1 l1.length c1] w fun e w' => e = .returned (.int .i64 r1) ∧ IsS43 w0 w' g s0_0 r2 r3 ∧ Below w0.heap.size w0 w' ∧ KeepBut w w' g none := by
  have HR1 := Qx hr1; have HC1 := Qx hc1; clear hr1 hc1; have HI0 := Qx hI
  have HK := Qx (KeepBut.refl w g none)
  have HL := Qx hB.size; clear hI; have HW0 := Qx hB.size; have HB := Qx hB; clear hB
  have H : ((spec_l1Cur_pick.f s0_0 s0_1 s0_2 (l1.length : Int)).bind fun bt108 => (if 0 ≤ bt108.1 then (if bt108.1 < (l1.length : Int) then (some (rd l1 bt108.1, bt108.2.1, bt108.2.2)) else (none)) else (none))) = some (r1, r2, r3) := h
  clear h; replace H := Option.bind_eq_some_iff.mp H; obtain ⟨⟨t108, t109, t110⟩, A30, H⟩ := H
  have A3 := Qx A30; clear A30
  by_cases c4 : 0 ≤ t108
  ·rw [if_pos c4] at H
   have c4b0 : decide (0 ≤ t108) = true := decide_eq_true c4
   clear c4
   by_cases c5 : t108 < (l1.length : Int)
   ·rw [if_pos c5] at H
    have c5b0 : decide (t108 < (l1.length : Int)) = true := decide_eq_true c5
    clear c5; simp only [Option.some.injEq, Prod.mk.injEq] at H; obtain ⟨rfl, rfl, rfl⟩ := H
    go_enter Try.func28, Try.ntmps28
    go_wp2_with (first | ((with_reducible refine gate_callee (f := 27) rfl ?_); refine gl_ 9 Try.func27 #[.pointer (some ⟨g, 0, none⟩), .int .i64 (l1.length : Int)] ?_; (with_reducible refine (spec_l1Cur_pick.calls g s0_0 s0_1 s0_2 (l1.length : Int) t108 t109 t110 w0 _ ?side1 ?side2 A3.out).mono ?_); (case side1 => repeat (first | (with_reducible first | exact HI0.out | apply IsS43.alloc | apply IsS43.drewN | apply IsS43.drew | apply IsS43.set_1 | apply IsS43.set_2) | exact HI0.out)); (case side2 => repeat (first | (with_reducible first | exact HB.out | apply Qa | apply Qn | apply Qd | refine Qs ?_ (IsS43.ge HI0.out)) | exact HB.out)); rintro e w6 ⟨rfl, hi, hb, hk⟩; refine ⟨_, rfl, ?_⟩; replace HK := Qx (KeepBut.trans (by repeat (first | (with_reducible first | exact HK.out | apply KeepBut.set_ | apply keep_drewN | apply keep_drew | apply keep_alloc) | exact HK.out)) hk (.inl rfl)); replace HB := Qx (hb); replace HI0 := Qx (hi); (try clear hb); (try clear hb2); (try clear hk); (try clear hi); have p111 : 0 ≤ (t108 : Int) := of_decide_eq_true as_; have q111 : t108 < (l1.length : Int) := of_decide_eq_true as_; obtain ⟨ad111, e111, hx111_0⟩ := Kd.at_int HR1.out t108 p111 q111; cases e111; replace hx111_0 := keep_cell HK.out hx111_0 (by first | (rw [add_block]; exact hf1 _ rfl (by omega)) | exact hf1 _ rfl (by omega) | exact hf1 ad111 rfl (by omega)); replace p111 := eq_true p111; replace q111 := eq_true q111))
    go_ret
    exact ⟨rf_, by repeat (first | (with_reducible first | exact HI0.out | apply IsS43.alloc | apply IsS43.drewN | apply IsS43.drew | apply IsS43.set_1 | apply IsS43.set_2) | exact HI0.out), by repeat (first | (with_reducible first | exact HB.out | apply Qa | apply Qn | apply Qd | refine Qs ?_ (IsS43.ge HI0.out)) | exact HB.out), by repeat (first | (with_reducible first | exact HK.out | apply KeepBut.set_ | apply keep_drewN | apply keep_drew | apply keep_alloc) | exact HK.out)⟩
   ·rw [if_neg c5] at H
    exact absurd H (by simp)
  ·rw [if_neg c4] at H
   exact absurd H (by simp)
/-! ### spec_l1Cur_limit: function 16 -/
def spec_l1Cur_limit.f (s0_0 : List Int) (s0_1 : Int) (s0_2 : Int) : Option (Int × Int × Int) := (spec_l1Cur_pick.f s0_0 s0_1 s0_2 8).bind fun bt112 => (if bt112.1 = 0 then ((spec_l1Cur_among.f s0_0 bt112.2.1 bt112.2.2 (([(-1), 0, 1, 2, 100000, 100001] : List Int))).bind fun bt118 => (some (bt118.1, bt118.2.1, bt118.2.2))) else (if bt112.1 = 1 then ((spec_l1Cur_pick.f s0_0 bt112.2.1 bt112.2.2 100000).bind fun bt121 => (some (wrap64 (1 + bt121.1), bt121.2.1, bt121.2.2))) else ((spec_l1Cur_pick.f s0_0 bt112.2.1 bt112.2.2 150).bind fun bt124 => (some (wrap64 (1 + bt124.1), bt124.2.1, bt124.2.2)))))
set_option maxHeartbeats 8000000 in
set_option maxRecDepth 100000 in
theorem spec_l1Cur_limit.calls (g : Nat) (s0_0 : List Int) (s0_1 : Int) (s0_2 : Int) (r1 : Int) (r2 : Int) (r3 : Int) (w0 w : World) (hI : IsS43 w0 w g s0_0 s0_1 s0_2) (hB : Below w0.heap.size w0 w) (h : spec_l1Cur_limit.f s0_0 s0_1 s0_2 = some (r1, r2, r3)) :
    Calls Try.prog 16 #[.pointer (some ⟨g, 0, none⟩)] w fun e w' => e = .returned (.int .i64 r1) ∧ IsS43 w0 w' g s0_0 r2 r3 ∧ Below w0.heap.size w0 w' ∧ KeepBut w w' g none := by
  have HI0 := Qx hI
  have HK := Qx (KeepBut.refl w g none)
  have HL := Qx hB.size; clear hI; have HW0 := Qx hB.size; have HB := Qx hB; clear hB
  have H : ((spec_l1Cur_pick.f s0_0 s0_1 s0_2 8).bind fun bt112 => (if bt112.1 = 0 then ((spec_l1Cur_among.f s0_0 bt112.2.1 bt112.2.2 (([(-1), 0, 1, 2, 100000, 100001] : List Int))).bind fun bt118 => (some (bt118.1, bt118.2.1, bt118.2.2))) else (if bt112.1 = 1 then ((spec_l1Cur_pick.f s0_0 bt112.2.1 bt112.2.2 100000).bind fun bt121 => (some (wrap64 (1 + bt121.1), bt121.2.1, bt121.2.2))) else ((spec_l1Cur_pick.f s0_0 bt112.2.1 bt112.2.2 150).bind fun bt124 => (some (wrap64 (1 + bt124.1), bt124.2.1, bt124.2.2)))))) = some (r1, r2, r3) := h
  clear h; replace H := Option.bind_eq_some_iff.mp H; obtain ⟨⟨t112, t113, t114⟩, A20, H⟩ := H
  have A2 := Qx A20; clear A20
  by_cases c3 : t112 = 0
  ·rw [if_pos c3] at H
   have c3b0 : (t112 == 0) = true := beq_iff_eq.mpr c3
   have c3b1 : (t112 != 0) = false := bne_eq_false_iff_eq.mpr c3
   clear c3
   obtain ⟨y115, hy115⟩ : ∃ y_ : List Int, y_ = (([(-1), 0, 1, 2, 100000, 100001] : List Int)) := ⟨_, rfl⟩
   replace H : ((spec_l1Cur_among.f s0_0 t113 t114 y115).bind fun bt118 => (some (bt118.1, bt118.2.1, bt118.2.2))) = some (r1, r2, r3) := by first | (rw [hy115]; with_reducible exact H) | (have H2_ := (Option.bind_some _ _).symm.trans H; rw [hy115]; with_reducible exact H2_) | (have H2_ := (Option.bind_some _ _).symm.trans H; with_reducible exact H2_) | with_reducible exact H | (rw [hy115]; exact H) | exact H
   have Ny115 := Qx hy115; clear hy115; replace H := Option.bind_eq_some_iff.mp H; obtain ⟨⟨t118, t119, t120⟩, A40, H⟩ := H
   have A4 := Qx A40; clear A40; simp only [Option.some.injEq, Prod.mk.injEq] at H; obtain ⟨rfl, rfl, rfl⟩ := H
   go_enter Try.func16, Try.ntmps16
   go_wp2_with (first | ((with_reducible refine gate_callee (f := 27) rfl ?_); refine gl_ 4 Try.func27 #[.pointer (some ⟨g, 0, none⟩), .int .i64 8] ?_; (with_reducible refine (spec_l1Cur_pick.calls g s0_0 s0_1 s0_2 8 t112 t113 t114 w0 _ ?side1 ?side2 A2.out).mono ?_); (case side1 => repeat (first | (with_reducible first | exact HI0.out | apply IsS43.alloc | apply IsS43.drewN | apply IsS43.drew | apply IsS43.set_1 | apply IsS43.set_2) | exact HI0.out)); (case side2 => repeat (first | (with_reducible first | exact HB.out | apply Qa | apply Qn | apply Qd | refine Qs ?_ (IsS43.ge HI0.out)) | exact HB.out)); rintro e w5 ⟨rfl, hi, hb, hk⟩; refine ⟨_, rfl, ?_⟩; replace HK := Qx (KeepBut.trans (by repeat (first | (with_reducible first | exact HK.out | apply KeepBut.set_ | apply keep_drewN | apply keep_drew | apply keep_alloc) | exact HK.out)) hk (.inl rfl)); replace HB := Qx (hb); replace HI0 := Qx (hi); (try clear hb); (try clear hb2); (try clear hk); (try clear hi)) | ((with_reducible refine gate_dst (N := 8) rfl ?_); refine Kd.R_lit (Kd.int .i64) _ 3 ?hg (N := 8) ?hd (xs := ([(-1), 0, 1, 2, 100000, 100001] : List Int)) (inner := [.int .i64 (-1), .int .i64 0, .int .i64 1, .int .i64 2, .int .i64 100000, .int .i64 100001]) (ok := fun _ => True) (okp := fun _ => True) ?hr ?hp (fun _ hk => hk) trivial (Below.refl _ _) (Nat.le_refl _) (by simp) ?_; (case hd => rfl); (case hg => rfl); (case hr => first | (go_simp; done) | (go_simp; rfl)); (case hp => exact (Reps.one (show Kd.M (Kd.int .i64) _ _ _ (-1) [.int .i64 (-1)] from rfl) (Reps.one (show Kd.M (Kd.int .i64) _ _ _ 0 [.int .i64 0] from rfl) (Reps.one (show Kd.M (Kd.int .i64) _ _ _ 1 [.int .i64 1] from rfl) (Reps.one (show Kd.M (Kd.int .i64) _ _ _ 2 [.int .i64 2] from rfl) (Reps.one (show Kd.M (Kd.int .i64) _ _ _ 100000 [.int .i64 100000] from rfl) (Reps.one (show Kd.M (Kd.int .i64) _ _ _ 100001 [.int .i64 100001] from rfl) (Reps.none _ _)))))))); intro v116 w6 ho7 hb hg_ hnew_; clear hg_ hnew_; (first | rw [← Ny115.out] at ho7 | (simp only [Int.reduceToNat] at ho7; rw [← Ny115.out] at ho7)); have HO117 := Qx (Kd.R_lower ho7 (keep_size (w := w) (g := g) (row := none) (by repeat (first | (with_reducible first | exact HK.out | apply KeepBut.set_ | apply keep_drewN | apply keep_drew | apply keep_alloc) | exact HK.out)))); replace HK := Qx (KeepBut.trans (by repeat (first | (with_reducible first | exact HK.out | apply KeepBut.set_ | apply keep_drewN | apply keep_drew | apply keep_alloc) | exact HK.out)) (KeepBut.of_below hb g none) (.inl rfl)); replace HB := Qx (Qp (by repeat (first | (with_reducible first | exact HB.out | apply Qa | apply Qn | apply Qd | refine Qs ?_ (IsS43.ge HI0.out)) | exact HB.out)) hb); replace HI0 := Qx (IsS43.below (by repeat (first | (with_reducible first | exact HI0.out | apply IsS43.alloc | apply IsS43.drewN | apply IsS43.drew | apply IsS43.set_1 | apply IsS43.set_2) | exact HI0.out)) hb); clear hb ho7; obtain ⟨Ao8, co8, eo8⟩ := Kd.R_slice HO117.out; subst eo8) | ((with_reducible refine gate_callee (f := 28) rfl ?_); refine gl_ 9 Try.func28 #[.pointer (some ⟨g, 0, none⟩), .slice Ao8 y115.length co8] ?_; (with_reducible refine (spec_l1Cur_among.calls g s0_0 t113 t114 _ _ y115 t118 t119 t120 w0 _ ?side1 ?side2 ?side3 ?side4 ?side5 A4.out).mono ?_); (case side1 => repeat (first | (with_reducible first | exact HI0.out | apply IsS43.alloc | apply IsS43.drewN | apply IsS43.drew | apply IsS43.set_1 | apply IsS43.set_2) | exact HI0.out)); (case side2 => repeat (first | (with_reducible first | exact HB.out | apply Qa | apply Qn | apply Qd | refine Qs ?_ (IsS43.ge HI0.out)) | exact HB.out)); (case side3 => exact kD_ HO117); (case side4 => exact (Kd.R_reads' HO117.out).2.1); (case side5 => exact far_slice (IsS43.own_ne HI0.out HO117.out (by decide))); rintro e w9 ⟨rfl, hi, hb, hk⟩; refine ⟨_, rfl, ?_⟩; replace HO117 := Qx (Qrm (Kd.R_keep (IsS43.apart (show IsS43 w0 _ g s0_0 t113 t114 from by repeat (first | (with_reducible first | exact HI0.out | apply IsS43.alloc | apply IsS43.drewN | apply IsS43.drew | apply IsS43.set_1 | apply IsS43.set_2) | exact HI0.out)) (kR_ HO117) (by decide)) hk (fun _ h => h.2)) (fun _ h => h.1)); replace HK := Qx (KeepBut.trans (by repeat (first | (with_reducible first | exact HK.out | apply KeepBut.set_ | apply keep_drewN | apply keep_drew | apply keep_alloc) | exact HK.out)) hk (.inl rfl)); replace HB := Qx (hb); replace HI0 := Qx (hi); (try clear hb); (try clear hb2); (try clear hk); (try clear hi)))
   go_ret
   exact ⟨rf_, by repeat (first | (with_reducible first | exact HI0.out | apply IsS43.alloc | apply IsS43.drewN | apply IsS43.drew | apply IsS43.set_1 | apply IsS43.set_2) | exact HI0.out), by repeat (first | (with_reducible first | exact HB.out | apply Qa | apply Qn | apply Qd | refine Qs ?_ (IsS43.ge HI0.out)) | exact HB.out), by repeat (first | (with_reducible first | exact HK.out | apply KeepBut.set_ | apply keep_drewN | apply keep_drew | apply keep_alloc) | exact HK.out)⟩
  ·rw [if_neg c3] at H
   have c3b0 : (t112 == 0) = false := beq_eq_false_iff_ne.mpr c3
   have c3b1 : (t112 != 0) = true := bne_iff_ne.mpr c3
   by_cases c10 : t112 = 1
   ·rw [if_pos c10] at H
    have c10b0 : (t112 == 1) = true := beq_iff_eq.mpr c10
    have c10b1 : (t112 != 1) = false := bne_eq_false_iff_eq.mpr c10
    clear c10; replace H := Option.bind_eq_some_iff.mp H; obtain ⟨⟨t121, t122, t123⟩, A110, H⟩ := H
    have A11 := Qx A110; clear A110; simp only [Option.some.injEq, Prod.mk.injEq] at H; obtain ⟨rfl, rfl, rfl⟩ := H
    go_enter Try.func16, Try.ntmps16
    go_wp2_with (first | ((with_reducible refine gate_callee (f := 27) rfl ?_); refine gl_ 4 Try.func27 #[.pointer (some ⟨g, 0, none⟩), .int .i64 8] ?_; (with_reducible refine (spec_l1Cur_pick.calls g s0_0 s0_1 s0_2 8 t112 t113 t114 w0 _ ?side1 ?side2 A2.out).mono ?_); (case side1 => repeat (first | (with_reducible first | exact HI0.out | apply IsS43.alloc | apply IsS43.drewN | apply IsS43.drew | apply IsS43.set_1 | apply IsS43.set_2) | exact HI0.out)); (case side2 => repeat (first | (with_reducible first | exact HB.out | apply Qa | apply Qn | apply Qd | refine Qs ?_ (IsS43.ge HI0.out)) | exact HB.out)); rintro e w12 ⟨rfl, hi, hb, hk⟩; refine ⟨_, rfl, ?_⟩; replace HK := Qx (KeepBut.trans (by repeat (first | (with_reducible first | exact HK.out | apply KeepBut.set_ | apply keep_drewN | apply keep_drew | apply keep_alloc) | exact HK.out)) hk (.inl rfl)); replace HB := Qx (hb); replace HI0 := Qx (hi); (try clear hb); (try clear hb2); (try clear hk); (try clear hi)) | ((with_reducible refine gate_callee (f := 27) rfl ?_); refine gl_ 13 Try.func27 #[.pointer (some ⟨g, 0, none⟩), .int .i64 100000] ?_; (with_reducible refine (spec_l1Cur_pick.calls g s0_0 t113 t114 100000 t121 t122 t123 w0 _ ?side1 ?side2 A11.out).mono ?_); (case side1 => repeat (first | (with_reducible first | exact HI0.out | apply IsS43.alloc | apply IsS43.drewN | apply IsS43.drew | apply IsS43.set_1 | apply IsS43.set_2) | exact HI0.out)); (case side2 => repeat (first | (with_reducible first | exact HB.out | apply Qa | apply Qn | apply Qd | refine Qs ?_ (IsS43.ge HI0.out)) | exact HB.out)); rintro e w13 ⟨rfl, hi, hb, hk⟩; refine ⟨_, rfl, ?_⟩; replace HK := Qx (KeepBut.trans (by repeat (first | (with_reducible first | exact HK.out | apply KeepBut.set_ | apply keep_drewN | apply keep_drew | apply keep_alloc) | exact HK.out)) hk (.inl rfl)); replace HB := Qx (hb); replace HI0 := Qx (hi); (try clear hb); (try clear hb2); (try clear hk); (try clear hi)))
    go_ret
    exact ⟨rf_, by repeat (first | (with_reducible first | exact HI0.out | apply IsS43.alloc | apply IsS43.drewN | apply IsS43.drew | apply IsS43.set_1 | apply IsS43.set_2) | exact HI0.out), by repeat (first | (with_reducible first | exact HB.out | apply Qa | apply Qn | apply Qd | refine Qs ?_ (IsS43.ge HI0.out)) | exact HB.out), by repeat (first | (with_reducible first | exact HK.out | apply KeepBut.set_ | apply keep_drewN | apply keep_drew | apply keep_alloc) | exact HK.out)⟩
   ·rw [if_neg c10] at H
    have c10b0 : (t112 == 1) = false := beq_eq_false_iff_ne.mpr c10
    have c10b1 : (t112 != 1) = true := bne_iff_ne.mpr c10
    replace H := Option.bind_eq_some_iff.mp H; obtain ⟨⟨t124, t125, t126⟩, A140, H⟩ := H
    have A14 := Qx A140; clear A140; simp only [Option.some.injEq, Prod.mk.injEq] at H; obtain ⟨rfl, rfl, rfl⟩ := H
    go_enter Try.func16, Try.ntmps16
    go_wp2_with (first | ((with_reducible refine gate_callee (f := 27) rfl ?_); refine gl_ 4 Try.func27 #[.pointer (some ⟨g, 0, none⟩), .int .i64 8] ?_; (with_reducible refine (spec_l1Cur_pick.calls g s0_0 s0_1 s0_2 8 t112 t113 t114 w0 _ ?side1 ?side2 A2.out).mono ?_); (case side1 => repeat (first | (with_reducible first | exact HI0.out | apply IsS43.alloc | apply IsS43.drewN | apply IsS43.drew | apply IsS43.set_1 | apply IsS43.set_2) | exact HI0.out)); (case side2 => repeat (first | (with_reducible first | exact HB.out | apply Qa | apply Qn | apply Qd | refine Qs ?_ (IsS43.ge HI0.out)) | exact HB.out)); rintro e w15 ⟨rfl, hi, hb, hk⟩; refine ⟨_, rfl, ?_⟩; replace HK := Qx (KeepBut.trans (by repeat (first | (with_reducible first | exact HK.out | apply KeepBut.set_ | apply keep_drewN | apply keep_drew | apply keep_alloc) | exact HK.out)) hk (.inl rfl)); replace HB := Qx (hb); replace HI0 := Qx (hi); (try clear hb); (try clear hb2); (try clear hk); (try clear hi)) | ((with_reducible refine gate_callee (f := 27) rfl ?_); refine gl_ 16 Try.func27 #[.pointer (some ⟨g, 0, none⟩), .int .i64 150] ?_; (with_reducible refine (spec_l1Cur_pick.calls g s0_0 t113 t114 150 t124 t125 t126 w0 _ ?side1 ?side2 A14.out).mono ?_); (case side1 => repeat (first | (with_reducible first | exact HI0.out | apply IsS43.alloc | apply IsS43.drewN | apply IsS43.drew | apply IsS43.set_1 | apply IsS43.set_2) | exact HI0.out)); (case side2 => repeat (first | (with_reducible first | exact HB.out | apply Qa | apply Qn | apply Qd | refine Qs ?_ (IsS43.ge HI0.out)) | exact HB.out)); rintro e w16 ⟨rfl, hi, hb, hk⟩; refine ⟨_, rfl, ?_⟩; replace HK := Qx (KeepBut.trans (by repeat (first | (with_reducible first | exact HK.out | apply KeepBut.set_ | apply keep_drewN | apply keep_drew | apply keep_alloc) | exact HK.out)) hk (.inl rfl)); replace HB := Qx (hb); replace HI0 := Qx (hi); (try clear hb); (try clear hb2); (try clear hk); (try clear hi)))
    go_ret
    exact ⟨rf_, by repeat (first | (with_reducible first | exact HI0.out | apply IsS43.alloc | apply IsS43.drewN | apply IsS43.drew | apply IsS43.set_1 | apply IsS43.set_2) | exact HI0.out), by repeat (first | (with_reducible first | exact HB.out | apply Qa | apply Qn | apply Qd | refine Qs ?_ (IsS43.ge HI0.out)) | exact HB.out), by repeat (first | (with_reducible first | exact HK.out | apply KeepBut.set_ | apply keep_drewN | apply keep_drew | apply keep_alloc) | exact HK.out)⟩
/-! ### spec_l1Cur_one: function 29 -/
def spec_l1Cur_one.f (s0_0 : List Int) (s0_1 : Int) (s0_2 : Int) (a1 : Int) : Option (Bool × Int × Int) := (spec_l1Cur_pick.f s0_0 s0_1 s0_2 a1).bind fun bt127 => (some ((bt127.1 == 0), bt127.2.1, bt127.2.2))
set_option maxHeartbeats 8000000 in
set_option maxRecDepth 100000 in
theorem spec_l1Cur_one.calls (g : Nat) (s0_0 : List Int) (s0_1 : Int) (s0_2 : Int) (a1 : Int) (r1 : Bool) (r2 : Int) (r3 : Int) (w0 w : World) (hI : IsS43 w0 w g s0_0 s0_1 s0_2) (hB : Below w0.heap.size w0 w) (h : spec_l1Cur_one.f s0_0 s0_1 s0_2 a1 = some (r1, r2, r3)) :
    Calls Try.prog 29 #[.pointer (some ⟨g, 0, none⟩), .int .i64 a1] w fun e w' => e = .returned (.bool r1) ∧ IsS43 w0 w' g s0_0 r2 r3 ∧ Below w0.heap.size w0 w' ∧ KeepBut w w' g none := by
  have HI0 := Qx hI
  have HK := Qx (KeepBut.refl w g none)
  have HL := Qx hB.size; clear hI; have HW0 := Qx hB.size; have HB := Qx hB; clear hB
  have H : ((spec_l1Cur_pick.f s0_0 s0_1 s0_2 a1).bind fun bt127 => (some ((bt127.1 == 0), bt127.2.1, bt127.2.2))) = some (r1, r2, r3) := h
  clear h; replace H := Option.bind_eq_some_iff.mp H; obtain ⟨⟨t127, t128, t129⟩, A30, H⟩ := H
  have A3 := Qx A30; clear A30; simp only [Option.some.injEq, Prod.mk.injEq] at H; obtain ⟨rfl, rfl, rfl⟩ := H
  go_enter Try.func29, Try.ntmps29
  go_wp2_with (first | ((with_reducible refine gate_callee (f := 27) rfl ?_); refine gl_ 7 Try.func27 #[.pointer (some ⟨g, 0, none⟩), .int .i64 a1] ?_; (with_reducible refine (spec_l1Cur_pick.calls g s0_0 s0_1 s0_2 a1 t127 t128 t129 w0 _ ?side1 ?side2 A3.out).mono ?_); (case side1 => repeat (first | (with_reducible first | exact HI0.out | apply IsS43.alloc | apply IsS43.drewN | apply IsS43.drew | apply IsS43.set_1 | apply IsS43.set_2) | exact HI0.out)); (case side2 => repeat (first | (with_reducible first | exact HB.out | apply Qa | apply Qn | apply Qd | refine Qs ?_ (IsS43.ge HI0.out)) | exact HB.out)); rintro e w4 ⟨rfl, hi, hb, hk⟩; refine ⟨_, rfl, ?_⟩; replace HK := Qx (KeepBut.trans (by repeat (first | (with_reducible first | exact HK.out | apply KeepBut.set_ | apply keep_drewN | apply keep_drew | apply keep_alloc) | exact HK.out)) hk (.inl rfl)); replace HB := Qx (hb); replace HI0 := Qx (hi); (try clear hb); (try clear hb2); (try clear hk); (try clear hi)))
  go_ret
  exact ⟨rf_, by repeat (first | (with_reducible first | exact HI0.out | apply IsS43.alloc | apply IsS43.drewN | apply IsS43.drew | apply IsS43.set_1 | apply IsS43.set_2) | exact HI0.out), by repeat (first | (with_reducible first | exact HB.out | apply Qa | apply Qn | apply Qd | refine Qs ?_ (IsS43.ge HI0.out)) | exact HB.out), by repeat (first | (with_reducible first | exact HK.out | apply KeepBut.set_ | apply keep_drewN | apply keep_drew | apply keep_alloc) | exact HK.out)⟩
/-! ### spec_l1Most: function 30 -/
def spec_l1Most.f (a0 : Int) (a1 : Int) : Option (Int) := if a0 > a1 then (some a0) else (some a1)
set_option maxHeartbeats 8000000 in
set_option maxRecDepth 100000 in
theorem spec_l1Most.calls (a0 : Int) (a1 : Int) (r : Int) (w : World) (h : spec_l1Most.f a0 a1 = some r) :
    Calls Try.prog 30 #[.int .i64 a0, .int .i64 a1] w fun e w' => e = .returned (.int .i64 r) ∧ Drawn0 w w' := by
  have H : (if a0 > a1 then (some a0) else (some a1)) = some r := h
  clear h
  by_cases c3 : a0 > a1
  ·rw [if_pos c3] at H
   have c3b0 : decide (a1 < a0) = true := decide_eq_true c3
   clear c3; obtain rfl := Option.some.inj H
   go_enter Try.func30, Try.ntmps30
   go_wp2
   go_ret
   exact ⟨rg_, by repeat (first | exact Drawn0.refl _ | apply Drawn0.step)⟩
  ·rw [if_neg c3] at H
   have c3b0 : decide (a1 < a0) = false := decide_eq_false c3
   clear c3; obtain rfl := Option.some.inj H
   go_enter Try.func30, Try.ntmps30
   go_wp2
   go_ret
   exact ⟨rg_, by repeat (first | exact Drawn0.refl _ | apply Drawn0.step)⟩
/-! ### spec_l1Own: function 31 -/
def spec_l1Own.f (l0 : List Int) : Option (List Int) := (some (([] : List Int) : List Int)).bind fun y130 => (if y130.length + l0.length < 17592186044416 then (some (y130 ++ l0)) else (none))
set_option maxHeartbeats 8000000 in
set_option maxRecDepth 100000 in
theorem spec_l1Own.calls (A0 : Option Addr) (c0 : Nat) (l0 : List Int) (r : List Int) (w : World) (hr0 : Kd.C (Kd.int .i64) w A0 l0.length l0) (hc0 : l0.length ≤ c0) (h : spec_l1Own.f l0 = some r) :
    Calls Try.prog 31 #[.slice A0 l0.length c0] w fun e w' => ∃ v0_ : Value, e = .returned (v0_) ∧ Kd.R (Kd.int .i64) 3 w' w.heap.size (fun _ => True) v0_ r ∧ Below w.heap.size w w' := by
  have HR0 := Qx hr0; have HC0 := Qx hc0; clear hr0 hc0
  have HB := Qx (Below.refl w.heap.size w)
  have H : ((some (([] : List Int) : List Int)).bind fun y130 => (if y130.length + l0.length < 17592186044416 then (some (y130 ++ l0)) else (none))) = some r := h
  clear h
  obtain ⟨y130, hy130⟩ : ∃ y_ : List Int, y_ = (([] : List Int)) := ⟨_, rfl⟩
  replace H : (if y130.length + l0.length < 17592186044416 then (some (y130 ++ l0)) else (none)) = some r := by first | (rw [hy130]; with_reducible exact H) | (have H2_ := (Option.bind_some _ _).symm.trans H; rw [hy130]; with_reducible exact H2_) | (have H2_ := (Option.bind_some _ _).symm.trans H; with_reducible exact H2_) | with_reducible exact H | (rw [hy130]; exact H) | exact H
  have Ny130 := Qx hy130; clear hy130
  by_cases c2 : y130.length + l0.length < 17592186044416
  ·rw [if_pos c2] at H; have LMc2 := Qx c2; clear c2
   obtain ⟨y133, hy133⟩ : ∃ y_ : List Int, y_ = (y130 ++ l0) := ⟨_, rfl⟩
   replace H : (some y133) = some r := by first | (rw [hy133]; with_reducible exact H) | (have H2_ := (Option.bind_some _ _).symm.trans H; rw [hy133]; with_reducible exact H2_) | (have H2_ := (Option.bind_some _ _).symm.trans H; with_reducible exact H2_) | with_reducible exact H | (rw [hy133]; exact H) | exact H
   have Ny133 := Qx hy133; clear hy133; obtain rfl := Option.some.inj H
   go_enter Try.func31, Try.ntmps31
   go_wp2_with (first | ((with_reducible refine gate_dst (N := 3) rfl ?_); refine Kd.R_lit (Kd.int .i64) _ 3 ?hg (N := 3) ?hd (xs := ([] : List Int)) (inner := []) (ok := fun _ => True) (okp := fun _ => True) ?hr ?hp (fun _ hk => hk) trivial (Below.refl _ _) (Nat.le_refl _) (by simp) ?_; (case hd => rfl); (case hg => rfl); (case hr => first | (go_simp; done) | (go_simp; rfl)); (case hp => exact (Reps.none _ _)); intro v131 w3 ho4 hb hg_ hnew_; clear hg_ hnew_; (first | rw [← Ny130.out] at ho4 | (simp only [Int.reduceToNat] at ho4; rw [← Ny130.out] at ho4)); have HO132 := Qx (Kd.R_lower ho4 (below_size hB_)); replace HB := Qx (Qp hB_ hb); clear hb ho4) | ((with_reducible refine gate_builtin (b := .append) (xs := #[.tmp 3, .tmp 4]) rfl ?_); at_builtin; refine Kd.R_append_rows (Kd.int .i64) (w0 := w) w.heap.size rfl (.tmp 3) (.tmp 4) 24 3 (.int .i64 0) 8 rfl Try.underlying24 info3 rfl (by decide) (by omega) v131 y130 l0 _ _ _ (fun _ => True) (fun _ => False) rfl rfl ?aO ?aR (fun _ _ h => h) (fun _ h => h.elim) ?aF ?aB ?aS ?aL ?_; (case aR => repeat (first | exact (Kd.C_below HR0.out HB.out) | (with_reducible refine Kd.C_alloc ?_ _) | (with_reducible refine Kd.C_drewN ?_ _) | (with_reducible refine Kd.C_drew ?_))); (case aB => exact hB_); (case aF => exact (fun _ _ => trivial)); (case aO => exact (kR_ HO132)); (case aS => exact (below_size hB_)); (case aL => have := LMc2.out; omega); intro v134 w5 ho hb hg hat; rw [← Ny133.out] at ho; have n0_ := Qx (hb); have n1_ := Qx (ho); clear HB HO132; have HB := n0_; have HO135 := n1_; clear n0_ n1_ ho hb hg hat))
   go_ret
   exact ⟨_, rf_, kR_ HO135, hB_⟩
  ·rw [if_neg c2] at H
   exact absurd H (by simp)
/-! ### spec_l1Cur_sorted: function 17 -/
mutual
def spec_l1Cur_sorted.j0 : Nat → Int → List Int → Int → List Int → Int → Int → Option (List Int × Int × Int)
  | 0, _, _, _, _, _, _ => none
  | k + 1, x1, x5, x6, x1000, x1001, x1002 => spec_l1Cur_sorted.l0 k x1 x5 x6 x1000 x1001 x1002
def spec_l1Cur_sorted.l0 : Nat → Int → List Int → Int → List Int → Int → Int → Option (List Int × Int × Int)
  | 0, _, _, _, _, _, _ => none
  | k + 1, x1, x5, x6, x1000, x1001, x1002 => if x6 > 0 then ((spec_l1Most.f x1 1).bind fun t145 => ((spec_l1Cur_pick.f x1000 x1001 x1002 t145).bind fun bt146 => (spec_l1Cur_sorted.l1 k x1 x5 x6 bt146.1 0 x1000 bt146.2.1 bt146.2.2))) else ((spec_l1Cur_one.f x1000 x1001 x1002 12).bind fun bt190 => (if bt190.1 = true then (spec_l1Cur_sorted.j3 k x1 x5 (decide ((x5.length : Int) > 0)) x1000 bt190.2.1 bt190.2.2) else (spec_l1Cur_sorted.j3 k x1 x5 false x1000 bt190.2.1 bt190.2.2)))
def spec_l1Cur_sorted.l1 : Nat → Int → List Int → Int → Int → Int → List Int → Int → Int → Option (List Int × Int × Int)
  | 0, _, _, _, _, _, _, _, _ => none
  | k + 1, x1, x5, x6, x7, x8, x1000, x1001, x1002 => if x8 < (x5.length : Int) then (if 0 ≤ x8 then (if (rd x5 x8) ≤ x7 then (spec_l1Cur_sorted.l1 k x1 x5 x6 x7 (wrap64 (x8 + 1)) x1000 x1001 x1002) else (if x8 ≤ (x5.length : Int) then ((spec_l1Own.f (x5.take (x8 : Int).toNat)).bind fun t154 => ((some (([x7] : List Int) : List Int)).bind fun y157 => (if t154.length + y157.length < 17592186044416 then ((some (t154 ++ y157 : List Int)).bind fun y160 => ((some (x5.drop (x8 : Int).toNat : List Int)).bind fun y163 => (if y160.length + y163.length < 17592186044416 then (spec_l1Cur_sorted.l0 k x1 (y160 ++ y163) (wrap64 (x6 - 1)) x1000 x1001 x1002) else (none)))) else (none)))) else (none))) else (none)) else (if 0 ≤ x8 then (if x8 ≤ (x5.length : Int) then ((spec_l1Own.f (x5.take (x8 : Int).toNat)).bind fun t174 => ((some (([x7] : List Int) : List Int)).bind fun y177 => (if t174.length + y177.length < 17592186044416 then ((some (t174 ++ y177 : List Int)).bind fun y180 => ((some (x5.drop (x8 : Int).toNat : List Int)).bind fun y183 => (if y180.length + y183.length < 17592186044416 then (spec_l1Cur_sorted.l0 k x1 (y180 ++ y183) (wrap64 (x6 - 1)) x1000 x1001 x1002) else (none)))) else (none)))) else (none)) else (none))
def spec_l1Cur_sorted.j3 : Nat → Int → List Int → Bool → List Int → Int → Int → Option (List Int × Int × Int)
  | 0, _, _, _, _, _, _ => none
  | k + 1, x1, x5, x55, x1000, x1001, x1002 => if x55 = true then ((spec_l1Cur_pick.f x1000 x1001 x1002 (x5.length : Int)).bind fun bt193 => ((spec_l1Cur_among.f x1000 bt193.2.1 bt193.2.2 (([(-1), 0, x1, wrap64 (x1 - 1)] : List Int))).bind fun bt199 => (if 0 ≤ bt193.1 then (if bt193.1 < (x5.length : Int) then (some ((x5.set (bt193.1 : Int).toNat bt199.1), bt199.2.1, bt199.2.2)) else (none)) else (none)))) else (some (x5, x1001, x1002))
end
def spec_l1Cur_sorted.f (k : Nat) (s0_0 : List Int) (s0_1 : Int) (s0_2 : Int) (a1 : Int) : Option (List Int × Int × Int) := (spec_l1Cur_pick.f s0_0 s0_1 s0_2 9).bind fun bt136 => ((spec_l1Cur_one.f s0_0 bt136.2.1 bt136.2.2 24).bind fun bt139 => (if bt139.1 = true then ((spec_l1Cur_pick.f s0_0 bt139.2.1 bt139.2.2 2).bind fun bt142 => (spec_l1Cur_sorted.j0 k a1 ([] : List Int) (wrap64 (60 + bt142.1)) s0_0 bt142.2.1 bt142.2.2)) else (spec_l1Cur_sorted.j0 k a1 ([] : List Int) bt136.1 s0_0 bt139.2.1 bt139.2.2)))
theorem spec_l1Cur_sorted.mono_l : ∀ k, (∀ y0 y1 y2 y3 y4 y5, LeO (spec_l1Cur_sorted.j0 k y0 y1 y2 y3 y4 y5) (spec_l1Cur_sorted.j0 (k + 1) y0 y1 y2 y3 y4 y5)) ∧ (∀ y0 y1 y2 y3 y4 y5, LeO (spec_l1Cur_sorted.l0 k y0 y1 y2 y3 y4 y5) (spec_l1Cur_sorted.l0 (k + 1) y0 y1 y2 y3 y4 y5)) ∧ (∀ y0 y1 y2 y3 y4 y5 y6 y7, LeO (spec_l1Cur_sorted.l1 k y0 y1 y2 y3 y4 y5 y6 y7) (spec_l1Cur_sorted.l1 (k + 1) y0 y1 y2 y3 y4 y5 y6 y7)) ∧ (∀ y0 y1 y2 y3 y4 y5, LeO (spec_l1Cur_sorted.j3 k y0 y1 y2 y3 y4 y5) (spec_l1Cur_sorted.j3 (k + 1) y0 y1 y2 y3 y4 y5))
  | 0 => ⟨fun _ _ _ _ _ _ r h => by simp [spec_l1Cur_sorted.j0] at h, fun _ _ _ _ _ _ r h => by simp [spec_l1Cur_sorted.l0] at h, fun _ _ _ _ _ _ _ _ r h => by simp [spec_l1Cur_sorted.l1] at h, fun _ _ _ _ _ _ r h => by simp [spec_l1Cur_sorted.j3] at h⟩
  | k + 1 => by
    obtain ⟨ih0, ih1, ih2, ih3⟩ := spec_l1Cur_sorted.mono_l k
    refine ⟨?_, ?_, ?_, ?_⟩
    · intro y0 y1 y2 y3 y4 y5
      unfold spec_l1Cur_sorted.j0
      repeat' first
      | (with_reducible exact ih0 _ _ _ _ _ _)
      | (with_reducible exact ih1 _ _ _ _ _ _)
      | (with_reducible exact ih2 _ _ _ _ _ _ _ _)
      | (with_reducible exact ih3 _ _ _ _ _ _)
      | (with_reducible exact LeO.refl _)
      | (with_reducible exact LeO.none _)
      | (with_reducible refine LeO.ite ?_ ?_)
      | (with_reducible refine LeO.bind ?_ (fun _ => ?_))
      | exact ih0 _ _ _ _ _ _
      | exact ih1 _ _ _ _ _ _
      | exact ih2 _ _ _ _ _ _ _ _
      | exact ih3 _ _ _ _ _ _
      | exact LeO.none _
      | refine LeO.ite ?_ ?_
      | refine LeO.bind ?_ (fun _ => ?_)
    · intro y0 y1 y2 y3 y4 y5
      unfold spec_l1Cur_sorted.l0
      repeat' first
      | (with_reducible exact ih0 _ _ _ _ _ _)
      | (with_reducible exact ih1 _ _ _ _ _ _)
      | (with_reducible exact ih2 _ _ _ _ _ _ _ _)
      | (with_reducible exact ih3 _ _ _ _ _ _)
      | (with_reducible exact LeO.refl _)
      | (with_reducible exact LeO.none _)
      | (with_reducible refine LeO.ite ?_ ?_)
      | (with_reducible refine LeO.bind ?_ (fun _ => ?_))
      | exact ih0 _ _ _ _ _ _
      | exact ih1 _ _ _ _ _ _
      | exact ih2 _ _ _ _ _ _ _ _
      | exact ih3 _ _ _ _ _ _
      | exact LeO.none _
      | refine LeO.ite ?_ ?_
      | refine LeO.bind ?_ (fun _ => ?_)
    · intro y0 y1 y2 y3 y4 y5 y6 y7
      unfold spec_l1Cur_sorted.l1
      repeat' first
      | (with_reducible exact ih0 _ _ _ _ _ _)
      | (with_reducible exact ih1 _ _ _ _ _ _)
      | (with_reducible exact ih2 _ _ _ _ _ _ _ _)
      | (with_reducible exact ih3 _ _ _ _ _ _)
      | (with_reducible exact LeO.refl _)
      | (with_reducible exact LeO.none _)
      | (with_reducible refine LeO.ite ?_ ?_)
      | (with_reducible refine LeO.bind ?_ (fun _ => ?_))
      | exact ih0 _ _ _ _ _ _
      | exact ih1 _ _ _ _ _ _
      | exact ih2 _ _ _ _ _ _ _ _
      | exact ih3 _ _ _ _ _ _
      | exact LeO.none _
      | refine LeO.ite ?_ ?_
      | refine LeO.bind ?_ (fun _ => ?_)
    · intro y0 y1 y2 y3 y4 y5
      unfold spec_l1Cur_sorted.j3
      repeat' first
      | (with_reducible exact ih0 _ _ _ _ _ _)
      | (with_reducible exact ih1 _ _ _ _ _ _)
      | (with_reducible exact ih2 _ _ _ _ _ _ _ _)
      | (with_reducible exact ih3 _ _ _ _ _ _)
      | (with_reducible exact LeO.refl _)
      | (with_reducible exact LeO.none _)
      | (with_reducible refine LeO.ite ?_ ?_)
      | (with_reducible refine LeO.bind ?_ (fun _ => ?_))
      | exact ih0 _ _ _ _ _ _
      | exact ih1 _ _ _ _ _ _
      | exact ih2 _ _ _ _ _ _ _ _
      | exact ih3 _ _ _ _ _ _
      | exact LeO.none _
      | refine LeO.ite ?_ ?_
      | refine LeO.bind ?_ (fun _ => ?_)
theorem spec_l1Cur_sorted.mono : ∀ a0 a1 a2 a3 k, LeO (spec_l1Cur_sorted.f k a0 a1 a2 a3) (spec_l1Cur_sorted.f (k + 1) a0 a1 a2 a3) := by
  intro a0 a1 a2 a3 k
  obtain ⟨ih0, ih1, ih2, ih3⟩ := spec_l1Cur_sorted.mono_l k
  unfold spec_l1Cur_sorted.f
  repeat' first
      | (with_reducible exact ih0 _ _ _ _ _ _)
      | (with_reducible exact ih1 _ _ _ _ _ _)
      | (with_reducible exact ih2 _ _ _ _ _ _ _ _)
      | (with_reducible exact ih3 _ _ _ _ _ _)
      | (with_reducible exact LeO.refl _)
      | (with_reducible exact LeO.none _)
      | (with_reducible refine LeO.ite ?_ ?_)
      | (with_reducible refine LeO.bind ?_ (fun _ => ?_))
      | exact ih0 _ _ _ _ _ _
      | exact ih1 _ _ _ _ _ _
      | exact ih2 _ _ _ _ _ _ _ _
      | exact ih3 _ _ _ _ _ _
      | exact LeO.none _
      | refine LeO.ite ?_ ?_
      | refine LeO.bind ?_ (fun _ => ?_)
noncomputable def spec_l1Cur_sorted.J0 (y0 : Int) (y1 : List Int) (y2 : Int) (y3 : List Int) (y4 : Int) (y5 : Int) : Option (List Int × Int × Int) := lim fun k => spec_l1Cur_sorted.j0 k y0 y1 y2 y3 y4 y5
theorem spec_l1Cur_sorted.J0_sup (y0 : Int) (y1 : List Int) (y2 : Int) (y3 : List Int) (y4 : Int) (y5 : Int) : Sup (fun k => spec_l1Cur_sorted.j0 k y0 y1 y2 y3 y4 y5) (spec_l1Cur_sorted.J0 y0 y1 y2 y3 y4 y5) := Sup.of_mono fun k => (spec_l1Cur_sorted.mono_l k).1 y0 y1 y2 y3 y4 y5
noncomputable def spec_l1Cur_sorted.L0 (y0 : Int) (y1 : List Int) (y2 : Int) (y3 : List Int) (y4 : Int) (y5 : Int) : Option (List Int × Int × Int) := lim fun k => spec_l1Cur_sorted.l0 k y0 y1 y2 y3 y4 y5
theorem spec_l1Cur_sorted.L0_sup (y0 : Int) (y1 : List Int) (y2 : Int) (y3 : List Int) (y4 : Int) (y5 : Int) : Sup (fun k => spec_l1Cur_sorted.l0 k y0 y1 y2 y3 y4 y5) (spec_l1Cur_sorted.L0 y0 y1 y2 y3 y4 y5) := Sup.of_mono fun k => (spec_l1Cur_sorted.mono_l k).2.1 y0 y1 y2 y3 y4 y5
noncomputable def spec_l1Cur_sorted.L1 (y0 : Int) (y1 : List Int) (y2 : Int) (y3 : Int) (y4 : Int) (y5 : List Int) (y6 : Int) (y7 : Int) : Option (List Int × Int × Int) := lim fun k => spec_l1Cur_sorted.l1 k y0 y1 y2 y3 y4 y5 y6 y7
theorem spec_l1Cur_sorted.L1_sup (y0 : Int) (y1 : List Int) (y2 : Int) (y3 : Int) (y4 : Int) (y5 : List Int) (y6 : Int) (y7 : Int) : Sup (fun k => spec_l1Cur_sorted.l1 k y0 y1 y2 y3 y4 y5 y6 y7) (spec_l1Cur_sorted.L1 y0 y1 y2 y3 y4 y5 y6 y7) := Sup.of_mono fun k => (spec_l1Cur_sorted.mono_l k).2.2.1 y0 y1 y2 y3 y4 y5 y6 y7
noncomputable def spec_l1Cur_sorted.J3 (y0 : Int) (y1 : List Int) (y2 : Bool) (y3 : List Int) (y4 : Int) (y5 : Int) : Option (List Int × Int × Int) := lim fun k => spec_l1Cur_sorted.j3 k y0 y1 y2 y3 y4 y5
theorem spec_l1Cur_sorted.J3_sup (y0 : Int) (y1 : List Int) (y2 : Bool) (y3 : List Int) (y4 : Int) (y5 : Int) : Sup (fun k => spec_l1Cur_sorted.j3 k y0 y1 y2 y3 y4 y5) (spec_l1Cur_sorted.J3 y0 y1 y2 y3 y4 y5) := Sup.of_mono fun k => (spec_l1Cur_sorted.mono_l k).2.2.2 y0 y1 y2 y3 y4 y5
noncomputable def spec_l1Cur_sorted.F (s0_0 : List Int) (s0_1 : Int) (s0_2 : Int) (a1 : Int) : Option (List Int × Int × Int) := lim fun k => spec_l1Cur_sorted.f k s0_0 s0_1 s0_2 a1
theorem spec_l1Cur_sorted.F_sup (s0_0 : List Int) (s0_1 : Int) (s0_2 : Int) (a1 : Int) : Sup (fun k => spec_l1Cur_sorted.f k s0_0 s0_1 s0_2 a1) (spec_l1Cur_sorted.F s0_0 s0_1 s0_2 a1) := Sup.of_mono fun k => spec_l1Cur_sorted.mono s0_0 s0_1 s0_2 a1 k
theorem spec_l1Cur_sorted.J0_eq (x1 : Int) (x5 : List Int) (x6 : Int) (x1000 : List Int) (x1001 : Int) (x1002 : Int) : spec_l1Cur_sorted.J0 x1 x5 x6 x1000 x1001 x1002 = spec_l1Cur_sorted.L0 x1 x5 x6 x1000 x1001 x1002 := by
  refine Sup.unique (spec_l1Cur_sorted.J0_sup x1 x5 x6 x1000 x1001 x1002) (Sup.shift (fun k => (spec_l1Cur_sorted.mono_l k).1 x1 x5 x6 x1000 x1001 x1002) (Sup.congr (g' := fun k => spec_l1Cur_sorted.l0 k x1 x5 x6 x1000 x1001 x1002) (fun k => by first | rfl | simp only [spec_l1Cur_sorted.j0]) ?_))
  repeat' first
    | (with_reducible exact spec_l1Cur_sorted.J0_sup _ _ _ _ _ _)
    | (with_reducible exact spec_l1Cur_sorted.L0_sup _ _ _ _ _ _)
    | (with_reducible exact spec_l1Cur_sorted.L1_sup _ _ _ _ _ _ _ _)
    | (with_reducible exact spec_l1Cur_sorted.J3_sup _ _ _ _ _ _)
    | (with_reducible refine Sup.ite ?_ ?_)
    | (with_reducible refine Sup.bind ?_ (fun _ => ?_))
    | (with_reducible exact Sup.const _)
    | exact spec_l1Cur_sorted.J0_sup _ _ _ _ _ _
    | exact spec_l1Cur_sorted.L0_sup _ _ _ _ _ _
    | exact spec_l1Cur_sorted.L1_sup _ _ _ _ _ _ _ _
    | exact spec_l1Cur_sorted.J3_sup _ _ _ _ _ _
    | exact Sup.const _
theorem spec_l1Cur_sorted.L0_eq (x1 : Int) (x5 : List Int) (x6 : Int) (x1000 : List Int) (x1001 : Int) (x1002 : Int) : spec_l1Cur_sorted.L0 x1 x5 x6 x1000 x1001 x1002 = if x6 > 0 then ((spec_l1Most.f x1 1).bind fun t145 => ((spec_l1Cur_pick.f x1000 x1001 x1002 t145).bind fun bt146 => (spec_l1Cur_sorted.L1 x1 x5 x6 bt146.1 0 x1000 bt146.2.1 bt146.2.2))) else ((spec_l1Cur_one.f x1000 x1001 x1002 12).bind fun bt190 => (if bt190.1 = true then (spec_l1Cur_sorted.J3 x1 x5 (decide ((x5.length : Int) > 0)) x1000 bt190.2.1 bt190.2.2) else (spec_l1Cur_sorted.J3 x1 x5 false x1000 bt190.2.1 bt190.2.2))) := by
  refine Sup.unique (spec_l1Cur_sorted.L0_sup x1 x5 x6 x1000 x1001 x1002) (Sup.shift (fun k => (spec_l1Cur_sorted.mono_l k).2.1 x1 x5 x6 x1000 x1001 x1002) (Sup.congr (g' := fun k => if x6 > 0 then ((spec_l1Most.f x1 1).bind fun t145 => ((spec_l1Cur_pick.f x1000 x1001 x1002 t145).bind fun bt146 => (spec_l1Cur_sorted.l1 k x1 x5 x6 bt146.1 0 x1000 bt146.2.1 bt146.2.2))) else ((spec_l1Cur_one.f x1000 x1001 x1002 12).bind fun bt190 => (if bt190.1 = true then (spec_l1Cur_sorted.j3 k x1 x5 (decide ((x5.length : Int) > 0)) x1000 bt190.2.1 bt190.2.2) else (spec_l1Cur_sorted.j3 k x1 x5 false x1000 bt190.2.1 bt190.2.2)))) (fun k => by first | rfl | simp only [spec_l1Cur_sorted.l0]) ?_))
  repeat' first
    | (with_reducible exact spec_l1Cur_sorted.J0_sup _ _ _ _ _ _)
    | (with_reducible exact spec_l1Cur_sorted.L0_sup _ _ _ _ _ _)
    | (with_reducible exact spec_l1Cur_sorted.L1_sup _ _ _ _ _ _ _ _)
    | (with_reducible exact spec_l1Cur_sorted.J3_sup _ _ _ _ _ _)
    | (with_reducible refine Sup.ite ?_ ?_)
    | (with_reducible refine Sup.bind ?_ (fun _ => ?_))
    | (with_reducible exact Sup.const _)
    | exact spec_l1Cur_sorted.J0_sup _ _ _ _ _ _
    | exact spec_l1Cur_sorted.L0_sup _ _ _ _ _ _
    | exact spec_l1Cur_sorted.L1_sup _ _ _ _ _ _ _ _
    | exact spec_l1Cur_sorted.J3_sup _ _ _ _ _ _
    | exact Sup.const _
theorem spec_l1Cur_sorted.L1_eq (x1 : Int) (x5 : List Int) (x6 : Int) (x7 : Int) (x8 : Int) (x1000 : List Int) (x1001 : Int) (x1002 : Int) : spec_l1Cur_sorted.L1 x1 x5 x6 x7 x8 x1000 x1001 x1002 = if x8 < (x5.length : Int) then (if 0 ≤ x8 then (if (rd x5 x8) ≤ x7 then (spec_l1Cur_sorted.L1 x1 x5 x6 x7 (wrap64 (x8 + 1)) x1000 x1001 x1002) else (if x8 ≤ (x5.length : Int) then ((spec_l1Own.f (x5.take (x8 : Int).toNat)).bind fun t154 => ((some (([x7] : List Int) : List Int)).bind fun y157 => (if t154.length + y157.length < 17592186044416 then ((some (t154 ++ y157 : List Int)).bind fun y160 => ((some (x5.drop (x8 : Int).toNat : List Int)).bind fun y163 => (if y160.length + y163.length < 17592186044416 then (spec_l1Cur_sorted.L0 x1 (y160 ++ y163) (wrap64 (x6 - 1)) x1000 x1001 x1002) else (none)))) else (none)))) else (none))) else (none)) else (if 0 ≤ x8 then (if x8 ≤ (x5.length : Int) then ((spec_l1Own.f (x5.take (x8 : Int).toNat)).bind fun t174 => ((some (([x7] : List Int) : List Int)).bind fun y177 => (if t174.length + y177.length < 17592186044416 then ((some (t174 ++ y177 : List Int)).bind fun y180 => ((some (x5.drop (x8 : Int).toNat : List Int)).bind fun y183 => (if y180.length + y183.length < 17592186044416 then (spec_l1Cur_sorted.L0 x1 (y180 ++ y183) (wrap64 (x6 - 1)) x1000 x1001 x1002) else (none)))) else (none)))) else (none)) else (none)) := by
  refine Sup.unique (spec_l1Cur_sorted.L1_sup x1 x5 x6 x7 x8 x1000 x1001 x1002) (Sup.shift (fun k => (spec_l1Cur_sorted.mono_l k).2.2.1 x1 x5 x6 x7 x8 x1000 x1001 x1002) (Sup.congr (g' := fun k => if x8 < (x5.length : Int) then (if 0 ≤ x8 then (if (rd x5 x8) ≤ x7 then (spec_l1Cur_sorted.l1 k x1 x5 x6 x7 (wrap64 (x8 + 1)) x1000 x1001 x1002) else (if x8 ≤ (x5.length : Int) then ((spec_l1Own.f (x5.take (x8 : Int).toNat)).bind fun t154 => ((some (([x7] : List Int) : List Int)).bind fun y157 => (if t154.length + y157.length < 17592186044416 then ((some (t154 ++ y157 : List Int)).bind fun y160 => ((some (x5.drop (x8 : Int).toNat : List Int)).bind fun y163 => (if y160.length + y163.length < 17592186044416 then (spec_l1Cur_sorted.l0 k x1 (y160 ++ y163) (wrap64 (x6 - 1)) x1000 x1001 x1002) else (none)))) else (none)))) else (none))) else (none)) else (if 0 ≤ x8 then (if x8 ≤ (x5.length : Int) then ((spec_l1Own.f (x5.take (x8 : Int).toNat)).bind fun t174 => ((some (([x7] : List Int) : List Int)).bind fun y177 => (if t174.length + y177.length < 17592186044416 then ((some (t174 ++ y177 : List Int)).bind fun y180 => ((some (x5.drop (x8 : Int).toNat : List Int)).bind fun y183 => (if y180.length + y183.length < 17592186044416 then (spec_l1Cur_sorted.l0 k x1 (y180 ++ y183) (wrap64 (x6 - 1)) x1000 x1001 x1002) else (none)))) else (none)))) else (none)) else (none))) (fun k => by first | rfl | simp only [spec_l1Cur_sorted.l1]) ?_))
  repeat' first
    | (with_reducible exact spec_l1Cur_sorted.J0_sup _ _ _ _ _ _)
    | (with_reducible exact spec_l1Cur_sorted.L0_sup _ _ _ _ _ _)
    | (with_reducible exact spec_l1Cur_sorted.L1_sup _ _ _ _ _ _ _ _)
    | (with_reducible exact spec_l1Cur_sorted.J3_sup _ _ _ _ _ _)
    | (with_reducible refine Sup.ite ?_ ?_)
    | (with_reducible refine Sup.bind ?_ (fun _ => ?_))
    | (with_reducible exact Sup.const _)
    | exact spec_l1Cur_sorted.J0_sup _ _ _ _ _ _
    | exact spec_l1Cur_sorted.L0_sup _ _ _ _ _ _
    | exact spec_l1Cur_sorted.L1_sup _ _ _ _ _ _ _ _
    | exact spec_l1Cur_sorted.J3_sup _ _ _ _ _ _
    | exact Sup.const _
theorem spec_l1Cur_sorted.J3_eq (x1 : Int) (x5 : List Int) (x55 : Bool) (x1000 : List Int) (x1001 : Int) (x1002 : Int) : spec_l1Cur_sorted.J3 x1 x5 x55 x1000 x1001 x1002 = if x55 = true then ((spec_l1Cur_pick.f x1000 x1001 x1002 (x5.length : Int)).bind fun bt193 => ((spec_l1Cur_among.f x1000 bt193.2.1 bt193.2.2 (([(-1), 0, x1, wrap64 (x1 - 1)] : List Int))).bind fun bt199 => (if 0 ≤ bt193.1 then (if bt193.1 < (x5.length : Int) then (some ((x5.set (bt193.1 : Int).toNat bt199.1), bt199.2.1, bt199.2.2)) else (none)) else (none)))) else (some (x5, x1001, x1002)) := by
  refine Sup.unique (spec_l1Cur_sorted.J3_sup x1 x5 x55 x1000 x1001 x1002) (Sup.shift (fun k => (spec_l1Cur_sorted.mono_l k).2.2.2 x1 x5 x55 x1000 x1001 x1002) (Sup.congr (g' := fun k => if x55 = true then ((spec_l1Cur_pick.f x1000 x1001 x1002 (x5.length : Int)).bind fun bt193 => ((spec_l1Cur_among.f x1000 bt193.2.1 bt193.2.2 (([(-1), 0, x1, wrap64 (x1 - 1)] : List Int))).bind fun bt199 => (if 0 ≤ bt193.1 then (if bt193.1 < (x5.length : Int) then (some ((x5.set (bt193.1 : Int).toNat bt199.1), bt199.2.1, bt199.2.2)) else (none)) else (none)))) else (some (x5, x1001, x1002))) (fun k => by first | rfl | simp only [spec_l1Cur_sorted.j3]) ?_))
  repeat' first
    | (with_reducible exact spec_l1Cur_sorted.J0_sup _ _ _ _ _ _)
    | (with_reducible exact spec_l1Cur_sorted.L0_sup _ _ _ _ _ _)
    | (with_reducible exact spec_l1Cur_sorted.L1_sup _ _ _ _ _ _ _ _)
    | (with_reducible exact spec_l1Cur_sorted.J3_sup _ _ _ _ _ _)
    | (with_reducible refine Sup.ite ?_ ?_)
    | (with_reducible refine Sup.bind ?_ (fun _ => ?_))
    | (with_reducible exact Sup.const _)
    | exact spec_l1Cur_sorted.J0_sup _ _ _ _ _ _
    | exact spec_l1Cur_sorted.L0_sup _ _ _ _ _ _
    | exact spec_l1Cur_sorted.L1_sup _ _ _ _ _ _ _ _
    | exact spec_l1Cur_sorted.J3_sup _ _ _ _ _ _
    | exact Sup.const _
theorem spec_l1Cur_sorted.F_eq (s0_0 : List Int) (s0_1 : Int) (s0_2 : Int) (a1 : Int) : spec_l1Cur_sorted.F s0_0 s0_1 s0_2 a1 = (spec_l1Cur_pick.f s0_0 s0_1 s0_2 9).bind fun bt136 => ((spec_l1Cur_one.f s0_0 bt136.2.1 bt136.2.2 24).bind fun bt139 => (if bt139.1 = true then ((spec_l1Cur_pick.f s0_0 bt139.2.1 bt139.2.2 2).bind fun bt142 => (spec_l1Cur_sorted.J0 a1 ([] : List Int) (wrap64 (60 + bt142.1)) s0_0 bt142.2.1 bt142.2.2)) else (spec_l1Cur_sorted.J0 a1 ([] : List Int) bt136.1 s0_0 bt139.2.1 bt139.2.2))) := by
  refine Sup.unique (spec_l1Cur_sorted.F_sup s0_0 s0_1 s0_2 a1) (Sup.congr (g' := fun k => (spec_l1Cur_pick.f s0_0 s0_1 s0_2 9).bind fun bt136 => ((spec_l1Cur_one.f s0_0 bt136.2.1 bt136.2.2 24).bind fun bt139 => (if bt139.1 = true then ((spec_l1Cur_pick.f s0_0 bt139.2.1 bt139.2.2 2).bind fun bt142 => (spec_l1Cur_sorted.j0 k a1 ([] : List Int) (wrap64 (60 + bt142.1)) s0_0 bt142.2.1 bt142.2.2)) else (spec_l1Cur_sorted.j0 k a1 ([] : List Int) bt136.1 s0_0 bt139.2.1 bt139.2.2)))) (fun k => by first | rfl | simp only [spec_l1Cur_sorted.f]) ?_)
  repeat' first
    | (with_reducible exact spec_l1Cur_sorted.J0_sup _ _ _ _ _ _)
    | (with_reducible exact spec_l1Cur_sorted.L0_sup _ _ _ _ _ _)
    | (with_reducible exact spec_l1Cur_sorted.L1_sup _ _ _ _ _ _ _ _)
    | (with_reducible exact spec_l1Cur_sorted.J3_sup _ _ _ _ _ _)
    | (with_reducible refine Sup.ite ?_ ?_)
    | (with_reducible refine Sup.bind ?_ (fun _ => ?_))
    | (with_reducible exact Sup.const _)
    | exact spec_l1Cur_sorted.J0_sup _ _ _ _ _ _
    | exact spec_l1Cur_sorted.L0_sup _ _ _ _ _ _
    | exact spec_l1Cur_sorted.L1_sup _ _ _ _ _ _ _ _
    | exact spec_l1Cur_sorted.J3_sup _ _ _ _ _ _
    | exact Sup.const _
def spec_l1Cur_sorted.T11 : Bool × List (List Nat × List Nat) := (true, [([], []), ([], []), ([0, 1], [0, 1]), ([2], [2]), ([], []), ([4], [4]), ([3, 5, 3], [3, 5]), ([], []), ([], []), ([7, 8], [7, 8]), ([6, 9, 6], [6, 9]), ([10, 10, 0, 1, 2, 3, 4, 5, 6, 7, 8, 9, 10], [0, 7, 10])])
def spec_l1Cur_sorted.B11 : List Nat := [0, 0, 3, 7, 0, 16, 63, 0, 0, 384, 1023, 2047]
theorem spec_l1Cur_sorted.tab11 : rtab .any (opsOf Try.f17 11) = spec_l1Cur_sorted.T11 := by kernel_rfl
theorem spec_l1Cur_sorted.bits11 : waitsOk spec_l1Cur_sorted.T11.2 spec_l1Cur_sorted.B11 = true := by kernel_rfl
set_option maxHeartbeats 8000000 in
set_option maxRecDepth 100000 in
theorem spec_l1Cur_sorted.calls (k : Nat) (g : Nat) (s0_0 : List Int) (s0_1 : Int) (s0_2 : Int) (a1 : Int) (r1 : List Int) (r2 : Int) (r3 : Int) (w0 w : World) (hI : IsS43 w0 w g s0_0 s0_1 s0_2) (hB : Below w0.heap.size w0 w) (h : spec_l1Cur_sorted.f k s0_0 s0_1 s0_2 a1 = some (r1, r2, r3)) :
    Calls Try.prog 17 #[.pointer (some ⟨g, 0, none⟩), .int .i64 a1] w fun e w' => ∃ v0_ : Value, e = .returned (v0_) ∧ Kd.R (Kd.int .i64) 3 w' w.heap.size (fun _ => True) v0_ r1 ∧ IsS43 w0 w' g s0_0 r2 r3 ∧ Below w0.heap.size w0 w' ∧ KeepBut w w' g none := by
  have HI0 := Qx hI
  have HK := Qx (KeepBut.refl w g none)
  have HL := Qx hB.size; clear hI; have HW0 := Qx hB.size; have HB := Qx hB; clear hB
  have H : ((spec_l1Cur_pick.f s0_0 s0_1 s0_2 9).bind fun bt136 => ((spec_l1Cur_one.f s0_0 bt136.2.1 bt136.2.2 24).bind fun bt139 => (if bt139.1 = true then ((spec_l1Cur_pick.f s0_0 bt139.2.1 bt139.2.2 2).bind fun bt142 => (spec_l1Cur_sorted.j0 k a1 ([] : List Int) (wrap64 (60 + bt142.1)) s0_0 bt142.2.1 bt142.2.2)) else (spec_l1Cur_sorted.j0 k a1 ([] : List Int) bt136.1 s0_0 bt139.2.1 bt139.2.2)))) = some (r1, r2, r3) := h
  clear h; replace H := Option.bind_eq_some_iff.mp H; obtain ⟨⟨t136, t137, t138⟩, A30, H⟩ := H
  have A3 := Qx A30; clear A30; replace H := Option.bind_eq_some_iff.mp H; obtain ⟨⟨t139, t140, t141⟩, A40, H⟩ := H
  have A4 := Qx A40; clear A40; have HC5 := Qx H; clear H
  go_enter Try.func17, Try.ntmps17
  go_upto_if 12 with (first | ((with_reducible refine gate_callee (f := 27) rfl ?_); refine gl_ 10 Try.func27 #[.pointer (some ⟨g, 0, none⟩), .int .i64 9] ?_; (with_reducible refine (spec_l1Cur_pick.calls g s0_0 s0_1 s0_2 9 t136 t137 t138 w0 _ ?side1 ?side2 A3.out).mono ?_); (case side1 => repeat (first | (with_reducible first | exact HI0.out | apply IsS43.alloc | apply IsS43.drewN | apply IsS43.drew | apply IsS43.set_1 | apply IsS43.set_2) | exact HI0.out)); (case side2 => repeat (first | (with_reducible first | exact HB.out | apply Qa | apply Qn | apply Qd | refine Qs ?_ (IsS43.ge HI0.out)) | exact HB.out)); rintro e w6 ⟨rfl, hi, hb, hk⟩; refine ⟨_, rfl, ?_⟩; replace HK := Qx (KeepBut.trans (by repeat (first | (with_reducible first | exact HK.out | apply KeepBut.set_ | apply keep_drewN | apply keep_drew | apply keep_alloc) | exact HK.out)) hk (.inl rfl)); replace HB := Qx (hb); replace HI0 := Qx (hi); (try clear hb); (try clear hb2); (try clear hk); (try clear hi)) | ((with_reducible refine gate_callee (f := 29) rfl ?_); refine gl_ 12 Try.func29 #[.pointer (some ⟨g, 0, none⟩), .int .i64 24] ?_; (with_reducible refine (spec_l1Cur_one.calls g s0_0 t137 t138 24 t139 t140 t141 w0 _ ?side1 ?side2 A4.out).mono ?_); (case side1 => repeat (first | (with_reducible first | exact HI0.out | apply IsS43.alloc | apply IsS43.drewN | apply IsS43.drew | apply IsS43.set_1 | apply IsS43.set_2) | exact HI0.out)); (case side2 => repeat (first | (with_reducible first | exact HB.out | apply Qa | apply Qn | apply Qd | refine Qs ?_ (IsS43.ge HI0.out)) | exact HB.out)); rintro e w7 ⟨rfl, hi, hb, hk⟩; refine ⟨_, rfl, ?_⟩; replace HK := Qx (KeepBut.trans (by repeat (first | (with_reducible first | exact HK.out | apply KeepBut.set_ | apply keep_drewN | apply keep_drew | apply keep_alloc) | exact HK.out)) hk (.inl rfl)); replace HB := Qx (hb); replace HI0 := Qx (hi); (try clear hb); (try clear hb2); (try clear hk); (try clear hi)))
  (try simp only [Act.put, List.setIfInBounds_toArray, List.set_cons_zero, List.set_cons_succ])
  go_cut [6] (fun v6 wc => ∃ (kq : Nat) (x6_4 : Int) (x1001_4 : Int) (x1002_4 : Int), v6 = .int .i64 x6_4 ∧ Aside0 (spec_l1Cur_sorted.j0 kq a1 ([] : List Int) x6_4 s0_0 x1001_4 x1002_4 = some (r1, r2, r3)) ∧ Aside0 (kq ≤ k) ∧ Aside0 (Kd.R (Kd.int .i64) 3 wc w.heap.size (fun _ => True) (.slice none 0 0) ([] : List Int)) ∧ Aside0 (IsS43 w0 wc g s0_0 x1001_4 x1002_4) ∧ Aside0 (KeepBut w wc g none) ∧ Aside0 (Below w0.heap.size w0 wc))
  case first =>
   have H := HC5.out; clear HC5
   by_cases c8 : t139 = true
   ·subst c8
    have H1 : ((spec_l1Cur_pick.f s0_0 t140 t141 2).bind fun bt142 => (spec_l1Cur_sorted.j0 k a1 ([] : List Int) (wrap64 (60 + bt142.1)) s0_0 bt142.2.1 bt142.2.2)) = some (r1, r2, r3) := by rw [if_pos rfl] at H; exact H
    clear H; have H := H1; clear H1; replace H := Option.bind_eq_some_iff.mp H; obtain ⟨⟨t142, t143, t144⟩, A90, H⟩ := H
    have A9 := Qx A90; clear A90; have H' := Qx H; clear H
    go_wp2_with (first | ((with_reducible refine gate_callee (f := 27) rfl ?_); refine gl_ 14 Try.func27 #[.pointer (some ⟨g, 0, none⟩), .int .i64 2] ?_; (with_reducible refine (spec_l1Cur_pick.calls g s0_0 t140 t141 2 t142 t143 t144 w0 _ ?side1 ?side2 A9.out).mono ?_); (case side1 => repeat (first | (with_reducible first | exact HI0.out | apply IsS43.alloc | apply IsS43.drewN | apply IsS43.drew | apply IsS43.set_1 | apply IsS43.set_2) | exact HI0.out)); (case side2 => repeat (first | (with_reducible first | exact HB.out | apply Qa | apply Qn | apply Qd | refine Qs ?_ (IsS43.ge HI0.out)) | exact HB.out)); rintro e w10 ⟨rfl, hi, hb, hk⟩; refine ⟨_, rfl, ?_⟩; replace HK := Qx (KeepBut.trans (by repeat (first | (with_reducible first | exact HK.out | apply KeepBut.set_ | apply keep_drewN | apply keep_drew | apply keep_alloc) | exact HK.out)) hk (.inl rfl)); replace HB := Qx (hb); replace HI0 := Qx (hi); (try clear hb); (try clear hb2); (try clear hk); (try clear hi)))
    go_meet
    case rel => exact ⟨_, (wrap64 (60 + t142)), (t143), (t144), rg_, H', ⟨by first | omega | exact Nat.le_refl _⟩, ⟨by first | exact Kd.R_nil _ _ _ _ _ | exact Kd.N_nil _ _ _ _ _ | exact Kd.V_nil _ _ _ _ _ | exact Kd.Q_nil _ _ _ _ _ | exact Kd.S_nil _ _ _ _ _⟩, ⟨by repeat (first | (with_reducible first | exact HI0.out | apply IsS43.alloc | apply IsS43.drewN | apply IsS43.drew | apply IsS43.set_1 | apply IsS43.set_2) | exact HI0.out)⟩, ⟨by repeat (first | (with_reducible first | exact HK.out | apply KeepBut.set_ | apply keep_drewN | apply keep_drew | apply keep_alloc) | exact HK.out)⟩, ⟨by repeat (first | (with_reducible first | exact HB.out | apply Qa | apply Qn | apply Qd | refine Qs ?_ (IsS43.ge HI0.out)) | exact HB.out)⟩⟩
   ·replace c8 := Bool.eq_false_iff.mpr c8; subst c8
    have H1 : (spec_l1Cur_sorted.j0 k a1 ([] : List Int) t136 s0_0 t140 t141) = some (r1, r2, r3) := by rw [if_neg (show ¬ (false = true) by decide)] at H; exact H
    clear H; have H := H1; clear H1; have H' := Qx H; clear H
    go_wp2
    go_meet
    case rel => exact ⟨_, (t136), (t140), (t141), rg_, H', ⟨by first | omega | exact Nat.le_refl _⟩, ⟨by first | exact Kd.R_nil _ _ _ _ _ | exact Kd.N_nil _ _ _ _ _ | exact Kd.V_nil _ _ _ _ _ | exact Kd.Q_nil _ _ _ _ _ | exact Kd.S_nil _ _ _ _ _⟩, ⟨by repeat (first | (with_reducible first | exact HI0.out | apply IsS43.alloc | apply IsS43.drewN | apply IsS43.drew | apply IsS43.set_1 | apply IsS43.set_2) | exact HI0.out)⟩, ⟨by repeat (first | (with_reducible first | exact HK.out | apply KeepBut.set_ | apply keep_drewN | apply keep_drew | apply keep_alloc) | exact HK.out)⟩, ⟨by repeat (first | (with_reducible first | exact HB.out | apply Qa | apply Qn | apply Qd | refine Qs ?_ (IsS43.ge HI0.out)) | exact HB.out)⟩⟩
  case rest =>
   clear HC5
   try clear c1
   try clear c2
   try clear p2
   try clear p6
   try clear c8
   obtain ⟨kq, x6_4, x1001_4, x1002_4, rfl, HA, HJ4, HO_5, HI0, HK, HB⟩ := hcut
   cases kq with
   | zero => exact absurd HA.out (by simp [spec_l1Cur_sorted.j0])
   | succ kj4 =>
    have H := HA.out; clear HA; simp only [spec_l1Cur_sorted.j0] at H; have H' := Qx H; clear H
    go_wp2
    go_loopg [5, 6] kj4 (fun kq v5 v6 w' => ∃ (x5_2 : List Int) (x6_2 : Int) (x1001_2 : Int) (x1002_2 : Int), v6 = .int .i64 x6_2 ∧ Aside0 (spec_l1Cur_sorted.l0 kq a1 x5_2 x6_2 s0_0 x1001_2 x1002_2 = some (r1, r2, r3)) ∧ Aside0 (kq ≤ kj4) ∧ Aside0 (Kd.R (Kd.int .i64) 3 w' w.heap.size (fun _ => True) v5 x5_2) ∧ Aside0 (IsS43 w0 w' g s0_0 x1001_2 x1002_2) ∧ Aside0 (KeepBut w w' g none) ∧ Aside0 (Below w0.heap.size w0 w'))
    case atStart => exact ⟨(([] : List Int)), (x6_4), (x1001_4), (x1002_4), rg_, H', ⟨Nat.le_refl _⟩, ⟨kR_ HO_5⟩, ⟨by repeat (first | (with_reducible first | exact HI0.out | apply IsS43.alloc | apply IsS43.drewN | apply IsS43.drew | apply IsS43.set_1 | apply IsS43.set_2) | exact HI0.out)⟩, ⟨by repeat (first | (with_reducible first | exact HK.out | apply KeepBut.set_ | apply keep_drewN | apply keep_drew | apply keep_alloc) | exact HK.out)⟩, ⟨by repeat (first | (with_reducible first | exact HB.out | apply Qa | apply Qn | apply Qd | refine Qs ?_ (IsS43.ge HI0.out)) | exact HB.out)⟩⟩
    case round =>
     clear H'
     try clear c1
     try clear c2
     try clear p2
     try clear p6
     try clear c8
     try clear p2
     try clear p6
     obtain ⟨x5_2, x6_2, x1001_2, x1002_2, rfl, HA, HK2, HO_5, HI0, HK, HB⟩ := hrel
     cases gk with
     | zero => exact absurd HA.out (by simp [spec_l1Cur_sorted.l0])
     | succ k2 =>
      have H := HA.out; clear HA; simp only [spec_l1Cur_sorted.l0] at H
      by_cases c11 : x6_2 > 0
      ·rw [if_pos c11] at H
       have c11b0 : decide (0 < x6_2) = true := decide_eq_true c11
       clear c11; replace H := Option.bind_eq_some_iff.mp H; obtain ⟨t145, A120, H⟩ := H
       have A12 := Qx A120; clear A120; replace H := Option.bind_eq_some_iff.mp H; obtain ⟨⟨t146, t147, t148⟩, A130, H⟩ := H
       have A13 := Qx A130; clear A130; have H' := Qx H; clear H
       go_wp2_with (first | ((with_reducible refine gate_callee (f := 30) rfl ?_); refine gl_ 22 Try.func30 #[.int .i64 a1, .int .i64 1] ?_; (with_reducible refine (spec_l1Most.calls a1 1 t145 _ A12.out).mono ?_); rintro e w' ⟨rfl, ⟨nd, rfl⟩⟩; refine ⟨_, rfl, ?_⟩) | ((with_reducible refine gate_callee (f := 27) rfl ?_); refine gl_ 23 Try.func27 #[.pointer (some ⟨g, 0, none⟩), .int .i64 t145] ?_; (with_reducible refine (spec_l1Cur_pick.calls g s0_0 x1001_2 x1002_2 t145 t146 t147 t148 w0 _ ?side1 ?side2 A13.out).mono ?_); (case side1 => repeat (first | (with_reducible first | exact HI0.out | apply IsS43.alloc | apply IsS43.drewN | apply IsS43.drew | apply IsS43.set_1 | apply IsS43.set_2) | exact HI0.out)); (case side2 => repeat (first | (with_reducible first | exact HB.out | apply Qa | apply Qn | apply Qd | refine Qs ?_ (IsS43.ge HI0.out)) | exact HB.out)); rintro e w14 ⟨rfl, hi, hb, hk⟩; refine ⟨_, rfl, ?_⟩; replace HO_5 := Qx (Qrm (Kd.R_keep (IsS43.apart (show IsS43 w0 _ g s0_0 x1001_2 x1002_2 from by repeat (first | (with_reducible first | exact HI0.out | apply IsS43.alloc | apply IsS43.drewN | apply IsS43.drew | apply IsS43.set_1 | apply IsS43.set_2) | exact HI0.out)) (kR_ HO_5) (by decide)) hk (fun _ h => h.2)) (fun _ h => h.1)); replace HK := Qx (KeepBut.trans (by repeat (first | (with_reducible first | exact HK.out | apply KeepBut.set_ | apply keep_drewN | apply keep_drew | apply keep_alloc) | exact HK.out)) hk (.inl rfl)); replace HB := Qx (hb); replace HI0 := Qx (hi); (try clear hb); (try clear hb2); (try clear hk); (try clear hi)))
       go_loopg [8] k2 (fun kq v8 w' => ∃ (x8_3 : Int), v8 = .int .i64 x8_3 ∧ Aside0 (spec_l1Cur_sorted.l1 kq a1 x5_2 x6_2 t146 x8_3 s0_0 t147 t148 = some (r1, r2, r3)) ∧ Aside0 (kq ≤ k2) ∧ Aside0 (Kd.R (Kd.int .i64) 3 w' w.heap.size (fun _ => True) u5 x5_2) ∧ Aside0 (IsS43 w0 w' g s0_0 t147 t148) ∧ Aside0 (KeepBut w w' g none) ∧ Aside0 (Below w0.heap.size w0 w'))
       case atStart => exact ⟨(0), rg_, H', ⟨Nat.le_refl _⟩, ⟨kR_ HO_5⟩, ⟨by repeat (first | (with_reducible first | exact HI0.out | apply IsS43.alloc | apply IsS43.drewN | apply IsS43.drew | apply IsS43.set_1 | apply IsS43.set_2) | exact HI0.out)⟩, ⟨by repeat (first | (with_reducible first | exact HK.out | apply KeepBut.set_ | apply keep_drewN | apply keep_drew | apply keep_alloc) | exact HK.out)⟩, ⟨by repeat (first | (with_reducible first | exact HB.out | apply Qa | apply Qn | apply Qd | refine Qs ?_ (IsS43.ge HI0.out)) | exact HB.out)⟩⟩
       case round =>
        clear H'
        try clear c1
        try clear c2
        try clear p2
        try clear c3
        try clear p6
        try clear c8
        try clear c11
        try clear c11b0
        try clear p2
        try clear p6
        obtain ⟨x8_3, rfl, HA, HK3, HO_5, HI0, HK, HB⟩ := hrel
        cases gk with
        | zero => exact absurd HA.out (by simp [spec_l1Cur_sorted.l1])
        | succ k3 =>
         have H := HA.out; clear HA; simp only [spec_l1Cur_sorted.l1] at H
         by_cases c15 : x8_3 < (x5_2.length : Int)
         ·rw [if_pos c15] at H
          have c15b0 : decide (x8_3 < (x5_2.length : Int)) = true := decide_eq_true c15
          clear c15
          by_cases c16 : 0 ≤ x8_3
          ·rw [if_pos c16] at H
           have c16b0 : decide (0 ≤ x8_3) = true := decide_eq_true c16
           clear c16
           by_cases c17 : (rd x5_2 x8_3) ≤ t146
           ·rw [if_pos c17] at H
            have c17b0 : decide ((rd x5_2 x8_3) ≤ t146) = true := decide_eq_true c17
            clear c17; have H' := Qx H; clear H; obtain ⟨Ao18, co18, eo18⟩ := Kd.R_slice HO_5.out; subst eo18
            have p149 : 0 ≤ (x8_3 : Int) := of_decide_eq_true as_
            have q149 : x8_3 < (x5_2.length : Int) := of_decide_eq_true as_
            obtain ⟨ad149, e149, hx149_0⟩ := Kd.at_int (Kd.R_reads' HO_5.out).2.2 x8_3 p149 q149
            cases e149
            replace p149 := eq_true p149; replace q149 := eq_true q149
            go_wp2
            go_roundg k3
            case measure => have := HJ4.out; have := HK2.out; have := HK3.out; omega
            case rel => exact ⟨(wrap64 (x8_3 + 1)), rg_, H', ⟨by have := HJ4.out; have := HK2.out; have := HK3.out; omega⟩, ⟨kR_ HO_5⟩, ⟨by repeat (first | (with_reducible first | exact HI0.out | apply IsS43.alloc | apply IsS43.drewN | apply IsS43.drew | apply IsS43.set_1 | apply IsS43.set_2) | exact HI0.out)⟩, ⟨by repeat (first | (with_reducible first | exact HK.out | apply KeepBut.set_ | apply keep_drewN | apply keep_drew | apply keep_alloc) | exact HK.out)⟩, ⟨by repeat (first | (with_reducible first | exact HB.out | apply Qa | apply Qn | apply Qd | refine Qs ?_ (IsS43.ge HI0.out)) | exact HB.out)⟩⟩
           ·rw [if_neg c17] at H
            have c17b0 : decide ((rd x5_2 x8_3) ≤ t146) = false := decide_eq_false c17
            clear c17
            have c19b0 := eq_true (of_decide_eq_true as_ : 0 ≤ x8_3)
            by_cases c20 : x8_3 ≤ (x5_2.length : Int)
            ·rw [if_pos c20] at H; have c20b0 := eq_true c20
             have c20b1 : decide (x8_3 ≤ (x5_2.length : Int)) = true := decide_eq_true c20
             clear c20
             obtain ⟨y150, hy150⟩ : ∃ y_ : List Int, y_ = (x5_2.take (x8_3 : Int).toNat) := ⟨_, rfl⟩
             replace H : ((spec_l1Own.f y150).bind fun t154 => ((some (([t146] : List Int) : List Int)).bind fun y157 => (if t154.length + y157.length < 17592186044416 then ((some (t154 ++ y157 : List Int)).bind fun y160 => ((some (x5_2.drop (x8_3 : Int).toNat : List Int)).bind fun y163 => (if y160.length + y163.length < 17592186044416 then (spec_l1Cur_sorted.l0 k3 a1 (y160 ++ y163) (wrap64 (x6_2 - 1)) s0_0 t147 t148) else (none)))) else (none)))) = some (r1, r2, r3) := by first | (rw [hy150]; with_reducible exact H) | (have H2_ := (Option.bind_some _ _).symm.trans H; rw [hy150]; with_reducible exact H2_) | (have H2_ := (Option.bind_some _ _).symm.trans H; with_reducible exact H2_) | with_reducible exact H | (rw [hy150]; exact H) | exact H
             have Ny150 := Qx hy150; clear hy150; replace H := Option.bind_eq_some_iff.mp H; obtain ⟨t154, A210, H⟩ := H
             have A21 := Qx A210; clear A210
             obtain ⟨y157, hy157⟩ : ∃ y_ : List Int, y_ = (([t146] : List Int)) := ⟨_, rfl⟩
             replace H : (if t154.length + y157.length < 17592186044416 then ((some (t154 ++ y157 : List Int)).bind fun y160 => ((some (x5_2.drop (x8_3 : Int).toNat : List Int)).bind fun y163 => (if y160.length + y163.length < 17592186044416 then (spec_l1Cur_sorted.l0 k3 a1 (y160 ++ y163) (wrap64 (x6_2 - 1)) s0_0 t147 t148) else (none)))) else (none)) = some (r1, r2, r3) := by first | (rw [hy157]; with_reducible exact H) | (have H2_ := (Option.bind_some _ _).symm.trans H; rw [hy157]; with_reducible exact H2_) | (have H2_ := (Option.bind_some _ _).symm.trans H; with_reducible exact H2_) | with_reducible exact H | (rw [hy157]; exact H) | exact H
             have Ny157 := Qx hy157; clear hy157
             by_cases c22 : t154.length + y157.length < 17592186044416
             ·rw [if_pos c22] at H; have LMc22 := Qx c22; clear c22
              obtain ⟨y160, hy160⟩ : ∃ y_ : List Int, y_ = (t154 ++ y157) := ⟨_, rfl⟩
              replace H : ((some (x5_2.drop (x8_3 : Int).toNat : List Int)).bind fun y163 => (if y160.length + y163.length < 17592186044416 then (spec_l1Cur_sorted.l0 k3 a1 (y160 ++ y163) (wrap64 (x6_2 - 1)) s0_0 t147 t148) else (none))) = some (r1, r2, r3) := by first | (rw [hy160]; with_reducible exact H) | (have H2_ := (Option.bind_some _ _).symm.trans H; rw [hy160]; with_reducible exact H2_) | (have H2_ := (Option.bind_some _ _).symm.trans H; with_reducible exact H2_) | with_reducible exact H | (rw [hy160]; exact H) | exact H
              have Ny160 := Qx hy160; clear hy160
              have c23b0 := eq_true (of_decide_eq_true as_ : 0 ≤ x8_3)
              have c24b0 := eq_true (of_decide_eq_true as_ : x8_3 ≤ (x5_2.length : Int))
              obtain ⟨y163, hy163⟩ : ∃ y_ : List Int, y_ = (x5_2.drop (x8_3 : Int).toNat) := ⟨_, rfl⟩
              replace H : (if y160.length + y163.length < 17592186044416 then (spec_l1Cur_sorted.l0 k3 a1 (y160 ++ y163) (wrap64 (x6_2 - 1)) s0_0 t147 t148) else (none)) = some (r1, r2, r3) := by first | (rw [hy163]; with_reducible exact H) | (have H2_ := (Option.bind_some _ _).symm.trans H; rw [hy163]; with_reducible exact H2_) | (have H2_ := (Option.bind_some _ _).symm.trans H; with_reducible exact H2_) | with_reducible exact H | (rw [hy163]; exact H) | exact H
              have Ny163 := Qx hy163; clear hy163
              by_cases c25 : y160.length + y163.length < 17592186044416
              ·rw [if_pos c25] at H; have LMc25 := Qx c25; clear c25
               obtain ⟨y167, hy167⟩ : ∃ y_ : List Int, y_ = (y160 ++ y163) := ⟨_, rfl⟩
               replace H : (spec_l1Cur_sorted.l0 k3 a1 y167 (wrap64 (x6_2 - 1)) s0_0 t147 t148) = some (r1, r2, r3) := by first | (rw [hy167]; with_reducible exact H) | (have H2_ := (Option.bind_some _ _).symm.trans H; rw [hy167]; with_reducible exact H2_) | (have H2_ := (Option.bind_some _ _).symm.trans H; with_reducible exact H2_) | with_reducible exact H | (rw [hy167]; exact H) | exact H
               have Ny167 := Qx hy167; clear hy167; have H' := Qx H; clear H; obtain ⟨Ao26, co26, eo26⟩ := Kd.R_slice HO_5.out; subst eo26
               have p149 : 0 ≤ (x8_3 : Int) := of_decide_eq_true as_
               have q149 : x8_3 < (x5_2.length : Int) := of_decide_eq_true as_
               obtain ⟨ad149, e149, hx149_0⟩ := Kd.at_int (Kd.R_reads' HO_5.out).2.2 x8_3 p149 q149
               cases e149
               replace p149 := eq_true p149; replace q149 := eq_true q149
               try go_wp2
               replace HO_5 := Qx (Qrd HO_5.out)
               replace HI0 := Qx (IsS43.drew HI0.out)
               replace HK := Qx (keep_drew HK.out)
               replace HB := Qx (Qd HB.out)
               have q28 : (x8_3 : Int) ≤ ((x5_2.length : Int) : Int) := of_decide_eq_true as_
               obtain ⟨i028, hi028, _, hsz28, _⟩ := info_parts info3
               have hroom28 : x5_2.length ≤ co26 := (Kd.R_reads' HO_5.out).2.1
               have hC28 : Kd.C (Kd.int .i64) _ (some ad149) x5_2.length x5_2 := (Kd.R_reads' HO_5.out).2.2
               have hcut28 := cut_to (P := Try.prog) 24 3 .i64 Try.underlying24 hi028 (some ad149) x5_2.length co26 x8_3 (of_decide_eq_true as_) q28 hroom28
               have hr28 := Kd.C_take (m := (x8_3 : Int).toNat) hC28 (by omega)
               have hy28 : y150.length = (x8_3 : Int).toNat := (by rw [Ny150.out, List.length_take]; omega)
               rw [← Ny150.out] at hr28; rw [← hy28] at hcut28; have HR153 := Qx hr28
               have HC153 := Qx (show y150.length ≤ co26 from by omega)
               clear hr28 hC28 hroom28 hi028 hsz28; have KY28 := Qx hy28; clear hy28
               have KL28 := Qx (show (x8_3 : Int).toNat ≤ x5_2.length from by omega)
               replace q28 := eq_true q28
               have q29 : (x8_3 : Int) ≤ ((x5_2.length : Int) : Int) := of_decide_eq_true as_
               obtain ⟨i029, hi029, _, hsz29, _⟩ := info_parts info3
               have hroom29 : x5_2.length ≤ co26 := (Kd.R_reads' HO_5.out).2.1
               have hC29 : Kd.C (Kd.int .i64) _ (some ad149) x5_2.length x5_2 := (Kd.R_reads' HO_5.out).2.2
               have q029 : (0 : Int) ≤ (x8_3 : Int) := of_decide_eq_true as_
               have hcut29 := cut_from (P := Try.prog) 24 3 .i64 Try.underlying24 hi029 1 hsz29 (some ad149) x5_2.length co26 x8_3 q029 q29
               have hr29 := Kd.C_drop (m := (x8_3 : Int).toNat) (c := co26) hC29 (by omega) hroom29
               obtain ⟨A29, hA29⟩ : ∃ A1, A1 = (if co26 = (x8_3 : Int).toNat then (some ad149) else ((some ad149) : Option Addr).map (·.add ((x8_3 : Int).toNat * 1))) := ⟨_, rfl⟩
               obtain ⟨c29, hc29⟩ : ∃ c1, c1 = co26 - (x8_3 : Int).toNat := ⟨_, rfl⟩
               have hy29 : y163.length = x5_2.length - (x8_3 : Int).toNat := (by rw [Ny163.out, List.length_drop] <;> omega)
               rw [show (x5_2).drop (x8_3 : Int).toNat = y163 from Ny163.out.symm] at hr29
               replace hr29 : Kd.C (Kd.int .i64) _ A29 y163.length y163 := (by rw [hA29]; exact hr29)
               rw [← hy29, ← hA29, ← hc29] at hcut29; have HR166 := Qx hr29
               have HC166 := Qx (show y163.length ≤ c29 from by rw [hy29, hc29]; exact Nat.sub_le_sub_right hroom29 _)
               clear hr29 hC29 hroom29 hi029 hsz29 hc29; have KY29 := Qx hy29; have KA29 := Qx hA29; clear hy29 hA29
               have KL29 := Qx (show (x8_3 : Int).toNat ≤ x5_2.length from by omega)
               replace q29 := eq_true q29
               refine start_ (n := 12) (S := fun w' => True) (ds := []) #[false, false, false, false, false, false, false, false, false, false, false, false] (by kernel_rfl) rfl rfl trivial (fun hHeld => ?_); refine with_tabW spec_l1Cur_sorted.tab11 spec_l1Cur_sorted.bits11 (fun HT_ HW_ => ?_)
               generalize wr.drew = w27 at HO_5 HI0 HK HB HR153 HR166 hHeld ⊢
               refine pr_ 0 38 12 1 ?_
               refine pr_ 1 39 12 3 ?_
               refine pr_ 2 40 12 7 ?_
               refine pr_ 4 42 12 23 ?_
               refine pr_ 7 45 12 151 ?_
               refine pr_ 8 46 12 407 ?_
               refine pr_ 9 47 12 919 ?_
               refine join_ (σ := Value × Value) 3 #[true, true, true, true, true, true, false, true, true, true, false, false] (fun s_ => [(41, s_.1), (43, s_.2)]) (fun s_ w' => (Kd.R (Kd.int .i64) 3 w' w.heap.size (fun k_ => some k_ ≠ (s_.2 : Value).ownBlock ∧ some k_ ≠ (.slice (some ad149) x5_2.length co26 : Value).ownBlock) s_.1 t154) ∧ (Kd.R (Kd.int .i64) 3 w' w.heap.size (fun k_ => some k_ ≠ (s_.1 : Value).ownBlock ∧ some k_ ≠ (.slice (some ad149) x5_2.length co26 : Value).ownBlock) s_.2 y157) ∧ (Kd.R (Kd.int .i64) 3 w' w.heap.size (fun k_ => some k_ ≠ (s_.1 : Value).ownBlock ∧ some k_ ≠ (s_.2 : Value).ownBlock) (.slice (some ad149) x5_2.length co26) x5_2) ∧ (IsS43 w0 w' g s0_0 t147 t148) ∧ (KeepBut w w' g none) ∧ (Below w0.heap.size w0 w')) ?_ ?_
               rotate_left
               ·intro hCont
                refine two_ (i := 3) (j := 5) (Ni := some 41) (Nj := some 43) (bsA 12 927) #[true, true, true, false, true, true, false, true, true, true, false, false] rfl rfl rfl rfl (two_of HT_.out (by kernel_rfl)) (by decide) (by decide) (fun K hK => ?_) (fun K hK => ?_)
                ·skip
                 refine goes_ Try.func31 (by kernel_rfl) rfl #[.slice (some ad149) y150.length co26] (by rfl) rfl rfl (by (try simp only [List.map_toArray, List.map_cons, List.map_nil]); first | done | rfl | (simp only [List.length_drop, List.length_take]; rfl)) ?_
                 with_reducible refine (spec_l1Own.calls _ _ y150 t154 _ ?side1 ?side2 A21.out).mono ?_
                 (case side1 => repeat (first | exact (by repeat (first | (with_reducible exact HR153.out) | (with_reducible refine Kd.C_alloc ?_ _) | (with_reducible refine Kd.C_drewN ?_ _) | (with_reducible refine Kd.C_drew ?_) | exact HR153.out)) | (with_reducible refine Kd.C_alloc ?_ _) | (with_reducible refine Kd.C_drewN ?_ _) | (with_reducible refine Kd.C_drew ?_)))
                 (case side2 => exact HC153.out)
                 rintro e w30 ⟨v155, rfl, ho0, hb⟩
                 refine ⟨_, rfl, ?_⟩
                 have HO156 := Qx (Kd.R_lower (Kd.R_new' ho0 (Kd.R_lt (kR_ HO_5))) (keep_size (w := w) (g := g) (row := none) (by repeat (first | (with_reducible first | exact HK.out | apply KeepBut.set_ | apply keep_drewN | apply keep_drew | apply keep_alloc) | exact HK.out))))
                 replace HO_5 := Qx (Kd.R_elder' (kR_ HO_5) (Kd.R_base ho0) hb)
                 replace HR153 := Qx (Kd.C_below (by repeat (first | (with_reducible exact HR153.out) | (with_reducible refine Kd.C_alloc ?_ _) | (with_reducible refine Kd.C_drewN ?_ _) | (with_reducible refine Kd.C_drew ?_) | exact HR153.out)) hb)
                 replace HR166 := Qx (Kd.C_below (by repeat (first | (with_reducible exact HR166.out) | (with_reducible refine Kd.C_alloc ?_ _) | (with_reducible refine Kd.C_drewN ?_ _) | (with_reducible refine Kd.C_drew ?_) | exact HR166.out)) hb)
                 replace HK := Qx (KeepBut.trans (by repeat (first | (with_reducible first | exact HK.out | apply KeepBut.set_ | apply keep_drewN | apply keep_drew | apply keep_alloc) | exact HK.out)) (KeepBut.of_below hb g none) (.inl rfl))
                 replace HB := Qx (Qp (by repeat (first | (with_reducible first | exact HB.out | apply Qa | apply Qn | apply Qd | refine Qs ?_ (IsS43.ge HI0.out)) | exact HB.out)) hb)
                 replace HI0 := Qx (IsS43.below (by repeat (first | (with_reducible first | exact HI0.out | apply IsS43.alloc | apply IsS43.drewN | apply IsS43.drew | apply IsS43.set_1 | apply IsS43.set_2) | exact HI0.out)) hb)
                 (try clear hb); (try clear hb2); (try clear hk); (try clear hi); (try clear ho0)
                 refine hK.out _ _ trivial (fun hHeld => ?_)
                 clear hK K
                 refine norm_ (a' := ?_) ?_ ?_
                 rotate_left
                 ·show Act.put _ (some 41) _ = _
                  simp only [Act.put, List.setIfInBounds_toArray, List.set_cons_zero, List.set_cons_succ, i64_w]
                  rfl
                 refine one_ (i := 5) (N := some 43) (bsA 12 959) rfl rfl (one_of HT_.out (by kernel_rfl)) (by decide) (fun K hK => ?_)
                 refine Kd.R_lit_step (Kd.int .i64) _ 3 ?hg (N := 43) ?hd (xs := ([t146] : List Int)) (inner := [.int .i64 t146]) (ok := fun _ => True) (okp := fun _ => True) ?hr ?hp (fun _ hk => hk) trivial (Below.refl _ _) (Nat.le_refl _) (by simp) ?_; (case hd => rfl); (case hg => rfl); (case hr => first | (go_simp; done) | (go_simp; rfl)); (case hp => exact (Reps.one (show Kd.M (Kd.int .i64) _ _ _ t146 [.int .i64 t146] from rfl) (Reps.none _ _)))
                 intro v158 w31 ho32 hb hg_ hnew_
                 clear hg_ hnew_
                 (first | rw [← Ny157.out] at ho32 | (simp only [Int.reduceToNat] at ho32; rw [← Ny157.out] at ho32))
                 have HO159 := Qx (Kd.R_lower (Kd.R_new' (Kd.R_new' ho32 (Kd.R_lt (kR_ HO_5))) (Kd.R_lt (kR_ HO156))) (keep_size (w := w) (g := g) (row := none) (by repeat (first | (with_reducible first | exact HK.out | apply KeepBut.set_ | apply keep_drewN | apply keep_drew | apply keep_alloc) | exact HK.out))))
                 replace HO_5 := Qx (Kd.R_elder' (kR_ HO_5) (Kd.R_base ho32) hb)
                 replace HO156 := Qx (Kd.R_elder' (kR_ HO156) (Kd.R_base ho32) hb)
                 replace HR153 := Qx (Kd.C_below (by repeat (first | (with_reducible exact HR153.out) | (with_reducible refine Kd.C_alloc ?_ _) | (with_reducible refine Kd.C_drewN ?_ _) | (with_reducible refine Kd.C_drew ?_) | exact HR153.out)) hb)
                 replace HR166 := Qx (Kd.C_below (by repeat (first | (with_reducible exact HR166.out) | (with_reducible refine Kd.C_alloc ?_ _) | (with_reducible refine Kd.C_drewN ?_ _) | (with_reducible refine Kd.C_drew ?_) | exact HR166.out)) hb)
                 replace HK := Qx (KeepBut.trans (by repeat (first | (with_reducible first | exact HK.out | apply KeepBut.set_ | apply keep_drewN | apply keep_drew | apply keep_alloc) | exact HK.out)) (KeepBut.of_below hb g none) (.inl rfl))
                 replace HB := Qx (Qp (by repeat (first | (with_reducible first | exact HB.out | apply Qa | apply Qn | apply Qd | refine Qs ?_ (IsS43.ge HI0.out)) | exact HB.out)) hb)
                 replace HI0 := Qx (IsS43.below (by repeat (first | (with_reducible first | exact HI0.out | apply IsS43.alloc | apply IsS43.drewN | apply IsS43.drew | apply IsS43.set_1 | apply IsS43.set_2) | exact HI0.out)) hb)
                 clear hb ho32
                 refine hK.out _ _ trivial (fun hHeld => ?_)
                 clear hK K
                 refine norm_ (a' := ?_) ?_ ?_
                 rotate_left
                 ·show Act.put _ (some 43) _ = _
                  simp only [Act.put, List.setIfInBounds_toArray, List.set_cons_zero, List.set_cons_succ, i64_w]
                  rfl
                 exact norm_ (by simp only [putAll, Act.put, List.setIfInBounds_toArray, List.set_cons_zero, List.set_cons_succ]) (hCont (v155, v158) _ ⟨(by (with_reducible repeat (first | apply Qra | apply Qrn | apply Qrd)); exact Qrm HO156.out (fun _ hk => ⟨hk.2, hk.1.2⟩)), (by (with_reducible repeat (first | apply Qra | apply Qrn | apply Qrd)); exact Qrm HO159.out (fun _ hk => ⟨hk.2, hk.1.2⟩)), (by (with_reducible repeat (first | apply Qra | apply Qrn | apply Qrd)); exact Qrm HO_5.out (fun _ hk => ⟨hk.1.2, hk.2⟩)), (by repeat (first | (with_reducible first | exact HI0.out | apply IsS43.alloc | apply IsS43.drewN | apply IsS43.drew | apply IsS43.set_1 | apply IsS43.set_2) | exact HI0.out)), (by repeat (first | (with_reducible first | exact HK.out | apply KeepBut.set_ | apply keep_drewN | apply keep_drew | apply keep_alloc) | exact HK.out)), (by repeat (first | (with_reducible first | exact HB.out | apply Qa | apply Qn | apply Qd | refine Qs ?_ (IsS43.ge HI0.out)) | exact HB.out))⟩)
                ·skip
                 refine Kd.R_lit_step (Kd.int .i64) _ 3 ?hg (N := 43) ?hd (xs := ([t146] : List Int)) (inner := [.int .i64 t146]) (ok := fun _ => True) (okp := fun _ => True) ?hr ?hp (fun _ hk => hk) trivial (Below.refl _ _) (Nat.le_refl _) (by simp) ?_; (case hd => rfl); (case hg => rfl); (case hr => first | (go_simp; done) | (go_simp; rfl)); (case hp => exact (Reps.one (show Kd.M (Kd.int .i64) _ _ _ t146 [.int .i64 t146] from rfl) (Reps.none _ _)))
                 intro v158 w30 ho31 hb hg_ hnew_
                 clear hg_ hnew_
                 (first | rw [← Ny157.out] at ho31 | (simp only [Int.reduceToNat] at ho31; rw [← Ny157.out] at ho31))
                 have HO159 := Qx (Kd.R_lower (Kd.R_new' ho31 (Kd.R_lt (kR_ HO_5))) (keep_size (w := w) (g := g) (row := none) (by repeat (first | (with_reducible first | exact HK.out | apply KeepBut.set_ | apply keep_drewN | apply keep_drew | apply keep_alloc) | exact HK.out))))
                 replace HO_5 := Qx (Kd.R_elder' (kR_ HO_5) (Kd.R_base ho31) hb)
                 replace HR153 := Qx (Kd.C_below (by repeat (first | (with_reducible exact HR153.out) | (with_reducible refine Kd.C_alloc ?_ _) | (with_reducible refine Kd.C_drewN ?_ _) | (with_reducible refine Kd.C_drew ?_) | exact HR153.out)) hb)
                 replace HR166 := Qx (Kd.C_below (by repeat (first | (with_reducible exact HR166.out) | (with_reducible refine Kd.C_alloc ?_ _) | (with_reducible refine Kd.C_drewN ?_ _) | (with_reducible refine Kd.C_drew ?_) | exact HR166.out)) hb)
                 replace HK := Qx (KeepBut.trans (by repeat (first | (with_reducible first | exact HK.out | apply KeepBut.set_ | apply keep_drewN | apply keep_drew | apply keep_alloc) | exact HK.out)) (KeepBut.of_below hb g none) (.inl rfl))
                 replace HB := Qx (Qp (by repeat (first | (with_reducible first | exact HB.out | apply Qa | apply Qn | apply Qd | refine Qs ?_ (IsS43.ge HI0.out)) | exact HB.out)) hb)
                 replace HI0 := Qx (IsS43.below (by repeat (first | (with_reducible first | exact HI0.out | apply IsS43.alloc | apply IsS43.drewN | apply IsS43.drew | apply IsS43.set_1 | apply IsS43.set_2) | exact HI0.out)) hb)
                 clear hb ho31
                 refine hK.out _ _ trivial (fun hHeld => ?_)
                 clear hK K
                 refine norm_ (a' := ?_) ?_ ?_
                 rotate_left
                 ·show Act.put _ (some 43) _ = _
                  simp only [Act.put, List.setIfInBounds_toArray, List.set_cons_zero, List.set_cons_succ, i64_w]
                  rfl
                 refine one_ (i := 3) (N := some 41) (bsA 12 959) rfl rfl (one_of HT_.out (by kernel_rfl)) (by decide) (fun K hK => ?_)
                 refine goes_ Try.func31 (by kernel_rfl) rfl #[.slice (some ad149) y150.length co26] (by rfl) rfl rfl (by (try simp only [List.map_toArray, List.map_cons, List.map_nil]); first | done | rfl | (simp only [List.length_drop, List.length_take]; rfl)) ?_
                 with_reducible refine (spec_l1Own.calls _ _ y150 t154 _ ?side1 ?side2 A21.out).mono ?_
                 (case side1 => repeat (first | exact (by repeat (first | (with_reducible exact HR153.out) | (with_reducible refine Kd.C_alloc ?_ _) | (with_reducible refine Kd.C_drewN ?_ _) | (with_reducible refine Kd.C_drew ?_) | exact HR153.out)) | (with_reducible refine Kd.C_alloc ?_ _) | (with_reducible refine Kd.C_drewN ?_ _) | (with_reducible refine Kd.C_drew ?_)))
                 (case side2 => exact HC153.out)
                 rintro e w32 ⟨v155, rfl, ho0, hb⟩
                 refine ⟨_, rfl, ?_⟩
                 have HO156 := Qx (Kd.R_lower (Kd.R_new' (Kd.R_new' ho0 (Kd.R_lt (kR_ HO_5))) (Kd.R_lt (kR_ HO159))) (keep_size (w := w) (g := g) (row := none) (by repeat (first | (with_reducible first | exact HK.out | apply KeepBut.set_ | apply keep_drewN | apply keep_drew | apply keep_alloc) | exact HK.out))))
                 replace HO_5 := Qx (Kd.R_elder' (kR_ HO_5) (Kd.R_base ho0) hb)
                 replace HO159 := Qx (Kd.R_elder' (kR_ HO159) (Kd.R_base ho0) hb)
                 replace HR153 := Qx (Kd.C_below (by repeat (first | (with_reducible exact HR153.out) | (with_reducible refine Kd.C_alloc ?_ _) | (with_reducible refine Kd.C_drewN ?_ _) | (with_reducible refine Kd.C_drew ?_) | exact HR153.out)) hb)
                 replace HR166 := Qx (Kd.C_below (by repeat (first | (with_reducible exact HR166.out) | (with_reducible refine Kd.C_alloc ?_ _) | (with_reducible refine Kd.C_drewN ?_ _) | (with_reducible refine Kd.C_drew ?_) | exact HR166.out)) hb)
                 replace HK := Qx (KeepBut.trans (by repeat (first | (with_reducible first | exact HK.out | apply KeepBut.set_ | apply keep_drewN | apply keep_drew | apply keep_alloc) | exact HK.out)) (KeepBut.of_below hb g none) (.inl rfl))
                 replace HB := Qx (Qp (by repeat (first | (with_reducible first | exact HB.out | apply Qa | apply Qn | apply Qd | refine Qs ?_ (IsS43.ge HI0.out)) | exact HB.out)) hb)
                 replace HI0 := Qx (IsS43.below (by repeat (first | (with_reducible first | exact HI0.out | apply IsS43.alloc | apply IsS43.drewN | apply IsS43.drew | apply IsS43.set_1 | apply IsS43.set_2) | exact HI0.out)) hb)
                 (try clear hb); (try clear hb2); (try clear hk); (try clear hi); (try clear ho0)
                 refine hK.out _ _ trivial (fun hHeld => ?_)
                 clear hK K
                 refine norm_ (a' := ?_) ?_ ?_
                 rotate_left
                 ·show Act.put _ (some 41) _ = _
                  simp only [Act.put, List.setIfInBounds_toArray, List.set_cons_zero, List.set_cons_succ, i64_w]
                  rfl
                 exact norm_ (by simp only [putAll, Act.put, List.setIfInBounds_toArray, List.set_cons_zero, List.set_cons_succ]) (hCont (v155, v158) _ ⟨(by (with_reducible repeat (first | apply Qra | apply Qrn | apply Qrd)); exact Qrm HO156.out (fun _ hk => ⟨hk.2, hk.1.2⟩)), (by (with_reducible repeat (first | apply Qra | apply Qrn | apply Qrd)); exact Qrm HO159.out (fun _ hk => ⟨hk.2, hk.1.2⟩)), (by (with_reducible repeat (first | apply Qra | apply Qrn | apply Qrd)); exact Qrm HO_5.out (fun _ hk => ⟨hk.2, hk.1.2⟩)), (by repeat (first | (with_reducible first | exact HI0.out | apply IsS43.alloc | apply IsS43.drewN | apply IsS43.drew | apply IsS43.set_1 | apply IsS43.set_2) | exact HI0.out)), (by repeat (first | (with_reducible first | exact HK.out | apply KeepBut.set_ | apply keep_drewN | apply keep_drew | apply keep_alloc) | exact HK.out)), (by repeat (first | (with_reducible first | exact HB.out | apply Qa | apply Qn | apply Qd | refine Qs ?_ (IsS43.ge HI0.out)) | exact HB.out))⟩)
               rintro ⟨v155, v158⟩ w33 ⟨h0_, h1_, h2_, h3_, h4_, h5_⟩
               have n0_ : Aside0 (Kd.R (Kd.int .i64) 3 w33 w.heap.size (fun k_ => some k_ ≠ (v158 : Value).ownBlock ∧ some k_ ≠ (.slice (some ad149) x5_2.length co26 : Value).ownBlock) v155 t154) := ⟨h0_⟩
               have n1_ : Aside0 (Kd.R (Kd.int .i64) 3 w33 w.heap.size (fun k_ => some k_ ≠ (v155 : Value).ownBlock ∧ some k_ ≠ (.slice (some ad149) x5_2.length co26 : Value).ownBlock) v158 y157) := ⟨h1_⟩
               have n2_ : Aside0 (Kd.R (Kd.int .i64) 3 w33 w.heap.size (fun k_ => some k_ ≠ (v155 : Value).ownBlock ∧ some k_ ≠ (v158 : Value).ownBlock) (.slice (some ad149) x5_2.length co26) x5_2) := ⟨h2_⟩
               have n3_ : Aside0 (IsS43 w0 w33 g s0_0 t147 t148) := ⟨h3_⟩
               have n4_ : Aside0 (KeepBut w w33 g none) := ⟨h4_⟩
               have n5_ : Aside0 (Below w0.heap.size w0 w33) := ⟨h5_⟩
               clear HO_5 HI0 HK HB h0_ h1_ h2_ h3_ h4_ h5_; have HO156 := n0_; have HO159 := n1_; have HO_5 := n2_; have HI0 := n3_; have HK := n4_; have HB := n5_; clear n0_ n1_ n2_ n3_ n4_ n5_; have hHeld := trivial
               have HR153 := Qx (show Kd.C (Kd.int .i64) w33 (some ad149) y150.length y150 from by rw [Ny150.out]; exact Kd.C_take (m := (x8_3 : Int).toNat) ((Kd.R_reads' HO_5.out).2.2) KL28.out)
               have HR166 := Qx (show Kd.C (Kd.int .i64) w33 A29 y163.length y163 from by rw [Ny163.out, KA29.out]; exact Kd.C_drop (m := (x8_3 : Int).toNat) (c := co26) ((Kd.R_reads' HO_5.out).2.2) KL29.out ((Kd.R_reads' HO_5.out).2.1))
               obtain ⟨Ao35, co35, eo35⟩ := Kd.R_slice HO159.out
               (first | subst eo35 | (injection eo35 with f1_ f2_ f3_; have f4_ := f1_.symm; have f5_ := f3_.symm; clear f1_ f2_ f3_; subst f4_; subst f5_))
               refine norm_ (a' := ?_) ?_ ?_
               rotate_left
               ·simp only [putAll, Act.put, List.setIfInBounds_toArray, List.set_cons_zero, List.set_cons_succ]
                rfl
               refine one_ (i := 6) (N := some 44) (bsA 12 1023) rfl rfl (one_of HT_.out (by kernel_rfl)) (by decide) (fun K hK => ?_)
               refine Kd.R_append_rows_step (Kd.int .i64) w.heap.size (by rfl) (.tmp 41) (.tmp 43) 24 3 (.int .i64 0) 8 rfl Try.underlying24 info3 rfl (by decide) (by omega) v155 t154 y157 _ _ _ (fun k_ => some k_ ≠ (.slice (some ad149) x5_2.length co26 : Value).ownBlock ∧ some k_ ≠ (.slice Ao35 y157.length co35 : Value).ownBlock) (fun _ => False) rfl rfl ?aO ?aR (fun _ _ h => h) (fun _ h => h.elim) ?aF (Below.refl _ _) ?aS ?aL ?_
               (case aR => repeat (first | exact (Kd.R_reads' HO159.out).2.2 | (with_reducible refine Kd.C_alloc ?_ _) | (with_reducible refine Kd.C_drewN ?_ _) | (with_reducible refine Kd.C_drew ?_)))
               (case aF => exact (fun k_ hk => ⟨Kd.fresh' (Kd.R_lt (kR_ HO_5)) k_ hk, Kd.fresh' (Kd.R_lt (kR_ HO159)) k_ hk⟩))
               (case aO => exact (by (with_reducible repeat (first | apply Qra | apply Qrn | apply Qrd)); exact Qrm HO156.out (fun _ hk => ⟨hk.2, hk.1⟩)))
               (case aS => exact (keep_size (w := w) (g := g) (row := none) (by repeat (first | (with_reducible first | exact HK.out | apply KeepBut.set_ | apply keep_drewN | apply keep_drew | apply keep_alloc) | exact HK.out))))
               (case aL => have := LMc22.out; omega)
               intro v161 w34 ho hb hg hat
               rw [← Ny160.out] at ho
               have n0_ := Qx (Kd.R_after (ok := (fun k_ => some k_ ≠ (.slice Ao35 y157.length co35 : Value).ownBlock)) (by (with_reducible repeat (first | apply Qra | apply Qrn | apply Qrd)); exact Qrm HO_5.out (fun _ hk => ⟨hk.2, hk.1⟩)) hg hat)
               have n1_ := Qx (IsS43.grown (by repeat (first | (with_reducible first | exact HI0.out | apply IsS43.alloc | apply IsS43.drewN | apply IsS43.drew | apply IsS43.set_1 | apply IsS43.set_2) | exact HI0.out)) hg (IsS43.own_ne HI0.out HO156.out (by decide)))
               have n2_ := Qx (Kd.R_after (ok := (fun k_ => some k_ ≠ (.slice (some ad149) x5_2.length co26 : Value).ownBlock)) (by (with_reducible repeat (first | apply Qra | apply Qrn | apply Qrd)); exact Qrm HO159.out (fun _ hk => ⟨hk.2, hk.1⟩)) hg hat)
               have n3_ := Qx (below_weaken (by repeat (first | (with_reducible first | exact HB.out | apply Qa | apply Qn | apply Qd | refine Qs ?_ (IsS43.ge HI0.out)) | exact HB.out)) HL.out hb)
               have n4_ := Qx (KeepBut.trans (by repeat (first | (with_reducible first | exact HK.out | apply KeepBut.set_ | apply keep_drewN | apply keep_drew | apply keep_alloc) | exact HK.out)) (KeepBut.of_grown hg g) (Kd.R_base2 HO156.out))
               have n5_ := Qx ((show Kd.C (Kd.int .i64) w34 (some ad149) y150.length y150 from by rw [Ny150.out]; exact Kd.C_take (m := (x8_3 : Int).toNat) ((Kd.R_reads' (Kd.R_after (ok := (fun k_ => some k_ ≠ (.slice Ao35 y157.length co35 : Value).ownBlock)) (by (with_reducible repeat (first | apply Qra | apply Qrn | apply Qrd)); exact Qrm HO_5.out (fun _ hk => ⟨hk.2, hk.1⟩)) hg hat)).2.2) KL28.out))
               have n6_ := Qx ((show Kd.C (Kd.int .i64) w34 A29 y163.length y163 from by rw [Ny163.out, KA29.out]; exact Kd.C_drop (m := (x8_3 : Int).toNat) (c := co26) ((Kd.R_reads' (Kd.R_after (ok := (fun k_ => some k_ ≠ (.slice Ao35 y157.length co35 : Value).ownBlock)) (by (with_reducible repeat (first | apply Qra | apply Qrn | apply Qrd)); exact Qrm HO_5.out (fun _ hk => ⟨hk.2, hk.1⟩)) hg hat)).2.2) KL29.out ((Kd.R_reads' (Kd.R_after (ok := (fun k_ => some k_ ≠ (.slice Ao35 y157.length co35 : Value).ownBlock)) (by (with_reducible repeat (first | apply Qra | apply Qrn | apply Qrd)); exact Qrm HO_5.out (fun _ hk => ⟨hk.2, hk.1⟩)) hg hat)).2.1)))
               have n7_ := Qx (ho)
               clear HO_5 HI0 HO159 HB HK HR153 HR166 HO156; have HO_5 := n0_; have HI0 := n1_; have HO159 := n2_; have HB := n3_; have HK := n4_; have HR153 := n5_; have HR166 := n6_; have HO162 := n7_; clear n0_ n1_ n2_ n3_ n4_ n5_ n6_ n7_ ho hb hg hat
               refine hK.out _ _ trivial (fun hHeld => ?_)
               clear hK K
               refine norm_ (a' := ?_) ?_ ?_
               rotate_left
               ·show Act.put _ (some 44) _ = _
                simp only [Act.put, List.setIfInBounds_toArray, List.set_cons_zero, List.set_cons_succ, i64_w]
                rfl
               refine one_ (i := 10) (N := some 48) (bsA 12 2047) rfl rfl (one_of HT_.out (by kernel_rfl)) (by decide) (fun K hK => ?_)
               refine Kd.R_append_rows_step (Kd.int .i64) w.heap.size (by rfl) (.tmp 44) (.tmp 47) 24 3 (.int .i64 0) 8 rfl Try.underlying24 info3 rfl (by decide) (by omega) v161 y160 y163 _ _ _ (fun k_ => some k_ ≠ (.slice (some ad149) x5_2.length co26 : Value).ownBlock ∧ some k_ ≠ (.slice Ao35 y157.length co35 : Value).ownBlock) (fun _ => False) rfl rfl ?aO ?aR (fun _ _ h => h) (fun _ h => h.elim) ?aF (Below.refl _ _) ?aS ?aL ?_
               (case aR => repeat (first | exact (by repeat (first | (with_reducible exact HR166.out) | (with_reducible refine Kd.C_alloc ?_ _) | (with_reducible refine Kd.C_drewN ?_ _) | (with_reducible refine Kd.C_drew ?_) | exact HR166.out)) | (with_reducible refine Kd.C_alloc ?_ _) | (with_reducible refine Kd.C_drewN ?_ _) | (with_reducible refine Kd.C_drew ?_)))
               (case aF => exact (fun k_ hk => ⟨Kd.fresh' (Kd.R_lt (kR_ HO_5)) k_ hk, Kd.fresh' (Kd.R_lt (kR_ HO159)) k_ hk⟩))
               (case aO => exact (kR_ HO162))
               (case aS => exact (keep_size (w := w) (g := g) (row := none) (by repeat (first | (with_reducible first | exact HK.out | apply KeepBut.set_ | apply keep_drewN | apply keep_drew | apply keep_alloc) | exact HK.out))))
               (case aL => have := LMc25.out; omega)
               intro v168 w36 ho hb hg hat
               rw [← Ny167.out] at ho
               have n0_ := Qx (Kd.R_after (ok := (fun k_ => some k_ ≠ (.slice Ao35 y157.length co35 : Value).ownBlock)) (kR_ HO_5) hg hat)
               have n1_ := Qx (IsS43.grown (by repeat (first | (with_reducible first | exact HI0.out | apply IsS43.alloc | apply IsS43.drewN | apply IsS43.drew | apply IsS43.set_1 | apply IsS43.set_2) | exact HI0.out)) hg (IsS43.own_ne HI0.out HO162.out (by decide)))
               have n2_ := Qx (Kd.R_after (ok := (fun k_ => some k_ ≠ (.slice (some ad149) x5_2.length co26 : Value).ownBlock)) (kR_ HO159) hg hat)
               have n3_ := Qx (below_weaken (by repeat (first | (with_reducible first | exact HB.out | apply Qa | apply Qn | apply Qd | refine Qs ?_ (IsS43.ge HI0.out)) | exact HB.out)) HL.out hb)
               have n4_ := Qx (KeepBut.trans (by repeat (first | (with_reducible first | exact HK.out | apply KeepBut.set_ | apply keep_drewN | apply keep_drew | apply keep_alloc) | exact HK.out)) (KeepBut.of_grown hg g) (Kd.R_base2 HO162.out))
               have n5_ := Qx ((show Kd.C (Kd.int .i64) w36 (some ad149) y150.length y150 from by rw [Ny150.out]; exact Kd.C_take (m := (x8_3 : Int).toNat) ((Kd.R_reads' (Kd.R_after (ok := (fun k_ => some k_ ≠ (.slice Ao35 y157.length co35 : Value).ownBlock)) (kR_ HO_5) hg hat)).2.2) KL28.out))
               have n6_ := Qx ((show Kd.C (Kd.int .i64) w36 A29 y163.length y163 from by rw [Ny163.out, KA29.out]; exact Kd.C_drop (m := (x8_3 : Int).toNat) (c := co26) ((Kd.R_reads' (Kd.R_after (ok := (fun k_ => some k_ ≠ (.slice Ao35 y157.length co35 : Value).ownBlock)) (kR_ HO_5) hg hat)).2.2) KL29.out ((Kd.R_reads' (Kd.R_after (ok := (fun k_ => some k_ ≠ (.slice Ao35 y157.length co35 : Value).ownBlock)) (kR_ HO_5) hg hat)).2.1)))
               have n7_ := Qx (ho)
               clear HO_5 HI0 HO159 HB HK HR153 HR166 HO162; have HO_5 := n0_; have HI0 := n1_; have HO159 := n2_; have HB := n3_; have HK := n4_; have HR153 := n5_; have HR166 := n6_; have HO169 := n7_; clear n0_ n1_ n2_ n3_ n4_ n5_ n6_ n7_ ho hb hg hat
               refine hK.out _ _ trivial (fun hHeld => ?_)
               clear hK K
               refine norm_ (a' := ?_) ?_ ?_
               rotate_left
               ·show Act.put _ (some 48) _ = _
                simp only [Act.put, List.setIfInBounds_toArray, List.set_cons_zero, List.set_cons_succ, i64_w]
                rfl
               refine pr_ 11 5 12 4095 ?_
               refine done_ (done_of HT_.out (by kernel_rfl)) ?_
               try go_wp2
               go_roundg k3
               case measure => have := HJ4.out; have := HK2.out; have := HK3.out; omega
               case rel => exact ⟨(y167), (wrap64 (x6_2 - 1)), (t147), (t148), rg_, H', ⟨by have := HJ4.out; have := HK2.out; have := HK3.out; omega⟩, ⟨by (with_reducible repeat (first | apply Qra | apply Qrn | apply Qrd)); exact Qrm HO169.out (fun _ hk => trivial)⟩, ⟨by repeat (first | (with_reducible first | exact HI0.out | apply IsS43.alloc | apply IsS43.drewN | apply IsS43.drew | apply IsS43.set_1 | apply IsS43.set_2) | exact HI0.out)⟩, ⟨by repeat (first | (with_reducible first | exact HK.out | apply KeepBut.set_ | apply keep_drewN | apply keep_drew | apply keep_alloc) | exact HK.out)⟩, ⟨by repeat (first | (with_reducible first | exact HB.out | apply Qa | apply Qn | apply Qd | refine Qs ?_ (IsS43.ge HI0.out)) | exact HB.out)⟩⟩
              ·rw [if_neg c25] at H
               exact absurd H (by simp)
             ·rw [if_neg c22] at H
              exact absurd H (by simp)
            ·rw [if_neg c20] at H
             exact absurd H (by simp)
          ·rw [if_neg c16] at H
           exact absurd H (by simp)
         ·rw [if_neg c15] at H
          have c15b0 : decide (x8_3 < (x5_2.length : Int)) = false := decide_eq_false c15
          clear c15
          by_cases c37 : 0 ≤ x8_3
          ·rw [if_pos c37] at H; have c37b0 := eq_true c37
           have c37b1 : decide (0 ≤ x8_3) = true := decide_eq_true c37
           clear c37
           by_cases c38 : x8_3 ≤ (x5_2.length : Int)
           ·rw [if_pos c38] at H; have c38b0 := eq_true c38
            have c38b1 : decide (x8_3 ≤ (x5_2.length : Int)) = true := decide_eq_true c38
            clear c38
            obtain ⟨y170, hy170⟩ : ∃ y_ : List Int, y_ = (x5_2.take (x8_3 : Int).toNat) := ⟨_, rfl⟩
            replace H : ((spec_l1Own.f y170).bind fun t174 => ((some (([t146] : List Int) : List Int)).bind fun y177 => (if t174.length + y177.length < 17592186044416 then ((some (t174 ++ y177 : List Int)).bind fun y180 => ((some (x5_2.drop (x8_3 : Int).toNat : List Int)).bind fun y183 => (if y180.length + y183.length < 17592186044416 then (spec_l1Cur_sorted.l0 k3 a1 (y180 ++ y183) (wrap64 (x6_2 - 1)) s0_0 t147 t148) else (none)))) else (none)))) = some (r1, r2, r3) := by first | (rw [hy170]; with_reducible exact H) | (have H2_ := (Option.bind_some _ _).symm.trans H; rw [hy170]; with_reducible exact H2_) | (have H2_ := (Option.bind_some _ _).symm.trans H; with_reducible exact H2_) | with_reducible exact H | (rw [hy170]; exact H) | exact H
            have Ny170 := Qx hy170; clear hy170; replace H := Option.bind_eq_some_iff.mp H; obtain ⟨t174, A390, H⟩ := H
            have A39 := Qx A390; clear A390
            obtain ⟨y177, hy177⟩ : ∃ y_ : List Int, y_ = (([t146] : List Int)) := ⟨_, rfl⟩
            replace H : (if t174.length + y177.length < 17592186044416 then ((some (t174 ++ y177 : List Int)).bind fun y180 => ((some (x5_2.drop (x8_3 : Int).toNat : List Int)).bind fun y183 => (if y180.length + y183.length < 17592186044416 then (spec_l1Cur_sorted.l0 k3 a1 (y180 ++ y183) (wrap64 (x6_2 - 1)) s0_0 t147 t148) else (none)))) else (none)) = some (r1, r2, r3) := by first | (rw [hy177]; with_reducible exact H) | (have H2_ := (Option.bind_some _ _).symm.trans H; rw [hy177]; with_reducible exact H2_) | (have H2_ := (Option.bind_some _ _).symm.trans H; with_reducible exact H2_) | with_reducible exact H | (rw [hy177]; exact H) | exact H
            have Ny177 := Qx hy177; clear hy177
            by_cases c40 : t174.length + y177.length < 17592186044416
            ·rw [if_pos c40] at H; have LMc40 := Qx c40; clear c40
             obtain ⟨y180, hy180⟩ : ∃ y_ : List Int, y_ = (t174 ++ y177) := ⟨_, rfl⟩
             replace H : ((some (x5_2.drop (x8_3 : Int).toNat : List Int)).bind fun y183 => (if y180.length + y183.length < 17592186044416 then (spec_l1Cur_sorted.l0 k3 a1 (y180 ++ y183) (wrap64 (x6_2 - 1)) s0_0 t147 t148) else (none))) = some (r1, r2, r3) := by first | (rw [hy180]; with_reducible exact H) | (have H2_ := (Option.bind_some _ _).symm.trans H; rw [hy180]; with_reducible exact H2_) | (have H2_ := (Option.bind_some _ _).symm.trans H; with_reducible exact H2_) | with_reducible exact H | (rw [hy180]; exact H) | exact H
             have Ny180 := Qx hy180; clear hy180
             have c41b0 := eq_true (of_decide_eq_true as_ : 0 ≤ x8_3)
             have c42b0 := eq_true (of_decide_eq_true as_ : x8_3 ≤ (x5_2.length : Int))
             obtain ⟨y183, hy183⟩ : ∃ y_ : List Int, y_ = (x5_2.drop (x8_3 : Int).toNat) := ⟨_, rfl⟩
             replace H : (if y180.length + y183.length < 17592186044416 then (spec_l1Cur_sorted.l0 k3 a1 (y180 ++ y183) (wrap64 (x6_2 - 1)) s0_0 t147 t148) else (none)) = some (r1, r2, r3) := by first | (rw [hy183]; with_reducible exact H) | (have H2_ := (Option.bind_some _ _).symm.trans H; rw [hy183]; with_reducible exact H2_) | (have H2_ := (Option.bind_some _ _).symm.trans H; with_reducible exact H2_) | with_reducible exact H | (rw [hy183]; exact H) | exact H
             have Ny183 := Qx hy183; clear hy183
             by_cases c43 : y180.length + y183.length < 17592186044416
             ·rw [if_pos c43] at H; have LMc43 := Qx c43; clear c43
              obtain ⟨y187, hy187⟩ : ∃ y_ : List Int, y_ = (y180 ++ y183) := ⟨_, rfl⟩
              replace H : (spec_l1Cur_sorted.l0 k3 a1 y187 (wrap64 (x6_2 - 1)) s0_0 t147 t148) = some (r1, r2, r3) := by first | (rw [hy187]; with_reducible exact H) | (have H2_ := (Option.bind_some _ _).symm.trans H; rw [hy187]; with_reducible exact H2_) | (have H2_ := (Option.bind_some _ _).symm.trans H; with_reducible exact H2_) | with_reducible exact H | (rw [hy187]; exact H) | exact H
              have Ny187 := Qx hy187; clear hy187; have H' := Qx H; clear H; obtain ⟨Ao44, co44, eo44⟩ := Kd.R_slice HO_5.out; subst eo44
              try go_wp2
              replace HO_5 := Qx (Qrd HO_5.out)
              replace HI0 := Qx (IsS43.drew HI0.out)
              replace HK := Qx (keep_drew HK.out)
              replace HB := Qx (Qd HB.out)
              have q46 : (x8_3 : Int) ≤ ((x5_2.length : Int) : Int) := of_decide_eq_true as_
              obtain ⟨i046, hi046, _, hsz46, _⟩ := info_parts info3
              have hroom46 : x5_2.length ≤ co44 := (Kd.R_reads' HO_5.out).2.1
              have hC46 : Kd.C (Kd.int .i64) _ Ao44 x5_2.length x5_2 := (Kd.R_reads' HO_5.out).2.2
              have hcut46 := cut_to (P := Try.prog) 24 3 .i64 Try.underlying24 hi046 Ao44 x5_2.length co44 x8_3 (of_decide_eq_true as_) q46 hroom46
              have hr46 := Kd.C_take (m := (x8_3 : Int).toNat) hC46 (by omega)
              have hy46 : y170.length = (x8_3 : Int).toNat := (by rw [Ny170.out, List.length_take]; omega)
              rw [← Ny170.out] at hr46; rw [← hy46] at hcut46; have HR173 := Qx hr46
              have HC173 := Qx (show y170.length ≤ co44 from by omega)
              clear hr46 hC46 hroom46 hi046 hsz46; have KY46 := Qx hy46; clear hy46
              have KL46 := Qx (show (x8_3 : Int).toNat ≤ x5_2.length from by omega)
              replace q46 := eq_true q46
              have q47 : (x8_3 : Int) ≤ ((x5_2.length : Int) : Int) := of_decide_eq_true as_
              obtain ⟨i047, hi047, _, hsz47, _⟩ := info_parts info3
              have hroom47 : x5_2.length ≤ co44 := (Kd.R_reads' HO_5.out).2.1
              have hC47 : Kd.C (Kd.int .i64) _ Ao44 x5_2.length x5_2 := (Kd.R_reads' HO_5.out).2.2
              have q047 : (0 : Int) ≤ (x8_3 : Int) := of_decide_eq_true as_
              have hcut47 := cut_from (P := Try.prog) 24 3 .i64 Try.underlying24 hi047 1 hsz47 Ao44 x5_2.length co44 x8_3 q047 q47
              have hr47 := Kd.C_drop (m := (x8_3 : Int).toNat) (c := co44) hC47 (by omega) hroom47
              obtain ⟨A47, hA47⟩ : ∃ A1, A1 = (if co44 = (x8_3 : Int).toNat then Ao44 else (Ao44 : Option Addr).map (·.add ((x8_3 : Int).toNat * 1))) := ⟨_, rfl⟩
              obtain ⟨c47, hc47⟩ : ∃ c1, c1 = co44 - (x8_3 : Int).toNat := ⟨_, rfl⟩
              have hy47 : y183.length = x5_2.length - (x8_3 : Int).toNat := (by rw [Ny183.out, List.length_drop] <;> omega)
              rw [show (x5_2).drop (x8_3 : Int).toNat = y183 from Ny183.out.symm] at hr47
              replace hr47 : Kd.C (Kd.int .i64) _ A47 y183.length y183 := (by rw [hA47]; exact hr47)
              rw [← hy47, ← hA47, ← hc47] at hcut47; have HR186 := Qx hr47
              have HC186 := Qx (show y183.length ≤ c47 from by rw [hy47, hc47]; exact Nat.sub_le_sub_right hroom47 _)
              clear hr47 hC47 hroom47 hi047 hsz47 hc47; have KY47 := Qx hy47; have KA47 := Qx hA47; clear hy47 hA47
              have KL47 := Qx (show (x8_3 : Int).toNat ≤ x5_2.length from by omega)
              replace q47 := eq_true q47
              refine start_ (n := 12) (S := fun w' => True) (ds := []) #[false, false, false, false, false, false, false, false, false, false, false, false] (by kernel_rfl) rfl rfl trivial (fun hHeld => ?_); refine with_tabW spec_l1Cur_sorted.tab11 spec_l1Cur_sorted.bits11 (fun HT_ HW_ => ?_)
              generalize wr.drew = w45 at HO_5 HI0 HK HB HR173 HR186 hHeld ⊢
              refine pr_ 0 38 12 1 ?_
              refine pr_ 1 39 12 3 ?_
              refine pr_ 2 40 12 7 ?_
              refine pr_ 4 42 12 23 ?_
              refine pr_ 7 45 12 151 ?_
              refine pr_ 8 46 12 407 ?_
              refine pr_ 9 47 12 919 ?_
              refine join_ (σ := Value × Value) 3 #[true, true, true, true, true, true, false, true, true, true, false, false] (fun s_ => [(41, s_.1), (43, s_.2)]) (fun s_ w' => (Kd.R (Kd.int .i64) 3 w' w.heap.size (fun k_ => some k_ ≠ (s_.2 : Value).ownBlock ∧ some k_ ≠ (.slice Ao44 x5_2.length co44 : Value).ownBlock) s_.1 t174) ∧ (Kd.R (Kd.int .i64) 3 w' w.heap.size (fun k_ => some k_ ≠ (s_.1 : Value).ownBlock ∧ some k_ ≠ (.slice Ao44 x5_2.length co44 : Value).ownBlock) s_.2 y177) ∧ (Kd.R (Kd.int .i64) 3 w' w.heap.size (fun k_ => some k_ ≠ (s_.1 : Value).ownBlock ∧ some k_ ≠ (s_.2 : Value).ownBlock) (.slice Ao44 x5_2.length co44) x5_2) ∧ (IsS43 w0 w' g s0_0 t147 t148) ∧ (KeepBut w w' g none) ∧ (Below w0.heap.size w0 w')) ?_ ?_
              rotate_left
              ·intro hCont
               refine two_ (i := 3) (j := 5) (Ni := some 41) (Nj := some 43) (bsA 12 927) #[true, true, true, false, true, true, false, true, true, true, false, false] rfl rfl rfl rfl (two_of HT_.out (by kernel_rfl)) (by decide) (by decide) (fun K hK => ?_) (fun K hK => ?_)
               ·skip
                refine goes_ Try.func31 (by kernel_rfl) rfl #[.slice Ao44 y170.length co44] (by rfl) rfl rfl (by (try simp only [List.map_toArray, List.map_cons, List.map_nil]); first | done | rfl | (simp only [List.length_drop, List.length_take]; rfl)) ?_
                with_reducible refine (spec_l1Own.calls _ _ y170 t174 _ ?side1 ?side2 A39.out).mono ?_
                (case side1 => repeat (first | exact (by repeat (first | (with_reducible exact HR173.out) | (with_reducible refine Kd.C_alloc ?_ _) | (with_reducible refine Kd.C_drewN ?_ _) | (with_reducible refine Kd.C_drew ?_) | exact HR173.out)) | (with_reducible refine Kd.C_alloc ?_ _) | (with_reducible refine Kd.C_drewN ?_ _) | (with_reducible refine Kd.C_drew ?_)))
                (case side2 => exact HC173.out)
                rintro e w48 ⟨v175, rfl, ho0, hb⟩
                refine ⟨_, rfl, ?_⟩
                have HO176 := Qx (Kd.R_lower (Kd.R_new' ho0 (Kd.R_lt (kR_ HO_5))) (keep_size (w := w) (g := g) (row := none) (by repeat (first | (with_reducible first | exact HK.out | apply KeepBut.set_ | apply keep_drewN | apply keep_drew | apply keep_alloc) | exact HK.out))))
                replace HO_5 := Qx (Kd.R_elder' (kR_ HO_5) (Kd.R_base ho0) hb)
                replace HR173 := Qx (Kd.C_below (by repeat (first | (with_reducible exact HR173.out) | (with_reducible refine Kd.C_alloc ?_ _) | (with_reducible refine Kd.C_drewN ?_ _) | (with_reducible refine Kd.C_drew ?_) | exact HR173.out)) hb)
                replace HR186 := Qx (Kd.C_below (by repeat (first | (with_reducible exact HR186.out) | (with_reducible refine Kd.C_alloc ?_ _) | (with_reducible refine Kd.C_drewN ?_ _) | (with_reducible refine Kd.C_drew ?_) | exact HR186.out)) hb)
                replace HK := Qx (KeepBut.trans (by repeat (first | (with_reducible first | exact HK.out | apply KeepBut.set_ | apply keep_drewN | apply keep_drew | apply keep_alloc) | exact HK.out)) (KeepBut.of_below hb g none) (.inl rfl))
                replace HB := Qx (Qp (by repeat (first | (with_reducible first | exact HB.out | apply Qa | apply Qn | apply Qd | refine Qs ?_ (IsS43.ge HI0.out)) | exact HB.out)) hb)
                replace HI0 := Qx (IsS43.below (by repeat (first | (with_reducible first | exact HI0.out | apply IsS43.alloc | apply IsS43.drewN | apply IsS43.drew | apply IsS43.set_1 | apply IsS43.set_2) | exact HI0.out)) hb)
                (try clear hb); (try clear hb2); (try clear hk); (try clear hi); (try clear ho0)
                refine hK.out _ _ trivial (fun hHeld => ?_)
                clear hK K
                refine norm_ (a' := ?_) ?_ ?_
                rotate_left
                ·show Act.put _ (some 41) _ = _
                 simp only [Act.put, List.setIfInBounds_toArray, List.set_cons_zero, List.set_cons_succ, i64_w]
                 rfl
                refine one_ (i := 5) (N := some 43) (bsA 12 959) rfl rfl (one_of HT_.out (by kernel_rfl)) (by decide) (fun K hK => ?_)
                refine Kd.R_lit_step (Kd.int .i64) _ 3 ?hg (N := 43) ?hd (xs := ([t146] : List Int)) (inner := [.int .i64 t146]) (ok := fun _ => True) (okp := fun _ => True) ?hr ?hp (fun _ hk => hk) trivial (Below.refl _ _) (Nat.le_refl _) (by simp) ?_; (case hd => rfl); (case hg => rfl); (case hr => first | (go_simp; done) | (go_simp; rfl)); (case hp => exact (Reps.one (show Kd.M (Kd.int .i64) _ _ _ t146 [.int .i64 t146] from rfl) (Reps.none _ _)))
                intro v178 w49 ho50 hb hg_ hnew_
                clear hg_ hnew_
                (first | rw [← Ny177.out] at ho50 | (simp only [Int.reduceToNat] at ho50; rw [← Ny177.out] at ho50))
                have HO179 := Qx (Kd.R_lower (Kd.R_new' (Kd.R_new' ho50 (Kd.R_lt (kR_ HO_5))) (Kd.R_lt (kR_ HO176))) (keep_size (w := w) (g := g) (row := none) (by repeat (first | (with_reducible first | exact HK.out | apply KeepBut.set_ | apply keep_drewN | apply keep_drew | apply keep_alloc) | exact HK.out))))
                replace HO_5 := Qx (Kd.R_elder' (kR_ HO_5) (Kd.R_base ho50) hb)
                replace HO176 := Qx (Kd.R_elder' (kR_ HO176) (Kd.R_base ho50) hb)
                replace HR173 := Qx (Kd.C_below (by repeat (first | (with_reducible exact HR173.out) | (with_reducible refine Kd.C_alloc ?_ _) | (with_reducible refine Kd.C_drewN ?_ _) | (with_reducible refine Kd.C_drew ?_) | exact HR173.out)) hb)
                replace HR186 := Qx (Kd.C_below (by repeat (first | (with_reducible exact HR186.out) | (with_reducible refine Kd.C_alloc ?_ _) | (with_reducible refine Kd.C_drewN ?_ _) | (with_reducible refine Kd.C_drew ?_) | exact HR186.out)) hb)
                replace HK := Qx (KeepBut.trans (by repeat (first | (with_reducible first | exact HK.out | apply KeepBut.set_ | apply keep_drewN | apply keep_drew | apply keep_alloc) | exact HK.out)) (KeepBut.of_below hb g none) (.inl rfl))
                replace HB := Qx (Qp (by repeat (first | (with_reducible first | exact HB.out | apply Qa | apply Qn | apply Qd | refine Qs ?_ (IsS43.ge HI0.out)) | exact HB.out)) hb)
                replace HI0 := Qx (IsS43.below (by repeat (first | (with_reducible first | exact HI0.out | apply IsS43.alloc | apply IsS43.drewN | apply IsS43.drew | apply IsS43.set_1 | apply IsS43.set_2) | exact HI0.out)) hb)
                clear hb ho50
                refine hK.out _ _ trivial (fun hHeld => ?_)
                clear hK K
                refine norm_ (a' := ?_) ?_ ?_
                rotate_left
                ·show Act.put _ (some 43) _ = _
                 simp only [Act.put, List.setIfInBounds_toArray, List.set_cons_zero, List.set_cons_succ, i64_w]
                 rfl
                exact norm_ (by simp only [putAll, Act.put, List.setIfInBounds_toArray, List.set_cons_zero, List.set_cons_succ]) (hCont (v175, v178) _ ⟨(by (with_reducible repeat (first | apply Qra | apply Qrn | apply Qrd)); exact Qrm HO176.out (fun _ hk => ⟨hk.2, hk.1.2⟩)), (by (with_reducible repeat (first | apply Qra | apply Qrn | apply Qrd)); exact Qrm HO179.out (fun _ hk => ⟨hk.2, hk.1.2⟩)), (by (with_reducible repeat (first | apply Qra | apply Qrn | apply Qrd)); exact Qrm HO_5.out (fun _ hk => ⟨hk.1.2, hk.2⟩)), (by repeat (first | (with_reducible first | exact HI0.out | apply IsS43.alloc | apply IsS43.drewN | apply IsS43.drew | apply IsS43.set_1 | apply IsS43.set_2) | exact HI0.out)), (by repeat (first | (with_reducible first | exact HK.out | apply KeepBut.set_ | apply keep_drewN | apply keep_drew | apply keep_alloc) | exact HK.out)), (by repeat (first | (with_reducible first | exact HB.out | apply Qa | apply Qn | apply Qd | refine Qs ?_ (IsS43.ge HI0.out)) | exact HB.out))⟩)
               ·skip
                refine Kd.R_lit_step (Kd.int .i64) _ 3 ?hg (N := 43) ?hd (xs := ([t146] : List Int)) (inner := [.int .i64 t146]) (ok := fun _ => True) (okp := fun _ => True) ?hr ?hp (fun _ hk => hk) trivial (Below.refl _ _) (Nat.le_refl _) (by simp) ?_; (case hd => rfl); (case hg => rfl); (case hr => first | (go_simp; done) | (go_simp; rfl)); (case hp => exact (Reps.one (show Kd.M (Kd.int .i64) _ _ _ t146 [.int .i64 t146] from rfl) (Reps.none _ _)))
                intro v178 w48 ho49 hb hg_ hnew_
                clear hg_ hnew_
                (first | rw [← Ny177.out] at ho49 | (simp only [Int.reduceToNat] at ho49; rw [← Ny177.out] at ho49))
                have HO179 := Qx (Kd.R_lower (Kd.R_new' ho49 (Kd.R_lt (kR_ HO_5))) (keep_size (w := w) (g := g) (row := none) (by repeat (first | (with_reducible first | exact HK.out | apply KeepBut.set_ | apply keep_drewN | apply keep_drew | apply keep_alloc) | exact HK.out))))
                replace HO_5 := Qx (Kd.R_elder' (kR_ HO_5) (Kd.R_base ho49) hb)
                replace HR173 := Qx (Kd.C_below (by repeat (first | (with_reducible exact HR173.out) | (with_reducible refine Kd.C_alloc ?_ _) | (with_reducible refine Kd.C_drewN ?_ _) | (with_reducible refine Kd.C_drew ?_) | exact HR173.out)) hb)
                replace HR186 := Qx (Kd.C_below (by repeat (first | (with_reducible exact HR186.out) | (with_reducible refine Kd.C_alloc ?_ _) | (with_reducible refine Kd.C_drewN ?_ _) | (with_reducible refine Kd.C_drew ?_) | exact HR186.out)) hb)
                replace HK := Qx (KeepBut.trans (by repeat (first | (with_reducible first | exact HK.out | apply KeepBut.set_ | apply keep_drewN | apply keep_drew | apply keep_alloc) | exact HK.out)) (KeepBut.of_below hb g none) (.inl rfl))
                replace HB := Qx (Qp (by repeat (first | (with_reducible first | exact HB.out | apply Qa | apply Qn | apply Qd | refine Qs ?_ (IsS43.ge HI0.out)) | exact HB.out)) hb)
                replace HI0 := Qx (IsS43.below (by repeat (first | (with_reducible first | exact HI0.out | apply IsS43.alloc | apply IsS43.drewN | apply IsS43.drew | apply IsS43.set_1 | apply IsS43.set_2) | exact HI0.out)) hb)
                clear hb ho49
                refine hK.out _ _ trivial (fun hHeld => ?_)
                clear hK K
                refine norm_ (a' := ?_) ?_ ?_
                rotate_left
                ·show Act.put _ (some 43) _ = _
                 simp only [Act.put, List.setIfInBounds_toArray, List.set_cons_zero, List.set_cons_succ, i64_w]
                 rfl
                refine one_ (i := 3) (N := some 41) (bsA 12 959) rfl rfl (one_of HT_.out (by kernel_rfl)) (by decide) (fun K hK => ?_)
                refine goes_ Try.func31 (by kernel_rfl) rfl #[.slice Ao44 y170.length co44] (by rfl) rfl rfl (by (try simp only [List.map_toArray, List.map_cons, List.map_nil]); first | done | rfl | (simp only [List.length_drop, List.length_take]; rfl)) ?_
                with_reducible refine (spec_l1Own.calls _ _ y170 t174 _ ?side1 ?side2 A39.out).mono ?_
                (case side1 => repeat (first | exact (by repeat (first | (with_reducible exact HR173.out) | (with_reducible refine Kd.C_alloc ?_ _) | (with_reducible refine Kd.C_drewN ?_ _) | (with_reducible refine Kd.C_drew ?_) | exact HR173.out)) | (with_reducible refine Kd.C_alloc ?_ _) | (with_reducible refine Kd.C_drewN ?_ _) | (with_reducible refine Kd.C_drew ?_)))
                (case side2 => exact HC173.out)
                rintro e w50 ⟨v175, rfl, ho0, hb⟩
                refine ⟨_, rfl, ?_⟩
                have HO176 := Qx (Kd.R_lower (Kd.R_new' (Kd.R_new' ho0 (Kd.R_lt (kR_ HO_5))) (Kd.R_lt (kR_ HO179))) (keep_size (w := w) (g := g) (row := none) (by repeat (first | (with_reducible first | exact HK.out | apply KeepBut.set_ | apply keep_drewN | apply keep_drew | apply keep_alloc) | exact HK.out))))
                replace HO_5 := Qx (Kd.R_elder' (kR_ HO_5) (Kd.R_base ho0) hb)
                replace HO179 := Qx (Kd.R_elder' (kR_ HO179) (Kd.R_base ho0) hb)
                replace HR173 := Qx (Kd.C_below (by repeat (first | (with_reducible exact HR173.out) | (with_reducible refine Kd.C_alloc ?_ _) | (with_reducible refine Kd.C_drewN ?_ _) | (with_reducible refine Kd.C_drew ?_) | exact HR173.out)) hb)
                replace HR186 := Qx (Kd.C_below (by repeat (first | (with_reducible exact HR186.out) | (with_reducible refine Kd.C_alloc ?_ _) | (with_reducible refine Kd.C_drewN ?_ _) | (with_reducible refine Kd.C_drew ?_) | exact HR186.out)) hb)
                replace HK := Qx (KeepBut.trans (by repeat (first | (with_reducible first | exact HK.out | apply KeepBut.set_ | apply keep_drewN | apply keep_drew | apply keep_alloc) | exact HK.out)) (KeepBut.of_below hb g none) (.inl rfl))
                replace HB := Qx (Qp (by repeat (first | (with_reducible first | exact HB.out | apply Qa | apply Qn | apply Qd | refine Qs ?_ (IsS43.ge HI0.out)) | exact HB.out)) hb)
                replace HI0 := Qx (IsS43.below (by repeat (first | (with_reducible first | exact HI0.out | apply IsS43.alloc | apply IsS43.drewN | apply IsS43.drew | apply IsS43.set_1 | apply IsS43.set_2) | exact HI0.out)) hb)
                (try clear hb); (try clear hb2); (try clear hk); (try clear hi); (try clear ho0)
                refine hK.out _ _ trivial (fun hHeld => ?_)
                clear hK K
                refine norm_ (a' := ?_) ?_ ?_
                rotate_left
                ·show Act.put _ (some 41) _ = _
                 simp only [Act.put, List.setIfInBounds_toArray, List.set_cons_zero, List.set_cons_succ, i64_w]
                 rfl
                exact norm_ (by simp only [putAll, Act.put, List.setIfInBounds_toArray, List.set_cons_zero, List.set_cons_succ]) (hCont (v175, v178) _ ⟨(by (with_reducible repeat (first | apply Qra | apply Qrn | apply Qrd)); exact Qrm HO176.out (fun _ hk => ⟨hk.2, hk.1.2⟩)), (by (with_reducible repeat (first | apply Qra | apply Qrn | apply Qrd)); exact Qrm HO179.out (fun _ hk => ⟨hk.2, hk.1.2⟩)), (by (with_reducible repeat (first | apply Qra | apply Qrn | apply Qrd)); exact Qrm HO_5.out (fun _ hk => ⟨hk.2, hk.1.2⟩)), (by repeat (first | (with_reducible first | exact HI0.out | apply IsS43.alloc | apply IsS43.drewN | apply IsS43.drew | apply IsS43.set_1 | apply IsS43.set_2) | exact HI0.out)), (by repeat (first | (with_reducible first | exact HK.out | apply KeepBut.set_ | apply keep_drewN | apply keep_drew | apply keep_alloc) | exact HK.out)), (by repeat (first | (with_reducible first | exact HB.out | apply Qa | apply Qn | apply Qd | refine Qs ?_ (IsS43.ge HI0.out)) | exact HB.out))⟩)
              rintro ⟨v175, v178⟩ w51 ⟨h0_, h1_, h2_, h3_, h4_, h5_⟩
              have n0_ : Aside0 (Kd.R (Kd.int .i64) 3 w51 w.heap.size (fun k_ => some k_ ≠ (v178 : Value).ownBlock ∧ some k_ ≠ (.slice Ao44 x5_2.length co44 : Value).ownBlock) v175 t174) := ⟨h0_⟩
              have n1_ : Aside0 (Kd.R (Kd.int .i64) 3 w51 w.heap.size (fun k_ => some k_ ≠ (v175 : Value).ownBlock ∧ some k_ ≠ (.slice Ao44 x5_2.length co44 : Value).ownBlock) v178 y177) := ⟨h1_⟩
              have n2_ : Aside0 (Kd.R (Kd.int .i64) 3 w51 w.heap.size (fun k_ => some k_ ≠ (v175 : Value).ownBlock ∧ some k_ ≠ (v178 : Value).ownBlock) (.slice Ao44 x5_2.length co44) x5_2) := ⟨h2_⟩
              have n3_ : Aside0 (IsS43 w0 w51 g s0_0 t147 t148) := ⟨h3_⟩
              have n4_ : Aside0 (KeepBut w w51 g none) := ⟨h4_⟩
              have n5_ : Aside0 (Below w0.heap.size w0 w51) := ⟨h5_⟩
              clear HO_5 HI0 HK HB h0_ h1_ h2_ h3_ h4_ h5_; have HO176 := n0_; have HO179 := n1_; have HO_5 := n2_; have HI0 := n3_; have HK := n4_; have HB := n5_; clear n0_ n1_ n2_ n3_ n4_ n5_; have hHeld := trivial
              have HR173 := Qx (show Kd.C (Kd.int .i64) w51 Ao44 y170.length y170 from by rw [Ny170.out]; exact Kd.C_take (m := (x8_3 : Int).toNat) ((Kd.R_reads' HO_5.out).2.2) KL46.out)
              have HR186 := Qx (show Kd.C (Kd.int .i64) w51 A47 y183.length y183 from by rw [Ny183.out, KA47.out]; exact Kd.C_drop (m := (x8_3 : Int).toNat) (c := co44) ((Kd.R_reads' HO_5.out).2.2) KL47.out ((Kd.R_reads' HO_5.out).2.1))
              obtain ⟨Ao53, co53, eo53⟩ := Kd.R_slice HO179.out
              (first | subst eo53 | (injection eo53 with f1_ f2_ f3_; have f4_ := f1_.symm; have f5_ := f3_.symm; clear f1_ f2_ f3_; subst f4_; subst f5_))
              refine norm_ (a' := ?_) ?_ ?_
              rotate_left
              ·simp only [putAll, Act.put, List.setIfInBounds_toArray, List.set_cons_zero, List.set_cons_succ]
               rfl
              refine one_ (i := 6) (N := some 44) (bsA 12 1023) rfl rfl (one_of HT_.out (by kernel_rfl)) (by decide) (fun K hK => ?_)
              refine Kd.R_append_rows_step (Kd.int .i64) w.heap.size (by rfl) (.tmp 41) (.tmp 43) 24 3 (.int .i64 0) 8 rfl Try.underlying24 info3 rfl (by decide) (by omega) v175 t174 y177 _ _ _ (fun k_ => some k_ ≠ (.slice Ao44 x5_2.length co44 : Value).ownBlock ∧ some k_ ≠ (.slice Ao53 y177.length co53 : Value).ownBlock) (fun _ => False) rfl rfl ?aO ?aR (fun _ _ h => h) (fun _ h => h.elim) ?aF (Below.refl _ _) ?aS ?aL ?_
              (case aR => repeat (first | exact (Kd.R_reads' HO179.out).2.2 | (with_reducible refine Kd.C_alloc ?_ _) | (with_reducible refine Kd.C_drewN ?_ _) | (with_reducible refine Kd.C_drew ?_)))
              (case aF => exact (fun k_ hk => ⟨Kd.fresh' (Kd.R_lt (kR_ HO_5)) k_ hk, Kd.fresh' (Kd.R_lt (kR_ HO179)) k_ hk⟩))
              (case aO => exact (by (with_reducible repeat (first | apply Qra | apply Qrn | apply Qrd)); exact Qrm HO176.out (fun _ hk => ⟨hk.2, hk.1⟩)))
              (case aS => exact (keep_size (w := w) (g := g) (row := none) (by repeat (first | (with_reducible first | exact HK.out | apply KeepBut.set_ | apply keep_drewN | apply keep_drew | apply keep_alloc) | exact HK.out))))
              (case aL => have := LMc40.out; omega)
              intro v181 w52 ho hb hg hat
              rw [← Ny180.out] at ho
              have n0_ := Qx (Kd.R_after (ok := (fun k_ => some k_ ≠ (.slice Ao53 y177.length co53 : Value).ownBlock)) (by (with_reducible repeat (first | apply Qra | apply Qrn | apply Qrd)); exact Qrm HO_5.out (fun _ hk => ⟨hk.2, hk.1⟩)) hg hat)
              have n1_ := Qx (IsS43.grown (by repeat (first | (with_reducible first | exact HI0.out | apply IsS43.alloc | apply IsS43.drewN | apply IsS43.drew | apply IsS43.set_1 | apply IsS43.set_2) | exact HI0.out)) hg (IsS43.own_ne HI0.out HO176.out (by decide)))
              have n2_ := Qx (Kd.R_after (ok := (fun k_ => some k_ ≠ (.slice Ao44 x5_2.length co44 : Value).ownBlock)) (by (with_reducible repeat (first | apply Qra | apply Qrn | apply Qrd)); exact Qrm HO179.out (fun _ hk => ⟨hk.2, hk.1⟩)) hg hat)
              have n3_ := Qx (below_weaken (by repeat (first | (with_reducible first | exact HB.out | apply Qa | apply Qn | apply Qd | refine Qs ?_ (IsS43.ge HI0.out)) | exact HB.out)) HL.out hb)
              have n4_ := Qx (KeepBut.trans (by repeat (first | (with_reducible first | exact HK.out | apply KeepBut.set_ | apply keep_drewN | apply keep_drew | apply keep_alloc) | exact HK.out)) (KeepBut.of_grown hg g) (Kd.R_base2 HO176.out))
              have n5_ := Qx ((show Kd.C (Kd.int .i64) w52 Ao44 y170.length y170 from by rw [Ny170.out]; exact Kd.C_take (m := (x8_3 : Int).toNat) ((Kd.R_reads' (Kd.R_after (ok := (fun k_ => some k_ ≠ (.slice Ao53 y177.length co53 : Value).ownBlock)) (by (with_reducible repeat (first | apply Qra | apply Qrn | apply Qrd)); exact Qrm HO_5.out (fun _ hk => ⟨hk.2, hk.1⟩)) hg hat)).2.2) KL46.out))
              have n6_ := Qx ((show Kd.C (Kd.int .i64) w52 A47 y183.length y183 from by rw [Ny183.out, KA47.out]; exact Kd.C_drop (m := (x8_3 : Int).toNat) (c := co44) ((Kd.R_reads' (Kd.R_after (ok := (fun k_ => some k_ ≠ (.slice Ao53 y177.length co53 : Value).ownBlock)) (by (with_reducible repeat (first | apply Qra | apply Qrn | apply Qrd)); exact Qrm HO_5.out (fun _ hk => ⟨hk.2, hk.1⟩)) hg hat)).2.2) KL47.out ((Kd.R_reads' (Kd.R_after (ok := (fun k_ => some k_ ≠ (.slice Ao53 y177.length co53 : Value).ownBlock)) (by (with_reducible repeat (first | apply Qra | apply Qrn | apply Qrd)); exact Qrm HO_5.out (fun _ hk => ⟨hk.2, hk.1⟩)) hg hat)).2.1)))
              have n7_ := Qx (ho)
              clear HO_5 HI0 HO179 HB HK HR173 HR186 HO176; have HO_5 := n0_; have HI0 := n1_; have HO179 := n2_; have HB := n3_; have HK := n4_; have HR173 := n5_; have HR186 := n6_; have HO182 := n7_; clear n0_ n1_ n2_ n3_ n4_ n5_ n6_ n7_ ho hb hg hat
              refine hK.out _ _ trivial (fun hHeld => ?_)
              clear hK K
              refine norm_ (a' := ?_) ?_ ?_
              rotate_left
              ·show Act.put _ (some 44) _ = _
               simp only [Act.put, List.setIfInBounds_toArray, List.set_cons_zero, List.set_cons_succ, i64_w]
               rfl
              refine one_ (i := 10) (N := some 48) (bsA 12 2047) rfl rfl (one_of HT_.out (by kernel_rfl)) (by decide) (fun K hK => ?_)
              refine Kd.R_append_rows_step (Kd.int .i64) w.heap.size (by rfl) (.tmp 44) (.tmp 47) 24 3 (.int .i64 0) 8 rfl Try.underlying24 info3 rfl (by decide) (by omega) v181 y180 y183 _ _ _ (fun k_ => some k_ ≠ (.slice Ao44 x5_2.length co44 : Value).ownBlock ∧ some k_ ≠ (.slice Ao53 y177.length co53 : Value).ownBlock) (fun _ => False) rfl rfl ?aO ?aR (fun _ _ h => h) (fun _ h => h.elim) ?aF (Below.refl _ _) ?aS ?aL ?_
              (case aR => repeat (first | exact (by repeat (first | (with_reducible exact HR186.out) | (with_reducible refine Kd.C_alloc ?_ _) | (with_reducible refine Kd.C_drewN ?_ _) | (with_reducible refine Kd.C_drew ?_) | exact HR186.out)) | (with_reducible refine Kd.C_alloc ?_ _) | (with_reducible refine Kd.C_drewN ?_ _) | (with_reducible refine Kd.C_drew ?_)))
              (case aF => exact (fun k_ hk => ⟨Kd.fresh' (Kd.R_lt (kR_ HO_5)) k_ hk, Kd.fresh' (Kd.R_lt (kR_ HO179)) k_ hk⟩))
              (case aO => exact (kR_ HO182))
              (case aS => exact (keep_size (w := w) (g := g) (row := none) (by repeat (first | (with_reducible first | exact HK.out | apply KeepBut.set_ | apply keep_drewN | apply keep_drew | apply keep_alloc) | exact HK.out))))
              (case aL => have := LMc43.out; omega)
              intro v188 w54 ho hb hg hat
              rw [← Ny187.out] at ho
              have n0_ := Qx (Kd.R_after (ok := (fun k_ => some k_ ≠ (.slice Ao53 y177.length co53 : Value).ownBlock)) (kR_ HO_5) hg hat)
              have n1_ := Qx (IsS43.grown (by repeat (first | (with_reducible first | exact HI0.out | apply IsS43.alloc | apply IsS43.drewN | apply IsS43.drew | apply IsS43.set_1 | apply IsS43.set_2) | exact HI0.out)) hg (IsS43.own_ne HI0.out HO182.out (by decide)))
              have n2_ := Qx (Kd.R_after (ok := (fun k_ => some k_ ≠ (.slice Ao44 x5_2.length co44 : Value).ownBlock)) (kR_ HO179) hg hat)
              have n3_ := Qx (below_weaken (by repeat (first | (with_reducible first | exact HB.out | apply Qa | apply Qn | apply Qd | refine Qs ?_ (IsS43.ge HI0.out)) | exact HB.out)) HL.out hb)
              have n4_ := Qx (KeepBut.trans (by repeat (first | (with_reducible first | exact HK.out | apply KeepBut.set_ | apply keep_drewN | apply keep_drew | apply keep_alloc) | exact HK.out)) (KeepBut.of_grown hg g) (Kd.R_base2 HO182.out))
              have n5_ := Qx ((show Kd.C (Kd.int .i64) w54 Ao44 y170.length y170 from by rw [Ny170.out]; exact Kd.C_take (m := (x8_3 : Int).toNat) ((Kd.R_reads' (Kd.R_after (ok := (fun k_ => some k_ ≠ (.slice Ao53 y177.length co53 : Value).ownBlock)) (kR_ HO_5) hg hat)).2.2) KL46.out))
              have n6_ := Qx ((show Kd.C (Kd.int .i64) w54 A47 y183.length y183 from by rw [Ny183.out, KA47.out]; exact Kd.C_drop (m := (x8_3 : Int).toNat) (c := co44) ((Kd.R_reads' (Kd.R_after (ok := (fun k_ => some k_ ≠ (.slice Ao53 y177.length co53 : Value).ownBlock)) (kR_ HO_5) hg hat)).2.2) KL47.out ((Kd.R_reads' (Kd.R_after (ok := (fun k_ => some k_ ≠ (.slice Ao53 y177.length co53 : Value).ownBlock)) (kR_ HO_5) hg hat)).2.1)))
              have n7_ := Qx (ho)
              clear HO_5 HI0 HO179 HB HK HR173 HR186 HO182; have HO_5 := n0_; have HI0 := n1_; have HO179 := n2_; have HB := n3_; have HK := n4_; have HR173 := n5_; have HR186 := n6_; have HO189 := n7_; clear n0_ n1_ n2_ n3_ n4_ n5_ n6_ n7_ ho hb hg hat
              refine hK.out _ _ trivial (fun hHeld => ?_)
              clear hK K
              refine norm_ (a' := ?_) ?_ ?_
              rotate_left
              ·show Act.put _ (some 48) _ = _
               simp only [Act.put, List.setIfInBounds_toArray, List.set_cons_zero, List.set_cons_succ, i64_w]
               rfl
              refine pr_ 11 5 12 4095 ?_
              refine done_ (done_of HT_.out (by kernel_rfl)) ?_
              try go_wp2
              go_roundg k3
              case measure => have := HJ4.out; have := HK2.out; have := HK3.out; omega
              case rel => exact ⟨(y187), (wrap64 (x6_2 - 1)), (t147), (t148), rg_, H', ⟨by have := HJ4.out; have := HK2.out; have := HK3.out; omega⟩, ⟨by (with_reducible repeat (first | apply Qra | apply Qrn | apply Qrd)); exact Qrm HO189.out (fun _ hk => trivial)⟩, ⟨by repeat (first | (with_reducible first | exact HI0.out | apply IsS43.alloc | apply IsS43.drewN | apply IsS43.drew | apply IsS43.set_1 | apply IsS43.set_2) | exact HI0.out)⟩, ⟨by repeat (first | (with_reducible first | exact HK.out | apply KeepBut.set_ | apply keep_drewN | apply keep_drew | apply keep_alloc) | exact HK.out)⟩, ⟨by repeat (first | (with_reducible first | exact HB.out | apply Qa | apply Qn | apply Qd | refine Qs ?_ (IsS43.ge HI0.out)) | exact HB.out)⟩⟩
             ·rw [if_neg c43] at H
              exact absurd H (by simp)
            ·rw [if_neg c40] at H
             exact absurd H (by simp)
           ·rw [if_neg c38] at H
            exact absurd H (by simp)
          ·rw [if_neg c37] at H
           exact absurd H (by simp)
      ·rw [if_neg c11] at H
       have c11b0 : decide (0 < x6_2) = false := decide_eq_false c11
       clear c11; have HC55 := Qx H; clear H
       go_upto_region 12 with (fail)
       go_cut [55] (fun v55 wc => ∃ (kq : Nat) (x55_54 : Bool) (x1001_54 : Int) (x1002_54 : Int), v55 = .bool x55_54 ∧ Aside0 (spec_l1Cur_sorted.j3 kq a1 x5_2 x55_54 s0_0 x1001_54 x1002_54 = some (r1, r2, r3)) ∧ Aside0 (kq ≤ k2) ∧ Aside0 (Kd.R (Kd.int .i64) 3 wc w.heap.size (fun _ => True) u5 x5_2) ∧ Aside0 (IsS43 w0 wc g s0_0 x1001_54 x1002_54) ∧ Aside0 (KeepBut w wc g none) ∧ Aside0 (Below w0.heap.size w0 wc))
       case first =>
        have H := HC55.out; clear HC55; replace H := Option.bind_eq_some_iff.mp H; obtain ⟨⟨t190, t191, t192⟩, A560, H⟩ := H
        have A56 := Qx A560; clear A560
        by_cases c57 : t190 = true
        ·subst c57
         have H1 : (spec_l1Cur_sorted.j3 k2 a1 x5_2 (decide ((x5_2.length : Int) > 0)) s0_0 t191 t192) = some (r1, r2, r3) := by rw [if_pos rfl] at H; exact H
         clear H; have H := H1; clear H1; have H' := Qx H; clear H
         go_wp2_with (first | ((with_reducible refine gate_callee (f := 29) rfl ?_); refine gl_ 50 Try.func29 #[.pointer (some ⟨g, 0, none⟩), .int .i64 12] ?_; (with_reducible refine (spec_l1Cur_one.calls g s0_0 x1001_2 x1002_2 12 true t191 t192 w0 _ ?side1 ?side2 A56.out).mono ?_); (case side1 => repeat (first | (with_reducible first | exact HI0.out | apply IsS43.alloc | apply IsS43.drewN | apply IsS43.drew | apply IsS43.set_1 | apply IsS43.set_2) | exact HI0.out)); (case side2 => repeat (first | (with_reducible first | exact HB.out | apply Qa | apply Qn | apply Qd | refine Qs ?_ (IsS43.ge HI0.out)) | exact HB.out)); rintro e w58 ⟨rfl, hi, hb, hk⟩; refine ⟨_, rfl, ?_⟩; replace HO_5 := Qx (Qrm (Kd.R_keep (IsS43.apart (show IsS43 w0 _ g s0_0 x1001_2 x1002_2 from by repeat (first | (with_reducible first | exact HI0.out | apply IsS43.alloc | apply IsS43.drewN | apply IsS43.drew | apply IsS43.set_1 | apply IsS43.set_2) | exact HI0.out)) (kR_ HO_5) (by decide)) hk (fun _ h => h.2)) (fun _ h => h.1)); replace HK := Qx (KeepBut.trans (by repeat (first | (with_reducible first | exact HK.out | apply KeepBut.set_ | apply keep_drewN | apply keep_drew | apply keep_alloc) | exact HK.out)) hk (.inl rfl)); replace HB := Qx (hb); replace HI0 := Qx (hi); (try clear hb); (try clear hb2); (try clear hk); (try clear hi); obtain ⟨Ao59, co59, eo59⟩ := Kd.R_slice HO_5.out; subst eo59))
         go_meet
         case rel => exact ⟨_, (decide ((x5_2.length : Int) > 0)), (t191), (t192), rg_, H', ⟨by have := HJ4.out; have := HK2.out; first | omega | exact Nat.le_refl _⟩, ⟨kR_ HO_5⟩, ⟨by repeat (first | (with_reducible first | exact HI0.out | apply IsS43.alloc | apply IsS43.drewN | apply IsS43.drew | apply IsS43.set_1 | apply IsS43.set_2) | exact HI0.out)⟩, ⟨by repeat (first | (with_reducible first | exact HK.out | apply KeepBut.set_ | apply keep_drewN | apply keep_drew | apply keep_alloc) | exact HK.out)⟩, ⟨by repeat (first | (with_reducible first | exact HB.out | apply Qa | apply Qn | apply Qd | refine Qs ?_ (IsS43.ge HI0.out)) | exact HB.out)⟩⟩
        ·replace c57 := Bool.eq_false_iff.mpr c57; subst c57
         have H1 : (spec_l1Cur_sorted.j3 k2 a1 x5_2 false s0_0 t191 t192) = some (r1, r2, r3) := by rw [if_neg (show ¬ (false = true) by decide)] at H; exact H
         clear H; have H := H1; clear H1; have H' := Qx H; clear H
         go_wp2_with (first | ((with_reducible refine gate_callee (f := 29) rfl ?_); refine gl_ 50 Try.func29 #[.pointer (some ⟨g, 0, none⟩), .int .i64 12] ?_; (with_reducible refine (spec_l1Cur_one.calls g s0_0 x1001_2 x1002_2 12 false t191 t192 w0 _ ?side1 ?side2 A56.out).mono ?_); (case side1 => repeat (first | (with_reducible first | exact HI0.out | apply IsS43.alloc | apply IsS43.drewN | apply IsS43.drew | apply IsS43.set_1 | apply IsS43.set_2) | exact HI0.out)); (case side2 => repeat (first | (with_reducible first | exact HB.out | apply Qa | apply Qn | apply Qd | refine Qs ?_ (IsS43.ge HI0.out)) | exact HB.out)); rintro e w60 ⟨rfl, hi, hb, hk⟩; refine ⟨_, rfl, ?_⟩; replace HO_5 := Qx (Qrm (Kd.R_keep (IsS43.apart (show IsS43 w0 _ g s0_0 x1001_2 x1002_2 from by repeat (first | (with_reducible first | exact HI0.out | apply IsS43.alloc | apply IsS43.drewN | apply IsS43.drew | apply IsS43.set_1 | apply IsS43.set_2) | exact HI0.out)) (kR_ HO_5) (by decide)) hk (fun _ h => h.2)) (fun _ h => h.1)); replace HK := Qx (KeepBut.trans (by repeat (first | (with_reducible first | exact HK.out | apply KeepBut.set_ | apply keep_drewN | apply keep_drew | apply keep_alloc) | exact HK.out)) hk (.inl rfl)); replace HB := Qx (hb); replace HI0 := Qx (hi); (try clear hb); (try clear hb2); (try clear hk); (try clear hi)))
         go_meet
         case rel => exact ⟨_, (false), (t191), (t192), rg_, H', ⟨by have := HJ4.out; have := HK2.out; first | omega | exact Nat.le_refl _⟩, ⟨kR_ HO_5⟩, ⟨by repeat (first | (with_reducible first | exact HI0.out | apply IsS43.alloc | apply IsS43.drewN | apply IsS43.drew | apply IsS43.set_1 | apply IsS43.set_2) | exact HI0.out)⟩, ⟨by repeat (first | (with_reducible first | exact HK.out | apply KeepBut.set_ | apply keep_drewN | apply keep_drew | apply keep_alloc) | exact HK.out)⟩, ⟨by repeat (first | (with_reducible first | exact HB.out | apply Qa | apply Qn | apply Qd | refine Qs ?_ (IsS43.ge HI0.out)) | exact HB.out)⟩⟩
       case rest =>
        clear HC55
        try clear c1
        try clear c2
        try clear p2
        try clear c3
        try clear c4
        try clear q4
        try clear c5
        try clear p6
        try clear c11
        try clear c11b0
        try clear c15
        try clear c15b0
        try clear c16
        try clear c20
        try clear c22
        try clear c25
        try clear c29
        try clear c31
        try clear c37
        try clear c37b0
        try clear c37b1
        try clear c38
        try clear c38b0
        try clear c38b1
        try clear c40
        try clear c41
        try clear c41b0
        try clear c42
        try clear c42b0
        try clear c43
        try clear q46
        try clear c47
        try clear q47
        try clear c57
        try clear q047
        try clear q46
        try clear q47
        obtain ⟨kq, x55_54, x1001_54, x1002_54, rfl, HA, HJ54, HO_5, HI0, HK, HB⟩ := hcut
        cases kq with
        | zero => exact absurd HA.out (by simp [spec_l1Cur_sorted.j3])
        | succ kj54 =>
         have H := HA.out; clear HA; simp only [spec_l1Cur_sorted.j3] at H
         by_cases c61 : x55_54 = true
         ·subst c61
          have H1 : ((spec_l1Cur_pick.f s0_0 x1001_54 x1002_54 (x5_2.length : Int)).bind fun bt193 => ((spec_l1Cur_among.f s0_0 bt193.2.1 bt193.2.2 (([(-1), 0, a1, wrap64 (a1 - 1)] : List Int))).bind fun bt199 => (if 0 ≤ bt193.1 then (if bt193.1 < (x5_2.length : Int) then (some ((x5_2.set (bt193.1 : Int).toNat bt199.1), bt199.2.1, bt199.2.2)) else (none)) else (none)))) = some (r1, r2, r3) := by rw [if_pos rfl] at H; exact H
          clear H; have H := H1; clear H1; replace H := Option.bind_eq_some_iff.mp H; obtain ⟨⟨t193, t194, t195⟩, A620, H⟩ := H
          have A62 := Qx A620; clear A620
          obtain ⟨y196, hy196⟩ : ∃ y_ : List Int, y_ = (([(-1), 0, a1, wrap64 (a1 - 1)] : List Int)) := ⟨_, rfl⟩
          replace H : ((spec_l1Cur_among.f s0_0 t194 t195 y196).bind fun bt199 => (if 0 ≤ t193 then (if t193 < (x5_2.length : Int) then (some ((x5_2.set (t193 : Int).toNat bt199.1), bt199.2.1, bt199.2.2)) else (none)) else (none))) = some (r1, r2, r3) := by first | (rw [hy196]; with_reducible exact H) | (have H2_ := (Option.bind_some _ _).symm.trans H; rw [hy196]; with_reducible exact H2_) | (have H2_ := (Option.bind_some _ _).symm.trans H; with_reducible exact H2_) | with_reducible exact H | (rw [hy196]; exact H) | exact H
          have Ny196 := Qx hy196; clear hy196; replace H := Option.bind_eq_some_iff.mp H; obtain ⟨⟨t199, t200, t201⟩, A630, H⟩ := H
          have A63 := Qx A630; clear A630
          by_cases c64 : 0 ≤ t193
          ·rw [if_pos c64] at H
           have c64b0 : decide (0 ≤ t193) = true := decide_eq_true c64
           clear c64
           by_cases c65 : t193 < (x5_2.length : Int)
           ·rw [if_pos c65] at H
            have c65b0 : decide (t193 < (x5_2.length : Int)) = true := decide_eq_true c65
            clear c65
            obtain ⟨y202, hy202⟩ : ∃ y_ : List Int, y_ = (x5_2.set (t193 : Int).toNat t199) := ⟨_, rfl⟩
            replace H : (some (y202, t200, t201)) = some (r1, r2, r3) := by first | (rw [hy202]; with_reducible exact H) | (have H2_ := (Option.bind_some _ _).symm.trans H; rw [hy202]; with_reducible exact H2_) | (have H2_ := (Option.bind_some _ _).symm.trans H; with_reducible exact H2_) | with_reducible exact H | (rw [hy202]; exact H) | exact H
            have Ny202 := Qx hy202; clear hy202; simp only [Option.some.injEq, Prod.mk.injEq] at H; obtain ⟨rfl, rfl, rfl⟩ := H; obtain ⟨Ao67, co67, eo67⟩ := Kd.R_slice HO_5.out; subst eo67
            go_wp2_with (first | ((with_reducible refine gate_callee (f := 27) rfl ?_); refine gl_ 60 Try.func27 #[.pointer (some ⟨g, 0, none⟩), .int .i64 (x5_2.length : Int)] ?_; (with_reducible refine (spec_l1Cur_pick.calls g s0_0 x1001_54 x1002_54 (x5_2.length : Int) t193 t194 t195 w0 _ ?side1 ?side2 A62.out).mono ?_); (case side1 => repeat (first | (with_reducible first | exact HI0.out | apply IsS43.alloc | apply IsS43.drewN | apply IsS43.drew | apply IsS43.set_1 | apply IsS43.set_2) | exact HI0.out)); (case side2 => repeat (first | (with_reducible first | exact HB.out | apply Qa | apply Qn | apply Qd | refine Qs ?_ (IsS43.ge HI0.out)) | exact HB.out)); rintro e w68 ⟨rfl, hi, hb, hk⟩; refine ⟨_, rfl, ?_⟩; replace HO_5 := Qx (Qrm (Kd.R_keep (IsS43.apart (show IsS43 w0 _ g s0_0 x1001_54 x1002_54 from by repeat (first | (with_reducible first | exact HI0.out | apply IsS43.alloc | apply IsS43.drewN | apply IsS43.drew | apply IsS43.set_1 | apply IsS43.set_2) | exact HI0.out)) (kR_ HO_5) (by decide)) hk (fun _ h => h.2)) (fun _ h => h.1)); replace HK := Qx (KeepBut.trans (by repeat (first | (with_reducible first | exact HK.out | apply KeepBut.set_ | apply keep_drewN | apply keep_drew | apply keep_alloc) | exact HK.out)) hk (.inl rfl)); replace HB := Qx (hb); replace HI0 := Qx (hi); (try clear hb); (try clear hb2); (try clear hk); (try clear hi)) | ((with_reducible refine gate_dst (N := 65) rfl ?_); (try (refine gate_guard (by rfl) ?_; dsimp only)); refine Kd.R_lit (Kd.int .i64) _ 3 ?hg (N := 65) ?hd (xs := ([(-1), 0, a1, wrap64 (a1 - 1)] : List Int)) (inner := [.int .i64 (-1), .int .i64 0, .int .i64 a1, .int .i64 (wrap64 (a1 - 1))]) (ok := fun _ => True) (okp := fun _ => True) ?hr ?hp (fun _ hk => hk) trivial (Below.refl _ _) (Nat.le_refl _) (by simp) ?_; (case hd => rfl); (case hg => rfl); (case hr => first | (go_simp; done) | (go_simp; rfl)); (case hp => exact (Reps.one (show Kd.M (Kd.int .i64) _ _ _ (-1) [.int .i64 (-1)] from rfl) (Reps.one (show Kd.M (Kd.int .i64) _ _ _ 0 [.int .i64 0] from rfl) (Reps.one (show Kd.M (Kd.int .i64) _ _ _ a1 [.int .i64 a1] from rfl) (Reps.one (show Kd.M (Kd.int .i64) _ _ _ (wrap64 (a1 - 1)) [.int .i64 (wrap64 (a1 - 1))] from rfl) (Reps.none _ _)))))); intro v197 w69 ho70 hb hg_ hnew_; clear hg_ hnew_; (first | rw [← Ny196.out] at ho70 | (simp only [Int.reduceToNat] at ho70; rw [← Ny196.out] at ho70)); have HO198 := Qx (Kd.R_lower (Kd.R_new' ho70 (Kd.R_lt (kR_ HO_5))) (keep_size (w := w) (g := g) (row := none) (by repeat (first | (with_reducible first | exact HK.out | apply KeepBut.set_ | apply keep_drewN | apply keep_drew | apply keep_alloc) | exact HK.out)))); replace HO_5 := Qx (Kd.R_elder' (kR_ HO_5) (Kd.R_base ho70) hb); replace HK := Qx (KeepBut.trans (by repeat (first | (with_reducible first | exact HK.out | apply KeepBut.set_ | apply keep_drewN | apply keep_drew | apply keep_alloc) | exact HK.out)) (KeepBut.of_below hb g none) (.inl rfl)); replace HB := Qx (Qp (by repeat (first | (with_reducible first | exact HB.out | apply Qa | apply Qn | apply Qd | refine Qs ?_ (IsS43.ge HI0.out)) | exact HB.out)) hb); replace HI0 := Qx (IsS43.below (by repeat (first | (with_reducible first | exact HI0.out | apply IsS43.alloc | apply IsS43.drewN | apply IsS43.drew | apply IsS43.set_1 | apply IsS43.set_2) | exact HI0.out)) hb); clear hb ho70; obtain ⟨Ao71, co71, eo71⟩ := Kd.R_slice HO198.out; subst eo71) | ((with_reducible refine gate_callee (f := 28) rfl ?_); refine gl_ 66 Try.func28 #[.pointer (some ⟨g, 0, none⟩), .slice Ao71 y196.length co71] ?_; (with_reducible refine (spec_l1Cur_among.calls g s0_0 t194 t195 _ _ y196 t199 t200 t201 w0 _ ?side1 ?side2 ?side3 ?side4 ?side5 A63.out).mono ?_); (case side1 => repeat (first | (with_reducible first | exact HI0.out | apply IsS43.alloc | apply IsS43.drewN | apply IsS43.drew | apply IsS43.set_1 | apply IsS43.set_2) | exact HI0.out)); (case side2 => repeat (first | (with_reducible first | exact HB.out | apply Qa | apply Qn | apply Qd | refine Qs ?_ (IsS43.ge HI0.out)) | exact HB.out)); (case side3 => exact kD_ HO198); (case side4 => exact (Kd.R_reads' HO198.out).2.1); (case side5 => exact far_slice (IsS43.own_ne HI0.out HO198.out (by decide))); rintro e w72 ⟨rfl, hi, hb, hk⟩; refine ⟨_, rfl, ?_⟩; replace HO_5 := Qx (Qrm (Kd.R_keep (IsS43.apart (show IsS43 w0 _ g s0_0 t194 t195 from by repeat (first | (with_reducible first | exact HI0.out | apply IsS43.alloc | apply IsS43.drewN | apply IsS43.drew | apply IsS43.set_1 | apply IsS43.set_2) | exact HI0.out)) (kR_ HO_5) (by decide)) hk (fun _ h => h.2)) (fun _ h => h.1)); replace HO198 := Qx (Qrm (Kd.R_keep (IsS43.apart (show IsS43 w0 _ g s0_0 t194 t195 from by repeat (first | (with_reducible first | exact HI0.out | apply IsS43.alloc | apply IsS43.drewN | apply IsS43.drew | apply IsS43.set_1 | apply IsS43.set_2) | exact HI0.out)) (kR_ HO198) (by decide)) hk (fun _ h => h.2)) (fun _ h => h.1)); replace HK := Qx (KeepBut.trans (by repeat (first | (with_reducible first | exact HK.out | apply KeepBut.set_ | apply keep_drewN | apply keep_drew | apply keep_alloc) | exact HK.out)) hk (.inl rfl)); replace HB := Qx (hb); replace HI0 := Qx (hi); (try clear hb); (try clear hb2); (try clear hk); (try clear hi); have p66 : 0 ≤ (t193 : Int) := of_decide_eq_true as_; have q66 : (t193 : Int) < ((x5_2.length : Int) : Int) := of_decide_eq_true as_; obtain ⟨go66, co66, eo66, gb66, gl66, cl66, HG66⟩ := Kd.R_form HO_5.out (by omega); (first | cases eo66 | (injection eo66 with ea_ en_ ec_; (first | subst ea_ | (injection ea_ with ea_; subst ea_)); subst ec_; clear en_)); have GB66 := Qx gb66; have GG66 := Qx HG66; clear gb66 gl66 HG66; obtain ⟨hx66_0, hf66_0⟩ := Kd.R_celln 0 HO_5.out (t193 : Int) p66 q66; replace p66 := eq_true p66; replace q66 := eq_true q66; have n_ := Qx (Qrm (ok' := (fun k_ => some k_ ≠ (.slice Ao71 y196.length co71 : Value).ownBlock)) HO_5.out (fun k_ hk => hk.2)); clear HO_5; have HO_5 := n_; clear n_; obtain ⟨hy73_, hz73_⟩ := Kd.R_celln 0 HO_5.out (t193 : Int) (of_decide_eq_true as_) (of_decide_eq_true as_); have HP73 := Kd.R_putg HO_5.out (t193 : Int) t199) | ((with_reducible refine gate_store (t := 3) (p := 67) rfl ?_); refine store_event (t := 3) (p := 67) (v := ?vo_w74) (w1 := (w72.setCell ⟨go66, (t193 : Int).toNat, none⟩ (.int .i64 t199))) ?hg ?ho ?hn ?hr ?_; (case ho => rfl); (case hg => rfl); (case hn => rfl); (case hr => first | (go_simp; done) | (go_simp; rfl)); intro w74 hw; have hg : w72.grownBy w74 (some go66) := (by rw [hw]; exact HP73.2); have hp_ : Kd.R (Kd.int .i64) 3 w74 w.heap.size (fun k_ => some k_ ≠ (.slice Ao71 y196.length co71 : Value).ownBlock) (.slice (some ⟨go66, 0, none⟩) x5_2.length co67) y202 := (by rw [hw, Ny202.out]; exact HP73.1); clear HP73; replace HI0 := Qx (IsS43.grown (by repeat (first | (with_reducible first | exact HI0.out | apply IsS43.alloc | apply IsS43.drewN | apply IsS43.drew | apply IsS43.set_1 | apply IsS43.set_2) | exact HI0.out)) hg (IsS43.own_ne HI0.out HO_5.out (by decide))); replace HO198 := Qx (Kd.R_after (v := (.slice (some ⟨go66, 0, none⟩) x5_2.length co67)) (v1 := (.slice (some ⟨go66, 0, none⟩) x5_2.length co67)) (ok := (fun _ => True)) (kR_ HO198) hg (.inl rfl)); replace HB := Qx ((by rw [hw]; exact Qs (HB.out) (Nat.le_trans HL.out GB66.out) : Below w0.heap.size w0 w74)); replace HK := Qx (KeepBut.trans (by repeat (first | (with_reducible first | exact HK.out | apply KeepBut.set_ | apply keep_drewN | apply keep_drew | apply keep_alloc) | exact HK.out)) (KeepBut.of_grown hg g) (Kd.R_base2 HO_5.out)); replace HO_5 := Qx (hp_); clear hg hw hp_))
            go_ret
            exact ⟨_, rf_, by (with_reducible repeat (first | apply Qra | apply Qrn | apply Qrd)); exact Qrm HO_5.out (fun _ hk => trivial), by repeat (first | (with_reducible first | exact HI0.out | apply IsS43.alloc | apply IsS43.drewN | apply IsS43.drew | apply IsS43.set_1 | apply IsS43.set_2) | exact HI0.out), by repeat (first | (with_reducible first | exact HB.out | apply Qa | apply Qn | apply Qd | refine Qs ?_ (IsS43.ge HI0.out)) | exact HB.out), by repeat (first | (with_reducible first | exact HK.out | apply KeepBut.set_ | apply keep_drewN | apply keep_drew | apply keep_alloc) | exact HK.out)⟩
           ·rw [if_neg c65] at H
            exact absurd H (by simp)
          ·rw [if_neg c64] at H
           exact absurd H (by simp)
         ·replace c61 := Bool.eq_false_iff.mpr c61; subst c61
          have H1 : (some (x5_2, x1001_54, x1002_54)) = some (r1, r2, r3) := by rw [if_neg (show ¬ (false = true) by decide)] at H; exact H
          clear H; have H := H1; clear H1; simp only [Option.some.injEq, Prod.mk.injEq] at H; obtain ⟨rfl, rfl, rfl⟩ := H
          go_wp2
          go_ret
          exact ⟨_, rf_, kR_ HO_5, by repeat (first | (with_reducible first | exact HI0.out | apply IsS43.alloc | apply IsS43.drewN | apply IsS43.drew | apply IsS43.set_1 | apply IsS43.set_2) | exact HI0.out), by repeat (first | (with_reducible first | exact HB.out | apply Qa | apply Qn | apply Qd | refine Qs ?_ (IsS43.ge HI0.out)) | exact HB.out), by repeat (first | (with_reducible first | exact HK.out | apply KeepBut.set_ | apply keep_drewN | apply keep_drew | apply keep_alloc) | exact HK.out)⟩
/-! ### spec_DrawBuildSparse: function 5 -/
def spec_DrawBuildSparse.f (k : Nat) (l0 : List Int) : Option (List Int × Int) := (spec_l1Cur_limit.f l0 0 0).bind fun bt204 => ((spec_l1Cur_sorted.f k l0 bt204.2.1 bt204.2.2 bt204.1).bind fun bt207 => (some (bt207.1, bt204.1)))
theorem spec_DrawBuildSparse.mono : ∀ a0 k, LeO (spec_DrawBuildSparse.f k a0) (spec_DrawBuildSparse.f (k + 1) a0) := by
  intro a0 k
  unfold spec_DrawBuildSparse.f
  repeat' first
      | (with_reducible exact spec_l1Cur_sorted.mono _ _ _ _ _)
      | (with_reducible exact LeO.refl _)
      | (with_reducible exact LeO.none _)
      | (with_reducible refine LeO.ite ?_ ?_)
      | (with_reducible refine LeO.bind ?_ (fun _ => ?_))
      | exact spec_l1Cur_sorted.mono _ _ _ _ _
      | exact LeO.none _
      | refine LeO.ite ?_ ?_
      | refine LeO.bind ?_ (fun _ => ?_)
noncomputable def spec_DrawBuildSparse.F (l0 : List Int) : Option (List Int × Int) := lim fun k => spec_DrawBuildSparse.f k l0
theorem spec_DrawBuildSparse.F_sup (l0 : List Int) : Sup (fun k => spec_DrawBuildSparse.f k l0) (spec_DrawBuildSparse.F l0) := Sup.of_mono fun k => spec_DrawBuildSparse.mono l0 k
theorem spec_DrawBuildSparse.F_eq (l0 : List Int) : spec_DrawBuildSparse.F l0 = (spec_l1Cur_limit.f l0 0 0).bind fun bt204 => ((spec_l1Cur_sorted.F l0 bt204.2.1 bt204.2.2 bt204.1).bind fun bt207 => (some (bt207.1, bt204.1))) := by
  refine Sup.unique (spec_DrawBuildSparse.F_sup l0) (Sup.congr (g' := fun k => (spec_l1Cur_limit.f l0 0 0).bind fun bt204 => ((spec_l1Cur_sorted.f k l0 bt204.2.1 bt204.2.2 bt204.1).bind fun bt207 => (some (bt207.1, bt204.1)))) (fun k => by first | rfl | simp only [spec_DrawBuildSparse.f]) ?_)
  repeat' first
    | (with_reducible exact spec_l1Cur_sorted.F_sup _ _ _ _)
    | (with_reducible refine Sup.ite ?_ ?_)
    | (with_reducible refine Sup.bind ?_ (fun _ => ?_))
    | (with_reducible exact Sup.const _)
    | exact spec_l1Cur_sorted.F_sup _ _ _ _
    | exact Sup.const _
set_option maxHeartbeats 8000000 in
set_option maxRecDepth 100000 in
theorem spec_DrawBuildSparse.calls (k : Nat) (A0 : Option Addr) (c0 : Nat) (l0 : List Int) (r1 : List Int) (r2 : Int) (w : World) (hr0 : Kd.C (Kd.int .u8) w A0 l0.length l0) (hc0 : l0.length ≤ c0) (h : spec_DrawBuildSparse.f k l0 = some (r1, r2)) :
    Calls Try.prog 5 #[.slice A0 l0.length c0] w fun e w' => ∃ v0_ : Value, e = .returned (.tuple #[v0_, .int .i64 r2]) ∧ Kd.R (Kd.int .i64) 3 w' w.heap.size (fun _ => True) v0_ r1 ∧ Below w.heap.size w w' := by
  have hu43 := Try.underlying43; have HR0 := Qx hr0; have HC0 := Qx hc0; clear hr0 hc0
  have HB := Qx (Below.refl w.heap.size w)
  have H : ((spec_l1Cur_limit.f l0 0 0).bind fun bt204 => ((spec_l1Cur_sorted.f k l0 bt204.2.1 bt204.2.2 bt204.1).bind fun bt207 => (some (bt207.1, bt204.1)))) = some (r1, r2) := h
  clear h; replace H := Option.bind_eq_some_iff.mp H; obtain ⟨⟨t204, t205, t206⟩, A20, H⟩ := H
  have A2 := Qx A20; clear A20; replace H := Option.bind_eq_some_iff.mp H; obtain ⟨⟨t207, t210, t211⟩, A30, H⟩ := H
  have A3 := Qx A30; clear A30; simp only [Option.some.injEq, Prod.mk.injEq] at H; obtain ⟨rfl, rfl⟩ := H
  go_enter Try.func5, Try.ntmps5
  go_wp2_with (first | ((with_reducible refine gate_dst (N := 8) rfl ?_); refine bx_ 8 #[.slice A0 l0.length c0, .int .i64 0, .int .u64 0] 43 ?_; intro gb203 hg w4 hbox hb; have HI203 := Qx ((show IsS43 w w4 gb203 l0 0 0 from ⟨_, _, hbox, (ge_ hg), HR0.out⟩)); have GW203 := Qx ((ge_ hg)); have GE203 := Qx ((ge_ hg)); replace HB := Qx (Qp hB_ hb); clear hb hbox hg) | ((with_reducible refine gate_callee (f := 16) rfl ?_); refine gl_ 10 Try.func16 #[.pointer (some ⟨gb203, 0, none⟩)] ?_; (with_reducible refine (spec_l1Cur_limit.calls gb203 l0 0 0 t204 t205 t206 w _ ?side1 ?side2 A2.out).mono ?_); (case side1 => repeat (first | (with_reducible first | exact HI203.out | apply IsS43.alloc | apply IsS43.drewN | apply IsS43.drew | apply IsS43.set_1 | apply IsS43.set_2) | exact HI203.out)); (case side2 => repeat (first | (with_reducible first | exact HB.out | apply Qa | apply Qn | apply Qd | refine Qs ?_ (IsS43.ge HI203.out)) | exact HB.out)); rintro e w5 ⟨rfl, hi, hb, hk⟩; refine ⟨_, rfl, ?_⟩; replace HB := Qx (hb); replace HI203 := Qx (hi); (try clear hb); (try clear hb2); (try clear hk); (try clear hi)) | ((with_reducible refine gate_callee (f := 17) rfl ?_); refine gl_ 13 Try.func17 #[.pointer (some ⟨gb203, 0, none⟩), .int .i64 t204] ?_; (with_reducible refine (spec_l1Cur_sorted.calls k gb203 l0 t205 t206 t204 t207 t210 t211 w _ ?side1 ?side2 A3.out).mono ?_); (case side1 => repeat (first | (with_reducible first | exact HI203.out | apply IsS43.alloc | apply IsS43.drewN | apply IsS43.drew | apply IsS43.set_1 | apply IsS43.set_2) | exact HI203.out)); (case side2 => repeat (first | (with_reducible first | exact HB.out | apply Qa | apply Qn | apply Qd | refine Qs ?_ (IsS43.ge HI203.out)) | exact HB.out)); rintro e w6 ⟨v208, rfl, ho0, hi, hb, hk⟩; refine ⟨_, rfl, ?_⟩; have HO209 := Qx (Kd.R_lower ho0 (below_size (by repeat (first | (with_reducible first | exact HB.out | apply Qa | apply Qn | apply Qd | refine Qs ?_ (IsS43.ge HI203.out)) | exact HB.out)))); replace HB := Qx (hb); replace HI203 := Qx (hi); (try clear hb); (try clear hb2); (try clear hk); (try clear hi); (try clear ho0)))
  go_ret2
  exact ⟨_, rf_, kR_ HO209, by repeat (first | (with_reducible first | exact HB.out | apply Qa | apply Qn | apply Qd | refine Qs ?_ (IsS43.ge HI203.out)) | exact HB.out)⟩
/-! ### impl_in: function 25 -/
def impl_in.f (a0 : Int) (a1 : Int) (a2 : Int) : Option (Bool) := if a0 ≥ a1 then (some (decide (a0 ≤ a2))) else (some false)
set_option maxHeartbeats 8000000 in
set_option maxRecDepth 100000 in
theorem impl_in.calls (a0 : Int) (a1 : Int) (a2 : Int) (r : Bool) (w : World) (h : impl_in.f a0 a1 a2 = some r) :
    Calls Try.prog 25 #[.int .i64 a0, .int .i64 a1, .int .i64 a2] w fun e w' => e = .returned (.bool r) ∧ Drawn0 w w' := by
  have H : (if a0 ≥ a1 then (some (decide (a0 ≤ a2))) else (some false)) = some r := h
  clear h
  by_cases c4 : a0 ≥ a1
  ·rw [if_pos c4] at H
   have c4b0 : decide (a1 ≤ a0) = true := decide_eq_true c4
   clear c4; obtain rfl := Option.some.inj H
   go_enter Try.func25, Try.ntmps25
   go_wp2
   go_ret
   exact ⟨rg_, by repeat (first | exact Drawn0.refl _ | apply Drawn0.step)⟩
  ·rw [if_neg c4] at H
   have c4b0 : decide (a1 ≤ a0) = false := decide_eq_false c4
   clear c4; obtain rfl := Option.some.inj H
   go_enter Try.func25, Try.ntmps25
   go_wp2
   go_ret
   exact ⟨rg_, by repeat (first | exact Drawn0.refl _ | apply Drawn0.step)⟩
/-! ### impl_limitOk: function 32 -/
def impl_limitOk.f (a0 : Int) : Option (Bool) := (impl_in.f a0 1 100000).bind fun t212 => (some t212)
set_option maxHeartbeats 8000000 in
set_option maxRecDepth 100000 in
theorem impl_limitOk.calls (a0 : Int) (r : Bool) (w : World) (h : impl_limitOk.f a0 = some r) :
    Calls Try.prog 32 #[.int .i64 a0] w fun e w' => e = .returned (.bool r) ∧ Drawn0 w w' := by
  have H : ((impl_in.f a0 1 100000).bind fun t212 => (some t212)) = some r := h
  clear h; replace H := Option.bind_eq_some_iff.mp H; obtain ⟨t212, A20, H⟩ := H
  have A2 := Qx A20; clear A20; obtain rfl := Option.some.inj H
  go_enter Try.func32, Try.ntmps32
  go_wp2_with (first | ((with_reducible refine gate_callee (f := 25) rfl ?_); refine gl_ 4 Try.func25 #[.int .i64 a0, .int .i64 1, .int .i64 100000] ?_; (with_reducible refine (impl_in.calls a0 1 100000 t212 _ A2.out).mono ?_); rintro e w' ⟨rfl, ⟨nd, rfl⟩⟩; refine ⟨_, rfl, ?_⟩))
  go_ret
  exact ⟨rg_, by repeat (first | exact Drawn0.refl _ | apply Drawn0.step)⟩
/-! ### impl_sortedOk: function 18 -/
def impl_sortedOk.l0 : Nat → List Int → Int → List Int → Int → Int → Option (Bool)
  | 0, _, _, _, _, _ => none
  | k + 1, x0, x1, x7, x8, x9 => if x9 < x8 then (if 0 ≤ x9 then (if x9 < (x7.length : Int) then ((impl_in.f (rd x7 x9) 0 (wrap64 (x1 - 1))).bind fun t214 => (if t214 = true then (if x9 > 0 then (if 0 ≤ (wrap64 (x9 - 1)) then (if (wrap64 (x9 - 1)) < (x0.length : Int) then (if (rd x0 (wrap64 (x9 - 1))) > (rd x7 x9) then (some false) else (impl_sortedOk.l0 k x0 x1 x7 x8 (wrap64 (x9 + 1)))) else (none)) else (none)) else (impl_sortedOk.l0 k x0 x1 x7 x8 (wrap64 (x9 + 1)))) else (some false))) else (none)) else (none)) else ((impl_limitOk.f x1).bind fun t216 => (if t216 = true then (some (decide ((x0.length : Int) ≤ 60))) else (some false)))
def impl_sortedOk.f (k : Nat) (l0 : List Int) (a1 : Int) : Option (Bool) := impl_sortedOk.l0 k l0 a1 l0 (l0.length : Int) 0
theorem impl_sortedOk.mono_l : ∀ k, (∀ y0 y1 y2 y3 y4, LeO (impl_sortedOk.l0 k y0 y1 y2 y3 y4) (impl_sortedOk.l0 (k + 1) y0 y1 y2 y3 y4))
  | 0 => fun _ _ _ _ _ r h => by simp [impl_sortedOk.l0] at h
  | k + 1 => by
    have ih0 := impl_sortedOk.mono_l k
    · intro y0 y1 y2 y3 y4
      unfold impl_sortedOk.l0
      repeat' first
      | (with_reducible exact ih0 _ _ _ _ _)
      | (with_reducible exact LeO.refl _)
      | (with_reducible exact LeO.none _)
      | (with_reducible refine LeO.ite ?_ ?_)
      | (with_reducible refine LeO.bind ?_ (fun _ => ?_))
      | exact ih0 _ _ _ _ _
      | exact LeO.none _
      | refine LeO.ite ?_ ?_
      | refine LeO.bind ?_ (fun _ => ?_)
theorem impl_sortedOk.mono : ∀ a0 a1 k, LeO (impl_sortedOk.f k a0 a1) (impl_sortedOk.f (k + 1) a0 a1) := by
  intro a0 a1 k
  have ih0 := impl_sortedOk.mono_l k
  unfold impl_sortedOk.f
  repeat' first
      | (with_reducible exact ih0 _ _ _ _ _)
      | (with_reducible exact LeO.refl _)
      | (with_reducible exact LeO.none _)
      | (with_reducible refine LeO.ite ?_ ?_)
      | (with_reducible refine LeO.bind ?_ (fun _ => ?_))
      | exact ih0 _ _ _ _ _
      | exact LeO.none _
      | refine LeO.ite ?_ ?_
      | refine LeO.bind ?_ (fun _ => ?_)
noncomputable def impl_sortedOk.L0 (y0 : List Int) (y1 : Int) (y2 : List Int) (y3 : Int) (y4 : Int) : Option (Bool) := lim fun k => impl_sortedOk.l0 k y0 y1 y2 y3 y4
theorem impl_sortedOk.L0_sup (y0 : List Int) (y1 : Int) (y2 : List Int) (y3 : Int) (y4 : Int) : Sup (fun k => impl_sortedOk.l0 k y0 y1 y2 y3 y4) (impl_sortedOk.L0 y0 y1 y2 y3 y4) := Sup.of_mono fun k => impl_sortedOk.mono_l k y0 y1 y2 y3 y4
noncomputable def impl_sortedOk.F (l0 : List Int) (a1 : Int) : Option (Bool) := lim fun k => impl_sortedOk.f k l0 a1
theorem impl_sortedOk.F_sup (l0 : List Int) (a1 : Int) : Sup (fun k => impl_sortedOk.f k l0 a1) (impl_sortedOk.F l0 a1) := Sup.of_mono fun k => impl_sortedOk.mono l0 a1 k
theorem impl_sortedOk.L0_eq (x0 : List Int) (x1 : Int) (x7 : List Int) (x8 : Int) (x9 : Int) : impl_sortedOk.L0 x0 x1 x7 x8 x9 = if x9 < x8 then (if 0 ≤ x9 then (if x9 < (x7.length : Int) then ((impl_in.f (rd x7 x9) 0 (wrap64 (x1 - 1))).bind fun t214 => (if t214 = true then (if x9 > 0 then (if 0 ≤ (wrap64 (x9 - 1)) then (if (wrap64 (x9 - 1)) < (x0.length : Int) then (if (rd x0 (wrap64 (x9 - 1))) > (rd x7 x9) then (some false) else (impl_sortedOk.L0 x0 x1 x7 x8 (wrap64 (x9 + 1)))) else (none)) else (none)) else (impl_sortedOk.L0 x0 x1 x7 x8 (wrap64 (x9 + 1)))) else (some false))) else (none)) else (none)) else ((impl_limitOk.f x1).bind fun t216 => (if t216 = true then (some (decide ((x0.length : Int) ≤ 60))) else (some false))) := by
  refine Sup.unique (impl_sortedOk.L0_sup x0 x1 x7 x8 x9) (Sup.shift (fun k => impl_sortedOk.mono_l k x0 x1 x7 x8 x9) (Sup.congr (g' := fun k => if x9 < x8 then (if 0 ≤ x9 then (if x9 < (x7.length : Int) then ((impl_in.f (rd x7 x9) 0 (wrap64 (x1 - 1))).bind fun t214 => (if t214 = true then (if x9 > 0 then (if 0 ≤ (wrap64 (x9 - 1)) then (if (wrap64 (x9 - 1)) < (x0.length : Int) then (if (rd x0 (wrap64 (x9 - 1))) > (rd x7 x9) then (some false) else (impl_sortedOk.l0 k x0 x1 x7 x8 (wrap64 (x9 + 1)))) else (none)) else (none)) else (impl_sortedOk.l0 k x0 x1 x7 x8 (wrap64 (x9 + 1)))) else (some false))) else (none)) else (none)) else ((impl_limitOk.f x1).bind fun t216 => (if t216 = true then (some (decide ((x0.length : Int) ≤ 60))) else (some false)))) (fun k => by first | rfl | simp only [impl_sortedOk.l0]) ?_))
  repeat' first
    | (with_reducible exact impl_sortedOk.L0_sup _ _ _ _ _)
    | (with_reducible refine Sup.ite ?_ ?_)
    | (with_reducible refine Sup.bind ?_ (fun _ => ?_))
    | (with_reducible exact Sup.const _)
    | exact impl_sortedOk.L0_sup _ _ _ _ _
    | exact Sup.const _
theorem impl_sortedOk.F_eq (l0 : List Int) (a1 : Int) : impl_sortedOk.F l0 a1 = impl_sortedOk.L0 l0 a1 l0 (l0.length : Int) 0 := by
  refine Sup.unique (impl_sortedOk.F_sup l0 a1) (Sup.congr (g' := fun k => impl_sortedOk.l0 k l0 a1 l0 (l0.length : Int) 0) (fun k => by first | rfl | simp only [impl_sortedOk.f]) ?_)
  repeat' first
    | (with_reducible exact impl_sortedOk.L0_sup _ _ _ _ _)
    | (with_reducible refine Sup.ite ?_ ?_)
    | (with_reducible refine Sup.bind ?_ (fun _ => ?_))
    | (with_reducible exact Sup.const _)
    | exact impl_sortedOk.L0_sup _ _ _ _ _
    | exact Sup.const _
set_option maxHeartbeats 8000000 in
set_option maxRecDepth 100000 in
theorem impl_sortedOk.calls (k : Nat) (A0 : Option Addr) (c0 : Nat) (l0 : List Int) (a1 : Int) (r : Bool) (w : World) (hr0 : Kd.C (Kd.int .i64) w A0 l0.length l0) (hc0 : l0.length ≤ c0) (h : impl_sortedOk.f k l0 a1 = some r) :
    Calls Try.prog 18 #[.slice A0 l0.length c0, .int .i64 a1] w fun e w' => e = .returned (.bool r) ∧ Drawn0 w w' := by
  have HR0 := Qx hr0; have HC0 := Qx hc0; clear hr0 hc0
  have H : (impl_sortedOk.l0 k l0 a1 l0 (l0.length : Int) 0) = some r := h
  clear h; have H' := Qx H; clear H
  go_enter Try.func18, Try.ntmps18
  go_wp2
  go_loopg [9] k (fun kq v9 w' => ∃ (x9_1 : Int), v9 = .int .i64 x9_1 ∧ Aside0 (impl_sortedOk.l0 kq l0 a1 l0 (l0.length : Int) x9_1 = some r) ∧ Aside0 (kq ≤ k) ∧ Drawn0 w w')
  case atStart => exact ⟨(0), rg_, H', ⟨Nat.le_refl _⟩, by repeat (first | exact Drawn0.refl _ | apply Drawn0.step)⟩
  case round =>
   clear H'
   try clear c1
   try clear p2
   obtain ⟨x9_1, rfl, HA, HK1, ⟨m1, rfl⟩⟩ := hrel
   cases gk with
   | zero => exact absurd HA.out (by simp [impl_sortedOk.l0])
   | succ k1 =>
    have H := HA.out; clear HA; simp only [impl_sortedOk.l0] at H
    by_cases c3 : x9_1 < (l0.length : Int)
    ·rw [if_pos c3] at H
     have c3b0 : decide (x9_1 < (l0.length : Int)) = true := decide_eq_true c3
     clear c3
     by_cases c4 : 0 ≤ x9_1
     ·rw [if_pos c4] at H
      have c4b0 : decide (0 ≤ x9_1) = true := decide_eq_true c4
      clear c4
      by_cases c5 : x9_1 < (l0.length : Int)
      ·rw [if_pos c5] at H
       have c5b0 : decide (x9_1 < (l0.length : Int)) = true := decide_eq_true c5
       clear c5; replace H := Option.bind_eq_some_iff.mp H; obtain ⟨t214, A60, H⟩ := H
       have A6 := Qx A60; clear A60
       by_cases c7 : t214 = true
       ·subst c7
        have H1 : (if x9_1 > 0 then (if 0 ≤ (wrap64 (x9_1 - 1)) then (if (wrap64 (x9_1 - 1)) < (l0.length : Int) then (if (rd l0 (wrap64 (x9_1 - 1))) > (rd l0 x9_1) then (some false) else (impl_sortedOk.l0 k1 l0 a1 l0 (l0.length : Int) (wrap64 (x9_1 + 1)))) else (none)) else (none)) else (impl_sortedOk.l0 k1 l0 a1 l0 (l0.length : Int) (wrap64 (x9_1 + 1)))) = some r := by rw [if_pos rfl] at H; exact H
        clear H; have H := H1; clear H1
        by_cases c8 : x9_1 > 0
        ·rw [if_pos c8] at H
         have c8b0 : decide (0 < x9_1) = true := decide_eq_true c8
         clear c8
         obtain ⟨ji9, hji9⟩ : ∃ j_ : Int, (wrap64 (x9_1 - 1)) = j_ := ⟨_, rfl⟩
         replace H : (if 0 ≤ (ji9) then (if (ji9) < (l0.length : Int) then (if (rd l0 (ji9)) > (rd l0 x9_1) then (some false) else (impl_sortedOk.l0 k1 l0 a1 l0 (l0.length : Int) (wrap64 (x9_1 + 1)))) else (none)) else (none)) = some r := by first | (rw [hji9] at H; exact H) | (simp only [hji9] at H ⊢; exact H)
         (try rw [hji9] at A6)
         have hji9w : (IntKind.i64.wrap (x9_1 - 1)) = ji9 := (i64_w _).trans hji9
         by_cases c10 : 0 ≤ (ji9)
         ·rw [if_pos c10] at H
          have c10b0 : decide (0 ≤ (ji9)) = true := decide_eq_true c10
          clear c10
          by_cases c11 : (ji9) < (l0.length : Int)
          ·rw [if_pos c11] at H
           have c11b0 : decide ((ji9) < (l0.length : Int)) = true := decide_eq_true c11
           clear c11
           by_cases c12 : (rd l0 (ji9)) > (rd l0 x9_1)
           ·rw [if_pos c12] at H
            have c12b0 : decide ((rd l0 x9_1) < (rd l0 (ji9))) = true := decide_eq_true c12
            clear c12; obtain rfl := Option.some.inj H
            have p213 : 0 ≤ (x9_1 : Int) := of_decide_eq_true as_
            have q213 : x9_1 < (l0.length : Int) := of_decide_eq_true as_
            obtain ⟨ad213, e213, hx213_0⟩ := Kd.at_int HR0.out x9_1 p213 q213
            cases e213
            replace p213 := eq_true p213; replace q213 := eq_true q213
            go_wp2_with (first | ((with_reducible refine gate_callee (f := 25) rfl ?_); refine gl_ 17 Try.func25 #[.int .i64 (rd l0 x9_1), .int .i64 0, .int .i64 (wrap64 (a1 - 1))] ?_; (with_reducible refine (impl_in.calls (rd l0 x9_1) 0 (wrap64 (a1 - 1)) true _ A6.out).mono ?_); rintro e w' ⟨rfl, ⟨nd, rfl⟩⟩; refine ⟨_, rfl, ?_⟩; have p215 : 0 ≤ ((ji9) : Int) := of_decide_eq_true as_; have q215 : (ji9) < (l0.length : Int) := of_decide_eq_true as_; obtain ⟨ad215, e215, hx215_0⟩ := Kd.at_int HR0.out (ji9) p215 q215; obtain rfl : ad213 = ad215 := (by injection e215); replace p215 := eq_true p215; replace q215 := eq_true q215))
            go_ret
            exact ⟨by first | rfl | (simp; done) | (simp only [← hji9] <;> (first | rfl | simp)) | (simp [*]; done), by repeat (first | exact Drawn0.refl _ | apply Drawn0.step)⟩
           ·rw [if_neg c12] at H
            have c12b0 : decide ((rd l0 x9_1) < (rd l0 (ji9))) = false := decide_eq_false c12
            clear c12; have H' := Qx H; clear H
            have p213 : 0 ≤ (x9_1 : Int) := of_decide_eq_true as_
            have q213 : x9_1 < (l0.length : Int) := of_decide_eq_true as_
            obtain ⟨ad213, e213, hx213_0⟩ := Kd.at_int HR0.out x9_1 p213 q213
            cases e213
            replace p213 := eq_true p213; replace q213 := eq_true q213
            go_wp2_with (first | ((with_reducible refine gate_callee (f := 25) rfl ?_); refine gl_ 17 Try.func25 #[.int .i64 (rd l0 x9_1), .int .i64 0, .int .i64 (wrap64 (a1 - 1))] ?_; (with_reducible refine (impl_in.calls (rd l0 x9_1) 0 (wrap64 (a1 - 1)) true _ A6.out).mono ?_); rintro e w' ⟨rfl, ⟨nd, rfl⟩⟩; refine ⟨_, rfl, ?_⟩; have p215 : 0 ≤ ((ji9) : Int) := of_decide_eq_true as_; have q215 : (ji9) < (l0.length : Int) := of_decide_eq_true as_; obtain ⟨ad215, e215, hx215_0⟩ := Kd.at_int HR0.out (ji9) p215 q215; obtain rfl : ad213 = ad215 := (by injection e215); replace p215 := eq_true p215; replace q215 := eq_true q215))
            go_roundg k1
            case measure => have := HK1.out; omega
            case rel => exact ⟨(wrap64 (x9_1 + 1)), rg_, H', ⟨by have := HK1.out; omega⟩, by repeat (first | exact Drawn0.refl _ | apply Drawn0.step)⟩
          ·rw [if_neg c11] at H
           exact absurd H (by simp)
         ·rw [if_neg c10] at H
          exact absurd H (by simp)
        ·rw [if_neg c8] at H
         have c8b0 : decide (0 < x9_1) = false := decide_eq_false c8
         clear c8; have H' := Qx H; clear H
         have p213 : 0 ≤ (x9_1 : Int) := of_decide_eq_true as_
         have q213 : x9_1 < (l0.length : Int) := of_decide_eq_true as_
         obtain ⟨ad213, e213, hx213_0⟩ := Kd.at_int HR0.out x9_1 p213 q213
         cases e213
         replace p213 := eq_true p213; replace q213 := eq_true q213
         go_wp2_with (first | ((with_reducible refine gate_callee (f := 25) rfl ?_); refine gl_ 17 Try.func25 #[.int .i64 (rd l0 x9_1), .int .i64 0, .int .i64 (wrap64 (a1 - 1))] ?_; (with_reducible refine (impl_in.calls (rd l0 x9_1) 0 (wrap64 (a1 - 1)) true _ A6.out).mono ?_); rintro e w' ⟨rfl, ⟨nd, rfl⟩⟩; refine ⟨_, rfl, ?_⟩))
         go_roundg k1
         case measure => have := HK1.out; omega
         case rel => exact ⟨(wrap64 (x9_1 + 1)), rg_, H', ⟨by have := HK1.out; omega⟩, by repeat (first | exact Drawn0.refl _ | apply Drawn0.step)⟩
       ·replace c7 := Bool.eq_false_iff.mpr c7; subst c7
        have H1 : (some false) = some r := by rw [if_neg (show ¬ (false = true) by decide)] at H; exact H
        clear H; have H := H1; clear H1; obtain rfl := Option.some.inj H
        have p213 : 0 ≤ (x9_1 : Int) := of_decide_eq_true as_
        have q213 : x9_1 < (l0.length : Int) := of_decide_eq_true as_
        obtain ⟨ad213, e213, hx213_0⟩ := Kd.at_int HR0.out x9_1 p213 q213
        cases e213
        replace p213 := eq_true p213; replace q213 := eq_true q213
        go_wp2_with (first | ((with_reducible refine gate_callee (f := 25) rfl ?_); refine gl_ 17 Try.func25 #[.int .i64 (rd l0 x9_1), .int .i64 0, .int .i64 (wrap64 (a1 - 1))] ?_; (with_reducible refine (impl_in.calls (rd l0 x9_1) 0 (wrap64 (a1 - 1)) false _ A6.out).mono ?_); rintro e w' ⟨rfl, ⟨nd, rfl⟩⟩; refine ⟨_, rfl, ?_⟩))
        go_ret
        exact ⟨rg_, by repeat (first | exact Drawn0.refl _ | apply Drawn0.step)⟩
      ·rw [if_neg c5] at H
       exact absurd H (by simp)
     ·rw [if_neg c4] at H
      exact absurd H (by simp)
    ·rw [if_neg c3] at H
     have c3b0 : decide (x9_1 < (l0.length : Int)) = false := decide_eq_false c3
     clear c3; replace H := Option.bind_eq_some_iff.mp H; obtain ⟨t216, A130, H⟩ := H
     have A13 := Qx A130; clear A130
     by_cases c14 : t216 = true
     ·subst c14
      have H1 : (some (decide ((l0.length : Int) ≤ 60))) = some r := by rw [if_pos rfl] at H; exact H
      clear H; have H := H1; clear H1; obtain rfl := Option.some.inj H
      go_wp2_with (first | ((with_reducible refine gate_callee (f := 32) rfl ?_); refine gl_ 34 Try.func32 #[.int .i64 a1] ?_; (with_reducible refine (impl_limitOk.calls a1 true _ A13.out).mono ?_); rintro e w' ⟨rfl, ⟨nd, rfl⟩⟩; refine ⟨_, rfl, ?_⟩))
      go_ret
      exact ⟨rg_, by repeat (first | exact Drawn0.refl _ | apply Drawn0.step)⟩
     ·replace c14 := Bool.eq_false_iff.mpr c14; subst c14
      have H1 : (some false) = some r := by rw [if_neg (show ¬ (false = true) by decide)] at H; exact H
      clear H; have H := H1; clear H1; obtain rfl := Option.some.inj H
      go_wp2_with (first | ((with_reducible refine gate_callee (f := 32) rfl ?_); refine gl_ 34 Try.func32 #[.int .i64 a1] ?_; (with_reducible refine (impl_limitOk.calls a1 false _ A13.out).mono ?_); rintro e w' ⟨rfl, ⟨nd, rfl⟩⟩; refine ⟨_, rfl, ?_⟩))
      go_ret
      exact ⟨rg_, by repeat (first | exact Drawn0.refl _ | apply Drawn0.step)⟩
end Go.Proofs.Ytcgakiihochafaa.X
