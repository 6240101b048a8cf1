/- clear(xs[k:]) of a row of the call's own, whose elements are one cell each: the row stays, the elements from k on are zero. -/
import Derived.Test.YtcjhnpbehkfknaaXo
import Derived.Lib.SliceRun
import Derived.Maps.AppendAt
import Derived.OwnWalk
import Derived.WalkKit
namespace Go.Proofs.YtcjhnpbehkfknaaW.PrintWords
open Go.RowKit
def zer {α : Type} (z : α) : List α → Nat → Nat → List α
  | xs, _, 0 => xs
  | xs, o, m + 1 => zer z (xs.set o z) (o + 1) m
theorem zer_len {α : Type} (z : α) : ∀ (m o : Nat) (xs : List α), (zer z xs o m).length = xs.length
  | 0, _, _ => rfl
  | m + 1, o, xs => by
    show (zer z (xs.set o z) (o + 1) m).length = _
    rw [zer_len z m, List.length_set]
namespace Kd
section
variable {P : Program} {α : Type} {enc : α → Value} {h1 : ∀ x, (enc x).oneCell' = true} {e base g n cap : Nat} {ok : Nat → Prop}
theorem R_zero (z : α) : ∀ (m o : Nat) (xs : List α) (W : World), (scalar enc h1).R e W base ok (.slice (some ⟨g, 0, none⟩) n cap) xs →
    (scalar enc h1).R e (W.setCells g o (List.replicate m (enc z))) base ok (.slice (some ⟨g, 0, none⟩) n cap) (zer z xs o m) ∧ W.grownBy (W.setCells g o (List.replicate m (enc z))) (some g)
  | 0, o, xs, W, h => ⟨h, World.grownBy.refl W _⟩
  | m + 1, o, xs, W, h => by
    obtain ⟨a, b⟩ := R_putg h (o : Int) z
    rw [Int.toNat_natCast] at a b
    obtain ⟨c, d⟩ := R_zero z m (o + 1) _ _ a
    exact ⟨c, World.grownBy.trans b d⟩
theorem R_clear_run (z : α) {W : World} {xs : List α} (t ty : TypeId) (ht : P.underlying t = some (.slice e)) (hv : ∀ w, (zeroValue e).run P w = .ok (enc z) w) (hz : (enc z).cells = #[enc z]) {A0 : Option Addr}
    (HO : (scalar enc h1).R e W base ok (.slice A0 n cap) xs) {k : Nat} (hk : k ≤ n) {A : Option Addr} (hA : A = if cap = k then A0 else A0.map (·.add (k * 1))) {m : Nat} (hm : m = n - k) (c2 : Nat) :
    ∃ w1, (Builtin.clear_ #[t] ty #[.slice A m c2]).run P W = .ok (.tuple #[]) w1 ∧ (scalar enc h1).R e w1 base ok (.slice A0 n cap) (zer z xs k m) ∧ W.grownBy w1 (Value.slice A0 n cap).ownBlock := by
  obtain ⟨hn, hnc, _⟩ := R_reads' HO
  subst hm
  rcases Nat.eq_zero_or_pos (n - k) with h0 | h0
  · rw [h0]
    refine ⟨W, ?_, HO, World.grownBy.refl W _⟩
    cases A <;> simp [Builtin.clear_, run_underlying ht]
  · obtain ⟨g, c, hgc, _⟩ := R_form HO (by omega)
    injection hgc with ea _ ec
    subst ea
    have hA' : A = some ⟨g, k, none⟩ := by rw [hA, if_neg (by omega), Option.map_some, add_plain, Nat.mul_one]
    subst hA'
    have hc : ∀ j, j < n - k → (W.cell? ⟨g, k + j, none⟩).isSome = true ∧ W.frozen? ⟨g, k + j, none⟩ = false := fun j hj => by
      have := R_celln z HO ((k + j : Nat) : Int) (by omega) (by omega)
      rw [Int.toNat_natCast] at this
      exact ⟨by rw [this.1]; rfl, this.2⟩
    obtain ⟨a, b⟩ := R_zero z (n - k) k xs W HO
    exact ⟨_, Go.Lib.run_clear_slice W t e ty (enc z) ht hv hz (h1 z) g k (n - k) c2 h0 (fun j hj => (hc j hj).1) (fun j hj => (hc j hj).2), a, b⟩
end
section
variable {P : Program} {ops : Array Oper} {rest : List Oper} {o : Oper} {a : Act} {Q : Exit → Act → World → Prop} {α : Type} {enc : α → Value} {h1 : ∀ x, (enc x).oneCell' = true}
theorem R_clear_plain (z : α) {w0 W : World} (base : Nat) (hgd : o.guard = none) (s : Operand) (t e : TypeId) (ho : o.op = .call { callee := .builtin .clear, args := #[s], argTypes := #[t] })
    (ht : P.underlying t = some (.slice e)) (sz bytes : Nat) (hinfo : (P.info? e).map (fun i => (i.zero, i.size, i.bytes)) = some (some (enc z), sz, bytes)) (hz : (enc z).cells = #[enc z]) {n c k m c2 : Nat} {A A0 : Option Addr} {xs : List α} {ok : Nat → Prop}
    (hs : a.eval s = .slice A m c2) (hA : A = if c = k then A0 else A0.map (·.add (k * 1))) (hm : m = n - k)
    (HO : (scalar enc h1).R e W base ok (.slice A0 n c) xs) (hk : k ≤ n) (HB : Below base w0 W) (hbase : base ≤ W.heap.size)
    (h : ∀ w1, (scalar enc h1).R e w1 base ok (.slice A0 n c) (zer z xs k m) → Below base w0 w1 → W.grownBy w1 (Value.slice A0 n c).ownBlock → wpList P ops Q rest (a.put o.dst (.tuple #[])) w1) : wpList P ops Q (o :: rest) a W := by
  refine wpList_plain hgd fun K' hK' => ?_
  have hv : ∀ w, (zeroValue e).run P w = .ok (enc z) w := fun w => by
    obtain ⟨i0, hi, hzz⟩ := Option.map_eq_some_iff.1 hinfo
    injection hzz with hzz _
    simp [zeroValue, run_typeInfo _ hi, hzz]
  obtain ⟨w1, hr, h2, h3⟩ := R_clear_run (P := P) (h1 := h1) z t o.type ht hv hz HO hk hA hm c2
  unfold Oper.wp execOp
  simp only [ho, resolve, invoke, builtin, Sem.run_bind, Sem.run_pure, Result.andThen_ok, List.map_toArray, List.map_cons, List.map_nil, hs, hr]
  refine hK' _ _ ?_
  exact h w1 h2 (HB.grown h3 hbase (fun k hk => R_base HO k hk)) h3
end
end Kd
/-! slices.Compact: what is read of the cut s[k:], while s itself is written ahead of it. -/
def compInv (x0 x : List Int) (s k j : Int) : Prop := x.length = x0.length ∧ (0 ≤ j → 1 ≤ j ∧ k ≤ s + j - 1 ∧ ∀ i : Nat, s + j - 1 ≤ (i : Int) → x.getD i 0 = x0.getD i 0)
theorem compInv.start (x0 : List Int) (s : Int) : compInv x0 x0 s s 1 := ⟨rfl, fun _ => ⟨by omega, by omega, fun _ _ => rfl⟩⟩
theorem compInv.skip {x0 x : List Int} {s k j : Int} (h : compInv x0 x s k j) (h0 : 0 ≤ j) (h1 : j < 9223372036854775807) : compInv x0 x s k (wrap64 (j + 1)) := by
  have e : wrap64 (j + 1) = j + 1 := by unfold wrap64; omega
  obtain ⟨h2, h3⟩ := h
  obtain ⟨h4, h5, h6⟩ := h3 h0
  rw [e]
  exact ⟨h2, fun _ => ⟨by omega, by omega, fun i hi => h6 i (by omega)⟩⟩
theorem compInv.put {x0 x : List Int} {s k j : Int} (h : compInv x0 x s k j) (h0 : 0 ≤ j) (h1 : j < 9223372036854775807) (hk : 0 ≤ k) (hk1 : k < 9223372036854775807) (v : Int) : compInv x0 (x.set k.toNat v) s (wrap64 (k + 1)) (wrap64 (j + 1)) := by
  have e : wrap64 (j + 1) = j + 1 := by unfold wrap64; omega
  have e2 : wrap64 (k + 1) = k + 1 := by unfold wrap64; omega
  obtain ⟨h2, h3⟩ := h
  obtain ⟨h4, h5, h6⟩ := h3 h0
  rw [e, e2]
  refine ⟨by rw [List.length_set]; exact h2, fun _ => ⟨by omega, by omega, fun i hi => ?_⟩⟩
  have := h6 i (by omega)
  rw [← this, List.getD_eq_getElem?_getD, List.getD_eq_getElem?_getD, List.getElem?_set, if_neg (by omega)]
theorem compRead {e : Nat} {w : World} {base n c : Nat} {ok : Nat → Prop} {ad : Addr} {x0 x y : List Int} {s k j : Int} (h : (Kd.int .i64).R e w base ok (.slice (some ad) n c) x) (hy : y = x0.drop s.toNat) (hs0 : 0 ≤ s) (hs1 : s < (x0.length : Int)) {A : Option Addr} (hA : A = (if c = s.toNat then (some ad) else ((some ad) : Option Addr).map (·.add (s.toNat * 1)))) (hI : compInv x0 x s k j) (hj : 0 ≤ j) (i : Int) (hi : j - 1 ≤ i) (hi1 : i < (y.length : Int)) :
    ∃ ad', A = some ad' ∧ w.cell? (ad'.add i.toNat) = some (.int .i64 (rd y i)) := by
  obtain ⟨h2, h3⟩ := hI
  obtain ⟨h4, h5, h6⟩ := h3 hj
  obtain ⟨hn, hc, hC⟩ := Kd.R_reads' h
  have hyl : y.length = x0.length - s.toNat := by rw [hy, List.length_drop]
  have hcs : ¬ c = s.toNat := by omega
  obtain ⟨ad1, e1, hx⟩ := Kd.at_int hC (s + i) (by omega) (by omega)
  cases e1
  obtain ⟨g, cap, ef, _, _, _⟩ := Kd.R_form h (by omega)
  injection ef with ea _ _
  injection ea with ea
  subst ea
  rw [if_neg hcs] at hA
  rw [add_plain] at hx
  have hA' : A = some (⟨g, s.toNat, none⟩ : Addr) := by rw [hA, Option.map_some, add_plain, Nat.mul_one]
  refine ⟨_, hA', ?_⟩
  have e2 : (⟨g, s.toNat, none⟩ : Addr).add i.toNat = ⟨g, (s + i).toNat, none⟩ := by
    rw [show (s + i).toNat = s.toNat + i.toNat from by omega]
    clear hx hA hC h h3 h6 hA'
    unfold Addr.add
    split <;> simp_all
  rw [e2, hx]
  congr 2
  unfold rd
  rw [h6 (s + i).toNat (by omega), hy, List.getD_eq_getElem?_getD, List.getD_eq_getElem?_getD, List.getElem?_drop]
  congr 2
  omega
end Go.Proofs.YtcjhnpbehkfknaaW.PrintWords
