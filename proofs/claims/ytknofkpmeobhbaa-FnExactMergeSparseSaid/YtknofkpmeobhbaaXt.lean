/- slices.Sort of []int over a row of the call's own, out of the library's proved sort: the row holds its numbers in order. -/
import Derived.Test.YtknofkpmeobhbaaXo
import Derived.Test.YtknofkpmeobhbaaXq
import Derived.Test.YtknofkpmeobhbaaWKept
import Derived.Sort.OwnSortedInts
import Derived.Sort.Row
import Derived.Sort.Grow
import Derived.OwnWalk
import Derived.WalkKit
namespace Go.Proofs.YtknofkpmeobhbaaW.PrintWords
open Go.RowKit
namespace Kd
theorem sort_holds {w : World} {e base g cap : Nat} {ok : Nat → Prop} {zs : List Int} (h : (Kd.int .i64).R e w base ok (.slice (some ⟨g, 0, none⟩) zs.length cap) zs) : Go.Sort.Holds (Value.int .i64) w g 0 zs.toArray := by
  intro j hj
  have hj' : j < zs.length := by simpa using hj
  obtain ⟨h1, h2⟩ := Kd.R_celln (0 : Int) h (j : Int) (by omega) (by omega)
  rw [Int.toNat_natCast] at h1 h2
  rw [Nat.zero_add]
  refine ⟨h1.trans ?_, h2⟩
  congr 2
  show zs.getD ((j : Int)).toNat 0 = _
  rw [Int.toNat_natCast, List.getD_eq_getElem?_getD, List.getElem?_eq_getElem hj', getElem!_pos _ j hj]
  simp
theorem sort_R {w : World} {e base g cap n : Nat} {os : Array Obj} {ok : Nat → Prop} {zs ts : List Int} (hl : ts.length = zs.length) (h : (Kd.int .i64).R e w base ok (.slice (some ⟨g, 0, none⟩) zs.length cap) zs) :
    (Kd.int .i64).R e (Go.Sort.grow (Go.Sort.putRow (Value.int .i64) (Go.Sort.ahead w n) g 0 ts.toArray) os) base ok (.slice (some ⟨g, 0, none⟩) zs.length cap) ts := by
  obtain ⟨h1, inner, ho, hr⟩ := h
  refine ⟨h1, ts.map (Value.int .i64), ?_, ?_⟩
  · rcases ho.2 with ⟨h0, _⟩ | ⟨g', cap', cur, hv, hg, hb, hn, hcap, hsz, _⟩
    · cases h0
    cases hv
    rw [hl]
    exact Go.ownsRow_sortedI hl hg hb hn hcap hsz
  · refine ⟨by rw [List.length_map]; exact (Nat.mul_one _).symm, fun j p hj => ?_⟩
    show List.take 1 (List.drop (j * 1) (ts.map (Value.int .i64))) = [Value.int .i64 p]
    obtain ⟨hj1, hj2⟩ := List.getElem?_eq_some_iff.1 hj
    rw [Nat.mul_one, List.drop_eq_getElem_cons (by rw [List.length_map]; exact hj1), List.getElem_map, hj2]
    rfl
theorem sort_calls {P : Program} {f : FuncId} {e : Nat} {P0 : Nat → Prop} {v : Value} {l0 : List Int} {w0 w : World}
    (hN : ∀ (p : Option Addr) (cap : Nat) (w : World), Calls P f #[.slice p 0 cap] w fun x w' => x = .returned (.tuple #[]) ∧ w' = w)
    (hS : ∀ (blk off cap : Nat) (zs : List Int) (w : World), Go.Sort.Holds (Value.int .i64) w blk off zs.toArray → blk < w.heap.size → zs.length < 4611686018427387904 → Calls P f #[.slice (some ⟨blk, off, none⟩) zs.length cap] w fun x w' =>
      x = .returned (.tuple #[]) ∧ ∃ n os, w' = Go.Sort.grow (Go.Sort.putRow (Value.int .i64) (Go.Sort.ahead w n) blk off (zs.mergeSort fun x y => decide (x ≤ y)).toArray) os)
    (hB : Below w0.heap.size w0 w) (ho : (Kd.int .i64).R e w w0.heap.size P0 v l0) (hlen : l0.length < 4611686018427387904) :
    Calls P f #[v] w fun x w' => x = .returned (.tuple #[]) ∧ (Kd.int .i64).R e w' w0.heap.size (fun k_ => (P0 k_ ∨ w.heap.size ≤ k_)) v (l0.mergeSort fun x y => decide (x ≤ y)) ∧ Below w0.heap.size w0 w' ∧ Kept w w' (fun k_ => P0 k_) := by
  rcases Nat.eq_zero_or_pos l0.length with h0 | hp
  · obtain rfl := List.length_eq_zero_iff.1 h0
    obtain ⟨A, c, rfl⟩ := Kd.R_slice ho
    refine (hN A c w).mono ?_
    rintro x w' ⟨rfl, rfl⟩
    refine ⟨rfl, ?_, hB, Kept.refl _ _⟩
    rw [List.mergeSort_nil]
    exact Kd.R_mono ho (fun _ hk => .inl hk)
  · obtain ⟨g, cap, rfl, hbg, hlg, _⟩ := Kd.R_form ho hp
    refine (hS g 0 cap l0 w (sort_holds ho) hlg hlen).mono ?_
    rintro x w' ⟨rfl, n, os, rfl⟩
    have hg := Go.grownBy_sortedI (w := w) (g := g) (n := n) (os := os) (l0.mergeSort fun x y => decide (x ≤ y)).toArray
    refine ⟨rfl, Kd.R_mono (sort_R (List.length_mergeSort _) ho) (fun _ hk => .inl hk), hB.grown hg hB.size (fun k hk => by cases hk; exact hbg), Kept.of_grown hg (Kept.refl _ _) (fun k hk => by cases hk; exact .inl (ho.1 g rfl))⟩
end Kd
end Go.Proofs.YtknofkpmeobhbaaW.PrintWords
