/- clear of the one element behind a row's length: the row stays as it is. -/
import Derived.Test.YtlcedciocmjggaaXm
import Derived.Test.YtlcedciocmjggaaWApart
import Derived.Lib.SliceRun
import Derived.Laws.OwnMore
import Derived.OwnWalk
import Derived.WalkKit
namespace Go.Proofs.YtlcedciocmjggaaW.PrintWords
open Go.RowKit
namespace Kd
section
variable {P : Program} {α : Type} {d : Kd α} {e base g n c : Nat} {W : World} {ok : Nat → Prop} {xs : List α}
theorem R_beyond (hsz : d.sz = 1) (h : d.R e W base ok (.slice (some ⟨g, 0, none⟩) n c) xs) (o : Nat) (ho : n ≤ o) (u : Value) : d.R e (W.setCell ⟨g, o, none⟩ u) base ok (.slice (some ⟨g, 0, none⟩) n c) xs ∧ W.grownBy (W.setCell ⟨g, o, none⟩ u) (some g) := by
  obtain ⟨rfl, _⟩ := R_reads' h
  obtain ⟨hok, inner, hown, hr⟩ := h
  obtain ⟨h1, h2⟩ := hown.stored o u
  have hl := hown.1
  rw [hsz, Nat.mul_one] at hl
  rw [List.set_eq_of_length_le (by omega)] at h1
  exact ⟨⟨hok, inner, h1, hr.imp_ (fun _ _ hp => d.M_move (fun k hk => Below.heap_setCell W ⟨g, o, none⟩ u k (fun e_ => hk.2 (by rw [e_]; rfl))) hp)⟩, h2⟩
theorem S_beyond (hsz : d.sz = 1) (h : S d e W base ok (.slice (some ⟨g, 0, none⟩) n c) xs) (o : Nat) (ho : n ≤ o) (u : Value) : S d e (W.setCell ⟨g, o, none⟩ u) base ok (.slice (some ⟨g, 0, none⟩) n c) xs ∧ W.grownBy (W.setCell ⟨g, o, none⟩ u) (some g) := by
  obtain ⟨f, hR⟩ := h
  obtain ⟨h1, h2⟩ := R_beyond (d := tag f d) hsz hR o ho u
  exact ⟨⟨f, h1⟩, h2⟩
theorem S_room (hsz : d.sz = 1) (h : S d e W base ok (.slice (some ⟨g, 0, none⟩) n c) xs) (o : Nat) (ho : o < c) : (W.cell? ⟨g, o, none⟩).isSome = true ∧ W.frozen? ⟨g, o, none⟩ = false := by
  obtain ⟨f, hok, inner, hown, hr⟩ := h
  rcases hown.2 with ⟨h', _⟩ | ⟨g', cap', cur, h', hb, hg, hnc, hcm, hcs, htake⟩
  · cases h'
  · simp only [Value.slice.injEq, Option.some.injEq, Addr.mk.injEq, and_true] at h'
    obtain ⟨rfl, _, rfl⟩ := h'
    have hcs' : cur.size = c := by rw [hcs]; show c * (tag f d).sz = c; rw [show (tag f d).sz = 1 from hsz, Nat.mul_one]
    refine ⟨?_, blk_frozen hg o⟩
    rw [blk_cell hg o, Array.getElem?_eq_getElem (by omega)]
    rfl
end
section
variable {P : Program} {ops : Array Oper} {rest : List Oper} {o : Oper} {a : Act} {Q : Exit → Act → World → Prop} {α : Type}
theorem S_clear1 (d : Kd α) (hd : d.sz = 1) (z : Value) (h1 : z.oneCell' = true) {w0 W : World} (base : Nat) (hgd : o.guard = none) (s : Operand) (t e : TypeId) (ho : o.op = .call { callee := .builtin .clear, args := #[s], argTypes := #[t] })
    (ht : P.underlying t = some (.slice e)) (sz bytes : Nat) (hinfo : (P.info? e).map (fun i => (i.zero, i.size, i.bytes)) = some (some z, sz, bytes)) (hz : z.cells = #[z]) {g n c c2 : Nat} {xs : List α} {ok : Nat → Prop}
    (hs : a.eval s = .slice (some ⟨g, n, none⟩) 1 c2) (HO : S d e W base ok (.slice (some ⟨g, 0, none⟩) n c) xs) (hn : n < c) (HB : Below base w0 W) (hbase : base ≤ W.heap.size)
    (h : ∀ w1, S d e w1 base ok (.slice (some ⟨g, 0, none⟩) n c) xs → Below base w0 w1 → W.grownBy w1 (some g) → wpList P ops Q rest (a.put o.dst (.tuple #[])) w1) : wpList P ops Q (o :: rest) a W := by
  refine wpList_plain hgd fun K' hK' => ?_
  have hv : ∀ w, (zeroValue e).run P w = .ok z w := fun w => by
    obtain ⟨i0, hi, hzz⟩ := Option.map_eq_some_iff.1 hinfo
    injection hzz with hzz _
    simp [zeroValue, run_typeInfo _ hi, hzz]
  obtain ⟨r1, r2⟩ := S_room hd HO n hn
  have hr := Go.Lib.run_clear_slice W t e o.type z ht hv hz h1 g n 1 c2 (by omega) (fun j hj => by rw [show n + j = n from by omega]; exact r1) (fun j hj => by rw [show n + j = n from by omega]; exact r2)
  obtain ⟨h2, h3⟩ := S_beyond hd HO n (Nat.le_refl _) z
  unfold Oper.wp execOp
  simp only [ho, resolve, invoke, builtin, Sem.run_bind, Sem.run_pure, Result.andThen_ok, List.map_toArray, List.map_cons, List.map_nil, hs, hr]
  refine hK' _ _ ?_
  exact h _ h2 (HB.grown h3 hbase (fun k hk => by injection hk with hk; subst hk; exact R_base (S_R HO) _ (by simp [Value.ownBlock]))) h3
end
end Kd
end Go.Proofs.YtlcedciocmjggaaW.PrintWords
