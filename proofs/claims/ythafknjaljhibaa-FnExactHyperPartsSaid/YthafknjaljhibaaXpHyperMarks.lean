/- What the laws' own helpers on a Hyper compute. -/
import Derived.Test.YthafknjaljhibaaXg1a
import Derived.Test.YthafknjaljhibaaXg1b
import Derived.Test.YthafknjaljhibaaXg1c
import Derived.Test.YthafknjaljhibaaXpBase
import Derived.Test.YthafknjaljhibaaXpIntRows
import Derived.Test.YthafknjaljhibaaXpInts
import Derived.Test.YthafknjaljhibaaXpRowEq
import Derived.Test.YthafknjaljhibaaXpRowMarks
set_option linter.unusedVariables false
set_option linter.unusedSimpArgs false
namespace Go.Proofs.Ythafknjaljhibaa.X
open Go.RowKit Go.Proofs.YthafknjaljhibaaW.PrintWords Go.Proofs.YthafknjaljhibaaW.PrintLast
theorem szIntSS_T (hb : ∀ s : List Int, s.length ≤ 9223372036854775807 → True) : ∀ (rs pre : List (List Int)) (a : Int), (pre ++ rs).length ≤ 9223372036854775807 → (∀ s ∈ rs, s.length ≤ 9223372036854775807) → 0 ≤ a → a ≤ 1048576 → laws_szIntSS.L0 (pre ++ rs) a pre.length = some (-1) ∨ ∃ r, laws_szIntSS.L0 (pre ++ rs) a pre.length = some r ∧ 0 ≤ r ∧ r + tot rs = a
  | [], pre, a, hl, hs, h0, h1 => by
    rw [laws_szIntSS.L0_eq, if_neg (by simp)]
    exact Or.inr ⟨a, rfl, h0, by simp [tot]⟩
  | s :: rs, pre, a, hl, hs, h0, h1 => by
    have hz := hs s List.mem_cons_self
    have hl' : pre.length + rs.length + 1 ≤ 9223372036854775807 := by simp at hl; omega
    rw [laws_szIntSS.L0_eq, if_pos (by simp; omega), if_pos (by omega), rdr, getD_mid]
    rcases szIntS_f s a hz h0 h1 with h2 | ⟨h2, h3⟩
    · rw [h2, bsome, if_pos (by omega)]; exact Or.inl rfl
    · rw [h2, bsome, if_neg (by omega), wn (by omega)]
      have := szIntSS_T hb rs (pre ++ [s]) (a - s.length) (by simp at hl ⊢; omega) (fun x hx => hs x (List.mem_cons_of_mem _ hx)) (by omega) (by omega)
      rw [List.append_assoc, List.singleton_append, List.length_append, List.length_singleton] at this
      rcases this with h4 | ⟨r, h4, h5, h6⟩
      · exact Or.inl h4
      · exact Or.inr ⟨r, h4, h5, by unfold tot; omega⟩
theorem sz_hyper (a : Int) (l : List (List Int)) (hw : wfL (wfL (wfI .i64)) l) : laws_szHyper.F a l 1048576 = some (-1) ∨ ∃ r, laws_szHyper.F a l 1048576 = some r ∧ 0 ≤ r ∧ r ≤ 1048576 ∧ SzOk l := by
  have hs : ∀ s ∈ l, s.length ≤ 9223372036854775807 := fun s hs => (hw.2 s hs).1
  rw [laws_szHyper.F_eq]
  rcases szIntSS_F l 1048576 hw.1 hs (by omega) (by omega) with h | ⟨r, h, h1, h2, hl, hs'⟩
  · rw [h, bsome]; exact Or.inl rfl
  · right
    refine ⟨r, by rw [h, bsome, if_neg (by omega)], h1, h2, hl, hs', ?_⟩
    rw [laws_szIntSS.F_eq, w64 (by omega) (by omega), if_neg (by omega)] at h
    have := szIntSS_T (fun _ _ => trivial) l [] (1048576 - (l.length : Int)) (by simpa using hw.1) hs (by omega) (by omega)
    have h' : laws_szIntSS.L0 ([] ++ l) (1048576 - (l.length : Int)) (([] : List (List Int)).length : Int) = some r := h
    rw [h'] at this
    rcases this with h4 | ⟨r', h4, h5, h6⟩
    · injection h4 with h4; omega
    · omega
theorem toHyper_F (a : Int) (l : List (List Int)) (h : SzOk l) : laws_toHyper.F a l = some (a, l) := by rw [laws_toHyper.F_eq, toIntSS_F l h.1 h.2.1, bsome]
theorem eqHyper_F (a : Int) (l : List (List Int)) (hl : l.length ≤ 1048576) (h : ∀ i, i < l.length → (l.getD i []).length ≤ 1048576) : laws_eqHyper.F a l a l = some true := by rw [laws_eqHyper.F_eq, if_pos rfl, eqIntSS_F l hl h, bsome, if_pos rfl]
theorem markHyper_F (a : Int) (l : List (List Int)) (h : SzOk l) : laws_markHyper.F a l 1 = some (1 + (tot l : Int), mrows l 1) := by rw [laws_markHyper.F_eq, markSS_F l 1 (by omega) h.1 (by have := h.2.2; omega), bsome]
end Go.Proofs.Ythafknjaljhibaa.X
