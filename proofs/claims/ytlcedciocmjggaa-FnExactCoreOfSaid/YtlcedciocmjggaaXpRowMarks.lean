/- What the laws' marks on lists of lists of whole numbers compute, and what a size's bound says of all rows together. -/
import Derived.Test.YtlcedciocmjggaaXg3c43a
import Derived.Test.YtlcedciocmjggaaXg3e07a
import Derived.Test.YtlcedciocmjggaaXg3e47a
import Derived.Test.YtlcedciocmjggaaXg40a
import Derived.Test.YtlcedciocmjggaaXpBase
import Derived.Test.YtlcedciocmjggaaXpIntRows
import Derived.Test.YtlcedciocmjggaaXpInts
import Derived.Test.YtlcedciocmjggaaXpMarks
namespace Go.Proofs.Ytlcedciocmjggaa.X
open Go.RowKit Go.Proofs.YtlcedciocmjggaaW.PrintWords Go.Proofs.YtlcedciocmjggaaW.PrintLast
set_option linter.unusedVariables false
set_option linter.unusedSimpArgs false
def tot : List (List Int) → Nat
  | [] => 0
  | r :: rs => r.length + tot rs
def mrows : List (List Int) → Int → List (List Int)
  | [], _ => []
  | r :: rs, k => marked r.length k :: mrows rs (k + r.length)
theorem getD_mid {α : Type} (a b : List α) (d : α) (r : α) : (a ++ r :: b).getD a.length d = r := by
  rw [List.getD_eq_getElem?_getD, List.getElem?_append_right (Nat.le_refl _)]; simp
theorem set_mid {α : Type} (a b : List α) (r s : α) : (a ++ r :: b).set a.length s = a ++ s :: b := by
  rw [List.set_append_right _ _ (Nat.le_refl _)]; simp
theorem szIntSS_T (hb : ∀ s : List Int, s.length ≤ 9223372036854775807 → True) : ∀ (rs pre : List (List Int)) (a : Int), (pre ++ rs).length ≤ 9223372036854775807 → (∀ s ∈ rs, s.length ≤ 9223372036854775807) → 0 ≤ a → a ≤ 1048576 → laws_szIntSS.L0 (pre ++ rs) a pre.length = some (-1) ∨ ∃ r, laws_szIntSS.L0 (pre ++ rs) a pre.length = some r ∧ 0 ≤ r ∧ r + tot rs = a
  | [], pre, a, hl, hs, h0, h1 => by
    rw [laws_szIntSS.L0_eq, if_neg (by simp)]
    exact Or.inr ⟨a, rfl, h0, by simp [tot]⟩
  | s :: rs, pre, a, hl, hs, h0, h1 => by
    have hz := hs s List.mem_cons_self
    have hl' : pre.length + rs.length + 1 ≤ 9223372036854775807 := by simp at hl; omega
    rw [laws_szIntSS.L0_eq, if_pos (by simp; omega), if_pos (by omega), rdr, getD_mid]
    rcases szIntS_f s a hz h0 h1 with h2 | ⟨h2, h3⟩
    · rw [h2, bsome, if_pos (by omega)]; exact Or.inl rfl
    · rw [h2, bsome, if_neg (by omega), wn (by omega)]
      have := szIntSS_T hb rs (pre ++ [s]) (a - s.length) (by simp at hl ⊢; omega) (fun x hx => hs x (List.mem_cons_of_mem _ hx)) (by omega) (by omega)
      rw [List.append_assoc, List.singleton_append, List.length_append, List.length_singleton] at this
      rcases this with h4 | ⟨r, h4, h5, h6⟩
      · exact Or.inl h4
      · exact Or.inr ⟨r, h4, h5, by unfold tot; omega⟩
def SzOk (l : List (List Int)) : Prop := l.length ≤ 1048576 ∧ (∀ i, i < l.length → (l.getD i []).length ≤ 1048576) ∧ tot l ≤ 1048576
theorem sz_hyper (a : Int) (l : List (List Int)) (hw : wfL (wfL (wfI .i64)) l) : laws_szHyper.F a l 1048576 = some (-1) ∨ ∃ r, laws_szHyper.F a l 1048576 = some r ∧ 0 ≤ r ∧ r ≤ 1048576 ∧ SzOk l := by
  have hs : ∀ s ∈ l, s.length ≤ 9223372036854775807 := fun s hs => (hw.2 s hs).1
  rw [laws_szHyper.F_eq]
  rcases szIntSS_F l 1048576 hw.1 hs (by omega) (by omega) with h | ⟨r, h, h1, h2, hl, hs'⟩
  · rw [h, bsome]; exact Or.inl rfl
  · right
    refine ⟨r, by rw [h, bsome, if_neg (by omega)], h1, h2, hl, hs', ?_⟩
    rw [laws_szIntSS.F_eq, w64 (by omega) (by omega), if_neg (by omega)] at h
    have := szIntSS_T (fun _ _ => trivial) l [] (1048576 - (l.length : Int)) (by simpa using hw.1) hs (by omega) (by omega)
    have h' : laws_szIntSS.L0 ([] ++ l) (1048576 - (l.length : Int)) (([] : List (List Int)).length : Int) = some r := h
    rw [h'] at this
    rcases this with h4 | ⟨r', h4, h5, h6⟩
    · injection h4 with h4; omega
    · omega
theorem markSS_L : ∀ (rs pre : List (List Int)) (k : Int), 0 ≤ k → (pre ++ rs).length ≤ 1048576 → k + tot rs ≤ 2097152 → laws_markIntSS.L0 (pre ++ rs) k pre.length = some (k + tot rs, pre ++ mrows rs k)
  | [], pre, k, h0, hl, hk => by
    rw [laws_markIntSS.L0_eq, if_neg (by simp)]
    simp [tot, mrows]
  | s :: rs, pre, k, h0, hl, hk => by
    have hl' : pre.length + rs.length + 1 ≤ 1048576 := by simp at hl; omega
    unfold tot at hk ⊢
    rw [laws_markIntSS.L0_eq, if_pos (by simp; omega), if_pos (by omega), rdr, getD_mid, mark_F s k (by omega) (by omega), bsome, Int.toNat_natCast, set_mid, wn (by omega)]
    have := markSS_L rs (pre ++ [marked s.length k]) (k + s.length) (by omega) (by simp at hl ⊢; omega) (by omega)
    rw [List.append_assoc, List.singleton_append, List.length_append, List.length_singleton, List.append_assoc, List.singleton_append] at this
    refine Eq.trans this ?_
    rw [show k + (s.length : Int) + (tot rs : Int) = k + ((s.length + tot rs : Nat) : Int) from by omega]
    rfl
theorem markSS_F (l : List (List Int)) (k : Int) (h0 : 0 ≤ k) (hl : l.length ≤ 1048576) (hk : k + tot l ≤ 2097152) : laws_markIntSS.F l k = some (k + tot l, mrows l k) := by
  rw [laws_markIntSS.F_eq]
  exact markSS_L l [] k h0 (by simpa using hl) hk
theorem heldSS_L : ∀ (rs pre : List (List Int)) (k : Int), 0 ≤ k → (pre ++ rs).length ≤ 1048576 → k + tot rs ≤ 2097152 → laws_heldIntSS.L0 (pre ++ mrows rs k) k pre.length = some (k + tot rs)
  | [], pre, k, h0, hl, hk => by
    rw [laws_heldIntSS.L0_eq, if_neg (by simp [mrows])]
    simp [tot]
  | s :: rs, pre, k, h0, hl, hk => by
    have hl' : pre.length + rs.length + 1 ≤ 1048576 := by simp at hl; omega
    have hm : mrows (s :: rs) k = marked s.length k :: mrows rs (k + s.length) := rfl
    unfold tot at hk ⊢
    rw [laws_heldIntSS.L0_eq, hm, if_pos (by simp; omega), if_pos (by omega), rdr, getD_mid, held_F s.length k (by omega) (by omega), bsome, if_neg (by omega), wn (by omega)]
    have := heldSS_L rs (pre ++ [marked s.length k]) (k + s.length) (by omega) (by simp at hl ⊢; omega) (by omega)
    rw [List.append_assoc, List.singleton_append, List.length_append, List.length_singleton] at this
    refine Eq.trans this ?_
    rw [show k + (s.length : Int) + (tot rs : Int) = k + ((s.length + tot rs : Nat) : Int) from by omega]
theorem heldSS_F (l : List (List Int)) (k : Int) (h0 : 0 ≤ k) (hl : l.length ≤ 1048576) (hk : k + tot l ≤ 2097152) : laws_heldIntSS.F (mrows l k) k = some (k + tot l) := by
  rw [laws_heldIntSS.F_eq]
  exact heldSS_L l [] k h0 (by simpa using hl) hk
theorem toHyper_F (a : Int) (l : List (List Int)) (h : SzOk l) : laws_toHyper.F a l = some (a, l) := by rw [laws_toHyper.F_eq, toIntSS_F l h.1 h.2.1, bsome]
theorem eqHyper_F (a : Int) (l : List (List Int)) (hl : l.length ≤ 1048576) (h : ∀ i, i < l.length → (l.getD i []).length ≤ 1048576) : laws_eqHyper.F a l a l = some true := by rw [laws_eqHyper.F_eq, if_pos rfl, eqIntSS_F l hl h, bsome, if_pos rfl]
theorem markHyper_F (a : Int) (l : List (List Int)) (h : SzOk l) : laws_markHyper.F a l 1 = some (1 + (tot l : Int), mrows l 1) := by rw [laws_markHyper.F_eq, markSS_F l 1 (by omega) h.1 (by have := h.2.2; omega), bsome]
end Go.Proofs.Ytlcedciocmjggaa.X
