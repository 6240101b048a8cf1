/- What the laws' marks on lists of lists of whole numbers compute, and what a size's bound says of all rows together. -/
import Derived.Test.YthafknjaljhibaaXg1c
import Derived.Test.YthafknjaljhibaaXg1d
import Derived.Test.YthafknjaljhibaaXpBase
import Derived.Test.YthafknjaljhibaaXpMarks
import Derived.Test.YthafknjaljhibaaXpRowEq
set_option linter.unusedVariables false
set_option linter.unusedSimpArgs false
namespace Go.Proofs.Ythafknjaljhibaa.X
open Go.RowKit Go.Proofs.YthafknjaljhibaaW.PrintWords Go.Proofs.YthafknjaljhibaaW.PrintLast
def tot : List (List Int) → Nat
  | [] => 0
  | r :: rs => r.length + tot rs
def mrows : List (List Int) → Int → List (List Int)
  | [], _ => []
  | r :: rs, k => marked r.length k :: mrows rs (k + r.length)
theorem getD_mid {α : Type} (a b : List α) (d : α) (r : α) : (a ++ r :: b).getD a.length d = r := by
  rw [List.getD_eq_getElem?_getD, List.getElem?_append_right (Nat.le_refl _)]; simp
theorem set_mid {α : Type} (a b : List α) (r s : α) : (a ++ r :: b).set a.length s = a ++ s :: b := by
  rw [List.set_append_right _ _ (Nat.le_refl _)]; simp
def SzOk (l : List (List Int)) : Prop := l.length ≤ 1048576 ∧ (∀ i, i < l.length → (l.getD i []).length ≤ 1048576) ∧ tot l ≤ 1048576
theorem markSS_L : ∀ (rs pre : List (List Int)) (k : Int), 0 ≤ k → (pre ++ rs).length ≤ 1048576 → k + tot rs ≤ 2097152 → laws_markIntSS.L0 (pre ++ rs) k pre.length = some (k + tot rs, pre ++ mrows rs k)
  | [], pre, k, h0, hl, hk => by
    rw [laws_markIntSS.L0_eq, if_neg (by simp)]
    simp [tot, mrows]
  | s :: rs, pre, k, h0, hl, hk => by
    have hl' : pre.length + rs.length + 1 ≤ 1048576 := by simp at hl; omega
    unfold tot at hk ⊢
    rw [laws_markIntSS.L0_eq, if_pos (by simp; omega), if_pos (by omega), rdr, getD_mid, mark_F s k (by omega) (by omega), bsome, Int.toNat_natCast, set_mid, wn (by omega)]
    have := markSS_L rs (pre ++ [marked s.length k]) (k + s.length) (by omega) (by simp at hl ⊢; omega) (by omega)
    rw [List.append_assoc, List.singleton_append, List.length_append, List.length_singleton, List.append_assoc, List.singleton_append] at this
    refine Eq.trans this ?_
    rw [show k + (s.length : Int) + (tot rs : Int) = k + ((s.length + tot rs : Nat) : Int) from by omega]
    rfl
theorem markSS_F (l : List (List Int)) (k : Int) (h0 : 0 ≤ k) (hl : l.length ≤ 1048576) (hk : k + tot l ≤ 2097152) : laws_markIntSS.F l k = some (k + tot l, mrows l k) := by
  rw [laws_markIntSS.F_eq]
  exact markSS_L l [] k h0 (by simpa using hl) hk
theorem heldSS_L : ∀ (rs pre : List (List Int)) (k : Int), 0 ≤ k → (pre ++ rs).length ≤ 1048576 → k + tot rs ≤ 2097152 → laws_heldIntSS.L0 (pre ++ mrows rs k) k pre.length = some (k + tot rs)
  | [], pre, k, h0, hl, hk => by
    rw [laws_heldIntSS.L0_eq, if_neg (by simp [mrows])]
    simp [tot]
  | s :: rs, pre, k, h0, hl, hk => by
    have hl' : pre.length + rs.length + 1 ≤ 1048576 := by simp at hl; omega
    have hm : mrows (s :: rs) k = marked s.length k :: mrows rs (k + s.length) := rfl
    unfold tot at hk ⊢
    rw [laws_heldIntSS.L0_eq, hm, if_pos (by simp; omega), if_pos (by omega), rdr, getD_mid, held_F s.length k (by omega) (by omega), bsome, if_neg (by omega), wn (by omega)]
    have := heldSS_L rs (pre ++ [marked s.length k]) (k + s.length) (by omega) (by simp at hl ⊢; omega) (by omega)
    rw [List.append_assoc, List.singleton_append, List.length_append, List.length_singleton] at this
    refine Eq.trans this ?_
    rw [show k + (s.length : Int) + (tot rs : Int) = k + ((s.length + tot rs : Nat) : Int) from by omega]
theorem heldSS_F (l : List (List Int)) (k : Int) (h0 : 0 ≤ k) (hl : l.length ≤ 1048576) (hk : k + tot l ≤ 2097152) : laws_heldIntSS.F (mrows l k) k = some (k + tot l) := by
  rw [laws_heldIntSS.F_eq]
  exact heldSS_L l [] k h0 (by simpa using hl) hk
end Go.Proofs.Ythafknjaljhibaa.X
