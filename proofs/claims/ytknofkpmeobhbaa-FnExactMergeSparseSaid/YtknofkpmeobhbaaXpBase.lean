/- Small words on whole numbers of 64 bits and on lists by index, used in the plain parts of this seat's laws. -/
import Derived.Test.YtknofkpmeobhbaaXx0
set_option linter.unusedVariables false
set_option linter.unusedSimpArgs false
namespace Go.Proofs.Ytknofkpmeobhbaa.X
open Go.RowKit Go.Proofs.YtknofkpmeobhbaaW.PrintWords Go.Proofs.YtknofkpmeobhbaaW.PrintLast
theorem w64 {x : Int} (h0 : -9223372036854775808 ≤ x) (h1 : x ≤ 9223372036854775807) : wrap64 x = x := by unfold wrap64; omega
theorem wn {n : Nat} (h : n < 9223372036854775807) : wrap64 ((n : Int) + 1) = ((n + 1 : Nat) : Int) := by unfold wrap64; omega
theorem wp {n : Nat} (h : n < 9223372036854775807) : wrap64 (((n + 1 : Nat) : Int) - 1) = (n : Int) := by unfold wrap64; omega
theorem rdn (xs : List Int) (n : Nat) : rd xs (n : Int) = xs.getD n 0 := rfl
theorem rdOfn {α : Type} (d : α) (xs : List α) (n : Nat) : rdOf d xs (n : Int) = xs.getD n d := rfl
theorem tmod_nn {a b : Int} (h : 0 ≤ a) : Int.tmod a b = a % b := Int.tmod_eq_emod_of_nonneg h
theorem tdiv_nn {a b : Int} (h : 0 ≤ a) : Int.tdiv a b = a / b := Int.tdiv_eq_ediv_of_nonneg h
theorem set_step {α : Type} (l : List α) (d d' : α) (n : Nat) (h : n < l.length) : (l.take n ++ List.replicate (l.length - n) d).set n (l.getD n d') = l.take (n + 1) ++ List.replicate (l.length - (n + 1)) d := by
  apply List.ext_getElem?
  intro i
  rw [List.getElem?_set]
  have hl : (l.take n).length = n := by simp; omega
  by_cases hi : n = i
  · subst hi
    rw [if_pos rfl, if_pos (by simp; omega), List.getElem?_append_left (by simp; omega), List.getElem?_take_of_lt (by omega)]
    simp [List.getD, List.getElem?_eq_getElem h]
  · rw [if_neg hi]
    rcases Nat.lt_or_ge i n with h1 | h1
    · rw [List.getElem?_append_left (by omega), List.getElem?_append_left (by simp; omega), List.getElem?_take_of_lt h1, List.getElem?_take_of_lt (by omega)]
    · rw [List.getElem?_append_right (by omega), List.getElem?_append_right (by simp; omega), List.getElem?_replicate, List.getElem?_replicate]
      have : (l.take (n + 1)).length = n + 1 := by simp; omega
      rw [hl, this]
      by_cases h2 : i - n < l.length - n
      · rw [if_pos h2, if_pos (by omega)]
      · rw [if_neg h2, if_neg (by omega)]
theorem getD_mem {α : Type} (l : List α) (d : α) (n : Nat) (h : n < l.length) : l.getD n d ∈ l := by
  rw [List.getD_eq_getElem?_getD, List.getElem?_eq_getElem h]
  exact List.getElem_mem h
theorem getD_app_left {α : Type} (l m : List α) (d : α) (n : Nat) (h : n < l.length) : (l ++ m).getD n d = l.getD n d := by
  rw [List.getD_eq_getElem?_getD, List.getD_eq_getElem?_getD, List.getElem?_append_left h]
theorem getD_set_self {α : Type} (l : List α) (d v : α) (n : Nat) (h : n < l.length) : (l.set n v).getD n d = v := by
  rw [List.getD_eq_getElem?_getD, List.getElem?_set, if_pos rfl, if_pos h]; rfl
theorem getD_set_ne {α : Type} (l : List α) (d v : α) (n m : Nat) (h : n ≠ m) : (l.set n v).getD m d = l.getD m d := by
  rw [List.getD_eq_getElem?_getD, List.getD_eq_getElem?_getD, List.getElem?_set, if_neg h]
theorem take_succ_getD {α : Type} (l : List α) (d : α) (n : Nat) (h : n < l.length) : l.take (n + 1) = l.take n ++ [l.getD n d] := by
  rw [List.take_add_one, List.getD_eq_getElem?_getD, List.getElem?_eq_getElem h]; rfl
theorem bsome {α β : Type} (a : α) (f : α → Option β) : (some a).bind f = f a := rfl
end Go.Proofs.Ytknofkpmeobhbaa.X
