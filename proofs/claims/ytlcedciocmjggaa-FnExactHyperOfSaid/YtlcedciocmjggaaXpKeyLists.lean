/- Strings that are keys in order: the program's way and the reference's tell the same. -/
import Derived.Test.YtlcedciocmjggaaXg40a
import Derived.Test.YtlcedciocmjggaaXpBase
import Derived.Test.YtlcedciocmjggaaXpKeys
namespace Go.Proofs.Ytlcedciocmjggaa.X
open Go.RowKit Go.Proofs.YtlcedciocmjggaaW.PrintWords Go.Proofs.YtlcedciocmjggaaW.PrintLast
set_option linter.unusedVariables false
set_option linter.unusedSimpArgs false
def keysAt (l : List ByteArray) (i : Nat) : Bool := keyB (l.getD i ByteArray.empty) && (decide (i = 0) || Op.bytesLess (l.getD (i - 1) ByteArray.empty).toList (l.getD i ByteArray.empty).toList)
def keysFrom (l : List ByteArray) (n d : Nat) : Bool := (List.range' n d).all (keysAt l)
def keysB (l : List ByteArray) : Bool := keysFrom l 0 l.length && decide ((l.length : Int) ≤ 40)
theorem keysFrom_succ (l : List ByteArray) (n d : Nat) : keysFrom l n (d + 1) = (keysAt l n && keysFrom l (n + 1) d) := by
  unfold keysFrom
  rw [List.range'_succ, List.all_cons]
theorem keysB_key {l : List ByteArray} (h : keysB l = true) (i : Nat) (hi : i < l.length) : keyB (l.getD i ByteArray.empty) = true := by
  unfold keysB keysFrom at h
  simp at h
  have := h.1 i hi
  unfold keysAt at this
  simp at this
  simpa using this.1
theorem keysB_len {l : List ByteArray} (h : keysB l = true) : l.length ≤ 40 := by
  unfold keysB at h
  simp at h
  omega
theorem keysB_less {l : List ByteArray} (h : keysB l = true) (i : Nat) (hi : i + 1 < l.length) : Op.bytesLess (l.getD i ByteArray.empty).toList (l.getD (i + 1) ByteArray.empty).toList = true := by
  unfold keysB keysFrom at h
  simp at h
  have := h.1 (i + 1) hi
  unfold keysAt at this
  simp at this
  simpa using this.2
theorem keys_spec_L (l : List ByteArray) (hl : l.length ≤ 1048576) (hs : ∀ i, i < l.length → (l.getD i ByteArray.empty).size ≤ 1048576) : ∀ d n : Nat, n + d = l.length → spec_biKeys.L0 l l l.length n = some (keysFrom l n d && decide ((l.length : Int) ≤ 40))
  | 0, n, h => by
    rw [spec_biKeys.L0_eq, if_neg (by omega)]; rfl
  | d + 1, n, h => by
    rw [spec_biKeys.L0_eq, if_pos (by omega), if_pos (by omega), if_pos (by omega), rdOfn, key_spec _ (hs n (by omega)), bsome, keysFrom_succ, wn (by omega), keys_spec_L l hl hs d (n + 1) (by omega)]
    unfold keysAt
    by_cases h1 : keyB (l.getD n ByteArray.empty) = true
    · rw [if_pos h1, h1]
      cases n with
      | zero => rw [if_neg (by omega)]; rfl
      | succ n =>
        rw [if_pos (by omega), wp (by omega), if_pos (by omega), if_pos (by omega), rdOfn, Nat.add_sub_cancel]
        by_cases h2 : Op.bytesLess (l.getD n ByteArray.empty).toList (l.getD (n + 1) ByteArray.empty).toList = true
        · rw [if_pos h2, h2]; simp
        · rw [if_neg h2, Bool.eq_false_iff.mpr h2]; simp
    · rw [if_neg h1, Bool.eq_false_iff.mpr h1]; rfl
theorem keys_spec (l : List ByteArray) (hl : l.length ≤ 1048576) (hs : ∀ i, i < l.length → (l.getD i ByteArray.empty).size ≤ 1048576) : spec_biKeys.F l = some (keysB l) := by
  rw [spec_biKeys.F_eq]
  exact keys_spec_L l hl hs l.length 0 (by omega)
theorem keys_impl_L (l : List ByteArray) (hl : l.length ≤ 1048576) (hs : ∀ i, i < l.length → (l.getD i ByteArray.empty).size ≤ 1048576) : ∀ d n : Nat, n + d = l.length → impl_AreKeys.L0 l l l.length n = some (keysFrom l n d && decide ((l.length : Int) ≤ 40))
  | 0, n, h => by
    rw [impl_AreKeys.L0_eq, if_neg (by omega)]; rfl
  | d + 1, n, h => by
    rw [impl_AreKeys.L0_eq, if_pos (by omega), if_pos (by omega), if_pos (by omega), rdOfn, key_impl _ (hs n (by omega)), bsome, keysFrom_succ, wn (by omega), keys_impl_L l hl hs d (n + 1) (by omega)]
    unfold keysAt
    by_cases h1 : keyB (l.getD n ByteArray.empty) = true
    · rw [if_pos h1, h1]
      cases n with
      | zero => rw [if_neg (by omega)]; rfl
      | succ n =>
        rw [if_pos (by omega), wp (by omega), if_pos (by omega), if_pos (by omega), rdOfn, Nat.add_sub_cancel]
        by_cases h2 : Op.bytesLess (l.getD n ByteArray.empty).toList (l.getD (n + 1) ByteArray.empty).toList = true
        · rw [if_pos h2, h2]; simp
        · rw [if_neg h2, Bool.eq_false_iff.mpr h2]; simp
    · rw [if_neg h1, Bool.eq_false_iff.mpr h1]; rfl
theorem keys_impl (l : List ByteArray) (hl : l.length ≤ 1048576) (hs : ∀ i, i < l.length → (l.getD i ByteArray.empty).size ≤ 1048576) : impl_AreKeys.F l = some (keysB l) := by
  rw [impl_AreKeys.F_eq]
  exact keys_impl_L l hl hs l.length 0 (by omega)
end Go.Proofs.Ytlcedciocmjggaa.X
