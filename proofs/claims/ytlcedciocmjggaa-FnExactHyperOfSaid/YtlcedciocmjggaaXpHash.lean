/- A key's hash and place: the program's way and the reference's are one number. -/
import Derived.Test.YtlcedciocmjggaaXg40a
import Derived.Test.YtlcedciocmjggaaXpBase
namespace Go.Proofs.Ytlcedciocmjggaa.X
open Go.RowKit Go.Proofs.YtlcedciocmjggaaW.PrintWords Go.Proofs.YtlcedciocmjggaaW.PrintLast
set_option linter.unusedVariables false
set_option linter.unusedSimpArgs false
def hgo (s : ByteArray) : Nat → Nat → Int → Int
  | 0, _, h => h
  | d + 1, n, h => hgo s d (n + 1) ((263 * h + bt s n) % 65521)
def hash0 (a b : Int) : Int := (31 * a + 977 * b + 7) % 65521
def hashP (a b : Int) (s : ByteArray) : Int := (hgo s s.size 0 (hash0 a b)) ^ 11 % 65521
def placeP (a b : Int) (s : ByteArray) (m : Int) : Int := hashP a b s * m / 65521
theorem hgo_bd (s : ByteArray) : ∀ (d n : Nat) (h : Int), 0 ≤ h → h < 65521 → 0 ≤ hgo s d n h ∧ hgo s d n h < 65521
  | 0, n, h, h0, h1 => ⟨h0, h1⟩
  | d + 1, n, h, h0, h1 => hgo_bd s d (n + 1) _ (by omega) (by omega)
theorem hash0_bd (a b : Int) : 0 ≤ hash0 a b ∧ hash0 a b < 65521 := by unfold hash0; omega
theorem hashP_bd (a b : Int) (s : ByteArray) : 0 ≤ hashP a b s ∧ hashP a b s < 65521 := by unfold hashP; omega
theorem placeP_bd (a b : Int) (s : ByteArray) (m : Int) (hm : 1 ≤ m) : 0 ≤ placeP a b s m ∧ placeP a b s m < m := by
  have h := hashP_bd a b s
  unfold placeP
  constructor
  · exact Int.ediv_nonneg (Int.mul_nonneg h.1 (by omega)) (by omega)
  · apply Int.ediv_lt_of_lt_mul (by omega)
    rw [Int.mul_comm m]
    exact Int.mul_lt_mul_of_pos_right h.2 (by omega)
theorem emul (a b : Int) : a % 65521 * b % 65521 = a * b % 65521 := by
  rw [Int.mul_emod, Int.emod_emod_of_dvd _ (Int.dvd_refl _), ← Int.mul_emod]
theorem emul' (a b : Int) : a * (b % 65521) % 65521 = a * b % 65521 := by
  rw [Int.mul_comm, emul, Int.mul_comm]
theorem mul_bd {a b : Int} (h0 : 0 ≤ a) (h1 : a < 65521) (k0 : 0 ≤ b) (k1 : b < 65521) : 0 ≤ a * b ∧ a * b ≤ 4292870400 := by
  refine ⟨Int.mul_nonneg h0 k0, ?_⟩
  have := Int.mul_le_mul (show a ≤ 65520 by omega) (show b ≤ 65520 by omega) k0 (by omega)
  omega
theorem tmul {a b : Int} (h0 : 0 ≤ a) (h1 : a < 65521) (k0 : 0 ≤ b) (k1 : b < 65521) : Int.tmod (wrap64 (a * b)) 65521 = a * b % 65521 := by
  have := mul_bd h0 h1 k0 k1
  rw [w64 (by omega) (by omega), tmod_nn this.1]
theorem hash_step {s : ByteArray} {n : Nat} {h : Int} (h0 : 0 ≤ h) (h1 : h < 65521) : Int.tmod (wrap64 ((wrap64 (263 * h)) + (wrap64 (bt s n)))) 65521 = (263 * h + bt s n) % 65521 := by
  have := bt_range s n
  rw [w64 (x := 263 * h) (by omega) (by omega), w64 (x := bt s n) (by omega) (by omega), w64 (by omega) (by omega), tmod_nn (by omega)]
theorem hash_start {a b : Int} (ha : 0 ≤ a ∧ a ≤ 9999) (hb : 0 ≤ b ∧ b ≤ 9) : Int.tmod (wrap64 ((wrap64 ((wrap64 (31 * a)) + (wrap64 (977 * b)))) + 7)) 65521 = hash0 a b := by
  rw [w64 (x := 31 * a) (by omega) (by omega), w64 (x := 977 * b) (by omega) (by omega), w64 (x := 31 * a + 977 * b) (by omega) (by omega), w64 (by omega) (by omega), tmod_nn (by omega)]
  rfl
theorem pow11 (h : Int) : ((h * h % 65521 * (h * h % 65521) % 65521 * h % 65521) * (h * h % 65521 * (h * h % 65521) % 65521 * h % 65521) % 65521 * h) % 65521 = h ^ 11 % 65521 := by
  simp only [emul, emul']
  congr 1
  simp only [Int.pow_succ, Int.pow_zero, Int.one_mul, Int.mul_assoc]
theorem hash_spec_L (s : ByteArray) (hs : s.size ≤ 1048576) : ∀ (d n : Nat) (h : Int), n + d = s.size → 0 ≤ h → h < 65521 → spec_biHash.L0 s h n = some ((hgo s d n h) ^ 11 % 65521)
  | 0, n, h, hn, h0, h1 => by
    have e1 := tmul h0 h1 h0 h1
    have b1 : 0 ≤ h * h % 65521 ∧ h * h % 65521 < 65521 := by omega
    have e2 := tmul b1.1 b1.2 b1.1 b1.2
    have b2 : 0 ≤ h * h % 65521 * (h * h % 65521) % 65521 ∧ h * h % 65521 * (h * h % 65521) % 65521 < 65521 := by omega
    have e3 := tmul b2.1 b2.2 h0 h1
    have b3 : 0 ≤ h * h % 65521 * (h * h % 65521) % 65521 * h % 65521 ∧ h * h % 65521 * (h * h % 65521) % 65521 * h % 65521 < 65521 := by omega
    have e4 := tmul b3.1 b3.2 b3.1 b3.2
    have b4 : 0 ≤ (h * h % 65521 * (h * h % 65521) % 65521 * h % 65521) * (h * h % 65521 * (h * h % 65521) % 65521 * h % 65521) % 65521 ∧ (h * h % 65521 * (h * h % 65521) % 65521 * h % 65521) * (h * h % 65521 * (h * h % 65521) % 65521 * h % 65521) % 65521 < 65521 := by omega
    have e5 := tmul b4.1 b4.2 h0 h1
    rw [spec_biHash.L0_eq, if_neg (by omega), e1, e2, e3, e4, e5, pow11]
    rfl
  | d + 1, n, h, hn, h0, h1 => by
    rw [spec_biHash.L0_eq, if_pos (by omega), if_pos (by omega), hash_step h0 h1, wn (by omega)]
    exact hash_spec_L s hs d (n + 1) _ (by omega) (by omega) (by omega)
theorem hash_spec (a b : Int) (s : ByteArray) (ha : 0 ≤ a ∧ a ≤ 9999) (hb : 0 ≤ b ∧ b ≤ 9) (hs : s.size ≤ 1048576) : spec_biHash.F a b s = some (hashP a b s) := by
  rw [spec_biHash.F_eq, hash_start ha hb]
  exact hash_spec_L s hs s.size 0 _ (by omega) (hash0_bd a b).1 (hash0_bd a b).2
theorem hash_pow (h : Int) (h0 : 0 ≤ h) (h1 : h < 65521) : ∀ d i : Nat, i + d = 11 → impl_hash.L1 h (h ^ i % 65521) i = some (h ^ 11 % 65521)
  | 0, i, hi => by
    obtain rfl : i = 11 := by omega
    rw [impl_hash.L1_eq, if_neg (by omega)]
  | d + 1, i, hi => by
    rw [impl_hash.L1_eq, if_pos (by omega), tmul (by omega) (by omega) h0 h1, wn (by omega), emul, ← Int.pow_succ]
    exact hash_pow h h0 h1 d (i + 1) (by omega)
theorem hash_impl_L (s : ByteArray) (hs : s.size ≤ 1048576) : ∀ (d n : Nat) (h : Int), n + d = s.size → 0 ≤ h → h < 65521 → impl_hash.L0 s h s.size n = some ((hgo s d n h) ^ 11 % 65521)
  | 0, n, h, hn, h0, h1 => by
    rw [impl_hash.L0_eq, if_neg (by omega)]
    have e := hash_pow h h0 h1 11 0 (by omega)
    rw [Int.pow_zero] at e
    exact e
  | d + 1, n, h, hn, h0, h1 => by
    rw [impl_hash.L0_eq, if_pos (by omega), if_pos (by omega), if_pos (by omega), hash_step h0 h1, wn (by omega)]
    exact hash_impl_L s hs d (n + 1) _ (by omega) (by omega) (by omega)
theorem hash_impl (a b : Int) (s : ByteArray) (ha : 0 ≤ a ∧ a ≤ 9999) (hb : 0 ≤ b ∧ b ≤ 9) (hs : s.size ≤ 1048576) : impl_hash.F a b s = some (hashP a b s) := by
  rw [impl_hash.F_eq, hash_start ha hb]
  exact hash_impl_L s hs s.size 0 _ (by omega) (hash0_bd a b).1 (hash0_bd a b).2
theorem place_end {a b : Int} {s : ByteArray} {m : Int} (hm : 1 ≤ m ∧ m ≤ 4096) : wrap64 (Int.tdiv (wrap64 (hashP a b s * m)) 65521) = placeP a b s m := by
  have h := hashP_bd a b s
  have h0 : 0 ≤ hashP a b s * m := Int.mul_nonneg h.1 (by omega)
  have h1 : hashP a b s * m ≤ 65520 * 4096 := Int.mul_le_mul (by omega) (by omega) (by omega) (by omega)
  rw [w64 (x := hashP a b s * m) (by omega) (by omega), tdiv_nn h0]
  have hp := placeP_bd a b s m hm.1
  unfold placeP at hp ⊢
  rw [w64 (by omega) (by omega)]
theorem place_spec (a b : Int) (s : ByteArray) (m : Int) (ha : 0 ≤ a ∧ a ≤ 9999) (hb : 0 ≤ b ∧ b ≤ 9) (hs : s.size ≤ 1048576) (hm : 1 ≤ m ∧ m ≤ 4096) : spec_biPlace.F a b s m = some (placeP a b s m) := by
  rw [spec_biPlace.F_eq, hash_spec a b s ha hb hs, bsome, place_end hm]
theorem place_impl (a b : Int) (s : ByteArray) (m : Int) (ha : 0 ≤ a ∧ a ≤ 9999) (hb : 0 ≤ b ∧ b ≤ 9) (hs : s.size ≤ 1048576) (hm : 1 ≤ m ∧ m ≤ 4096) : impl_place.F a b s m = some (placeP a b s m) := by
  rw [impl_place.F_eq, hash_impl a b s ha hb hs, bsome, place_end hm]
end Go.Proofs.Ytlcedciocmjggaa.X
