/- The plain part of the law FnExactHyperParts: the program's and the reference's answers are the same, the argument stays, and the answer's lists are its own, for all arguments. WITH: Hangs HangList HangParts Groups GroupsAll -/
import Derived.Test.YthafknjaljhibaaXg1a
import Derived.Test.YthafknjaljhibaaXg1b
import Derived.Test.YthafknjaljhibaaXg1c
import Derived.Test.YthafknjaljhibaaXg1d
import Derived.Test.YthafknjaljhibaaXpBase
import Derived.Test.YthafknjaljhibaaXpContains
import Derived.Test.YthafknjaljhibaaXpHasF
import Derived.Test.YthafknjaljhibaaXpHyper
import Derived.Test.YthafknjaljhibaaXpHyperMarks
import Derived.Test.YthafknjaljhibaaXpRowEq
import Derived.Test.YthafknjaljhibaaXpRowMarks
import Derived.Test.YthafknjaljhibaaXx0
set_option linter.unusedVariables false
set_option linter.unusedSimpArgs false
namespace Go.Proofs.Ythafknjaljhibaa.X
open Go.RowKit Go.Proofs.YthafknjaljhibaaW.PrintWords Go.Proofs.YthafknjaljhibaaW.PrintLast
/-- Two edges have a number in common. -/
def meet (E : List (List Int)) (i j : Nat) : Bool := (E.getD i []).any fun p => decide (p ∈ E.getD j [])
theorem meet_symm {E : List (List Int)} {i j : Nat} (h : meet E i j = true) : meet E j i = true := by
  unfold meet at *
  rw [List.any_eq_true] at *
  obtain ⟨p, h1, h2⟩ := h
  exact ⟨p, of_decide_eq_true h2, decide_eq_true h1⟩
/-- Edge j hangs together with edge i. -/
inductive Conn (E : List (List Int)) (i : Nat) : Nat → Prop
  | refl : Conn E i i
  | step {j k : Nat} : Conn E i j → k < E.length → meet E k j = true → Conn E i k
theorem any_dropH {α : Type} (l : List α) (d : α) (p : α → Bool) (n : Nat) (h : n < l.length) : (l.drop n).any p = (p (l.getD n d) || (l.drop (n + 1)).any p) := by
  rw [List.drop_eq_getElem_cons h, List.any_cons, List.getD_eq_getElem?_getD, List.getElem?_eq_getElem h]
  rfl
theorem peMeet_L (a b : List Int) (ha : a.length ≤ 1048576) (hb : b.length ≤ 1048576) : ∀ d n : Nat, n + d = a.length → spec_peMeet.L0 b a a.length n = some ((a.drop n).any fun p => decide (p ∈ b))
  | 0, n, h => by rw [spec_peMeet.L0_eq, if_neg (by omega), List.drop_eq_nil_of_le (by omega)]; rfl
  | d + 1, n, h => by
    rw [spec_peMeet.L0_eq, if_pos (by omega), if_pos (by omega), if_pos (by omega), rdn, has_F b _ hb, bsome, wn (by omega), peMeet_L a b ha hb d (n + 1) (by omega), any_dropH a 0 _ n (by omega)]
    by_cases c : a.getD n 0 ∈ b
    · rw [if_pos (decide_eq_true c), decide_eq_true c, Bool.true_or]
    · rw [decide_eq_false c, if_neg (by decide), Bool.false_or]
theorem peMeet_F (a b : List Int) (ha : a.length ≤ 1048576) (hb : b.length ≤ 1048576) : spec_peMeet.F a b = some (a.any fun p => decide (p ∈ b)) := by
  rw [spec_peMeet.F_eq]
  have := peMeet_L a b ha hb a.length 0 (by omega)
  rwa [List.drop_zero] at this
/-- One pass over all edges: those that meet edge v and aren't found yet are found. -/
def scan (E : List (List Int)) (v : Nat) : Nat → Nat → List Nat → List Nat
  | 0, _, F => F
  | d + 1, n, F => scan E v d (n + 1) (if meet E n v = true ∧ n ∉ F then F ++ [n] else F)
theorem scan_pre (E : List (List Int)) (v : Nat) : ∀ (d n : Nat) (F : List Nat), ∃ T, scan E v d n F = F ++ T
  | 0, n, F => ⟨[], by simp [scan]⟩
  | d + 1, n, F => by
    obtain ⟨T, h⟩ := scan_pre E v d (n + 1) (if meet E n v = true ∧ n ∉ F then F ++ [n] else F)
    rw [scan, h]
    split
    · exact ⟨[n] ++ T, by simp⟩
    · exact ⟨T, rfl⟩
theorem scan_facts (E : List (List Int)) (v : Nat) : ∀ (d n : Nat) (F : List Nat), n + d = E.length → F.Nodup → (scan E v d n F).Nodup ∧ (∀ a ∈ scan E v d n F, a ∈ F ∨ (a < E.length ∧ meet E a v = true)) ∧ ∀ j, n ≤ j → j < E.length → meet E j v = true → j ∈ scan E v d n F
  | 0, n, F, h, hF => ⟨hF, fun a ha => .inl ha, fun j h1 h2 => by omega⟩
  | d + 1, n, F, h, hF => by
    have hF' : (if meet E n v = true ∧ n ∉ F then F ++ [n] else F).Nodup := by
      split
      · rename_i c
        rw [List.nodup_append]
        exact ⟨hF, by simp, fun a ha b hb => by
          rw [List.mem_singleton] at hb
          subst hb
          rintro rfl
          exact c.2 ha⟩
      · exact hF
    obtain ⟨s1, s2, s3⟩ := scan_facts E v d (n + 1) _ (by omega) hF'
    refine ⟨s1, fun a ha => ?_, fun j h1 h2 h3 => ?_⟩
    · rcases s2 a ha with h4 | h4
      · split at h4
        · rename_i c
          rw [List.mem_append, List.mem_singleton] at h4
          rcases h4 with h4 | h4
          · exact .inl h4
          · exact .inr ⟨by omega, by rw [h4]; exact c.1⟩
        · exact .inl h4
      · exact .inr h4
    · by_cases c : j = n
      · subst c
        obtain ⟨T, hT⟩ := scan_pre E v d (j + 1) (if meet E j v = true ∧ j ∉ F then F ++ [j] else F)
        rw [scan, hT, List.mem_append]
        left
        by_cases c2 : j ∈ F
        · rw [if_neg (fun x => x.2 c2)]; exact c2
        · rw [if_pos ⟨h3, c2⟩]; simp
      · exact s3 j (by omega) h2 h3
theorem nodup_len : ∀ (n : Nat) (F : List Nat), F.Nodup → (∀ a ∈ F, a < n) → F.length ≤ n
  | 0, F, _, h => by
    cases F with
    | nil => exact Nat.le_refl _
    | cons a t => exact absurd (h a (by simp)) (Nat.not_lt_zero _)
  | n + 1, F, hF, h => by
    by_cases c : n ∈ F
    · have h1 := nodup_len n (F.erase n) (hF.erase n) (fun a ha => by
        have h2 := (List.Nodup.mem_erase_iff hF).1 ha
        have := h a h2.2
        omega)
      rw [List.length_erase_of_mem c] at h1
      have : 0 < F.length := List.length_pos_of_mem c
      omega
    · have := nodup_len n F hF (fun a ha => by
        have h2 := h a ha
        have : a ≠ n := fun e => c (e ▸ ha)
        omega)
      omega
def castL (F : List Nat) : List Int := F.map fun n : Nat => (n : Int)
theorem cast_len (F : List Nat) : (castL F).length = F.length := by simp [castL]
theorem cast_getD (F : List Nat) (n : Nat) (h : n < F.length) : (castL F).getD n 0 = ((F.getD n 0 : Nat) : Int) := by
  simp [castL, List.getD_eq_getElem?_getD, List.getElem?_eq_getElem h]
theorem cast_mem (F : List Nat) (n : Nat) : (n : Int) ∈ castL F ↔ n ∈ F := by
  unfold castL
  rw [List.mem_map]
  constructor
  · rintro ⟨a, h1, h2⟩
    have : a = n := by omega
    exact this ▸ h1
  · exact fun h => ⟨n, h, rfl⟩
theorem hang_L1 (E : List (List Int)) (P : Int) (hE : E.length ≤ 1000) (hr : ∀ i, (E.getD i []).length ≤ 1048576) (k : Nat) : ∀ (d n : Nat) (F : List Nat), n + d = E.length → k < F.length → (∀ a ∈ F, a < E.length) → F.Nodup →
    spec_peHang.L1 (castL F) k E E.length n P E = spec_peHang.L0 (castL (scan E (F.getD k 0) d n F)) ((k + 1 : Nat) : Int) P E
  | 0, n, F, h, hk, hF, hN => by
    have hlen := nodup_len _ F hN hF
    rw [spec_peHang.L1_eq, if_neg (by omega), wn (by omega), scan]
  | d + 1, n, F, h, hk, hF, hN => by
    have hlen := nodup_len _ F hN hF
    have hv : F.getD k 0 < E.length := hF _ (getD_mem F 0 k hk)
    have hl := cast_len F
    rw [spec_peHang.L1_eq, if_pos (by omega), if_pos (by omega), if_pos (by omega), if_pos (by omega), if_pos (by omega), rdn, cast_getD F k hk, if_pos (by omega), if_pos (by omega),
      show rd_L1 E (n : Int) = E.getD n [] from rfl, show rd_L1 E ((F.getD k 0 : Nat) : Int) = E.getD (F.getD k 0) [] from rfl, peMeet_F _ _ (hr _) (hr _), bsome, has_F _ _ (by omega), bsome, wn (by omega)]
    have e : ((E.getD n []).any fun p => decide (p ∈ E.getD (F.getD k 0) [])) = meet E n (F.getD k 0) := rfl
    rw [e, scan]
    have hk2 : ∀ c : Bool, k < (if c = true then F ++ [n] else F).length ∧ (if c = true then F ++ [n] else F).getD k 0 = F.getD k 0 := fun c => by
      cases c with
      | true => exact ⟨by simp; omega, getD_app_left F [n] 0 k hk⟩
      | false => exact ⟨hk, rfl⟩
    by_cases c1 : meet E n (F.getD k 0) = true
    · rw [if_pos c1]
      by_cases c2 : n ∈ F
      · rw [if_pos (decide_eq_true ((cast_mem F n).2 c2)), if_neg (fun x => x.2 c2)]
        exact hang_L1 E P hE hr k d (n + 1) F (by omega) hk hF hN
      · rw [if_neg (by rw [decide_eq_false (fun x => c2 ((cast_mem F n).1 x))]; decide), if_pos (by omega), if_pos ⟨c1, c2⟩]
        have h2 := hang_L1 E P hE hr k d (n + 1) (F ++ [n]) (by omega) (by simp; omega) (fun a ha => by
          rw [List.mem_append, List.mem_singleton] at ha
          rcases ha with ha | ha
          · exact hF a ha
          · omega) (by
          rw [List.nodup_append]
          exact ⟨hN, by simp, fun a ha b hb => by
            rw [List.mem_singleton] at hb
            subst hb
            rintro rfl
            exact c2 ha⟩)
        rw [getD_app_left F [n] 0 k hk] at h2
        rw [show castL (F ++ [n]) = castL F ++ [(n : Int)] from by simp [castL]] at h2
        exact h2
    · rw [if_neg c1, if_neg (fun x => c1 x.1)]
      exact hang_L1 E P hE hr k d (n + 1) F (by omega) hk hF hN
theorem hang_L0 (E : List (List Int)) (P : Int) (hE : E.length ≤ 1000) (hr : ∀ i, (E.getD i []).length ≤ 1048576) (i : Nat) : ∀ (d k : Nat) (F : List Nat), k + d = E.length → F.Nodup → (∀ a ∈ F, a < E.length ∧ Conn E i a) → i ∈ F → k ≤ F.length → (∀ p, p < k → ∀ j, j < E.length → meet E j (F.getD p 0) = true → j ∈ F) →
    ∃ G : List Nat, spec_peHang.L0 (castL F) k P E = spec_peHang.L2 [] (castL G) (castL G).length 0 ∧ G.Nodup ∧ (∀ a ∈ G, a < E.length ∧ Conn E i a) ∧ i ∈ G ∧ ∀ a ∈ G, ∀ j, j < E.length → meet E j a = true → j ∈ G := by
  intro d
  have fin : ∀ (k : Nat) (F : List Nat), F.length = k → F.Nodup → (∀ a ∈ F, a < E.length ∧ Conn E i a) → i ∈ F → (∀ p, p < k → ∀ j, j < E.length → meet E j (F.getD p 0) = true → j ∈ F) →
      ∃ G : List Nat, spec_peHang.L0 (castL F) k P E = spec_peHang.L2 [] (castL G) (castL G).length 0 ∧ G.Nodup ∧ (∀ a ∈ G, a < E.length ∧ Conn E i a) ∧ i ∈ G ∧ ∀ a ∈ G, ∀ j, j < E.length → meet E j a = true → j ∈ G := fun k F hk hN hF hi hc => by
    refine ⟨F, ?_, hN, hF, hi, fun a ha j hj hm => ?_⟩
    · have hl := cast_len F
      rw [spec_peHang.L0_eq, if_neg (by omega)]
    · obtain ⟨p, hp, rfl⟩ := List.getElem_of_mem ha
      refine hc p (by omega) j hj ?_
      rw [List.getD_eq_getElem?_getD, List.getElem?_eq_getElem hp]
      exact hm
  induction d with
  | zero =>
    intro k F h hN hF hi hk hc
    have hlen := nodup_len _ F hN (fun a ha => (hF a ha).1)
    exact fin k F (by omega) hN hF hi hc
  | succ d ih =>
    intro k F h hN hF hi hk hc
    by_cases c : k < F.length
    · have hl := cast_len F
      rw [spec_peHang.L0_eq, if_pos (by omega)]
      have h1 := hang_L1 E P hE hr k E.length 0 F (by omega) c (fun a ha => (hF a ha).1) hN
      rw [show ((0 : Nat) : Int) = 0 from rfl] at h1
      rw [h1]
      obtain ⟨s1, s2, s3⟩ := scan_facts E (F.getD k 0) E.length 0 F (by omega) hN
      obtain ⟨T, hT⟩ := scan_pre E (F.getD k 0) E.length 0 F
      have hv := hF _ (getD_mem F 0 k c)
      refine ih (k + 1) _ (by omega) s1 (fun a ha => ?_) (by rw [hT]; exact List.mem_append_left _ hi) (by rw [hT, List.length_append]; omega) (fun p hp j hj hm => ?_)
      · rcases s2 a ha with h2 | ⟨h2, h3⟩
        · exact hF a h2
        · exact ⟨h2, .step hv.2 h2 h3⟩
      · have e : (scan E (F.getD k 0) E.length 0 F).getD p 0 = F.getD p 0 := by rw [hT]; exact getD_app_left F T 0 p (by omega)
        rw [e] at hm
        by_cases cp : p = k
        · subst cp
          exact s3 j (Nat.zero_le _) hj hm
        · rw [hT]
          exact List.mem_append_left _ (hc p (by omega) j hj hm)
    · exact fin k F (by omega) hN hF hi hc
/-- The numbers below n that p takes, in order. -/
def sel (p : Nat → Bool) : Nat → List Nat
  | 0 => []
  | n + 1 => if p n = true then sel p n ++ [n] else sel p n
theorem sel_mem (p : Nat → Bool) : ∀ (n a : Nat), a ∈ sel p n ↔ a < n ∧ p a = true
  | 0, a => by simp [sel]
  | n + 1, a => by
    have ih := sel_mem p n a
    rw [sel]
    by_cases c : p n = true
    · rw [if_pos c, List.mem_append, List.mem_singleton, ih]
      constructor
      · rintro (h | h)
        · exact ⟨by omega, h.2⟩
        · subst h; exact ⟨by omega, c⟩
      · rintro ⟨h1, h2⟩
        by_cases e : a = n
        · exact .inr e
        · exact .inl ⟨by omega, h2⟩
    · rw [if_neg c, ih]
      constructor
      · exact fun h => ⟨by omega, h.2⟩
      · rintro ⟨h1, h2⟩
        refine ⟨?_, h2⟩
        by_cases e : a = n
        · subst e; exact absurd h2 c
        · omega
theorem sel_len (p : Nat → Bool) : ∀ n, (sel p n).length ≤ n
  | 0 => Nat.le_refl _
  | n + 1 => by
    have := sel_len p n
    rw [sel]; split
    · simp; omega
    · omega
theorem sel_congr (p q : Nat → Bool) : ∀ n, (∀ a, a < n → p a = q a) → sel p n = sel q n
  | 0, _ => rfl
  | n + 1, h => by rw [sel, sel, sel_congr p q n (fun a ha => h a (by omega)), h n (by omega)]
theorem sel_split (p : Nat → Bool) (v : Nat) (hv : p v = false) : ∀ d n : Nat, v + 1 + d = n → ∃ B : List Nat, sel p n = sel p v ++ B ∧ (∀ b ∈ B, v < b) ∧ sel (fun j => p j || decide (j = v)) n = sel p v ++ v :: B
  | 0, n, h => by
    have hn : n = v + 1 := by omega
    subst hn
    refine ⟨[], ?_, by simp, ?_⟩
    · rw [sel, if_neg (by rw [hv]; decide), List.append_nil]
    · rw [sel, if_pos (by simp), sel_congr _ p v (fun a ha => by rw [decide_eq_false (by omega), Bool.or_false])]
  | d + 1, n, h => by
    obtain ⟨m, rfl⟩ : ∃ m, n = m + 1 := ⟨n - 1, by omega⟩
    obtain ⟨B, b1, b2, b3⟩ := sel_split p v hv d m (by omega)
    have e : (p m || decide (m = v)) = p m := by rw [decide_eq_false (by omega), Bool.or_false]
    cases c : p m with
    | true =>
      refine ⟨B ++ [m], ?_, fun b hb => ?_, ?_⟩
      · rw [sel, if_pos c, b1, List.append_assoc]
      · rw [List.mem_append, List.mem_singleton] at hb
        rcases hb with hb | hb
        · exact b2 b hb
        · omega
      · rw [sel, if_pos (by rw [e, c]), b3]; simp
    | false =>
      refine ⟨B, ?_, b2, ?_⟩
      · rw [sel, if_neg (by rw [c]; decide), b1]
      · rw [sel, if_neg (by rw [e, c]; decide), b3]
theorem sel_head (p : Nat → Bool) : ∀ n, (∃ a, a < n ∧ p a = true) → ∃ h, h < n ∧ p h = true ∧ (∀ j, j < h → p j = false) ∧ (sel p n).getD 0 0 = h ∧ 0 < (sel p n).length
  | 0, ⟨a, h, _⟩ => by omega
  | n + 1, ⟨a, h1, h2⟩ => by
    by_cases c : ∃ a, a < n ∧ p a = true
    · obtain ⟨h, g1, g2, g3, g4, g5⟩ := sel_head p n c
      refine ⟨h, by omega, g2, g3, ?_, ?_⟩
      · rw [sel]; split
        · rw [getD_app_left _ _ _ _ g5]; exact g4
        · exact g4
      · rw [sel]; split
        · simp
        · exact g5
    · have hz : ∀ j, j < n → p j = false := fun j hj => by
        cases hp : p j with
        | false => rfl
        | true => exact absurd ⟨j, hj, hp⟩ c
      have ha : a = n := by
        by_cases e : a = n
        · exact e
        · rw [hz a (by omega)] at h2; exact absurd h2 (by decide)
      subst ha
      have e : sel p a = [] := by
        cases hs : sel p a with
        | nil => rfl
        | cons x t =>
          have := (sel_mem p a x).1 (by rw [hs]; simp)
          rw [hz x this.1] at this
          exact absurd this.2 (by decide)
      refine ⟨a, by omega, h2, hz, ?_, ?_⟩
      · rw [sel, if_pos h2, e]; rfl
      · rw [sel, if_pos h2]; simp
theorem ins_L (v : Int) (A B : List Int) (hA : ∀ a ∈ A, a < v) (hB : ∀ b ∈ B, v < b) (hl : A.length + B.length ≤ 100000) : ∀ d n : Nat, n + d = A.length → spec_l1Put.L0 (A ++ B) v n = some (A ++ v :: B)
  | 0, n, h => by
    have hn : n = A.length := by omega
    subst hn
    have e1 : (A ++ B).take A.length = A := by simp
    have e2 : (A ++ B).drop A.length = B := by simp
    have hlen : (A ++ B).length = A.length + B.length := List.length_append
    have s1 : (([] : List Int) ++ A).length = A.length := by simp
    have s2 : (([] : List Int) ++ A ++ [v]).length = A.length + 1 := by simp
    have e3 : ([] : List Int) ++ A ++ [v] ++ B = A ++ v :: B := by simp
    cases B with
    | nil =>
      rw [spec_l1Put.L0_eq, if_neg (by simp), bsome, if_pos (by omega), if_pos (by omega), Int.toNat_natCast, e1, e2, bsome, if_pos (by simp at hl ⊢; omega), bsome, if_pos (by simp at hl ⊢; omega), bsome, bsome, if_pos (by simp at hl ⊢; omega)]
      simp
    | cons b t =>
      have hb := hB b (by simp)
      have hr : (A ++ b :: t).getD A.length 0 = b := by rw [List.getD_eq_getElem?_getD, List.getElem?_append_right (Nat.le_refl _)]; simp
      simp only [List.length_cons] at hlen hl
      rw [spec_l1Put.L0_eq, if_pos (by omega), if_pos (by omega), rdn, hr, if_neg (by omega), if_neg (by omega), bsome, if_pos (by omega), Int.toNat_natCast, e1, e2, bsome, if_pos (by simp; omega), bsome, if_pos (by simp; omega), bsome, bsome, if_pos (by simp; omega)]
      simp
  | d + 1, n, h => by
    have hlen : (A ++ B).length = A.length + B.length := List.length_append
    have hr : (A ++ B).getD n 0 = A.getD n 0 := getD_app_left A B 0 n (by omega)
    have ha := hA _ (getD_mem A 0 n (by omega))
    rw [spec_l1Put.L0_eq, if_pos (by omega), if_pos (by omega), rdn, hr, if_pos ha, wn (by omega)]
    exact ins_L v A B hA hB hl d (n + 1) (by omega)
theorem put_sel (p : Nat → Bool) (v n : Nat) (hv : p v = false) (hn : v < n) (hl : n ≤ 1000) : spec_l1Put.F (castL (sel p n)) v = some (castL (sel (fun j => p j || decide (j = v)) n)) := by
  obtain ⟨B, b1, b2, b3⟩ := sel_split p v hv (n - (v + 1)) n (by omega)
  have h1 := sel_len p n
  have e1 : castL (sel p n) = castL (sel p v) ++ castL B := by rw [b1]; simp [castL]
  have e2 : castL (sel (fun j => p j || decide (j = v)) n) = castL (sel p v) ++ (v : Int) :: castL B := by rw [b3]; simp [castL]
  rw [b1, List.length_append] at h1
  have l1 := cast_len (sel p v)
  have l2 := cast_len B
  rw [spec_l1Put.F_eq, e1, e2]
  exact ins_L v _ _ (fun a ha => by
    obtain ⟨x, hx, rfl⟩ := List.mem_map.1 ha
    have := (sel_mem p v x).1 hx
    omega) (fun b hb => by
    obtain ⟨x, hx, rfl⟩ := List.mem_map.1 hb
    have := b2 x hx
    omega) (by omega) _ 0 (Nat.zero_add _)
theorem order_L (G : List Nat) (n : Nat) (hn : n ≤ 1000) (hG : G.Nodup) (hb : ∀ a ∈ G, a < n) : ∀ d m : Nat, m + d = G.length → spec_peHang.L2 (castL (sel (fun j => decide (j ∈ G.take m)) n)) (castL G) (castL G).length m = some (castL (sel (fun j => decide (j ∈ G)) n))
  | 0, m, h => by
    have hm : m = G.length := by omega
    have l1 := cast_len G
    subst hm
    rw [spec_peHang.L2_eq, if_neg (by omega), List.take_length]
  | d + 1, m, h => by
    have l1 := cast_len G
    have l2 := nodup_len n G hG hb
    have hv := hb _ (getD_mem G 0 m (by omega))
    have hnot : G.getD m 0 ∉ G.take m := by
      intro hx
      obtain ⟨q, hq, e⟩ := List.getElem_of_mem hx
      rw [List.length_take] at hq
      rw [List.getElem_take] at e
      have hm : m < G.length := by omega
      rw [List.getD_eq_getElem?_getD, List.getElem?_eq_getElem hm] at e
      exact (List.pairwise_iff_getElem.1 hG) q m (by omega) hm (by omega) e
    have hp := put_sel (fun j => decide (j ∈ G.take m)) (G.getD m 0) n (decide_eq_false hnot) hv hn
    have e : sel (fun j => decide (j ∈ G.take m) || decide (j = G.getD m 0)) n = sel (fun j => decide (j ∈ G.take (m + 1))) n := sel_congr _ _ n (fun a _ => by
      rw [take_succ_getD G 0 m (by omega)]
      simp [List.mem_append])
    rw [spec_peHang.L2_eq, if_pos (by omega), if_pos (by omega), if_pos (by omega), rdn, cast_getD G m (by omega), hp, bsome, e, wn (by omega)]
    exact order_L G n hn hG hb d (m + 1) (by omega)
open Classical in
/-- The edges that hang together with edge i. -/
noncomputable def part (E : List (List Int)) (i : Nat) : List Nat := sel (fun j => decide (Conn E i j)) E.length
theorem peHang_F (E : List (List Int)) (P : Int) (hE : E.length ≤ 1000) (hr : ∀ i, (E.getD i []).length ≤ 1048576) (i : Nat) (hi : i < E.length) : spec_peHang.F P E i = some (castL (part E i)) := by
  classical
  obtain ⟨G, g1, g2, g3, g4, g5⟩ := hang_L0 E P hE hr i E.length 0 [i] (by omega) (by simp) (fun a ha => by
    rw [List.mem_singleton] at ha
    subst ha
    exact ⟨hi, .refl⟩) (by simp) (Nat.zero_le _) (fun p hp => absurd hp (Nat.not_lt_zero p))
  have hG : ∀ a, Conn E i a → a ∈ G := fun a h => by
    induction h with
    | refl => exact g4
    | step h1 h2 h3 ih => exact g5 _ ih _ h2 h3
  have h2 := order_L G E.length hE g2 (fun a ha => (g3 a ha).1) G.length 0 (Nat.zero_add _)
  have e0 : sel (fun j => decide (j ∈ G.take 0)) E.length = [] := by
    cases hs : sel (fun j => decide (j ∈ G.take 0)) E.length with
    | nil => rfl
    | cons x t =>
      have := (sel_mem (fun j => decide (j ∈ G.take 0)) E.length x).1 (by rw [hs]; simp)
      simp at this
  rw [e0] at h2
  rw [spec_peHang.F_eq]
  rw [show castL [i] = [(i : Int)] from rfl, show ((0 : Nat) : Int) = 0 from rfl] at g1
  rw [g1]
  rw [show ((0 : Nat) : Int) = 0 from rfl, show castL [] = [] from rfl] at h2
  rw [h2]
  unfold part
  congr 2
  refine sel_congr _ _ _ (fun a _ => ?_)
  rw [decide_eq_decide]
  exact ⟨fun h => (g3 a h).2, hG a⟩
theorem Conn.trans {E : List (List Int)} {i j k : Nat} (h1 : Conn E i j) (h2 : Conn E j k) : Conn E i k := by
  induction h2 with
  | refl => exact h1
  | step _ a b ih => exact .step ih a b
theorem Conn.symm {E : List (List Int)} {i j : Nat} (hi : i < E.length) (h : Conn E i j) : Conn E j i := by
  have hlt : ∀ {a}, Conn E i a → a < E.length := fun h => by
    cases h with
    | refl => exact hi
    | step _ a _ => exact a
  induction h with
  | refl => exact .refl
  | @step a b h1 h2 h3 ih => exact Conn.trans (.step .refl (hlt h1) (meet_symm h3)) ih
open Classical in
/-- No edge ahead of it hangs together with edge i. -/
noncomputable def leads (E : List (List Int)) (i : Nat) : Bool := decide (∀ j, j < i → ¬ Conn E i j)
noncomputable def parts (E : List (List Int)) : Nat → List (List Int)
  | 0 => []
  | n + 1 => if leads E n = true then parts E n ++ [castL (part E n)] else parts E n
theorem parts_len (E : List (List Int)) : ∀ n, (parts E n).length ≤ n
  | 0 => Nat.le_refl _
  | n + 1 => by
    have := parts_len E n
    rw [parts]; split
    · simp; omega
    · omega
theorem part_head (E : List (List Int)) (i : Nat) (hi : i < E.length) : ∃ h, (part E i).getD 0 0 = h ∧ 0 < (part E i).length ∧ (h = i ↔ leads E i = true) := by
  classical
  obtain ⟨h, g1, g2, g3, g4, g5⟩ := sel_head (fun j => decide (Conn E i j)) E.length ⟨i, hi, decide_eq_true .refl⟩
  refine ⟨h, g4, g5, ?_⟩
  unfold leads
  rw [decide_eq_true_eq]
  constructor
  · rintro rfl j hj hc
    have := g3 j hj
    rw [decide_eq_true hc] at this
    cases this
  · intro hl
    rcases Nat.lt_trichotomy h i with c | c | c
    · exact absurd (of_decide_eq_true g2) (hl h c)
    · exact c
    · have := g3 i c
      rw [decide_eq_true Conn.refl] at this
      cases this
theorem hyperParts_L (E : List (List Int)) (P : Int) (hE : E.length ≤ 1000) (hr : ∀ i, (E.getD i []).length ≤ 1048576) : ∀ d n : Nat, n + d = E.length → spec_HyperParts.L0 (parts E n) E.length n P E = some (parts E E.length, true)
  | 0, n, h => by
    have hn : n = E.length := by omega
    subst hn
    rw [spec_HyperParts.L0_eq, if_neg (by omega)]
  | d + 1, n, h => by
    have ih := hyperParts_L E P hE hr d (n + 1) (by omega)
    obtain ⟨q, h1, h2, h3⟩ := part_head E n (by omega)
    have hl := cast_len (part E n)
    have hp := parts_len E n
    rw [spec_HyperParts.L0_eq, if_pos (by omega), peHang_F E P hE hr n (by omega), bsome, if_pos (by omega), wn (by omega)]
    have e : rd (castL (part E n)) 0 = (q : Int) := by
      have := cast_getD (part E n) 0 h2
      rw [h1] at this
      exact this
    rw [e]
    rw [parts] at ih
    by_cases c : leads E n = true
    · rw [if_pos c] at ih
      rw [if_pos (by have := h3.2 c; omega), if_pos (by omega)]
      exact ih
    · rw [if_neg c] at ih
      rw [if_neg (fun x => c (h3.1 (by omega)))]
      exact ih
theorem hyperParts_spec (P : Int) (E : List (List Int)) (hl : E.length ≤ 1048576) : spec_HyperParts.F P E = if hyperB P E = true then some (parts E E.length, true) else some ([], false) := by
  rw [spec_HyperParts.F_eq, hyper_spec P E hl, bsome]
  by_cases c : hyperB P E = true
  · rw [if_pos c, if_pos c]
    have h40 := (hyperB_len c).2.2
    have hr : ∀ i, (E.getD i []).length ≤ 1048576 := fun i => by
      by_cases hi : i < E.length
      · have := (edgeB_facts (hyperB_edge c i hi)).1
        omega
      · rw [List.getD_eq_getElem?_getD, List.getElem?_eq_none (by omega)]; simp
    exact hyperParts_L E P (by omega) hr E.length 0 (Nat.zero_add _)
  · rw [if_neg c, if_neg c]
theorem grIdx_L (E : List (List Int)) (v : Nat) (T : List Nat) (hv : v < E.length) (e : List Int) (he : e.length ≤ 1048576) (hr : ∀ i, (E.getD i []).length ≤ 1048576) : ∀ d n : Nat, n + d = e.length →
    ∃ j : Int, slices_IndexFunc_int_int_at_impl_groups_1.L0 e e.length n E (castL (v :: T)) = some j ∧ decide (j ≥ 0) = (e.drop n).any fun p => decide (p ∈ E.getD v [])
  | 0, n, h => by
    refine ⟨-1, ?_, ?_⟩
    · rw [slices_IndexFunc_int_int_at_impl_groups_1.L0_eq, if_neg (by omega)]
    · rw [List.drop_eq_nil_of_le (by omega)]; rfl
  | d + 1, n, h => by
    have hf : ∀ a : Int, impl_groups_1.F a E (castL (v :: T)) = some (decide (a ∈ E.getD v [])) := fun a => by
      have h1 : rd (castL (v :: T)) 0 = (v : Int) := rfl
      have h2 : (castL (v :: T)).length = T.length + 1 := by rw [cast_len]; rfl
      rw [impl_groups_1.F_eq, h1, if_pos (by omega), if_pos (by omega), if_pos (by omega), show rd_L1 E (v : Int) = E.getD v [] from rfl, contains_F _ _ (hr v)]
      rfl
    rw [slices_IndexFunc_int_int_at_impl_groups_1.L0_eq, if_pos (by omega), if_pos (by omega), if_pos (by omega), rdn, hf, bsome, wn (by omega), any_dropH e 0 _ n (by omega)]
    by_cases c : e.getD n 0 ∈ E.getD v []
    · refine ⟨n, ?_, ?_⟩
      · rw [decide_eq_true c]; rfl
      · rw [decide_eq_true c, decide_eq_true (by omega)]; rfl
    · obtain ⟨j, hj, hd⟩ := grIdx_L E v T hv e he hr d (n + 1) (by omega)
      refine ⟨j, ?_, ?_⟩
      · rw [decide_eq_false c, hj]; rfl
      · rw [hd, decide_eq_false c, Bool.false_or]
theorem grMeet_F (E : List (List Int)) (v : Nat) (T : List Nat) (hv : v < E.length) (hr : ∀ i, (E.getD i []).length ≤ 1048576) (j : Nat) : slices_ContainsFunc_int_int_at_impl_groups_1.F (E.getD j []) E (castL (v :: T)) = some (meet E j v) := by
  obtain ⟨i, h1, h2⟩ := grIdx_L E v T hv (E.getD j []) (hr j) hr (E.getD j []).length 0 (by omega)
  rw [show ((0 : Nat) : Int) = 0 from rfl] at h1
  rw [slices_ContainsFunc_int_int_at_impl_groups_1.F_eq, slices_IndexFunc_int_int_at_impl_groups_1.F_eq, h1, bsome, h2, List.drop_zero]
  rfl
/-- The marks: those found bear c, all others what they bore. -/
def Marked (N : Nat) (of0 : List Int) (c : Int) (F : List Nat) (of : List Int) : Prop := of.length = N ∧ ∀ j, j < N → of.getD j 0 = if j ∈ F then c else of0.getD j 0
section
variable (E : List (List Int)) (hE : E.length ≤ 1000) (hr : ∀ i, (E.getD i []).length ≤ 1048576) (i : Nat) (of0 : List Int) (hfree : ∀ j, j < E.length → Conn E i j → of0.getD j 0 < 0) (x3 : List (List Int)) (c : Int) (hc : 0 ≤ c) (x26 x27 : Int)
include hE hr hfree hc in
theorem groups_L3 (k : Nat) : ∀ (d n : Nat) (F : List Nat) (of : List Int), n + d = E.length → k < F.length → F.Nodup → (∀ a ∈ F, a < E.length ∧ Conn E i a) → Marked E.length of0 c F of →
    ∃ of', impl_groups.L3 x3 of c x26 x27 E.length n E (castL (F.drop k)) = impl_groups.L2 x3 of' c x26 x27 E (castL ((scan E (F.getD k 0) d n F).drop (k + 1))) ∧ Marked E.length of0 c (scan E (F.getD k 0) d n F) of'
  | 0, n, F, of, h, hk, hN, hF, hM => by
    refine ⟨of, ?_, by rw [scan]; exact hM⟩
    have hl : (castL (F.drop k)).length = F.length - k := by rw [cast_len, List.length_drop]
    rw [impl_groups.L3_eq, if_neg (by omega), if_pos (by omega), scan, show (castL (F.drop k)).drop (1 : Int).toNat = castL (F.drop (k + 1)) from by
      rw [show (1 : Int).toNat = 1 from rfl]
      simp [castL, List.map_drop, List.drop_drop]]
  | d + 1, n, F, of, h, hk, hN, hF, hM => by
    have hlen := nodup_len _ F hN (fun a ha => (hF a ha).1)
    have hv := hF _ (getD_mem F 0 k hk)
    have hl : (castL (F.drop k)).length = F.length - k := by rw [cast_len, List.length_drop]
    have hd : F.drop k = F.getD k 0 :: F.drop (k + 1) := by rw [List.drop_eq_getElem_cons hk, List.getD_eq_getElem?_getD, List.getElem?_eq_getElem hk]; rfl
    have hof := hM.2 n (by omega)
    have hlo := hM.1
    rw [impl_groups.L3_eq, if_pos (by omega), if_pos (by omega), if_pos (by omega), rdn, hof, scan, wn (by omega)]
    by_cases c1 : n ∈ F
    · rw [if_pos c1, if_neg (by omega), if_neg (fun x => x.2 c1)]
      exact groups_L3 k d (n + 1) F of (by omega) hk hN hF hM
    · rw [if_neg c1]
      by_cases c2 : of0.getD n 0 < 0
      · have hm := grMeet_F E (F.getD k 0) (F.drop (k + 1)) hv.1 hr n
        rw [← hd] at hm
        rw [if_pos c2, if_pos (by omega), show rd_L1 E (n : Int) = E.getD n [] from rfl, hm, bsome]
        by_cases c3 : meet E n (F.getD k 0) = true
        · rw [if_pos c3, if_pos (by omega), if_pos ⟨c3, c1⟩, Int.toNat_natCast]
          have hN' : (F ++ [n]).Nodup := by
            rw [List.nodup_append]
            exact ⟨hN, by simp, fun a ha b hb => by
              rw [List.mem_singleton] at hb
              subst hb
              rintro rfl
              exact c1 ha⟩
          have hF' : ∀ a ∈ F ++ [n], a < E.length ∧ Conn E i a := fun a ha => by
            rw [List.mem_append, List.mem_singleton] at ha
            rcases ha with ha | ha
            · exact hF a ha
            · subst ha; exact ⟨by omega, .step hv.2 (by omega) c3⟩
          have hM' : Marked E.length of0 c (F ++ [n]) (of.set n c) := ⟨by rw [List.length_set]; exact hlo, fun j hj => by
            by_cases e : n = j
            · subst e
              rw [getD_set_self _ _ _ _ (by omega), if_pos (by simp)]
            · rw [getD_set_ne _ _ _ _ _ e, hM.2 j hj]
              by_cases cj : j ∈ F
              · rw [if_pos cj, if_pos (List.mem_append_left _ cj)]
              · rw [if_neg cj, if_neg (by
                  rw [List.mem_append, List.mem_singleton]
                  rintro (x | x)
                  · exact cj x
                  · exact e x.symm)]⟩
          obtain ⟨of', g1, g2⟩ := groups_L3 k d (n + 1) (F ++ [n]) (of.set n c) (by omega) (by simp; omega) hN' hF' hM'
          rw [getD_app_left F [n] 0 k hk] at g1 g2
          refine ⟨of', ?_, g2⟩
          rw [← g1]
          congr 1
          rw [List.drop_append_of_le_length (by omega)]
          simp [castL]
        · rw [if_neg c3, if_neg (fun x => c3 x.1)]
          exact groups_L3 k d (n + 1) F of (by omega) hk hN hF hM
      · have c3 : ¬ (meet E n (F.getD k 0) = true ∧ n ∉ F) := fun x => c2 (hfree n (by omega) (.step hv.2 (by omega) x.1))
        rw [if_neg c2, if_neg c3]
        exact groups_L3 k d (n + 1) F of (by omega) hk hN hF hM
include hE hr hfree hc in
theorem groups_L2 (hx3 : x3.length ≤ 1000) : ∀ (d k : Nat) (F : List Nat) (of : List Int), k + d = E.length → F.Nodup → (∀ a ∈ F, a < E.length ∧ Conn E i a) → i ∈ F → k ≤ F.length → (∀ p, p < k → ∀ j, j < E.length → meet E j (F.getD p 0) = true → j ∈ F) → Marked E.length of0 c F of →
    ∃ (G : List Nat) (of' : List Int), impl_groups.L2 x3 of c x26 x27 E (castL (F.drop k)) = impl_groups.L1 (x3 ++ [[]]) of' x26 (wrap64 (x27 + 1)) E ∧ Marked E.length of0 c G of' ∧ ∀ a, a < E.length → (a ∈ G ↔ Conn E i a) := by
  have fin : ∀ (k : Nat) (F : List Nat) (of : List Int), F.length = k → (∀ a ∈ F, a < E.length ∧ Conn E i a) → i ∈ F → (∀ p, p < k → ∀ j, j < E.length → meet E j (F.getD p 0) = true → j ∈ F) → Marked E.length of0 c F of →
      ∃ (G : List Nat) (of' : List Int), impl_groups.L2 x3 of c x26 x27 E (castL (F.drop k)) = impl_groups.L1 (x3 ++ [[]]) of' x26 (wrap64 (x27 + 1)) E ∧ Marked E.length of0 c G of' ∧ ∀ a, a < E.length → (a ∈ G ↔ Conn E i a) := fun k F of hk hF hi hcl hM => by
    have hl : (castL (F.drop k)).length = F.length - k := by rw [cast_len, List.length_drop]
    refine ⟨F, of, ?_, hM, fun a ha => ⟨fun x => (hF a x).2, fun x => ?_⟩⟩
    · rw [impl_groups.L2_eq, if_neg (by omega), if_pos (by omega)]
    · induction x with
      | refl => exact hi
      | @step u w h1 h2 h3 ih =>
        have hu : u < E.length := by
          cases h1 with
          | refl => exact (hF _ hi).1
          | step _ a _ => exact a
        obtain ⟨p, hp, e⟩ := List.getElem_of_mem (ih hu)
        refine hcl p (by omega) w h2 ?_
        rw [List.getD_eq_getElem?_getD, List.getElem?_eq_getElem hp, Option.getD_some, e]
        exact h3
  intro d
  induction d with
  | zero =>
    intro k F of h hN hF hi hk hcl hM
    have hlen := nodup_len _ F hN (fun a ha => (hF a ha).1)
    exact fin k F of (by omega) hF hi hcl hM
  | succ d ih =>
    intro k F of h hN hF hi hk hcl hM
    by_cases c0 : k < F.length
    · have hl : (castL (F.drop k)).length = F.length - k := by rw [cast_len, List.length_drop]
      obtain ⟨of', g1, g2⟩ := groups_L3 E hE hr i of0 hfree x3 c hc x26 x27 k E.length 0 F of (by omega) c0 hN hF hM
      rw [show ((0 : Nat) : Int) = 0 from rfl] at g1
      rw [impl_groups.L2_eq, if_pos (by omega), g1]
      obtain ⟨s1, s2, s3⟩ := scan_facts E (F.getD k 0) E.length 0 F (by omega) hN
      obtain ⟨T, hT⟩ := scan_pre E (F.getD k 0) E.length 0 F
      have hv := hF _ (getD_mem F 0 k c0)
      refine ih (k + 1) _ of' (by omega) s1 (fun a ha => ?_) (by rw [hT]; exact List.mem_append_left _ hi) (by rw [hT, List.length_append]; omega) (fun p hp j hj hm => ?_) g2
      · rcases s2 a ha with h2 | ⟨h2, h3⟩
        · exact hF a h2
        · exact ⟨h2, .step hv.2 h2 h3⟩
      · have e : (scan E (F.getD k 0) E.length 0 F).getD p 0 = F.getD p 0 := by rw [hT]; exact getD_app_left F T 0 p (by omega)
        rw [e] at hm
        by_cases cp : p = k
        · subst cp
          exact s3 j (Nat.zero_le _) hj hm
        · rw [hT]
          exact List.mem_append_left _ (hcl p (by omega) j hj hm)
    · exact fin k F of (by omega) hF hi hcl hM
end
/-! the parts, as far as edges below m go -/
open Classical in
/-- The parts, as far as edges below m go. -/
noncomputable def partsM (E : List (List Int)) (m : Nat) : Nat → List (List Int)
  | 0 => []
  | n + 1 => if leads E n = true then partsM E m n ++ [castL (sel (fun j => decide (Conn E n j)) m)] else partsM E m n
theorem partsM_len (E : List (List Int)) (m : Nat) : ∀ n, (partsM E m n).length = (parts E n).length
  | 0 => rfl
  | n + 1 => by
    have := partsM_len E m n
    rw [partsM, parts]
    split <;> simp [this]
theorem partsM_all (E : List (List Int)) : ∀ n, partsM E E.length n = parts E n
  | 0 => rfl
  | n + 1 => by rw [partsM, parts, partsM_all E n]; rfl
theorem partsM_zero (E : List (List Int)) : ∀ n, partsM E 0 n = List.replicate (parts E n).length []
  | 0 => rfl
  | n + 1 => by
    rw [partsM, parts, partsM_zero E n]
    split
    · rw [List.length_append, List.length_singleton, List.replicate_succ']; rfl
    · rfl
theorem parts_mono (E : List (List Int)) : ∀ d n, (parts E n).length ≤ (parts E (n + d)).length
  | 0, n => Nat.le_refl _
  | d + 1, n => by
    have := parts_mono E d n
    rw [← Nat.add_assoc, parts]
    split
    · simp; omega
    · exact this
theorem parts_lt (E : List (List Int)) (h n : Nat) (hl : leads E h = true) (hn : h < n) : (parts E h).length < (parts E n).length := by
  have h1 := parts_mono E (n - (h + 1)) (h + 1)
  rw [show h + 1 + (n - (h + 1)) = n from by omega] at h1
  rw [parts, if_pos hl] at h1
  simp at h1
  omega
/-- Two edges that lead and hang together with one are one. -/
theorem lead_one {E : List (List Int)} {h g j : Nat} (hh : h < E.length) (hg : g < E.length) (lh : leads E h = true) (lg : leads E g = true) (ch : Conn E h j) (cg : Conn E g j) : h = g := by
  classical
  unfold leads at lh lg
  have c1 := ch.trans (cg.symm hg)
  have c2 := cg.trans (ch.symm hh)
  rcases Nat.lt_trichotomy h g with c | c | c
  · exact absurd c2 (of_decide_eq_true lg h c)
  · exact c
  · exact absurd c1 (of_decide_eq_true lh g c)
theorem lead_of (E : List (List Int)) (j : Nat) (hj : j < E.length) : ∃ h, h ≤ j ∧ leads E h = true ∧ Conn E h j := by
  classical
  obtain ⟨h, g1, g2, g3, _, _⟩ := sel_head (fun a => decide (Conn E j a)) E.length ⟨j, hj, decide_eq_true .refl⟩
  have hc : Conn E j h := of_decide_eq_true g2
  refine ⟨h, ?_, ?_, hc.symm hj⟩
  · rcases Nat.lt_or_ge j h with c | c
    · have := g3 j c
      rw [decide_eq_true Conn.refl] at this
      cases this
    · exact c
  · unfold leads
    refine decide_eq_true (fun a ha hb => ?_)
    have := g3 a ha
    rw [decide_eq_true (hc.trans hb)] at this
    cases this
open Classical in
theorem partsM_set (E : List (List Int)) (m h : Nat) (hm : m < E.length) (hh : h < E.length) (lh : leads E h = true) (ch : Conn E h m) : ∀ n, n ≤ E.length →
    (h < n → (partsM E m n).getD (parts E h).length [] = castL (sel (fun j => decide (Conn E h j)) m) ∧ (partsM E m n).set (parts E h).length (castL (sel (fun j => decide (Conn E h j)) m) ++ [(m : Int)]) = partsM E (m + 1) n) ∧ (n ≤ h → partsM E m n = partsM E (m + 1) n)
  | 0, hn => ⟨fun x => by omega, fun _ => rfl⟩
  | n + 1, hn => by
    obtain ⟨i1, i2⟩ := partsM_set E m h hm hh lh ch n (by omega)
    have hlen := partsM_len E m n
    have other : n ≠ h → leads E n = true → castL (sel (fun j => decide (Conn E n j)) (m + 1)) = castL (sel (fun j => decide (Conn E n j)) m) := fun ne ln => by
      rw [sel, if_neg]
      intro x
      exact ne (lead_one (by omega) hh ln lh (of_decide_eq_true x) ch)
    refine ⟨fun hx => ?_, fun hx => ?_⟩
    · by_cases e : h = n
      · subst e
        rw [partsM, if_pos lh, partsM, if_pos lh]
        constructor
        · rw [List.getD_eq_getElem?_getD, ← hlen, List.getElem?_append_right (Nat.le_refl _)]; simp
        · rw [← hlen, List.set_append_right _ _ (Nat.le_refl _), Nat.sub_self, List.set_cons_zero, i2 (Nat.le_refl _)]
          congr 2
          rw [sel, if_pos (decide_eq_true ch)]
          simp [castL]
      · obtain ⟨j1, j2⟩ := i1 (by omega)
        have hlt := parts_lt E h n lh (by omega)
        rw [partsM, partsM]
        by_cases ln : leads E n = true
        · rw [if_pos ln, if_pos ln]
          constructor
          · rw [getD_app_left _ _ _ _ (by omega)]; exact j1
          · rw [List.set_append_left _ _ (by omega), j2, other (by omega) ln]
        · rw [if_neg ln, if_neg ln]
          exact ⟨j1, j2⟩
    · rw [partsM, partsM, i2 (by omega)]
      by_cases ln : leads E n = true
      · rw [if_pos ln, if_pos ln, other (by omega) ln]
      · rw [if_neg ln, if_neg ln]
/-- What the marks are once the edges below i are done. -/
def Done (E : List (List Int)) (i : Nat) (of : List Int) : Prop := of.length = E.length ∧ ∀ j, j < E.length → (∀ h, h < i → leads E h = true → Conn E h j → of.getD j 0 = ((parts E h).length : Nat)) ∧ ((∀ h, h < i → leads E h = true → ¬ Conn E h j) → of.getD j 0 = -1)
theorem groups_L4 (E : List (List Int)) (hE : E.length ≤ 1000) (of : List Int) (hD : Done E E.length of) : ∀ d m : Nat, m + d = E.length → impl_groups.L4 (partsM E m E.length) of of.length m = some (parts E E.length)
  | 0, m, h => by
    have hm : m = E.length := by omega
    have := hD.1
    subst hm
    rw [impl_groups.L4_eq, if_neg (by omega), partsM_all]
  | d + 1, m, h => by
    classical
    have hl := hD.1
    obtain ⟨q, h1, h2, h3⟩ := lead_of E m (by omega)
    have hof := (hD.2 m (by omega)).1 q (by omega) h2 h3
    have hlt := parts_lt E q E.length h2 (by omega)
    have hlen := partsM_len E m E.length
    obtain ⟨j1, j2⟩ := (partsM_set E m q (by omega) (by omega) h2 h3 E.length (Nat.le_refl _)).1 (by omega)
    have hs := sel_len (fun j => decide (Conn E q j)) m
    rw [impl_groups.L4_eq, if_pos (by omega), if_pos (by omega), if_pos (by omega), rdn, hof, if_pos (by omega), if_pos (by omega), show rd_L1 (partsM E m E.length) (((parts E q).length : Nat) : Int) = (partsM E m E.length).getD (parts E q).length [] from rfl, j1, if_pos (by rw [cast_len]; omega), Int.toNat_natCast, j2, wn (by omega)]
    exact groups_L4 E hE of hD d (m + 1) (by omega)
theorem groups_L1 (E : List (List Int)) (hE : E.length ≤ 1000) (hr : ∀ i, (E.getD i []).length ≤ 1048576) : ∀ (d i : Nat) (of : List Int), i + d = E.length → Done E i of → impl_groups.L1 (List.replicate (parts E i).length []) of E.length i E = some (parts E E.length)
  | 0, i, of, h, hD => by
    have hi : i = E.length := by omega
    subst hi
    have h4 := groups_L4 E hE of hD E.length 0 (by omega)
    rw [partsM_zero, show ((0 : Nat) : Int) = 0 from rfl] at h4
    rw [impl_groups.L1_eq, if_neg (by omega)]
    exact h4
  | d + 1, i, of, h, hD => by
    classical
    have hl := hD.1
    have hi : i < E.length := by omega
    by_cases c : leads E i = true
    · have hno : ∀ g, g < i → leads E g = true → ∀ j, Conn E i j → ¬ Conn E g j := fun g hg lg j cj cg => by
        have := lead_one (by omega) hi lg c cg cj
        omega
      have hfree : ∀ j, j < E.length → Conn E i j → of.getD j 0 < 0 := fun j hj cj => by
        have := (hD.2 j hj).2 (fun g hg lg => hno g hg lg j cj)
        omega
      have hneg := hfree i hi .refl
      have hlen : (List.replicate (parts E i).length ([] : List Int)).length = (parts E i).length := List.length_replicate ..
      have hp := parts_len E i
      have hM : Marked E.length of ((parts E i).length : Int) [i] (of.set i ((parts E i).length : Int)) := ⟨by rw [List.length_set]; exact hl, fun j hj => by
        by_cases e : i = j
        · subst e
          rw [getD_set_self _ _ _ _ (by omega), if_pos (by simp)]
        · rw [getD_set_ne _ _ _ _ _ e, if_neg (by
            rw [List.mem_singleton]
            exact fun x => e x.symm)]⟩
      obtain ⟨G, of', g1, g2, g3⟩ := groups_L2 E hE hr i of hfree (List.replicate (parts E i).length []) ((parts E i).length : Int) (by omega) (E.length : Int) (i : Int) (by omega) E.length 0 [i] (of.set i ((parts E i).length : Int)) (by omega) (by simp) (fun a ha => by
        rw [List.mem_singleton] at ha
        subst ha
        exact ⟨hi, .refl⟩) (by simp) (Nat.zero_le _) (fun p hp => absurd hp (Nat.not_lt_zero p)) hM
      rw [show castL (([i] : List Nat).drop 0) = [(i : Int)] from rfl] at g1
      rw [impl_groups.L1_eq, if_pos (by omega), if_pos (by omega), if_pos (by omega), rdn, if_neg (by omega), hlen, Int.toNat_natCast, g1, wn (by omega)]
      have e1 : List.replicate (parts E i).length ([] : List Int) ++ [[]] = List.replicate (parts E (i + 1)).length [] := by
        rw [parts, if_pos c, List.length_append, List.length_singleton, List.replicate_succ']
      rw [e1]
      refine groups_L1 E hE hr d (i + 1) of' (by omega) ⟨g2.1, fun j hj => ?_⟩
      have hof := g2.2 j hj
      refine ⟨fun g hg lg cg => ?_, fun hn => ?_⟩
      · by_cases e : g = i
        · subst e
          rw [hof, if_pos ((g3 j hj).2 cg)]
        · rw [hof, if_neg (fun x => hno g (by omega) lg j ((g3 j hj).1 x) cg)]
          exact (hD.2 j hj).1 g (by omega) lg cg
      · rw [hof, if_neg (fun x => hn i (by omega) c ((g3 j hj).1 x))]
        exact (hD.2 j hj).2 (fun g hg lg => hn g (by omega) lg)
    · obtain ⟨q, h1, h2, h3⟩ := lead_of E i hi
      have hq : q < i := by
        rcases Nat.lt_or_ge q i with x | x
        · exact x
        · exact absurd ((show q = i from by omega) ▸ h2) c
      have hof := (hD.2 i hi).1 q hq h2 h3
      rw [impl_groups.L1_eq, if_pos (by omega), if_pos (by omega), if_pos (by omega), rdn, if_pos (by omega), wn (by omega), show (parts E i).length = (parts E (i + 1)).length from by rw [parts, if_neg c]]
      refine groups_L1 E hE hr d (i + 1) of (by omega) ⟨hl, fun j hj => ⟨fun g hg lg cg => ?_, fun hn => ?_⟩⟩
      · by_cases e : g = i
        · subst e; exact absurd lg c
        · exact (hD.2 j hj).1 g (by omega) lg cg
      · exact (hD.2 j hj).2 (fun g hg lg => hn g (by omega) lg)
end Go.Proofs.Ythafknjaljhibaa.X
namespace Go.Proofs.Ythafknjaljhibaa.Pure
open Go.RowKit Go.Proofs.Ythafknjaljhibaa.X Go.Proofs.YthafknjaljhibaaW.PrintWords Go.Proofs.YthafknjaljhibaaW.PrintLast
theorem tot_small (B : Nat) : ∀ l : List (List Int), (∀ r ∈ l, r.length ≤ B) → tot l ≤ B * l.length
  | [], _ => Nat.zero_le _
  | r :: l, h => by
    have h1 := tot_small B l (fun x hx => h x (List.mem_cons_of_mem _ hx))
    have h2 := h r (List.mem_cons_self ..)
    show r.length + tot l ≤ B * (l.length + 1)
    rw [Nat.mul_succ]; omega
theorem sz_small (l : List (List Int)) (hl : l.length ≤ 40) (h : ∀ r ∈ l, r.length ≤ 40) : SzOk l := by
  refine ⟨by omega, fun i hi => ?_, ?_⟩
  · have := h _ (getD_mem l [] i hi); omega
  · have := tot_small 40 l h; omega
theorem parts_rows (E : List (List Int)) (hE : E.length ≤ 40) : ∀ n, ∀ r ∈ parts E n, r.length ≤ 40
  | 0, r, h => by cases h
  | n + 1, r, h => by
    classical
    rw [parts] at h
    have hl := sel_len (fun j => decide (Conn E n j)) E.length
    split at h
    · rcases List.mem_append.1 h with h | h
      · exact parts_rows E hE n r h
      · rw [List.mem_singleton.1 h, cast_len]
        exact Nat.le_trans hl hE
    · exact parts_rows E hE n r h
theorem minus_L (E : List (List Int)) (x3 : List (List Int)) (hE : E.length ≤ 1000) : ∀ (d n : Nat) (of : List Int), n + d = E.length → of.length = E.length → (∀ j, j < n → of.getD j 0 = -1) → ∃ of', impl_groups.L0 x3 of E.length n E = impl_groups.L1 x3 of' E.length 0 E ∧ of'.length = E.length ∧ ∀ j, j < E.length → of'.getD j 0 = -1
  | 0, n, of, h, hl, hm => by
    refine ⟨of, ?_, hl, fun j hj => hm j (by omega)⟩
    rw [impl_groups.L0_eq, if_neg (by omega)]
  | d + 1, n, of, h, hl, hm => by
    rw [impl_groups.L0_eq, if_pos (by omega), if_pos (by omega), if_pos (by omega), Int.toNat_natCast, wn (by omega)]
    refine minus_L E x3 hE d (n + 1) _ (by omega) (by rw [List.length_set]; exact hl) (fun j hj => ?_)
    by_cases e : n = j
    · subst e
      rw [X.getD_set_self _ _ _ _ (by omega)]
    · rw [X.getD_set_ne _ _ _ _ _ e]
      exact hm j (by omega)
theorem groups_F (E : List (List Int)) (hE : E.length ≤ 1000) (hr : ∀ i, (E.getD i []).length ≤ 1048576) : impl_groups.F E = some (parts E E.length) := by
  obtain ⟨of, h1, h2, h3⟩ := minus_L E [] hE E.length 0 (List.replicate E.length 0) (by omega) (by simp) (fun j hj => absurd hj (Nat.not_lt_zero j))
  have hD : Done E 0 of := ⟨h2, fun j hj => ⟨fun h hh => absurd hh (Nat.not_lt_zero h), fun _ => h3 j hj⟩⟩
  have h4 := groups_L1 E hE hr E.length 0 of (by omega) hD
  rw [show List.replicate (parts E 0).length ([] : List Int) = [] from rfl, show ((0 : Nat) : Int) = 0 from rfl] at h4
  rw [show ((0 : Nat) : Int) = 0 from rfl] at h1
  rw [impl_groups.F_eq, if_pos (by omega), if_pos (by omega), bsome, Int.toNat_natCast, List.length_replicate, h1]
  exact h4
theorem hyperParts_both (a : Int) (l : List (List Int)) (ho : SzOk l) : ∃ q : List (List Int) × Bool, impl_HyperParts.F a l = some q ∧ spec_HyperParts.F a l = some q ∧ SzOk q.1 := by
  rw [impl_HyperParts.F_eq, hyperParts_spec a l ho.1, hyper_impl a l ho.1, bsome]
  by_cases h : hyperB a l = true
  · have h40 := (hyperB_len h).2.2
    have hr : ∀ i, (l.getD i []).length ≤ 1048576 := fun i => by
      by_cases hi : i < l.length
      · have := (edgeB_facts (hyperB_edge h i hi)).1
        omega
      · rw [List.getD_eq_getElem?_getD, List.getElem?_eq_none (by omega)]; simp
    rw [if_pos h, if_pos h, groups_F l (by omega) hr, bsome]
    have := parts_len l l.length
    exact ⟨_, rfl, rfl, sz_small _ (by show (parts l l.length).length ≤ 40; omega) (parts_rows l h40 l.length)⟩
  · rw [if_neg h, if_neg h]
    exact ⟨_, rfl, rfl, by simp, by simp, by simp [tot]⟩
theorem FnExactHyperParts : X.laws_FnExactHyperParts.Pure := by
  intro a l w0 w1
  refine Sup.rounds (laws_FnExactHyperParts.F_sup a l) ?_
  rw [laws_FnExactHyperParts.F_eq]
  rcases sz_hyper a l w1 with h | ⟨r, h, h1, h2, ho⟩
  · rw [h, bsome]; rfl
  · obtain ⟨q, hq1, hq2, hq3⟩ := hyperParts_both a l ho
    have hm := hq3.2.2
    rw [h, bsome, if_neg (by omega)]
    simp only [toHyper_F a l ho, bsome, hq1, hq2, eqIntSS_F q.1 hq3.1 hq3.2.1, if_true, bne_self_eq_false, Bool.false_eq_true, if_false, eqHyper_F a l ho.1 ho.2.1, markHyper_F a l ho, show ¬ (1 + (tot l : Int) < 0) from by omega, markSS_F q.1 1 (by omega) hq3.1 (by omega), heldSS_F q.1 1 (by omega) hq3.1 (by omega), show ¬ (1 + (tot q.1 : Int) < 0) from by omega]
end Go.Proofs.Ythafknjaljhibaa.Pure
