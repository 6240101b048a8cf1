/- How many of some edges have each place: the program counts over what isn't gone, the reference over a list of indices; both tell the same. -/
import Derived.Test.YtlcedciocmjggaaXg3f05a
import Derived.Test.YtlcedciocmjggaaXpBase
import Derived.Test.YtlcedciocmjggaaXpHyper
import Derived.Test.YtlcedciocmjggaaXpRowEq
import Derived.Test.YtlcedciocmjggaaXx0
namespace Go.Proofs.Ytlcedciocmjggaa.X
open Go.RowKit Go.Proofs.YtlcedciocmjggaaW.PrintWords Go.Proofs.YtlcedciocmjggaaW.PrintLast
set_option linter.unusedVariables false
set_option linter.unusedSimpArgs false
def HyOk (P : Int) (l : List (List Int)) : Prop := (1 ≤ P ∧ P ≤ 72) ∧ l.length ≤ 40 ∧ ∀ i, i < l.length → ∃ x y z : Int, l.getD i [] = [x, y, z] ∧ 0 ≤ x ∧ x < y ∧ y < z ∧ z < P
theorem hyok {P : Int} {l : List (List Int)} (h : hyperB P l = true) : HyOk P l := by
  have := hyperB_len h
  exact ⟨⟨this.1, this.2.1⟩, this.2.2, fun i hi => edgeB_form (hyperB_edge h i hi)⟩
theorem HyOk.edge {P : Int} {l : List (List Int)} (h : HyOk P l) (i : Nat) (hi : i < l.length) : (l.getD i []).length = 3 ∧ ∀ p ∈ l.getD i [], 0 ≤ p ∧ p < P := by
  obtain ⟨x, y, z, he, h0, h1, h2, h3⟩ := h.2.2 i hi
  rw [he]
  refine ⟨rfl, fun p hp => ?_⟩
  simp only [List.mem_cons, List.not_mem_nil, or_false] at hp
  rcases hp with rfl | rfl | rfl <;> omega
def bump (D : List Int) (p : Int) : List Int := D.set p.toNat (D.getD p.toNat 0 + 1)
def bumps (D : List Int) (e : List Int) : List Int := e.foldl bump D
def degL (l : List (List Int)) (D : List Int) (is : List Int) : List Int := is.foldl (fun D i => bumps D (l.getD i.toNat [])) D
def Bd (D : List Int) (P : Int) (B : Int) : Prop := (D.length : Int) = P ∧ ∀ i, 0 ≤ D.getD i 0 ∧ D.getD i 0 ≤ B
theorem drop_getD {α : Type} (l : List α) (d : α) (n : Nat) (h : n < l.length) : l.drop n = l.getD n d :: l.drop (n + 1) := by
  rw [List.drop_eq_getElem_cons h, List.getD_eq_getElem?_getD, List.getElem?_eq_getElem h]; rfl
theorem bump_getD (D : List Int) (p : Int) (q : Nat) (h0 : 0 ≤ p) (h1 : p < D.length) : (bump D p).getD q 0 = D.getD q 0 + (if p = (q : Int) then 1 else 0) := by
  unfold bump
  by_cases h : p = (q : Int)
  · subst h
    rw [if_pos rfl, Int.toNat_natCast, getD_set_self _ _ _ _ (by omega)]
  · rw [if_neg h, getD_set_ne _ _ _ _ _ (by omega), Int.add_zero]
theorem bump_bd {D : List Int} {P B p : Int} (h : Bd D P B) (h0 : 0 ≤ p) (h1 : p < P) : Bd (bump D p) P (B + 1) := by
  refine ⟨by unfold bump; rw [List.length_set]; exact h.1, fun i => ?_⟩
  rw [bump_getD D p i h0 (by rw [h.1]; exact h1)]
  have := h.2 i
  split <;> omega
theorem bumps_bd {P : Int} : ∀ (e : List Int) {D : List Int} {B : Int}, Bd D P B → (∀ p ∈ e, 0 ≤ p ∧ p < P) → Bd (bumps D e) P (B + e.length)
  | [], D, B, h, _ => by simpa [bumps] using h
  | p :: e, D, B, h, he => by
    have h1 := he p (List.mem_cons_self)
    have := bumps_bd e (bump_bd h h1.1 h1.2) (fun q hq => he q (List.mem_cons_of_mem _ hq))
    have e2 : bumps D (p :: e) = bumps (bump D p) e := rfl
    rw [e2]
    refine ⟨this.1, fun i => ?_⟩
    have := this.2 i
    simp only [List.length_cons]
    omega
theorem degL_bd {P : Int} {l : List (List Int)} (ho : HyOk P l) : ∀ (is : List Int) {D : List Int} {B : Int}, Bd D P B → (∀ j ∈ is, 0 ≤ j ∧ j < l.length) → Bd (degL l D is) P (B + 3 * is.length)
  | [], D, B, h, _ => by simpa [degL] using h
  | j :: is, D, B, h, hj => by
    have h1 := hj j (List.mem_cons_self)
    have h2 := ho.edge j.toNat (by omega)
    have := degL_bd ho is (bumps_bd _ h h2.2) (fun q hq => hj q (List.mem_cons_of_mem _ hq))
    have e2 : degL l D (j :: is) = degL l (bumps D (l.getD j.toNat [])) is := rfl
    rw [e2]
    refine ⟨this.1, fun i => ?_⟩
    have := this.2 i
    simp only [List.length_cons]
    omega
theorem zero_bd {P : Int} (hP : 0 ≤ P) : Bd (List.replicate P.toNat 0) P 0 := by
  refine ⟨by rw [List.length_replicate]; omega, fun i => ?_⟩
  rw [List.getD_eq_getElem?_getD, List.getElem?_replicate]
  split <;> simp
theorem deg_impl_L1 (g : List Bool) (l : List (List Int)) (m i P : Int) (e : List Int) (hl : e.length ≤ 1000) (he : ∀ p ∈ e, 0 ≤ p ∧ p < P) : ∀ (d n : Nat) (D : List Int) (B : Int), n + d = e.length → Bd D P B → B + d ≤ 1000000 → impl_Hyper_degrees.L1 g D l m i e e.length n = impl_Hyper_degrees.L0 g (bumps D (e.drop n)) l m (wrap64 (i + 1))
  | 0, n, D, B, h, hb, hB => by
    rw [impl_Hyper_degrees.L1_eq, if_neg (by omega), List.drop_eq_nil_of_le (by omega)]; rfl
  | d + 1, n, D, B, h, hb, hB => by
    have hp := he _ (getD_mem e 0 n (by omega))
    have hv := hb.2 (e.getD n 0).toNat
    have h1 := hb.1
    rw [impl_Hyper_degrees.L1_eq, if_pos (by omega), if_pos (by omega), if_pos (by omega), rdn, if_pos hp.1, if_pos (by rw [h1]; exact hp.2), show rd D (e.getD n 0) = D.getD (e.getD n 0).toNat 0 from rfl, w64 (by omega) (by omega), wn (by omega)]
    refine Eq.trans (deg_impl_L1 g l m i P e hl he d (n + 1) (bump D (e.getD n 0)) (B + 1) (by omega) (bump_bd hb hp.1 hp.2) (by omega)) ?_
    rw [drop_getD e 0 n (by omega)]
    rfl
theorem deg_spec_L1 (is : List Int) (len i P : Int) (l : List (List Int)) (Q : Int) (e : List Int) (hl : e.length ≤ 1000) (he : ∀ p ∈ e, 0 ≤ p ∧ p < P) : ∀ (d n : Nat) (D : List Int) (B : Int), n + d = e.length → Bd D P B → B + d ≤ 1000000 → spec_peDegrees.L1 D is len i e e.length n Q l = spec_peDegrees.L0 (bumps D (e.drop n)) is len (wrap64 (i + 1)) Q l
  | 0, n, D, B, h, hb, hB => by
    rw [spec_peDegrees.L1_eq, if_neg (by omega), List.drop_eq_nil_of_le (by omega)]; rfl
  | d + 1, n, D, B, h, hb, hB => by
    have hp := he _ (getD_mem e 0 n (by omega))
    have hv := hb.2 (e.getD n 0).toNat
    have h1 := hb.1
    rw [spec_peDegrees.L1_eq, if_pos (by omega), if_pos (by omega), if_pos (by omega), rdn, if_pos hp.1, if_pos (by rw [h1]; exact hp.2), show rd D (e.getD n 0) = D.getD (e.getD n 0).toNat 0 from rfl, w64 (by omega) (by omega), wn (by omega)]
    refine Eq.trans (deg_spec_L1 is len i P l Q e hl he d (n + 1) (bump D (e.getD n 0)) (B + 1) (by omega) (bump_bd hb hp.1 hp.2) (by omega)) ?_
    rw [drop_getD e 0 n (by omega)]
    rfl
/-- The indices from n on, d of them, that aren't gone. -/
def idxs (g : List Bool) : Nat → Nat → List Int
  | 0, _ => []
  | d + 1, n => if g.getD n false = true then idxs g d (n + 1) else (n : Int) :: idxs g d (n + 1)
theorem idxs_succ (g : List Bool) (d n : Nat) : idxs g (d + 1) n = if g.getD n false = true then idxs g d (n + 1) else (n : Int) :: idxs g d (n + 1) := rfl
def lefts (g : List Bool) : List Int := idxs g g.length 0
theorem mem_idxs (g : List Bool) (x : Int) : ∀ d n, x ∈ idxs g d n ↔ ∃ q : Nat, x = q ∧ n ≤ q ∧ q < n + d ∧ g.getD q false = false
  | 0, n => by
    constructor
    · intro h; cases h
    · rintro ⟨q, _, h1, h2, _⟩; omega
  | d + 1, n => by
    unfold idxs
    by_cases h : g.getD n false = true
    · rw [if_pos h, mem_idxs g x d (n + 1)]
      constructor
      · rintro ⟨q, h1, h2, h3, h4⟩; exact ⟨q, h1, by omega, by omega, h4⟩
      · rintro ⟨q, h1, h2, h3, h4⟩
        refine ⟨q, h1, ?_, by omega, h4⟩
        rcases Nat.lt_or_ge n q with h5 | h5
        · omega
        · obtain rfl : q = n := by omega
          rw [h] at h4; cases h4
    · rw [if_neg h, List.mem_cons, mem_idxs g x d (n + 1)]
      constructor
      · rintro (rfl | ⟨q, h1, h2, h3, h4⟩)
        · exact ⟨n, rfl, by omega, by omega, by simpa using h⟩
        · exact ⟨q, h1, by omega, by omega, h4⟩
      · rintro ⟨q, h1, h2, h3, h4⟩
        rcases Nat.lt_or_ge n q with h5 | h5
        · exact Or.inr ⟨q, h1, by omega, by omega, h4⟩
        · left; omega
theorem idxs_len (g : List Bool) : ∀ d n, (idxs g d n).length ≤ d
  | 0, n => by simp [idxs]
  | d + 1, n => by
    unfold idxs
    have := idxs_len g d (n + 1)
    split
    · omega
    · simp only [List.length_cons]; omega
theorem mem_lefts {g : List Bool} {x : Int} (h : x ∈ lefts g) : 0 ≤ x ∧ x < g.length ∧ g.getD x.toNat false = false := by
  obtain ⟨q, rfl, _, h2, h3⟩ := (mem_idxs g x g.length 0).1 h
  exact ⟨by omega, by omega, by rw [Int.toNat_natCast]; exact h3⟩
theorem deg_impl_L0 {P : Int} (g : List Bool) (l : List (List Int)) (hg : g.length = l.length) (ho : HyOk P l) : ∀ (d n : Nat) (D : List Int) (B : Int), n + d = l.length → Bd D P B → B + 3 * d ≤ 1000000 → impl_Hyper_degrees.L0 g D l l.length n = some (degL l D (idxs g d n))
  | 0, n, D, B, h, hb, hB => by
    rw [impl_Hyper_degrees.L0_eq, if_neg (by omega)]; rfl
  | d + 1, n, D, B, h, hb, hB => by
    have hl := ho.2.1
    obtain ⟨h3, he⟩ := ho.edge n (by omega)
    rw [impl_Hyper_degrees.L0_eq, if_pos (by omega), if_pos (by omega), if_pos (by omega), if_pos (by omega), rdOfn, rdr]
    unfold idxs
    by_cases h1 : g.getD n false = true
    · rw [if_pos h1, if_pos h1, wn (by omega), deg_impl_L0 g l hg ho d (n + 1) D B (by omega) hb (by omega)]
    · rw [if_neg h1, if_neg h1]
      have hL := deg_impl_L1 g l l.length n P (l.getD n []) (by omega) he (l.getD n []).length 0 D B (by omega) hb (by omega)
      have hL' : impl_Hyper_degrees.L1 g D l l.length n (l.getD n []) (l.getD n []).length 0 = impl_Hyper_degrees.L0 g (bumps D (l.getD n [])) l l.length (wrap64 (n + 1)) := by
        rw [List.drop_zero] at hL; exact hL
      rw [hL', wn (by omega), deg_impl_L0 g l hg ho d (n + 1) _ (B + 3) (by omega) (by have := bumps_bd _ hb he; rw [h3] at this; exact this) (by omega)]
      show _ = some (degL l (bumps D (l.getD (n : Int).toNat [])) _)
      rw [Int.toNat_natCast]
theorem deg_spec_L0 {P : Int} (Q : Int) (is : List Int) (l : List (List Int)) (hi : is.length ≤ 1000) (his : ∀ j ∈ is, 0 ≤ j ∧ j < l.length) (ho : HyOk P l) : ∀ (d n : Nat) (D : List Int) (B : Int), n + d = is.length → Bd D P B → B + 3 * d ≤ 1000000 → spec_peDegrees.L0 D is is.length n Q l = some (degL l D (is.drop n))
  | 0, n, D, B, h, hb, hB => by
    rw [spec_peDegrees.L0_eq, if_neg (by omega), List.drop_eq_nil_of_le (by omega)]; rfl
  | d + 1, n, D, B, h, hb, hB => by
    have hj := his _ (getD_mem is 0 n (by omega))
    have hl := ho.2.1
    obtain ⟨h3, he⟩ := ho.edge (is.getD n 0).toNat (by omega)
    rw [spec_peDegrees.L0_eq, if_pos (by omega), if_pos (by omega), if_pos (by omega), rdn, if_pos hj.1, if_pos hj.2, show rd_L1 l (is.getD n 0) = l.getD (is.getD n 0).toNat [] from rfl]
    have hL := deg_spec_L1 is is.length n P l Q (l.getD (is.getD n 0).toNat []) (by omega) he (l.getD (is.getD n 0).toNat []).length 0 D B (by omega) hb (by omega)
    have hL' : spec_peDegrees.L1 D is is.length n (l.getD (is.getD n 0).toNat []) (l.getD (is.getD n 0).toNat []).length 0 Q l = spec_peDegrees.L0 (bumps D (l.getD (is.getD n 0).toNat [])) is is.length (wrap64 (n + 1)) Q l := by
      rw [List.drop_zero] at hL; exact hL
    rw [hL', wn (by omega), deg_spec_L0 Q is l hi his ho d (n + 1) _ (B + 3) (by omega) (by have := bumps_bd _ hb he; rw [h3] at this; exact this) (by omega), drop_getD is 0 n (by omega)]
    rfl
def degs (l : List (List Int)) (P : Int) (is : List Int) : List Int := degL l (List.replicate P.toNat 0) is
theorem degs_bd {P : Int} {l : List (List Int)} (ho : HyOk P l) (is : List Int) (his : ∀ j ∈ is, 0 ≤ j ∧ j < l.length) : Bd (degs l P is) P (0 + 3 * is.length) := degL_bd ho is (zero_bd (by have := ho.1; omega)) his
theorem deg_impl {P : Int} (g : List Bool) (l : List (List Int)) (hg : g.length = l.length) (ho : HyOk P l) : impl_Hyper_degrees.F P l g = some (degs l P (lefts g)) := by
  have h1 := ho.1
  have h2 := ho.2.1
  rw [impl_Hyper_degrees.F_eq, if_pos (by omega), if_pos (by omega)]
  have := deg_impl_L0 g l hg ho l.length 0 (List.replicate P.toNat 0) 0 (by omega) (zero_bd (by omega)) (by omega)
  unfold lefts degs
  rw [hg]
  exact this
theorem deg_spec {P : Int} (is : List Int) (l : List (List Int)) (hi : is.length ≤ 1000) (his : ∀ j ∈ is, 0 ≤ j ∧ j < l.length) (ho : HyOk P l) : spec_peDegrees.F P l is = some (degs l P is) := by
  have h1 := ho.1
  rw [spec_peDegrees.F_eq, if_pos (by omega), if_pos (by omega)]
  have := deg_spec_L0 P is l hi his ho is.length 0 (List.replicate P.toNat 0) 0 (by omega) (zero_bd (by omega)) (by omega)
  rw [List.drop_zero] at this
  exact this
theorem none_f (P : Int) (l : List (List Int)) (hl : l.length ≤ 1048576) : impl_Hyper_none.f P l = some (List.replicate l.length false) := by
  unfold impl_Hyper_none.f
  rw [if_pos (by omega), if_pos (by omega), Int.toNat_natCast]
theorem all_L (m : Nat) (hm : m ≤ 1048576) : ∀ (d n : Nat) (acc : List Int), n + d = m → acc.length ≤ n → spec_peAll.L0 acc m n = some (acc ++ idxs (List.replicate m false) d n)
  | 0, n, acc, h, ha => by rw [spec_peAll.L0_eq, if_neg (by omega)]; simp [idxs]
  | d + 1, n, acc, h, ha => by
    rw [spec_peAll.L0_eq, if_pos (by omega), if_pos (by omega), wn (by omega), all_L m hm d (n + 1) _ (by omega) (by simp; omega)]
    rw [idxs_succ, if_neg (by rw [List.getD_eq_getElem?_getD, List.getElem?_replicate]; split <;> simp), List.append_assoc]
    rfl
theorem all_F (P : Int) (l : List (List Int)) (hl : l.length ≤ 1048576) : spec_peAll.F P l = some (lefts (List.replicate l.length false)) := by
  rw [spec_peAll.F_eq]
  have := all_L l.length hl l.length 0 [] (by omega) (by simp)
  rw [show lefts (List.replicate l.length false) = idxs (List.replicate l.length false) l.length 0 from by unfold lefts; rw [List.length_replicate]]
  exact this
theorem lefts_fit {g : List Bool} {l : List (List Int)} (hg : g.length = l.length) : ∀ j ∈ lefts g, 0 ≤ j ∧ j < (l.length : Int) := fun j hj => by have := mem_lefts hj; omega
theorem lefts_len (g : List Bool) : (lefts g).length ≤ g.length := idxs_len g _ _
end Go.Proofs.Ytlcedciocmjggaa.X
