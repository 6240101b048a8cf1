/- What an argument that came in reads as: for each type of a law's parameter, its cells lead to one list or record of numbers, strings and lists, each of its kind. -/
import Derived.Test.YtknofkpmeobhbaaWWords
import Derived.Deep.Slices
import Derived.ChangeArms
import Derived.Lib.SmallJoins
import Derived.Test.YtknofkpmeobhbaaWTab
import Derived.OwnWalk
namespace Go.Proofs.Ytknofkpmeobhbaa.X
open Go.RowKit Go.Deep Go.ChangeShapes Go.WideShapes Go.Proofs.YtknofkpmeobhbaaW.PrintWords
set_option linter.unusedVariables false

def wfI (k : IntKind) (x : Int) : Prop := (Lit.int k x).wf = true
def wfB (_ : Bool) : Prop := True
def wfS (s : ByteArray) : Prop := s.size ≤ 9223372036854775807
def wfL {α : Type} (p : α → Prop) (l : List α) : Prop := l.length ≤ 9223372036854775807 ∧ ∀ x ∈ l, p x
theorem wfI_64 {x : Int} (h : wfI .i64 x) : -9223372036854775808 ≤ x ∧ x ≤ 9223372036854775807 := by
  have : IntKind.min .i64 ≤ x ∧ x ≤ IntKind.max .i64 := by simpa [wfI, Lit.wf] using h
  have h1 : IntKind.min .i64 = -9223372036854775808 := by decide
  have h2 : IntKind.max .i64 = 9223372036854775807 := by decide
  rw [h1, h2] at this
  exact this
theorem wfI_u8 {x : Int} (h : wfI .u8 x) : 0 ≤ x ∧ x ≤ 255 := by
  have : IntKind.min .u8 ≤ x ∧ x ≤ IntKind.max .u8 := by simpa [wfI, Lit.wf] using h
  have h1 : IntKind.min .u8 = 0 := by decide
  have h2 : IntKind.max .u8 = 255 := by decide
  rw [h1, h2] at this
  exact this

/-- Whatever reads as a value of type t is, cell by cell, one of the kind d. -/
def Opens {α : Type} (P : Program) (t : TypeId) (d : Kd α) (p : α → Prop) : Prop :=
  ∀ {H : Type} (enc : TypeId × Value → H) (w : World) (base : Nat) (spare : Nat → Bool) (held : Bool) (fuel : Nat) (cs : List Value) (x : DataW H × List MemPlace),
    DataW.trod enc P w base spare held fuel t cs = some x → ∃ a : α, d.K w a cs ∧ p a

theorem opens_int {P : Program} {t : TypeId} {k : IntKind} (ht : P.underlying t = some (.int k)) : Opens P t (Kd.int k) (wfI k) := by
  intro H enc w base spare held fuel cs x h
  obtain ⟨n, rfl, _, hw⟩ := DataW.trod_int ht h
  exact ⟨n, rfl, hw⟩
theorem opens_bool {P : Program} {t : TypeId} (ht : P.underlying t = some .bool) : Opens P t Kd.bool wfB := by
  intro H enc w base spare held fuel cs x h
  obtain ⟨n, rfl, _⟩ := DataW.trod_bool ht h
  exact ⟨n, rfl, trivial⟩
theorem opens_str {P : Program} {t : TypeId} (ht : P.underlying t = some .string) : Opens P t Kd.string wfS := by
  intro H enc w base spare held fuel cs x h
  obtain ⟨n, rfl, _, hw⟩ := DataW.trod_string ht h
  exact ⟨n, rfl, by unfold maxLen at hw; exact hw⟩
theorem list_of {α : Type} {q : Nat → α → Prop} : ∀ n, (∀ i, i < n → ∃ x, q i x) → ∃ xs : List α, xs.length = n ∧ ∀ i x, xs[i]? = some x → q i x
  | 0, _ => ⟨[], rfl, by simp⟩
  | n + 1, h => by
    obtain ⟨xs, hl, hx⟩ := list_of n (fun i hi => h i (by omega))
    obtain ⟨x, hq⟩ := h n (by omega)
    refine ⟨xs ++ [x], by simp [hl], fun i y hy => ?_⟩
    rcases Nat.lt_or_ge i n with hi | hi
    · rw [List.getElem?_append_left (by omega)] at hy
      exact hx i y hy
    · rw [List.getElem?_append_right (by omega)] at hy
      have : i - xs.length = 0 := by
        rcases Nat.lt_or_ge (i - xs.length) 1 with h1 | h1
        · omega
        · rw [List.getElem?_eq_none (by simpa using h1)] at hy; cases hy
      rw [this] at hy
      simp at hy
      subst hy
      have : i = n := by omega
      rw [this]
      exact hq
theorem cells_at {w : World} {base : Nat} {a : Addr} {n : Nat} {cs : List Value} (h : w.cells? base a n = some cs) : cs.length = n ∧ ∀ i u, cs[i]? = some u → w.cell? (a.add i) = some u := by
  obtain ⟨_, hlen, hc⟩ := World.cells?_some h
  refine ⟨hlen, fun i u hu => ?_⟩
  have hi : i < n := by
    rcases Nat.lt_or_ge i n with h1 | h1
    · exact h1
    · rw [List.getElem?_eq_none (by omega)] at hu; cases hu
  rw [hc i hi]
  exact hu
theorem opens_slice {P : Program} {t e : TypeId} {α : Type} {d : Kd α} {p : α → Prop} (ht : P.underlying t = some (.slice e)) (hs : P.cellsOf e = d.sz) (ho : Opens P e d p) : Opens P t (Kd.slice e d) (wfL p) := by
  intro H enc w base spare held fuel cs x h
  rcases open_slice ht h with ⟨rfl, _⟩ | ⟨a, len, cap, m, n, D, Pl, rfl, hb, hl, hm, hmm, rfl, hx⟩
  · exact ⟨[], ⟨none, 0, rfl, Nat.le_refl _, ⟨rfl, Nat.zero_le _, fun h => absurd h (Nat.lt_irrefl _)⟩⟩, Nat.zero_le _, by simp⟩
  · have hlm : len ≤ m := by rw [hmm]; split <;> omega
    obtain ⟨xs, hxl, hxs⟩ := list_of (α := α) (q := fun i y => (∃ cs', w.cells? base (a.add (i * P.cellsOf e)) (P.cellsOf e) = some cs' ∧ d.K w y cs') ∧ p y) len (fun i hi => by
      obtain ⟨cs', h1, h2⟩ := hx i (by omega)
      obtain ⟨y, hK, hp⟩ := ho enc w base spare held n cs' _ h2
      exact ⟨y, ⟨cs', h1, hK⟩, hp⟩)
    unfold maxLen at hm
    refine ⟨xs, ⟨some a, cap, by rw [hxl], by omega, ⟨rfl, by omega, fun _ => ⟨a, rfl, fun j y hy => ?_⟩⟩⟩, by omega, fun y hy => ?_⟩
    · obtain ⟨⟨cs', h1, hK⟩, _⟩ := hxs j y hy
      refine ⟨cs', d.K_len hK, hK, fun i u hu => ?_⟩
      rw [hs] at h1
      have := (cells_at h1).2 i u hu
      rw [Go.Deep.add_add] at this
      exact this
    · obtain ⟨j, hj⟩ := List.getElem?_of_mem hy
      exact (hxs j y hj).2
/-- A slice that came in, written out. -/
theorem slice_in {P : Program} {t e : TypeId} {α : Type} {d : Kd α} {p : α → Prop} {H : Type} {enc : TypeId × Value → H} {w : World} {base : Nat} {spare : Nat → Bool} {held : Bool} {a : Option Addr} {len cap fuel : Nat} {x : DataW H × List MemPlace}
    (ho : Opens P t (Kd.slice e d) (wfL p)) (h : DataW.trod enc P w base spare held fuel t [.slice a len cap] = some x) :
    ∃ l : List α, len = l.length ∧ l.length ≤ cap ∧ d.C w a l.length l ∧ wfL p l := by
  obtain ⟨l, ⟨A, c, he, hl, hC⟩, hw⟩ := ho enc w base spare held fuel _ x h
  simp at he
  obtain ⟨rfl, rfl, rfl⟩ := he
  exact ⟨l, rfl, hl, hC, hw⟩
/-- A struct that came in: each field's cells read as it. -/
theorem struct_in {P : Program} {t : TypeId} {fs : Array Field} {H : Type} {enc : TypeId × Value → H} {w : World} {base : Nat} {spare : Nat → Bool} {held : Bool} {fuel : Nat} {cs : List Value} {x : DataW H × List MemPlace}
    (ht : P.underlying t = some (.struct fs)) (h : DataW.trod enc P w base spare held fuel t cs = some x) :
    ∃ n, ∀ (i : Nat) (f : Field), fs[i]? = some f → ∃ y, DataW.trod enc P w base spare held n f.type ((cs.drop f.offset).take (P.cellsOf f.type)) = some y := by
  obtain ⟨xs, n, _, _, _, hl, hf⟩ := DataW.trod_struct ht h
  refine ⟨n, fun i f hi => ?_⟩
  have hlt : i < fs.size := by
    rcases Nat.lt_or_ge i fs.size with h1 | h1
    · exact h1
    · rw [Array.getElem?_eq_none h1] at hi; cases hi
  exact ⟨xs[i]'(by omega), by rw [hf i f hi]; exact List.getElem?_eq_getElem (by omega)⟩
/-! ### What a function tells in the end, whatever the rounds -/
open Classical in
noncomputable def lim {α : Type} (g : Nat → Option α) : Option α := if h : ∃ r, ∃ k, g k = some r then some (Classical.choose h) else none
/-- o is what g comes to. -/
def Sup {α : Type} (g : Nat → Option α) (o : Option α) : Prop := (∀ k, LeO (g k) o) ∧ ∀ r, o = some r → ∃ K, ∀ k, K ≤ k → g k = some r
theorem Sup.of_mono {α : Type} {g : Nat → Option α} (hg : ∀ k, LeO (g k) (g (k + 1))) : Sup g (lim g) := by
  have key : ∀ r k, g k = some r → lim g = some r := by
    intro r k h
    have hx : ∃ r, ∃ k, g k = some r := ⟨r, k, h⟩
    unfold lim
    rw [dif_pos hx]
    obtain ⟨k', h'⟩ := Classical.choose_spec hx
    have a := at_rounds hg (Nat.le_max_left k k') h
    have b := at_rounds hg (Nat.le_max_right k k') h'
    rw [a] at b
    injection b with b
    rw [b]
  refine ⟨fun k r h => key r k h, fun r h => ?_⟩
  unfold lim at h
  split at h
  · rename_i hx
    obtain ⟨k', h'⟩ := Classical.choose_spec hx
    injection h with h
    exact ⟨k', fun k hk => by rw [← h]; exact at_rounds hg hk h'⟩
  · cases h
theorem Sup.unique {α : Type} {g : Nat → Option α} {o o' : Option α} (h : Sup g o) (h' : Sup g o') : o = o' := by
  cases o with
  | none =>
    cases o' with
    | none => rfl
    | some r =>
      obtain ⟨K, hK⟩ := h'.2 r rfl
      have := h.1 K r (hK K (Nat.le_refl _))
      cases this
  | some r =>
    obtain ⟨K, hK⟩ := h.2 r rfl
    exact (h'.1 K r (hK K (Nat.le_refl _))).symm
theorem Sup.const {α : Type} (o : Option α) : Sup (fun _ => o) o := ⟨fun _ => LeO.refl _, fun _ h => ⟨0, fun _ _ => h⟩⟩
theorem Sup.ite {α : Type} {c : Prop} [Decidable c] {a b : Nat → Option α} {a' b' : Option α} (h : Sup a a') (h' : Sup b b') : Sup (fun k => if c then a k else b k) (if c then a' else b') := by
  by_cases hc : c
  · simp only [if_pos hc]; exact h
  · simp only [if_neg hc]; exact h'
theorem Sup.bind {α β : Type} {a : Nat → Option α} {f : Nat → α → Option β} {a' : Option α} {f' : α → Option β} (h : Sup a a') (h' : ∀ x, Sup (fun k => f k x) (f' x)) : Sup (fun k => (a k).bind (f k)) (a'.bind f') := by
  refine ⟨fun k => LeO.bind (h.1 k) (fun x => (h' x).1 k), fun r hr => ?_⟩
  obtain ⟨x, hx, hr⟩ := Option.bind_eq_some_iff.mp hr
  obtain ⟨K, hK⟩ := h.2 x hx
  obtain ⟨K', hK'⟩ := (h' x).2 r hr
  exact ⟨max K K', fun k hk => Option.bind_eq_some_iff.mpr ⟨x, hK k (Nat.le_trans (Nat.le_max_left _ _) hk), hK' k (Nat.le_trans (Nat.le_max_right _ _) hk)⟩⟩
theorem Sup.congr {α : Type} {g g' : Nat → Option α} {o : Option α} (e : ∀ k, g k = g' k) (h : Sup g' o) : Sup g o := by
  have : g = g' := funext e
  rw [this]; exact h
theorem Sup.shift {α : Type} {g : Nat → Option α} {o : Option α} (hg : ∀ k, LeO (g k) (g (k + 1))) (h : Sup (fun k => g (k + 1)) o) : Sup g o :=
  ⟨fun k r hr => h.1 k r (hg k r hr), fun r hr => by
    obtain ⟨K, hK⟩ := h.2 r hr
    exact ⟨K + 1, fun k hk => by obtain ⟨m, rfl⟩ : ∃ m, k = m + 1 := ⟨k - 1, by omega⟩; exact hK m (by omega)⟩⟩
theorem Sup.rounds {α : Type} {g : Nat → Option α} {o : Option α} (h : Sup g o) {r : α} (hr : o = some r) : ∃ k, g k = some r := by
  obtain ⟨K, hK⟩ := h.2 r hr
  exact ⟨K, hK K (Nat.le_refl _)⟩
theorem arr1 {α : Type} {a : Array α} (h : a.size = 1) : ∃ x0, a = #[x0] := by
  obtain ⟨l⟩ := a
  match l, h with
  | [x0], _ => exact ⟨x0, rfl⟩
theorem arr2 {α : Type} {a : Array α} (h : a.size = 2) : ∃ x0 x1, a = #[x0, x1] := by
  obtain ⟨l⟩ := a
  match l, h with
  | [x0, x1], _ => exact ⟨x0, x1, rfl⟩
theorem arr3 {α : Type} {a : Array α} (h : a.size = 3) : ∃ x0 x1 x2, a = #[x0, x1, x2] := by
  obtain ⟨l⟩ := a
  match l, h with
  | [x0, x1, x2], _ => exact ⟨x0, x1, x2, rfl⟩
theorem arr4 {α : Type} {a : Array α} (h : a.size = 4) : ∃ x0 x1 x2 x3, a = #[x0, x1, x2, x3] := by
  obtain ⟨l⟩ := a
  match l, h with
  | [x0, x1, x2, x3], _ => exact ⟨x0, x1, x2, x3, rfl⟩
theorem arr5 {α : Type} {a : Array α} (h : a.size = 5) : ∃ x0 x1 x2 x3 x4, a = #[x0, x1, x2, x3, x4] := by
  obtain ⟨l⟩ := a
  match l, h with
  | [x0, x1, x2, x3, x4], _ => exact ⟨x0, x1, x2, x3, x4, rfl⟩
theorem arr6 {α : Type} {a : Array α} (h : a.size = 6) : ∃ x0 x1 x2 x3 x4 x5, a = #[x0, x1, x2, x3, x4, x5] := by
  obtain ⟨l⟩ := a
  match l, h with
  | [x0, x1, x2, x3, x4, x5], _ => exact ⟨x0, x1, x2, x3, x4, x5, rfl⟩
theorem arr7 {α : Type} {a : Array α} (h : a.size = 7) : ∃ x0 x1 x2 x3 x4 x5 x6, a = #[x0, x1, x2, x3, x4, x5, x6] := by
  obtain ⟨l⟩ := a
  match l, h with
  | [x0, x1, x2, x3, x4, x5, x6], _ => exact ⟨x0, x1, x2, x3, x4, x5, x6, rfl⟩
theorem arr8 {α : Type} {a : Array α} (h : a.size = 8) : ∃ x0 x1 x2 x3 x4 x5 x6 x7, a = #[x0, x1, x2, x3, x4, x5, x6, x7] := by
  obtain ⟨l⟩ := a
  match l, h with
  | [x0, x1, x2, x3, x4, x5, x6, x7], _ => exact ⟨x0, x1, x2, x3, x4, x5, x6, x7, rfl⟩
/-- n marks, of which those are set that are set in b. -/
def bsL : Nat → Nat → List Bool
  | 0, _ => []
  | n + 1, b => Nat.beq (b % 2) 1 :: bsL n (b / 2)
def bsA (n b : Nat) : Array Bool := ⟨bsL n b⟩
section
open Go.Proofs.YtknofkpmeobhbaaW.PrintLast
variable {P : Program} {ops : Array Oper} {Q : Exit → Act → World → Prop} {md : Region.Mode} {S : World → Prop} {ds : List Nat} {T : Bool × List (List Nat × List Nat)} {oi : Oper} {v : Value} {fuel : Nat} {l : Array Bool} {a a' : Act} {w : World}
/-- A step of an order that needs no world (the words' pure_), in few letters. -/
theorem pq_ (i m n b : Nat) (hT : rtab md ops = T) (hc : anyT T l.toList (bsA n b).toList i = true) (h : wpAnyLast P md ops Q S ds fuel (bsA n b) a' w)
    (hi : ops[i]? = some oi := by rfl) (hN : oi.dst = some m := by rfl) (hw : Region.wanted oi (yielded ops a.tmps) = true := by rfl)
    (hy : ∀ w, (execOp a.eval oi).run P w = .ok (.value v) w := by intro w'; go_simp; with_reducible rfl)
    (hQ : ∀ c a w, Q (.panic c) (a.put oi.dst v) w → Q (.panic c) a w := by exact fun _ _ _ h => h)
    (ha : a.put (some m) v = a' := by simp only [Act.put, List.setIfInBounds_toArray, List.set_cons_zero, List.set_cons_succ, i64_w]; rfl) : wpAnyLast P md ops Q S ds (fuel + 1) l a w :=
  pure_ (bsA n b) hi hN (any_of hT hc) hQ (.inl ⟨hw, hy⟩) ha h
/-- The same for a read (the words' take_). -/
theorem tq_ (i m n b : Nat) {B : List Nat} (hT : rtab md ops = T) (hB : waitsOk T.2 B = true) (hc : takeW T B ds l.toList (bsA n b).toList i = true) (hS : S w) (h : wpAnyLast P md ops Q S ds fuel (bsA n b) a' w)
    (hi : ops[i]? = some oi) (hy : ∀ w, S w → (execOp a.eval oi).run P w = .ok (.value v) w)
    (hN : oi.dst = some m := by rfl) (hw : Region.wanted oi (yielded ops a.tmps) = true := by rfl)
    (hQ : ∀ c a w, Q (.panic c) (a.put oi.dst v) w → Q (.panic c) a w := by exact fun _ _ _ h => h)
    (ha : a.put (some m) v = a' := by simp only [Act.put, List.setIfInBounds_toArray, List.set_cons_zero, List.set_cons_succ, i64_w]; rfl) : wpAnyLast P md ops Q S ds (fuel + 1) l a w :=
  take_ (bsA n b) hi hN (take_ofW hT hB hc) hQ (.inl ⟨hw, hy⟩) hS ha h
/-- A step of an order that isn't wanted on this way. -/
theorem uq_ (i m n b : Nat) (hT : rtab md ops = T) (hc : anyT T l.toList (bsA n b).toList i = true) (h : wpAnyLast P md ops Q S ds fuel (bsA n b) a' w)
    (hi : ops[i]? = some oi := by rfl) (hN : oi.dst = some m := by rfl) (hw : Region.wanted oi (yielded ops a.tmps) = false := by rfl)
    (hQ : ∀ c a w, Q (.panic c) (a.put oi.dst undef) w → Q (.panic c) a w := by exact fun _ _ _ h => h)
    (ha : a.put (some m) undef = a' := by simp only [Act.put, List.setIfInBounds_toArray, List.set_cons_zero, List.set_cons_succ, i64_w]; rfl) : wpAnyLast P md ops Q S ds (fuel + 1) l a w :=
  pure_ (bsA n b) hi hN (any_of hT hc) hQ (.inr ⟨hw, rfl⟩) ha h
end
end Go.Proofs.Ytknofkpmeobhbaa.X
