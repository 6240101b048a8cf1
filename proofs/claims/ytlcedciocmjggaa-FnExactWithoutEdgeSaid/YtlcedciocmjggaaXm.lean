/- A set by map[int]bool that never leaves its call: what a look-up in it tells. -/
import Derived.Test.YtlcedciocmjggaaXl
import Derived.Maps.Own
import Derived.Maps.OwnOps
import Derived.Maps.Views
import Derived.WalkKit
namespace Go.Proofs.Ytlcedciocmjggaa.X
open Go.RowKit Go.Maps Go.WideMaps
theorem plainElem_bool_inv {H : Type} {P : Program} {e : TypeId} (he : P.underlying e = some .bool) {v : Value} {c : Bool} {ps : List MemPlace} (h : plainElem (H := H) P e v = some (.lit (.bool c), ps)) : v = .bool c := by
  unfold plainElem at h
  rw [he] at h
  cases v <;> simp at h
  rw [h.1]
theorem lookup_bool_ {H : Type} {P : Program} (w : World) {ops : Array Oper} {rest : List Oper} {o : Oper} {a : Act} {Q : Exit → Act → World → Prop}
    (hg : o.guard = none) (m x : Operand) (t : TypeId) (hop : o.op = Op.lookup t m x false)
    (k e : TypeId) (K : Keyed P k) (ht : P.underlying t = some (.map k e)) (he : P.underlying e = some .bool) (hz : (zeroValue e).run P w = .ok (.bool false) w) (b n : Nat) (D : DataW H)
    (hm : a.eval m = .map (some b)) (hown : w.ownsMap P k (plainElem P e) b n D) (key : Value) (kl : Lit) (hx : a.eval x = key) (hkey : keyOf P k key = some kl) (c : Bool) (hat : D.atKey kl (.lit (.bool false)) = .lit (.bool c))
    (hK : wpList P ops Q rest (a.put o.dst (.bool c)) w) : wpList P ops Q (o :: rest) a w := by
  refine wpList_plain hg fun K' hK' => ?_
  obtain ⟨v, ps, hrun, hv⟩ := hown.lookup K ht hz (plainElem_bool he false) hkey
  rw [hat] at hv
  obtain rfl := plainElem_bool_inv he hv
  unfold Oper.wp
  simp [execOp, hop, hm, hx, hrun, Result.andThen]
  exact hK' _ _ hK
/-- The set of the numbers of a list. -/
def setI (acc : List Int) : DataW Unit := setOf (.lit (.bool true)) (acc.map fun x => Lit.int .i64 x)
theorem setI_nil : setI [] = .map [] := rfl
theorem setI_snoc (acc : List Int) (x : Int) : setI (acc ++ [x]) = (setI acc).put (.int .i64 x) (.lit (.bool true)) := by
  unfold setI
  rw [List.map_append, List.map_singleton, setOf_snoc]
theorem isMap_put {D : DataW Unit} (h : IsMap D) (k : Lit) (d : DataW Unit) : IsMap (D.put k d) := by
  obtain ⟨es, rfl⟩ := h
  exact ⟨_, rfl⟩
theorem setI_fold (x : Int) : ∀ (acc : List Int) (D : DataW Unit), IsMap D → (acc.foldl (fun m y => m.put (Lit.int .i64 y) (.lit (.bool true))) D).atKey (.int .i64 x) (.lit (.bool false)) = if x ∈ acc then .lit (.bool true) else D.atKey (.int .i64 x) (.lit (.bool false))
  | [], D, h => by simp
  | y :: acc, D, h => by
    rw [List.foldl_cons, setI_fold x acc _ (isMap_put h _ _)]
    by_cases h1 : x ∈ acc
    · rw [if_pos h1, if_pos (List.mem_cons_of_mem _ h1)]
    · rw [if_neg h1]
      by_cases h2 : x = y
      · subst h2
        rw [atKey_put_same h (show WideAt.IsKeyLit (Lit.int .i64 x) from trivial), if_pos List.mem_cons_self]
      · rw [atKey_put_other (by intro e; injection e with _ e; exact h2 e), if_neg (by simp [h1, h2])]
theorem setI_at (x : Int) (acc : List Int) : (setI acc).atKey (.int .i64 x) (.lit (.bool false)) = .lit (.bool (decide (x ∈ acc))) := by
  unfold setI setOf
  rw [List.foldl_map, setI_fold x acc _ ⟨[], rfl⟩]
  split
  · rename_i h; rw [decide_eq_true h]
  · rename_i h; rw [decide_eq_false h]; rfl
end Go.Proofs.Ytlcedciocmjggaa.X
