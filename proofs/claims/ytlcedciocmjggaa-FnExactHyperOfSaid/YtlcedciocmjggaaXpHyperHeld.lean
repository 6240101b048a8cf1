/- What the laws' marks on a Hyper that was handed back compute. -/
import Derived.Test.YtlcedciocmjggaaXg50a
import Derived.Test.YtlcedciocmjggaaXpBase
import Derived.Test.YtlcedciocmjggaaXpRowMarks
namespace Go.Proofs.Ytlcedciocmjggaa.X
open Go.RowKit Go.Proofs.YtlcedciocmjggaaW.PrintWords Go.Proofs.YtlcedciocmjggaaW.PrintLast
set_option linter.unusedVariables false
set_option linter.unusedSimpArgs false
theorem heldHyper_F (a : Int) (l : List (List Int)) (h : SzOk l) : laws_heldHyper.F a (mrows l 1) 1 = some (1 + (tot l : Int)) := by rw [laws_heldHyper.F_eq, heldSS_F l 1 (by omega) h.1 (by have := h.2.2; omega), bsome, if_neg (by omega)]
theorem tot_app : ∀ (l : List (List Int)) (r : List Int), tot (l ++ [r]) = tot l + r.length
  | [], r => by simp [tot]
  | s :: l, r => by
    have := tot_app l r
    simp only [List.cons_append, tot]
    omega
theorem tot_three : ∀ l : List (List Int), (∀ r ∈ l, r.length = 3) → tot l = 3 * l.length
  | [], _ => rfl
  | r :: l, h => by
    have := tot_three l (fun x hx => h x (List.mem_cons_of_mem _ hx))
    have := h r List.mem_cons_self
    simp only [tot, List.length_cons]
    omega
theorem sz_three (l : List (List Int)) (hl : l.length ≤ 1000) (h : ∀ r ∈ l, r.length = 3) : SzOk l :=
  ⟨by omega, fun i hi => by have := h _ (getD_mem l [] i hi); omega, by have := tot_three l h; omega⟩
end Go.Proofs.Ytlcedciocmjggaa.X
