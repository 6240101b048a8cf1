/- What a law's walk says of the rows that its calls have made: each lies in blocks between two sizes of the memory, so that writing one says nothing of the others. -/
import Derived.Test.YthafknjaljhibaaXo
import Derived.Test.YthafknjaljhibaaWApart
import Derived.Test.YthafknjaljhibaaWKept
import Derived.Test.YthafknjaljhibaaWMore
namespace Go.Proofs.Ythafknjaljhibaa.X
open Go.RowKit Go.Proofs.YthafknjaljhibaaW.PrintWords
variable {α : Type} {d : Kd α} {e n0 a b p q : Nat} {ok : Nat → Prop} {W w2 : World} {v : Value} {xs : List α}
theorem lw_R (h : d.R e w2 W.heap.size ok v xs) (hb : n0 ≤ W.heap.size) : d.R e w2 n0 (fun k => W.heap.size ≤ k ∧ k < w2.heap.size) v xs :=
  Kd.R_lower (Kd.R_mono (Kd.R_bound h) (fun _ hk => ⟨hk.2.1, hk.2.2.1⟩)) hb
theorem lw_S (h : Kd.S d e w2 W.heap.size ok v xs) (hb : n0 ≤ W.heap.size) : Kd.S d e w2 n0 (fun k => W.heap.size ≤ k ∧ k < w2.heap.size) v xs :=
  Kd.S_lower (Kd.S_mono (Kd.S_bound h) (fun _ hk => ⟨hk.2.1, hk.2.2.1⟩)) hb
theorem lw_keptR (h : d.R e W n0 (fun k => a ≤ k ∧ k < b) v xs) (hk : Kept W w2 (fun k => p ≤ k ∧ k < q)) (hd : b ≤ p ∨ q ≤ a) : d.R e w2 n0 (fun k => a ≤ k ∧ k < b) v xs :=
  Kd.R_kept h hk (fun _ h1 h2 => by omega)
theorem lw_keptS (h : Kd.S d e W n0 (fun k => a ≤ k ∧ k < b) v xs) (hk : Kept W w2 (fun k => p ≤ k ∧ k < q)) (hd : b ≤ p ∨ q ≤ a) : Kd.S d e w2 n0 (fun k => a ≤ k ∧ k < b) v xs :=
  Kd.S_kept h hk (fun _ h1 h2 => by omega)
theorem lw_mark {xs' : List α} (hE : d.E = []) (h : d.R e W n0 ok v xs) (h2 : d.R e w2 n0 (fun k => ok k ∨ W.heap.size ≤ k) v xs') : d.R e w2 n0 ok v xs' :=
  Kd.R_reok hE h2 (fun k hk => h.1 k hk)
/-- Two rows of one call, of several types: one is marked. -/
theorem lw_keptT {β : Type} {d' : Kd β} {e' : Nat} {ok' P : Nat → Prop} {v' : Value} {xs' : List β} (hE : d.E = []) (h : d.R e W n0 ok v xs) (hm : d'.R e' W n0 ok' v' xs') (hne : e ≠ e') (hk : Kept W w2 P) (hP : ∀ k, P k → some k = v'.ownBlock) : d.R e w2 n0 ok v xs :=
  Kd.R_mono (Kd.R_kept (Kd.R_apart' (Kd.R_tight2 hE h) (Kd.R_typed hm) (fun q hq => by rw [hE] at hq; cases hq with | head => exact hne | tail _ h => cases h)) hk (fun k h1 h2 => h1.2 (hP k h2))) (fun _ hk => hk.1.2)
end Go.Proofs.Ythafknjaljhibaa.X
