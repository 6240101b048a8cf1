/- The statement of the law FnExactHyperParts, out of its plain part (YthafknjaljhibaaPureFnExactHyperParts) and the walk of its call: for every input the call returns true and leaves its arguments as they were. -/
import Derived.Test.YthafknjaljhibaaRows
import Derived.Test.YthafknjaljhibaaXg1d
import Derived.Test.YthafknjaljhibaaPureFnExactHyperParts
import Derived.WalkKit
import Derived.ProofKit
import Derived.OpenShut
import Derived.ShutString
import Derived.ChangeOld
import Derived.Below
import Derived.SizedLaws
import Derived.Carry
namespace Go.Proofs.Ythafknjaljhibaa.fnExactHyperParts
open Go.ChangeShapes Go.WideShapes Go.ChangeAt Go.RowKit Go.Proofs.Ythafknjaljhibaa.X
open Go.ChangeMaps (open_string shut_string)
set_option linter.unusedVariables false
theorem own : ownKnob Try.prog.godebug = none := by kernel_rfl
theorem laidOut : laidOutB Try.prog = true := by kernel_rfl
set_option maxRecDepth 100000 in
theorem lifted (os : Os) (started : os.Started) (H : Type) (enc : TypeId × Value → H) :
    ReturnsInHanded {} Try.checked os 3 .any (Rows.fnExactHyperPartsSpec.pre6 enc Try.prog Try.f3 Rows.fnExactHyperPartsRow.domain false) (Rows.fnExactHyperPartsSpec.post enc Try.prog Try.f3 false true false false) := by
  refine returnsInHanded_of_change_sized (C := Try.checked) own started (by kernel_rfl) Try.func3
    (ChangeSpec.witness6 (enc := enc) (C := Try.checked) false ⟨#[], #[.agg #[.int .i64 0, .slice none 0 0]], []⟩ 8 (by kernel_rfl) (by kernel_rfl) (by kernel_rfl) (by kernel_rfl)) ?_
  intro W base args ds gs before hval0 hW hcnd hsz0 _
  have hsz : (DataW.weightsEach Try.prog (Try.f3.params.toList ++ Rows.fnExactHyperPartsSpec.plain.varTypes Try.prog) (ds ++ gs)).all (· ≤ reachBytes) = true := hsz0
  have hval : ∀ (j : Nat) t v, Try.f3.params[j]? = some t → args[j]? = some v → Value.okWide Try.prog W .any base t v := hval0
  have hW' := hW
  obtain ⟨p, q, hA0, hV, rfl, hfz, hnd⟩ := hW
  have hA : DataW.TrodAll enc Try.prog W 0 (fun _ => true) true Try.f3.params.toList args.toList ds p := hA0
  rw [Try.params3] at hA hval hsz
  obtain ⟨v0, vs0, d0, ds0, p0, q0, hargs, rfl, rfl, h0, r0⟩ := trodAll_cons hA
  obtain ⟨rfl, rfl, rfl⟩ := trodAll_nil r0
  obtain rfl : args = #[v0] := by cases args; simp_all
  obtain ⟨rfl, rfl⟩ := trodVars_none hV
  obtain ⟨cs0, rfl, sz0⟩ := okWide_struct Try.underlying24 (hval 0 24 v0 rfl rfl)
  rw [show Try.prog.cellsOf 24 = 2 from by kernel_rfl] at sz0
  obtain ⟨x0_0, x0_1, rfl⟩ := arr2 sz0
  have k0 := h0
  have lt0 : ∀ x ∈ p0, x.block < W.heap.size := by obtain ⟨m, hm⟩ := k0; exact DataW.trod_lt m _ _ _ hm
  obtain ⟨fuel0, hf0⟩ := h0
  obtain ⟨n0_, g0_⟩ := struct_in (cs := [x0_0, x0_1]) Try.underlying24 hf0
  obtain ⟨y0_0, e0_0⟩ := g0_ 0 _ rfl
  have e0_0 : DataW.trod enc Try.prog W 0 (fun _ => true) true n0_ 3 (List.take (Try.prog.cellsOf 3) (List.drop 0 [x0_0, x0_1])) = some y0_0 := e0_0
  rw [show Try.prog.cellsOf 3 = 1 from by kernel_rfl] at e0_0
  have e0_0 : DataW.trod enc Try.prog W 0 (fun _ => true) true n0_ 3 [x0_0] = some y0_0 := e0_0
  obtain ⟨y0_1, e0_1⟩ := g0_ 1 _ rfl
  have e0_1 : DataW.trod enc Try.prog W 0 (fun _ => true) true n0_ 22 (List.take (Try.prog.cellsOf 22) (List.drop 1 [x0_0, x0_1])) = some y0_1 := e0_1
  rw [show Try.prog.cellsOf 22 = 1 from by kernel_rfl] at e0_1
  have e0_1 : DataW.trod enc Try.prog W 0 (fun _ => true) true n0_ 22 [x0_1] = some y0_1 := e0_1
  obtain ⟨a0_0, b0_0, hw0_0⟩ := (opens_int Try.underlying3) enc W 0 (fun _ => true) true _ _ _ e0_0
  have b0_0 : [x0_0] = [.int .i64 a0_0] := b0_0
  obtain rfl : x0_0 = .int .i64 a0_0 := by simpa using b0_0
  obtain ⟨l0_1, ⟨A0_1, c0_1, b0_1, hc0_1, hr0_1⟩, hw0_1⟩ := (opens_slice Try.underlying22 (by kernel_rfl) (opens_slice Try.underlying36 (by kernel_rfl) (opens_int Try.underlying3))) enc W 0 (fun _ => true) true _ _ _ e0_1
  obtain rfl : x0_1 = .slice A0_1 l0_1.length c0_1 := by simpa using b0_1
  clear hA0 hval0 hsz0 hsz
  refine (X.laws_FnExactHyperParts.walk Pure.FnExactHyperParts a0_0 A0_1 c0_1 l0_1 W hr0_1 hc0_1 hw0_0 hw0_1).mono fun e W' ⟨he, bel⟩ => ?_
  subst he
  exact ⟨_, rfl, _, _, _, [], _, [], hW', trodAll_mk1 (shut_bool Try.underlying4 _), (trodAll_cons_mk (Below.trod laidOut (by kernel_rfl) (of_decide_eq_true (by kernel_rfl)) k0 bel lt0) trodAll_mk0), rfl, bel.frame _, fun h => by cases h⟩
theorem over : Rows.fnExactHyperPartsRow.holds Try.pinned (OpenSpec.ofChange Rows.fnExactHyperPartsSpec) :=
  OpenClaim.holds_of_wide 3 Try.f3 rfl rfl rfl rfl rfl rfl rfl ⟨rfl, rfl, rfl, rfl, rfl⟩ rfl rfl rfl rfl rfl (by kernel_rfl) Try.func3 (by kernel_rfl)
    (of_decide_eq_true (by kernel_rfl)) (by unfold Func.isWrapper; first | (rw [if_pos (by decide +kernel)]; kernel_rfl) | (rw [if_neg (by decide +kernel)]; exact ⟨rfl, rfl⟩))
    (fun os started H enc _ => lifted os started H enc)
theorem proved : Rows.FnExactHyperPartsSaid := over
#print axioms proved
end Go.Proofs.Ythafknjaljhibaa.fnExactHyperParts
namespace Go.Proofs.Ythafknjaljhibaa
/-- The row, under a short name, for the claim. -/
theorem fnExactHyperParts_holds : Rows.FnExactHyperPartsSaid := fnExactHyperParts.proved
end Go.Proofs.Ythafknjaljhibaa
