/- The statement of the law FnExactUnpackMarks, out of its plain part (YtioncjcmfbndmaaPureFnExactUnpackMarks) and the walk of its call: for every input the call returns true and leaves its arguments as they were. -/
import Derived.Test.YtioncjcmfbndmaaRows
import Derived.Test.YtioncjcmfbndmaaXg2b
import Derived.Test.YtioncjcmfbndmaaPureFnExactUnpackMarks
import Derived.WalkKit
import Derived.ProofKit
import Derived.OpenShut
import Derived.ShutString
import Derived.ChangeOld
import Derived.Below
import Derived.SizedLaws
import Derived.Carry
namespace Go.Proofs.Ytioncjcmfbndmaa.fnExactUnpackMarks
open Go.ChangeShapes Go.WideShapes Go.ChangeAt Go.RowKit Go.Proofs.Ytioncjcmfbndmaa.X
open Go.ChangeMaps (open_string shut_string)
set_option linter.unusedVariables false
theorem own : ownKnob Try.prog.godebug = none := by kernel_rfl
theorem laidOut : laidOutB Try.prog = true := by kernel_rfl
set_option maxRecDepth 100000 in
theorem lifted (os : Os) (started : os.Started) (H : Type) (enc : TypeId × Value → H) :
    ReturnsInHanded {} Try.checked os 4 .any (Rows.fnExactUnpackMarksSpec.pre6 enc Try.prog Try.f4 Rows.fnExactUnpackMarksRow.domain false) (Rows.fnExactUnpackMarksSpec.post enc Try.prog Try.f4 false true false false) := by
  refine returnsInHanded_of_change_sized (C := Try.checked) own started (by kernel_rfl) Try.func4
    (ChangeSpec.witness6 (enc := enc) (C := Try.checked) false ⟨#[], #[.int .i64 0, .int .i64 0, .agg #[.int .i64 0, .slice none 0 0]], []⟩ 8 (by kernel_rfl) (by kernel_rfl) (by kernel_rfl) (by kernel_rfl)) ?_
  intro W base args ds gs before hval0 hW hcnd hsz0 _
  have hsz : (DataW.weightsEach Try.prog (Try.f4.params.toList ++ Rows.fnExactUnpackMarksSpec.plain.varTypes Try.prog) (ds ++ gs)).all (· ≤ reachBytes) = true := hsz0
  have hval : ∀ (j : Nat) t v, Try.f4.params[j]? = some t → args[j]? = some v → Value.okWide Try.prog W .any base t v := hval0
  have hW' := hW
  obtain ⟨p, q, hA0, hV, rfl, hfz, hnd⟩ := hW
  have hA : DataW.TrodAll enc Try.prog W 0 (fun _ => true) true Try.f4.params.toList args.toList ds p := hA0
  rw [Try.params4] at hA hval hsz
  obtain ⟨v0, vs0, d0, ds0, p0, q0, hargs, rfl, rfl, h0, r0⟩ := trodAll_cons hA
  obtain ⟨v1, vs1, d1, ds1, p1, q1, rfl, rfl, rfl, h1, r1⟩ := trodAll_cons r0
  obtain ⟨v2, vs2, d2, ds2, p2, q2, rfl, rfl, rfl, h2, r2⟩ := trodAll_cons r1
  obtain ⟨rfl, rfl, rfl⟩ := trodAll_nil r2
  obtain rfl : args = #[v0, v1, v2] := by cases args; simp_all
  obtain ⟨rfl, rfl⟩ := trodVars_none hV
  obtain ⟨a0, rfl, rfl, rfl, hw0⟩ := open_int Try.underlying3 (hval 0 3 v0 rfl rfl) h0
  obtain ⟨a1, rfl, rfl, rfl, hw1⟩ := open_int Try.underlying3 (hval 1 3 v1 rfl rfl) h1
  obtain ⟨cs2, rfl, sz2⟩ := okWide_struct Try.underlying33 (hval 2 33 v2 rfl rfl)
  rw [show Try.prog.cellsOf 33 = 2 from by kernel_rfl] at sz2
  obtain ⟨x2_0, x2_1, rfl⟩ := arr2 sz2
  have k2 := h2
  have lt2 : ∀ x ∈ p2, x.block < W.heap.size := by obtain ⟨m, hm⟩ := k2; exact DataW.trod_lt m _ _ _ hm
  obtain ⟨fuel2, hf2⟩ := h2
  obtain ⟨n0_, g0_⟩ := struct_in (cs := [x2_0, x2_1]) Try.underlying33 hf2
  obtain ⟨y0_0, e0_0⟩ := g0_ 0 _ rfl
  have e0_0 : DataW.trod enc Try.prog W 0 (fun _ => true) true n0_ 3 (List.take (Try.prog.cellsOf 3) (List.drop 0 [x2_0, x2_1])) = some y0_0 := e0_0
  rw [show Try.prog.cellsOf 3 = 1 from by kernel_rfl] at e0_0
  have e0_0 : DataW.trod enc Try.prog W 0 (fun _ => true) true n0_ 3 [x2_0] = some y0_0 := e0_0
  obtain ⟨y0_1, e0_1⟩ := g0_ 1 _ rfl
  have e0_1 : DataW.trod enc Try.prog W 0 (fun _ => true) true n0_ 22 (List.take (Try.prog.cellsOf 22) (List.drop 1 [x2_0, x2_1])) = some y0_1 := e0_1
  rw [show Try.prog.cellsOf 22 = 1 from by kernel_rfl] at e0_1
  have e0_1 : DataW.trod enc Try.prog W 0 (fun _ => true) true n0_ 22 [x2_1] = some y0_1 := e0_1
  obtain ⟨a2_0, b2_0, hw2_0⟩ := (opens_int Try.underlying3) enc W 0 (fun _ => true) true _ _ _ e0_0
  have b2_0 : [x2_0] = [.int .i64 a2_0] := b2_0
  obtain rfl : x2_0 = .int .i64 a2_0 := by simpa using b2_0
  obtain ⟨l2_1, ⟨A2_1, c2_1, b2_1, hc2_1, hr2_1⟩, hw2_1⟩ := (opens_slice Try.underlying22 (by kernel_rfl) (opens_int Try.underlying3)) enc W 0 (fun _ => true) true _ _ _ e0_1
  obtain rfl : x2_1 = .slice A2_1 l2_1.length c2_1 := by simpa using b2_1
  clear hA0 hval0 hsz0 hsz
  refine (X.laws_FnExactUnpackMarks.walk Pure.FnExactUnpackMarks a0 a1 a2_0 A2_1 c2_1 l2_1 W hr2_1 hc2_1 hw0 hw1 hw2_0 hw2_1).mono fun e W' ⟨he, bel⟩ => ?_
  subst he
  exact ⟨_, rfl, _, _, _, [], _, [], hW', trodAll_mk1 (shut_bool Try.underlying4 _), (trodAll_cons_mk (shut_int Try.underlying3 hw0) (trodAll_cons_mk (shut_int Try.underlying3 hw1) (trodAll_cons_mk (Below.trod laidOut (by kernel_rfl) (of_decide_eq_true (by kernel_rfl)) k2 bel lt2) trodAll_mk0))), rfl, bel.frame _, fun h => by cases h⟩
theorem over : Rows.fnExactUnpackMarksRow.holds Try.pinned (OpenSpec.ofChange Rows.fnExactUnpackMarksSpec) :=
  OpenClaim.holds_of_wide 4 Try.f4 rfl rfl rfl rfl rfl rfl rfl ⟨rfl, rfl, rfl, rfl, rfl⟩ rfl rfl rfl rfl rfl (by kernel_rfl) Try.func4 (by kernel_rfl)
    (of_decide_eq_true (by kernel_rfl)) (by unfold Func.isWrapper; first | (rw [if_pos (by decide +kernel)]; kernel_rfl) | (rw [if_neg (by decide +kernel)]; exact ⟨rfl, rfl⟩))
    (fun os started H enc _ => lifted os started H enc)
theorem proved : Rows.FnExactUnpackMarksSaid := over
#print axioms proved
end Go.Proofs.Ytioncjcmfbndmaa.fnExactUnpackMarks
namespace Go.Proofs.Ytioncjcmfbndmaa
/-- The row, under a short name, for the claim. -/
theorem fnExactUnpackMarks_holds : Rows.FnExactUnpackMarksSaid := fnExactUnpackMarks.proved
end Go.Proofs.Ytioncjcmfbndmaa
