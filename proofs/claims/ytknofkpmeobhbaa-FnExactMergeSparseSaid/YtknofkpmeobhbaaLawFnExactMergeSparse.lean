/- The statement of the law FnExactMergeSparse, out of its plain part (YtknofkpmeobhbaaPureFnExactMergeSparse) and the walk of its call: for every input the call returns true and leaves its arguments as they were. -/
import Derived.Test.YtknofkpmeobhbaaRows
import Derived.Test.YtknofkpmeobhbaaXg1h
import Derived.Test.YtknofkpmeobhbaaPureFnExactMergeSparse
import Derived.WalkKit
import Derived.ProofKit
import Derived.OpenShut
import Derived.ShutString
import Derived.ChangeOld
import Derived.Below
import Derived.SizedLaws
import Derived.Carry
namespace Go.Proofs.Ytknofkpmeobhbaa.fnExactMergeSparse
open Go.ChangeShapes Go.WideShapes Go.ChangeAt Go.RowKit Go.Proofs.Ytknofkpmeobhbaa.X
open Go.ChangeMaps (open_string shut_string)
set_option linter.unusedVariables false
theorem own : ownKnob Try.prog.godebug = none := by kernel_rfl
theorem laidOut : laidOutB Try.prog = true := by kernel_rfl
set_option maxRecDepth 100000 in
theorem lifted (os : Os) (started : os.Started) (H : Type) (enc : TypeId × Value → H) :
    ReturnsInHanded {} Try.checked os 3 .any (Rows.fnExactMergeSparseSpec.pre6 enc Try.prog Try.f3 Rows.fnExactMergeSparseRow.domain false) (Rows.fnExactMergeSparseSpec.post enc Try.prog Try.f3 false true false false) := by
  refine returnsInHanded_of_change_sized (C := Try.checked) own started (by kernel_rfl) Try.func3
    (ChangeSpec.witness6 (enc := enc) (C := Try.checked) false ⟨#[], #[.agg #[.int .i64 0, .int .i64 0, .int .i64 0, .int .i64 0, .slice none 0 0, .int .i64 0, .slice none 0 0], .agg #[.int .i64 0, .int .i64 0, .int .i64 0, .int .i64 0, .slice none 0 0, .int .i64 0, .slice none 0 0]], []⟩ 8 (by kernel_rfl) (by kernel_rfl) (by kernel_rfl) (by kernel_rfl)) ?_
  intro W base args ds gs before hval0 hW hcnd hsz0 _
  have hsz : (DataW.weightsEach Try.prog (Try.f3.params.toList ++ Rows.fnExactMergeSparseSpec.plain.varTypes Try.prog) (ds ++ gs)).all (· ≤ reachBytes) = true := hsz0
  have hval : ∀ (j : Nat) t v, Try.f3.params[j]? = some t → args[j]? = some v → Value.okWide Try.prog W .any base t v := hval0
  have hW' := hW
  obtain ⟨p, q, hA0, hV, rfl, hfz, hnd⟩ := hW
  have hA : DataW.TrodAll enc Try.prog W 0 (fun _ => true) true Try.f3.params.toList args.toList ds p := hA0
  rw [Try.params3] at hA hval hsz
  obtain ⟨v0, vs0, d0, ds0, p0, q0, hargs, rfl, rfl, h0, r0⟩ := trodAll_cons hA
  obtain ⟨v1, vs1, d1, ds1, p1, q1, rfl, rfl, rfl, h1, r1⟩ := trodAll_cons r0
  obtain ⟨rfl, rfl, rfl⟩ := trodAll_nil r1
  obtain rfl : args = #[v0, v1] := by cases args; simp_all
  obtain ⟨rfl, rfl⟩ := trodVars_none hV
  obtain ⟨cs0, rfl, sz0⟩ := okWide_struct Try.underlying26 (hval 0 26 v0 rfl rfl)
  rw [show Try.prog.cellsOf 26 = 7 from by kernel_rfl] at sz0
  obtain ⟨x0_0, x0_1, x0_2, x0_3, x0_4, x0_5, x0_6, rfl⟩ := arr7 sz0
  have k0 := h0
  have lt0 : ∀ x ∈ p0, x.block < W.heap.size := by obtain ⟨m, hm⟩ := k0; exact DataW.trod_lt m _ _ _ hm
  obtain ⟨fuel0, hf0⟩ := h0
  obtain ⟨n0_, g0_⟩ := struct_in (cs := [x0_0, x0_1, x0_2, x0_3, x0_4, x0_5, x0_6]) Try.underlying26 hf0
  obtain ⟨y0_0, e0_0⟩ := g0_ 0 _ rfl
  have e0_0 : DataW.trod enc Try.prog W 0 (fun _ => true) true n0_ 3 (List.take (Try.prog.cellsOf 3) (List.drop 0 [x0_0, x0_1, x0_2, x0_3, x0_4, x0_5, x0_6])) = some y0_0 := e0_0
  rw [show Try.prog.cellsOf 3 = 1 from by kernel_rfl] at e0_0
  have e0_0 : DataW.trod enc Try.prog W 0 (fun _ => true) true n0_ 3 [x0_0] = some y0_0 := e0_0
  obtain ⟨y0_1, e0_1⟩ := g0_ 1 _ rfl
  have e0_1 : DataW.trod enc Try.prog W 0 (fun _ => true) true n0_ 3 (List.take (Try.prog.cellsOf 3) (List.drop 1 [x0_0, x0_1, x0_2, x0_3, x0_4, x0_5, x0_6])) = some y0_1 := e0_1
  rw [show Try.prog.cellsOf 3 = 1 from by kernel_rfl] at e0_1
  have e0_1 : DataW.trod enc Try.prog W 0 (fun _ => true) true n0_ 3 [x0_1] = some y0_1 := e0_1
  obtain ⟨y0_2, e0_2⟩ := g0_ 2 _ rfl
  have e0_2 : DataW.trod enc Try.prog W 0 (fun _ => true) true n0_ 3 (List.take (Try.prog.cellsOf 3) (List.drop 2 [x0_0, x0_1, x0_2, x0_3, x0_4, x0_5, x0_6])) = some y0_2 := e0_2
  rw [show Try.prog.cellsOf 3 = 1 from by kernel_rfl] at e0_2
  have e0_2 : DataW.trod enc Try.prog W 0 (fun _ => true) true n0_ 3 [x0_2] = some y0_2 := e0_2
  obtain ⟨y0_3, e0_3⟩ := g0_ 3 _ rfl
  have e0_3 : DataW.trod enc Try.prog W 0 (fun _ => true) true n0_ 24 (List.take (Try.prog.cellsOf 24) (List.drop 3 [x0_0, x0_1, x0_2, x0_3, x0_4, x0_5, x0_6])) = some y0_3 := e0_3
  rw [show Try.prog.cellsOf 24 = 2 from by kernel_rfl] at e0_3
  have e0_3 : DataW.trod enc Try.prog W 0 (fun _ => true) true n0_ 24 [x0_3, x0_4] = some y0_3 := e0_3
  obtain ⟨n1_, g1_⟩ := struct_in (cs := [x0_3, x0_4]) Try.underlying24 e0_3
  obtain ⟨y1_0, e1_0⟩ := g1_ 0 _ rfl
  have e1_0 : DataW.trod enc Try.prog W 0 (fun _ => true) true n1_ 3 (List.take (Try.prog.cellsOf 3) (List.drop 0 [x0_3, x0_4])) = some y1_0 := e1_0
  rw [show Try.prog.cellsOf 3 = 1 from by kernel_rfl] at e1_0
  have e1_0 : DataW.trod enc Try.prog W 0 (fun _ => true) true n1_ 3 [x0_3] = some y1_0 := e1_0
  obtain ⟨y1_1, e1_1⟩ := g1_ 1 _ rfl
  have e1_1 : DataW.trod enc Try.prog W 0 (fun _ => true) true n1_ 22 (List.take (Try.prog.cellsOf 22) (List.drop 1 [x0_3, x0_4])) = some y1_1 := e1_1
  rw [show Try.prog.cellsOf 22 = 1 from by kernel_rfl] at e1_1
  have e1_1 : DataW.trod enc Try.prog W 0 (fun _ => true) true n1_ 22 [x0_4] = some y1_1 := e1_1
  obtain ⟨y0_4, e0_4⟩ := g0_ 4 _ rfl
  have e0_4 : DataW.trod enc Try.prog W 0 (fun _ => true) true n0_ 24 (List.take (Try.prog.cellsOf 24) (List.drop 5 [x0_0, x0_1, x0_2, x0_3, x0_4, x0_5, x0_6])) = some y0_4 := e0_4
  rw [show Try.prog.cellsOf 24 = 2 from by kernel_rfl] at e0_4
  have e0_4 : DataW.trod enc Try.prog W 0 (fun _ => true) true n0_ 24 [x0_5, x0_6] = some y0_4 := e0_4
  obtain ⟨n2_, g2_⟩ := struct_in (cs := [x0_5, x0_6]) Try.underlying24 e0_4
  obtain ⟨y2_0, e2_0⟩ := g2_ 0 _ rfl
  have e2_0 : DataW.trod enc Try.prog W 0 (fun _ => true) true n2_ 3 (List.take (Try.prog.cellsOf 3) (List.drop 0 [x0_5, x0_6])) = some y2_0 := e2_0
  rw [show Try.prog.cellsOf 3 = 1 from by kernel_rfl] at e2_0
  have e2_0 : DataW.trod enc Try.prog W 0 (fun _ => true) true n2_ 3 [x0_5] = some y2_0 := e2_0
  obtain ⟨y2_1, e2_1⟩ := g2_ 1 _ rfl
  have e2_1 : DataW.trod enc Try.prog W 0 (fun _ => true) true n2_ 22 (List.take (Try.prog.cellsOf 22) (List.drop 1 [x0_5, x0_6])) = some y2_1 := e2_1
  rw [show Try.prog.cellsOf 22 = 1 from by kernel_rfl] at e2_1
  have e2_1 : DataW.trod enc Try.prog W 0 (fun _ => true) true n2_ 22 [x0_6] = some y2_1 := e2_1
  obtain ⟨a0_0, b0_0, hw0_0⟩ := (opens_int Try.underlying3) enc W 0 (fun _ => true) true _ _ _ e0_0
  have b0_0 : [x0_0] = [.int .i64 a0_0] := b0_0
  obtain rfl : x0_0 = .int .i64 a0_0 := by simpa using b0_0
  obtain ⟨a0_1, b0_1, hw0_1⟩ := (opens_int Try.underlying3) enc W 0 (fun _ => true) true _ _ _ e0_1
  have b0_1 : [x0_1] = [.int .i64 a0_1] := b0_1
  obtain rfl : x0_1 = .int .i64 a0_1 := by simpa using b0_1
  obtain ⟨a0_2, b0_2, hw0_2⟩ := (opens_int Try.underlying3) enc W 0 (fun _ => true) true _ _ _ e0_2
  have b0_2 : [x0_2] = [.int .i64 a0_2] := b0_2
  obtain rfl : x0_2 = .int .i64 a0_2 := by simpa using b0_2
  obtain ⟨a0_3, b0_3, hw0_3⟩ := (opens_int Try.underlying3) enc W 0 (fun _ => true) true _ _ _ e1_0
  have b0_3 : [x0_3] = [.int .i64 a0_3] := b0_3
  obtain rfl : x0_3 = .int .i64 a0_3 := by simpa using b0_3
  obtain ⟨l0_4, ⟨A0_4, c0_4, b0_4, hc0_4, hr0_4⟩, hw0_4⟩ := (opens_slice Try.underlying22 (by kernel_rfl) (opens_int Try.underlying3)) enc W 0 (fun _ => true) true _ _ _ e1_1
  obtain rfl : x0_4 = .slice A0_4 l0_4.length c0_4 := by simpa using b0_4
  obtain ⟨a0_5, b0_5, hw0_5⟩ := (opens_int Try.underlying3) enc W 0 (fun _ => true) true _ _ _ e2_0
  have b0_5 : [x0_5] = [.int .i64 a0_5] := b0_5
  obtain rfl : x0_5 = .int .i64 a0_5 := by simpa using b0_5
  obtain ⟨l0_6, ⟨A0_6, c0_6, b0_6, hc0_6, hr0_6⟩, hw0_6⟩ := (opens_slice Try.underlying22 (by kernel_rfl) (opens_int Try.underlying3)) enc W 0 (fun _ => true) true _ _ _ e2_1
  obtain rfl : x0_6 = .slice A0_6 l0_6.length c0_6 := by simpa using b0_6
  obtain ⟨cs1, rfl, sz1⟩ := okWide_struct Try.underlying26 (hval 1 26 v1 rfl rfl)
  rw [show Try.prog.cellsOf 26 = 7 from by kernel_rfl] at sz1
  obtain ⟨x1_0, x1_1, x1_2, x1_3, x1_4, x1_5, x1_6, rfl⟩ := arr7 sz1
  have k1 := h1
  have lt1 : ∀ x ∈ p1, x.block < W.heap.size := by obtain ⟨m, hm⟩ := k1; exact DataW.trod_lt m _ _ _ hm
  obtain ⟨fuel1, hf1⟩ := h1
  obtain ⟨n3_, g3_⟩ := struct_in (cs := [x1_0, x1_1, x1_2, x1_3, x1_4, x1_5, x1_6]) Try.underlying26 hf1
  obtain ⟨y3_0, e3_0⟩ := g3_ 0 _ rfl
  have e3_0 : DataW.trod enc Try.prog W 0 (fun _ => true) true n3_ 3 (List.take (Try.prog.cellsOf 3) (List.drop 0 [x1_0, x1_1, x1_2, x1_3, x1_4, x1_5, x1_6])) = some y3_0 := e3_0
  rw [show Try.prog.cellsOf 3 = 1 from by kernel_rfl] at e3_0
  have e3_0 : DataW.trod enc Try.prog W 0 (fun _ => true) true n3_ 3 [x1_0] = some y3_0 := e3_0
  obtain ⟨y3_1, e3_1⟩ := g3_ 1 _ rfl
  have e3_1 : DataW.trod enc Try.prog W 0 (fun _ => true) true n3_ 3 (List.take (Try.prog.cellsOf 3) (List.drop 1 [x1_0, x1_1, x1_2, x1_3, x1_4, x1_5, x1_6])) = some y3_1 := e3_1
  rw [show Try.prog.cellsOf 3 = 1 from by kernel_rfl] at e3_1
  have e3_1 : DataW.trod enc Try.prog W 0 (fun _ => true) true n3_ 3 [x1_1] = some y3_1 := e3_1
  obtain ⟨y3_2, e3_2⟩ := g3_ 2 _ rfl
  have e3_2 : DataW.trod enc Try.prog W 0 (fun _ => true) true n3_ 3 (List.take (Try.prog.cellsOf 3) (List.drop 2 [x1_0, x1_1, x1_2, x1_3, x1_4, x1_5, x1_6])) = some y3_2 := e3_2
  rw [show Try.prog.cellsOf 3 = 1 from by kernel_rfl] at e3_2
  have e3_2 : DataW.trod enc Try.prog W 0 (fun _ => true) true n3_ 3 [x1_2] = some y3_2 := e3_2
  obtain ⟨y3_3, e3_3⟩ := g3_ 3 _ rfl
  have e3_3 : DataW.trod enc Try.prog W 0 (fun _ => true) true n3_ 24 (List.take (Try.prog.cellsOf 24) (List.drop 3 [x1_0, x1_1, x1_2, x1_3, x1_4, x1_5, x1_6])) = some y3_3 := e3_3
  rw [show Try.prog.cellsOf 24 = 2 from by kernel_rfl] at e3_3
  have e3_3 : DataW.trod enc Try.prog W 0 (fun _ => true) true n3_ 24 [x1_3, x1_4] = some y3_3 := e3_3
  obtain ⟨n4_, g4_⟩ := struct_in (cs := [x1_3, x1_4]) Try.underlying24 e3_3
  obtain ⟨y4_0, e4_0⟩ := g4_ 0 _ rfl
  have e4_0 : DataW.trod enc Try.prog W 0 (fun _ => true) true n4_ 3 (List.take (Try.prog.cellsOf 3) (List.drop 0 [x1_3, x1_4])) = some y4_0 := e4_0
  rw [show Try.prog.cellsOf 3 = 1 from by kernel_rfl] at e4_0
  have e4_0 : DataW.trod enc Try.prog W 0 (fun _ => true) true n4_ 3 [x1_3] = some y4_0 := e4_0
  obtain ⟨y4_1, e4_1⟩ := g4_ 1 _ rfl
  have e4_1 : DataW.trod enc Try.prog W 0 (fun _ => true) true n4_ 22 (List.take (Try.prog.cellsOf 22) (List.drop 1 [x1_3, x1_4])) = some y4_1 := e4_1
  rw [show Try.prog.cellsOf 22 = 1 from by kernel_rfl] at e4_1
  have e4_1 : DataW.trod enc Try.prog W 0 (fun _ => true) true n4_ 22 [x1_4] = some y4_1 := e4_1
  obtain ⟨y3_4, e3_4⟩ := g3_ 4 _ rfl
  have e3_4 : DataW.trod enc Try.prog W 0 (fun _ => true) true n3_ 24 (List.take (Try.prog.cellsOf 24) (List.drop 5 [x1_0, x1_1, x1_2, x1_3, x1_4, x1_5, x1_6])) = some y3_4 := e3_4
  rw [show Try.prog.cellsOf 24 = 2 from by kernel_rfl] at e3_4
  have e3_4 : DataW.trod enc Try.prog W 0 (fun _ => true) true n3_ 24 [x1_5, x1_6] = some y3_4 := e3_4
  obtain ⟨n5_, g5_⟩ := struct_in (cs := [x1_5, x1_6]) Try.underlying24 e3_4
  obtain ⟨y5_0, e5_0⟩ := g5_ 0 _ rfl
  have e5_0 : DataW.trod enc Try.prog W 0 (fun _ => true) true n5_ 3 (List.take (Try.prog.cellsOf 3) (List.drop 0 [x1_5, x1_6])) = some y5_0 := e5_0
  rw [show Try.prog.cellsOf 3 = 1 from by kernel_rfl] at e5_0
  have e5_0 : DataW.trod enc Try.prog W 0 (fun _ => true) true n5_ 3 [x1_5] = some y5_0 := e5_0
  obtain ⟨y5_1, e5_1⟩ := g5_ 1 _ rfl
  have e5_1 : DataW.trod enc Try.prog W 0 (fun _ => true) true n5_ 22 (List.take (Try.prog.cellsOf 22) (List.drop 1 [x1_5, x1_6])) = some y5_1 := e5_1
  rw [show Try.prog.cellsOf 22 = 1 from by kernel_rfl] at e5_1
  have e5_1 : DataW.trod enc Try.prog W 0 (fun _ => true) true n5_ 22 [x1_6] = some y5_1 := e5_1
  obtain ⟨a1_0, b1_0, hw1_0⟩ := (opens_int Try.underlying3) enc W 0 (fun _ => true) true _ _ _ e3_0
  have b1_0 : [x1_0] = [.int .i64 a1_0] := b1_0
  obtain rfl : x1_0 = .int .i64 a1_0 := by simpa using b1_0
  obtain ⟨a1_1, b1_1, hw1_1⟩ := (opens_int Try.underlying3) enc W 0 (fun _ => true) true _ _ _ e3_1
  have b1_1 : [x1_1] = [.int .i64 a1_1] := b1_1
  obtain rfl : x1_1 = .int .i64 a1_1 := by simpa using b1_1
  obtain ⟨a1_2, b1_2, hw1_2⟩ := (opens_int Try.underlying3) enc W 0 (fun _ => true) true _ _ _ e3_2
  have b1_2 : [x1_2] = [.int .i64 a1_2] := b1_2
  obtain rfl : x1_2 = .int .i64 a1_2 := by simpa using b1_2
  obtain ⟨a1_3, b1_3, hw1_3⟩ := (opens_int Try.underlying3) enc W 0 (fun _ => true) true _ _ _ e4_0
  have b1_3 : [x1_3] = [.int .i64 a1_3] := b1_3
  obtain rfl : x1_3 = .int .i64 a1_3 := by simpa using b1_3
  obtain ⟨l1_4, ⟨A1_4, c1_4, b1_4, hc1_4, hr1_4⟩, hw1_4⟩ := (opens_slice Try.underlying22 (by kernel_rfl) (opens_int Try.underlying3)) enc W 0 (fun _ => true) true _ _ _ e4_1
  obtain rfl : x1_4 = .slice A1_4 l1_4.length c1_4 := by simpa using b1_4
  obtain ⟨a1_5, b1_5, hw1_5⟩ := (opens_int Try.underlying3) enc W 0 (fun _ => true) true _ _ _ e5_0
  have b1_5 : [x1_5] = [.int .i64 a1_5] := b1_5
  obtain rfl : x1_5 = .int .i64 a1_5 := by simpa using b1_5
  obtain ⟨l1_6, ⟨A1_6, c1_6, b1_6, hc1_6, hr1_6⟩, hw1_6⟩ := (opens_slice Try.underlying22 (by kernel_rfl) (opens_int Try.underlying3)) enc W 0 (fun _ => true) true _ _ _ e5_1
  obtain rfl : x1_6 = .slice A1_6 l1_6.length c1_6 := by simpa using b1_6
  clear hA0 hval0 hsz0 hsz
  refine (X.laws_FnExactMergeSparse.walk Pure.FnExactMergeSparse a0_0 a0_1 a0_2 a0_3 A0_4 c0_4 l0_4 a0_5 A0_6 c0_6 l0_6 a1_0 a1_1 a1_2 a1_3 A1_4 c1_4 l1_4 a1_5 A1_6 c1_6 l1_6 W hr0_4 hc0_4 hr0_6 hc0_6 hr1_4 hc1_4 hr1_6 hc1_6 hw0_0 hw0_1 hw0_2 hw0_3 hw0_4 hw0_5 hw0_6 hw1_0 hw1_1 hw1_2 hw1_3 hw1_4 hw1_5 hw1_6).mono fun e W' ⟨he, bel⟩ => ?_
  subst he
  exact ⟨_, rfl, _, _, _, [], _, [], hW', trodAll_mk1 (shut_bool Try.underlying4 _), (trodAll_cons_mk (Below.trod laidOut (by kernel_rfl) (of_decide_eq_true (by kernel_rfl)) k0 bel lt0) (trodAll_cons_mk (Below.trod laidOut (by kernel_rfl) (of_decide_eq_true (by kernel_rfl)) k1 bel lt1) trodAll_mk0)), rfl, bel.frame _, fun h => by cases h⟩
theorem over : Rows.fnExactMergeSparseRow.holds Try.pinned (OpenSpec.ofChange Rows.fnExactMergeSparseSpec) :=
  OpenClaim.holds_of_wide 3 Try.f3 rfl rfl rfl rfl rfl rfl rfl ⟨rfl, rfl, rfl, rfl, rfl⟩ rfl rfl rfl rfl rfl (by kernel_rfl) Try.func3 (by kernel_rfl)
    (of_decide_eq_true (by kernel_rfl)) (by unfold Func.isWrapper; first | (rw [if_pos (by decide +kernel)]; kernel_rfl) | (rw [if_neg (by decide +kernel)]; exact ⟨rfl, rfl⟩))
    (fun os started H enc _ => lifted os started H enc)
theorem proved : Rows.FnExactMergeSparseSaid := over
#print axioms proved
end Go.Proofs.Ytknofkpmeobhbaa.fnExactMergeSparse
namespace Go.Proofs.Ytknofkpmeobhbaa
/-- The row, under a short name, for the claim. -/
theorem fnExactMergeSparse_holds : Rows.FnExactMergeSparseSaid := fnExactMergeSparse.proved
end Go.Proofs.Ytknofkpmeobhbaa
