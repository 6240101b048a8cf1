import Derived.Test.YtdlbdocpofnfjaaRows
import Derived.Test.YtdlbdocpofnfjaaXg200b
import Derived.Test.YtdlbdocpofnfjaaPureFnExactSliceSparse
import Derived.WalkKit
import Derived.ProofKit
import Derived.OpenShut
import Derived.ShutString
import Derived.ChangeOld
import Derived.Below
import Derived.SizedLaws
import Derived.Carry
namespace Go.Proofs.Ytdlbdocpofnfjaa.fnExactSliceSparse
open Go.ChangeShapes Go.WideShapes Go.ChangeAt Go.RowKit Go.Proofs.Ytdlbdocpofnfjaa.X
open Go.ChangeMaps (open_string shut_string)
set_option linter.unusedVariables false
theorem own : ownKnob Try.prog.godebug = none := by kernel_rfl
theorem laidOut : laidOutB Try.prog = true := by kernel_rfl
set_option maxRecDepth 100000 in
theorem lifted (os : Os) (started : os.Started) (H : Type) (enc : TypeId × Value → H) :
    ReturnsInHanded {} Try.checked os 12 .any (Rows.fnExactSliceSparseSpec.pre6 enc Try.prog Try.f12 Rows.fnExactSliceSparseRow.domain false) (Rows.fnExactSliceSparseSpec.post enc Try.prog Try.f12 false true false false) := by
  refine returnsInHanded_of_change_sized (C := Try.checked) own started (by kernel_rfl) Try.func12
    (ChangeSpec.witness6 (enc := enc) (C := Try.checked) false ⟨#[], #[.agg #[.int .i64 0, .int .i64 0, .int .i64 0, .int .i64 0, .slice none 0 0, .int .i64 0, .slice none 0 0], .int .i64 0, .int .i64 0], []⟩ 8 (by kernel_rfl) (by kernel_rfl) (by kernel_rfl) (by kernel_rfl)) ?_
  intro W base args ds gs before hval0 hW hcnd hsz0 _
  have hsz : (DataW.weightsEach Try.prog (Try.f12.params.toList ++ Rows.fnExactSliceSparseSpec.plain.varTypes Try.prog) (ds ++ gs)).all (· ≤ reachBytes) = true := hsz0
  have hval : ∀ (j : Nat) t v, Try.f12.params[j]? = some t → args[j]? = some v → Value.okWide Try.prog W .any base t v := hval0
  have hW' := hW
  obtain ⟨p, q, hA0, hV, rfl, hfz, hnd⟩ := hW
  have hA : DataW.TrodAll enc Try.prog W 0 (fun _ => true) true Try.f12.params.toList args.toList ds p := hA0
  rw [Try.params12] at hA hval hsz
  obtain ⟨v0, vs0, d0, ds0, p0, q0, hargs, rfl, rfl, h0, r0⟩ := trodAll_cons hA
  obtain ⟨v1, vs1, d1, ds1, p1, q1, rfl, rfl, rfl, h1, r1⟩ := trodAll_cons r0
  obtain ⟨v2, vs2, d2, ds2, p2, q2, rfl, rfl, rfl, h2, r2⟩ := trodAll_cons r1
  obtain ⟨rfl, rfl, rfl⟩ := trodAll_nil r2
  obtain rfl : args = #[v0, v1, v2] := by cases args; simp_all
  obtain ⟨rfl, rfl⟩ := trodVars_none hV
  obtain ⟨cs0, rfl, sz0⟩ := okWide_struct Try.underlying37 (hval 0 37 v0 rfl rfl)
  rw [show Try.prog.cellsOf 37 = 7 from by kernel_rfl] at sz0
  obtain ⟨x0_0, x0_1, x0_2, x0_3, x0_4, x0_5, x0_6, rfl⟩ := arr7 sz0
  have k0 := h0
  have lt0 : ∀ x ∈ p0, x.block < W.heap.size := by obtain ⟨m, hm⟩ := k0; exact DataW.trod_lt m _ _ _ hm
  obtain ⟨fuel0, hf0⟩ := h0
  obtain ⟨n0_, g0_⟩ := struct_in (cs := [x0_0, x0_1, x0_2, x0_3, x0_4, x0_5, x0_6]) Try.underlying37 hf0
  obtain ⟨y0_0, e0_0⟩ := g0_ 0 _ rfl
  have e0_0 : DataW.trod enc Try.prog W 0 (fun _ => true) true n0_ 3 (List.take (Try.prog.cellsOf 3) (List.drop 0 [x0_0, x0_1, x0_2, x0_3, x0_4, x0_5, x0_6])) = some y0_0 := e0_0
  rw [show Try.prog.cellsOf 3 = 1 from by kernel_rfl] at e0_0
  have e0_0 : DataW.trod enc Try.prog W 0 (fun _ => true) true n0_ 3 [x0_0] = some y0_0 := e0_0
  obtain ⟨y0_1, e0_1⟩ := g0_ 1 _ rfl
  have e0_1 : DataW.trod enc Try.prog W 0 (fun _ => true) true n0_ 3 (List.take (Try.prog.cellsOf 3) (List.drop 1 [x0_0, x0_1, x0_2, x0_3, x0_4, x0_5, x0_6])) = some y0_1 := e0_1
  rw [show Try.prog.cellsOf 3 = 1 from by kernel_rfl] at e0_1
  have e0_1 : DataW.trod enc Try.prog W 0 (fun _ => true) true n0_ 3 [x0_1] = some y0_1 := e0_1
  obtain ⟨y0_2, e0_2⟩ := g0_ 2 _ rfl
  have e0_2 : DataW.trod enc Try.prog W 0 (fun _ => true) true n0_ 3 (List.take (Try.prog.cellsOf 3) (List.drop 2 [x0_0, x0_1, x0_2, x0_3, x0_4, x0_5, x0_6])) = some y0_2 := e0_2
  rw [show Try.prog.cellsOf 3 = 1 from by kernel_rfl] at e0_2
  have e0_2 : DataW.trod enc Try.prog W 0 (fun _ => true) true n0_ 3 [x0_2] = some y0_2 := e0_2
  obtain ⟨y0_3, e0_3⟩ := g0_ 3 _ rfl
  have e0_3 : DataW.trod enc Try.prog W 0 (fun _ => true) true n0_ 35 (List.take (Try.prog.cellsOf 35) (List.drop 3 [x0_0, x0_1, x0_2, x0_3, x0_4, x0_5, x0_6])) = some y0_3 := e0_3
  rw [show Try.prog.cellsOf 35 = 2 from by kernel_rfl] at e0_3
  have e0_3 : DataW.trod enc Try.prog W 0 (fun _ => true) true n0_ 35 [x0_3, x0_4] = some y0_3 := e0_3
  obtain ⟨n1_, g1_⟩ := struct_in (cs := [x0_3, x0_4]) Try.underlying35 e0_3
  obtain ⟨y1_0, e1_0⟩ := g1_ 0 _ rfl
  have e1_0 : DataW.trod enc Try.prog W 0 (fun _ => true) true n1_ 3 (List.take (Try.prog.cellsOf 3) (List.drop 0 [x0_3, x0_4])) = some y1_0 := e1_0
  rw [show Try.prog.cellsOf 3 = 1 from by kernel_rfl] at e1_0
  have e1_0 : DataW.trod enc Try.prog W 0 (fun _ => true) true n1_ 3 [x0_3] = some y1_0 := e1_0
  obtain ⟨y1_1, e1_1⟩ := g1_ 1 _ rfl
  have e1_1 : DataW.trod enc Try.prog W 0 (fun _ => true) true n1_ 22 (List.take (Try.prog.cellsOf 22) (List.drop 1 [x0_3, x0_4])) = some y1_1 := e1_1
  rw [show Try.prog.cellsOf 22 = 1 from by kernel_rfl] at e1_1
  have e1_1 : DataW.trod enc Try.prog W 0 (fun _ => true) true n1_ 22 [x0_4] = some y1_1 := e1_1
  obtain ⟨y0_4, e0_4⟩ := g0_ 4 _ rfl
  have e0_4 : DataW.trod enc Try.prog W 0 (fun _ => true) true n0_ 35 (List.take (Try.prog.cellsOf 35) (List.drop 5 [x0_0, x0_1, x0_2, x0_3, x0_4, x0_5, x0_6])) = some y0_4 := e0_4
  rw [show Try.prog.cellsOf 35 = 2 from by kernel_rfl] at e0_4
  have e0_4 : DataW.trod enc Try.prog W 0 (fun _ => true) true n0_ 35 [x0_5, x0_6] = some y0_4 := e0_4
  obtain ⟨n2_, g2_⟩ := struct_in (cs := [x0_5, x0_6]) Try.underlying35 e0_4
  obtain ⟨y2_0, e2_0⟩ := g2_ 0 _ rfl
  have e2_0 : DataW.trod enc Try.prog W 0 (fun _ => true) true n2_ 3 (List.take (Try.prog.cellsOf 3) (List.drop 0 [x0_5, x0_6])) = some y2_0 := e2_0
  rw [show Try.prog.cellsOf 3 = 1 from by kernel_rfl] at e2_0
  have e2_0 : DataW.trod enc Try.prog W 0 (fun _ => true) true n2_ 3 [x0_5] = some y2_0 := e2_0
  obtain ⟨y2_1, e2_1⟩ := g2_ 1 _ rfl
  have e2_1 : DataW.trod enc Try.prog W 0 (fun _ => true) true n2_ 22 (List.take (Try.prog.cellsOf 22) (List.drop 1 [x0_5, x0_6])) = some y2_1 := e2_1
  rw [show Try.prog.cellsOf 22 = 1 from by kernel_rfl] at e2_1
  have e2_1 : DataW.trod enc Try.prog W 0 (fun _ => true) true n2_ 22 [x0_6] = some y2_1 := e2_1
  obtain ⟨a0_0, b0_0, hw0_0⟩ := (opens_int Try.underlying3) enc W 0 (fun _ => true) true _ _ _ e0_0
  have b0_0 : [x0_0] = [.int .i64 a0_0] := b0_0
  obtain rfl : x0_0 = .int .i64 a0_0 := by simpa using b0_0
  obtain ⟨a0_1, b0_1, hw0_1⟩ := (opens_int Try.underlying3) enc W 0 (fun _ => true) true _ _ _ e0_1
  have b0_1 : [x0_1] = [.int .i64 a0_1] := b0_1
  obtain rfl : x0_1 = .int .i64 a0_1 := by simpa using b0_1
  obtain ⟨a0_2, b0_2, hw0_2⟩ := (opens_int Try.underlying3) enc W 0 (fun _ => true) true _ _ _ e0_2
  have b0_2 : [x0_2] = [.int .i64 a0_2] := b0_2
  obtain rfl : x0_2 = .int .i64 a0_2 := by simpa using b0_2
  obtain ⟨a0_3, b0_3, hw0_3⟩ := (opens_int Try.underlying3) enc W 0 (fun _ => true) true _ _ _ e1_0
  have b0_3 : [x0_3] = [.int .i64 a0_3] := b0_3
  obtain rfl : x0_3 = .int .i64 a0_3 := by simpa using b0_3
  obtain ⟨l0_4, ⟨A0_4, c0_4, b0_4, hc0_4, hr0_4⟩, hw0_4⟩ := (opens_slice Try.underlying22 (by kernel_rfl) (opens_int Try.underlying3)) enc W 0 (fun _ => true) true _ _ _ e1_1
  obtain rfl : x0_4 = .slice A0_4 l0_4.length c0_4 := by simpa using b0_4
  obtain ⟨a0_5, b0_5, hw0_5⟩ := (opens_int Try.underlying3) enc W 0 (fun _ => true) true _ _ _ e2_0
  have b0_5 : [x0_5] = [.int .i64 a0_5] := b0_5
  obtain rfl : x0_5 = .int .i64 a0_5 := by simpa using b0_5
  obtain ⟨l0_6, ⟨A0_6, c0_6, b0_6, hc0_6, hr0_6⟩, hw0_6⟩ := (opens_slice Try.underlying22 (by kernel_rfl) (opens_int Try.underlying3)) enc W 0 (fun _ => true) true _ _ _ e2_1
  obtain rfl : x0_6 = .slice A0_6 l0_6.length c0_6 := by simpa using b0_6
  obtain ⟨a1, rfl, rfl, rfl, hw1⟩ := open_int Try.underlying3 (hval 1 3 v1 rfl rfl) h1
  obtain ⟨a2, rfl, rfl, rfl, hw2⟩ := open_int Try.underlying3 (hval 2 3 v2 rfl rfl) h2
  clear hA0 hval0 hsz0 hsz
  refine (X.laws_FnExactSliceSparse.walk Pure.FnExactSliceSparse a0_0 a0_1 a0_2 a0_3 A0_4 c0_4 l0_4 a0_5 A0_6 c0_6 l0_6 a1 a2 W hr0_4 hc0_4 hr0_6 hc0_6 hw0_0 hw0_1 hw0_2 hw0_3 hw0_4 hw0_5 hw0_6 hw1 hw2).mono fun e W' ⟨he, bel⟩ => ?_
  subst he
  exact ⟨_, rfl, _, _, _, [], _, [], hW', trodAll_mk1 (shut_bool Try.underlying4 _), (trodAll_cons_mk (Below.trod laidOut (by kernel_rfl) (of_decide_eq_true (by kernel_rfl)) k0 bel lt0) (trodAll_cons_mk (shut_int Try.underlying3 hw1) (trodAll_cons_mk (shut_int Try.underlying3 hw2) trodAll_mk0))), rfl, bel.frame _, fun h => by cases h⟩
theorem over : Rows.fnExactSliceSparseRow.holds Try.pinned (OpenSpec.ofChange Rows.fnExactSliceSparseSpec) :=
  OpenClaim.holds_of_wide 12 Try.f12 rfl rfl rfl rfl rfl rfl rfl ⟨rfl, rfl, rfl, rfl, rfl⟩ rfl rfl rfl rfl rfl (by kernel_rfl) Try.func12 (by kernel_rfl)
    (of_decide_eq_true (by kernel_rfl)) (by unfold Func.isWrapper; first | (rw [if_pos (by decide +kernel)]; kernel_rfl) | (rw [if_neg (by decide +kernel)]; exact ⟨rfl, rfl⟩))
    (fun os started H enc _ => lifted os started H enc)
theorem proved : Rows.FnExactSliceSparseSaid := over
#print axioms proved
end Go.Proofs.Ytdlbdocpofnfjaa.fnExactSliceSparse
namespace Go.Proofs.Ytdlbdocpofnfjaa
theorem fnExactSliceSparse_holds : Rows.FnExactSliceSparseSaid := fnExactSliceSparse.proved
end Go.Proofs.Ytdlbdocpofnfjaa
