import Derived.Test.YtcjaihndhplclaaRows
import Derived.Test.YtcjaihndhplclaaP4
import Derived.Test.YtcjaihndhplclaaQ1
import Derived.Test.YtcjaihndhplclaaVH
/- The statement FnExactFewestRepairs holds. No condition. -/
set_option linter.unusedVariables false
set_option linter.unusedSimpArgs false
namespace Go.Proofs.Ytcjaihndhplclaa.KFewestRepairs
open Go.ChangeShapes Go.WideShapes Go.ChangeAt Go.RowKit
open Go.ChangeMaps (open_string shut_string)
open Go.V
set_option maxRecDepth 100000 in
theorem lifted (os : Os) (started : os.Started) (H : Type) (enc : TypeId × Value → H) :
    ReturnsInHanded {} Try.checked os 4 .any (Rows.fnExactFewestRepairsSpec.pre6 enc Try.prog Try.f4 Rows.fnExactFewestRepairsRow.domain false) (Rows.fnExactFewestRepairsSpec.post enc Try.prog Try.f4 false true false false) := by
  refine returnsInHanded_of_change_sized (C := Try.checked) own started (by kernel_rfl) Try.func4
    (ChangeSpec.witness6 (enc := enc) (C := Try.checked) false ⟨#[], #[ti26.zero, ti28.zero, .int .i64 0], []⟩ 8 (by kernel_rfl) (by kernel_rfl) (by kernel_rfl) (by kernel_rfl)) ?_
  intro W base args ds gs before hval0 hW hcnd hsz0 _
  have hsz : (DataW.weightsEach Try.prog (Try.f4.params.toList ++ Rows.fnExactFewestRepairsSpec.plain.varTypes Try.prog) (ds ++ gs)).all (· ≤ reachBytes) = true := hsz0
  have hval : ∀ (j : Nat) t v, Try.f4.params[j]? = some t → args[j]? = some v → Value.okWide Try.prog W .any base t v := hval0
  have hW' := hW
  obtain ⟨p, q, hA0, hV, rfl, hfz, hnd⟩ := hW
  have hA : DataW.TrodAll enc Try.prog W 0 (fun _ => true) true Try.f4.params.toList args.toList ds p := hA0
  rw [Try.params4] at hA hval hsz
  obtain ⟨v0, vs0, d0, ds0, p0, q0, hargs, rfl, rfl, h0, r0⟩ := trodAll_cons hA
  obtain ⟨v1, vs1, d1, ds1, p1, q1, rfl, rfl, rfl, h1, r1⟩ := trodAll_cons r0
  obtain ⟨v2, vs2, d2, ds2, p2, q2, rfl, rfl, rfl, h2, r2⟩ := trodAll_cons r1
  obtain ⟨rfl, rfl, rfl⟩ := trodAll_nil r2
  obtain rfl : args = #[v0, v1, v2] := by cases args; simp_all
  obtain ⟨rfl, rfl⟩ := trodVars_none hV
  obtain ⟨cs0, rfl, l0, c0⟩ := open_cells tOk (n := 6) (t := 26) (i := ti26) (ks := IntKind.i8 :: IntKind.i8 :: IntKind.u8 :: List.replicate 64 IntKind.u8) rfl rfl (by kernel_rfl) rfl (hval 0 26 v0 rfl rfl) h0
  obtain ⟨a0, w0, rfl⟩ := roof_of l0 c0
  have lt0 : ∀ x ∈ p0, x.block < W.heap.size := by obtain ⟨m, hm⟩ := h0; exact DataW.trod_lt m _ _ _ hm
  obtain ⟨cs1, rfl, l1, c1⟩ := open_cells tOk (n := 6) (t := 28) (i := ti28) (ks := List.replicate 17 IntKind.i16) rfl rfl (by kernel_rfl) rfl (hval 1 28 v1 rfl rfl) h1
  obtain ⟨a1, w1, rfl⟩ := rai_of l1 c1
  have lt1 : ∀ x ∈ p1, x.block < W.heap.size := by obtain ⟨m, hm⟩ := h1; exact DataW.trod_lt m _ _ _ hm
  obtain ⟨a2, rfl, rfl, rfl, w2⟩ := open_int Try.underlying2 (hval 2 2 v2 rfl rfl) h2
  clear hA0 hval0 hsz0 hsz
  refine ((fnExactFewestRepairs_sat a0 w0 a1 w1 a2 (bounds_i64 w2)).walk (w := W) (vs := [.agg ⟨roofC a0⟩, .agg ⟨raiC a1⟩, .int .i64 a2]) (globOk W) ⟨_, _, rfl, rep_v (flat_roof a0), ⟨_, _, rfl, rep_v (flat_rai a1), ⟨_, _, rfl, rep_v rfl, rfl⟩⟩⟩).mono fun e W' ⟨he, bel⟩ => ?_
  subst he
  exact ⟨_, rfl, _, _, _, [], _, [], hW', trodAll_mk1 (shut_bool Try.underlying4 _), (trodAll_cons_mk (Below.trod laidOut (by kernel_rfl) (of_decide_eq_true (by kernel_rfl)) h0 bel lt0) (trodAll_cons_mk (Below.trod laidOut (by kernel_rfl) (of_decide_eq_true (by kernel_rfl)) h1 bel lt1) (trodAll_cons_mk (shut_int Try.underlying2 w2) trodAll_mk0))), rfl, bel.frame _, fun h => by cases h⟩
theorem facts : joinedFacts Try.prog 4 Try.f4 Rows.fnExactFewestRepairsSpec Rows.fnExactFewestRepairsRow = true := by
  unfold joinedFacts; rw [mayEnter_ok, lifts_ok, make_ok]; kernel_rfl
theorem over : Rows.fnExactFewestRepairsRow.holds Try.pinned (OpenSpec.ofChange Rows.fnExactFewestRepairsSpec) :=
  OpenClaim.holds_of_wide 4 Try.f4 rfl rfl rfl rfl rfl rfl rfl ⟨rfl, rfl, rfl, rfl, rfl⟩ rfl rfl rfl rfl rfl (by kernel_rfl) Try.func4 facts
    (of_decide_eq_true (by kernel_rfl)) (by unfold Func.isWrapper; first | (rw [if_pos (by decide +kernel)]; kernel_rfl) | (rw [if_neg (by decide +kernel)]; exact ⟨rfl, rfl⟩))
    (fun os started H enc _ => lifted os started H enc)
end Go.Proofs.Ytcjaihndhplclaa.KFewestRepairs
namespace Go.Proofs.Ytcjaihndhplclaa
/-- The row, under a short name, for the claim. -/
theorem fewestRepairs_holds : Rows.FnExactFewestRepairsSaid := KFewestRepairs.over
end Go.Proofs.Ytcjaihndhplclaa
