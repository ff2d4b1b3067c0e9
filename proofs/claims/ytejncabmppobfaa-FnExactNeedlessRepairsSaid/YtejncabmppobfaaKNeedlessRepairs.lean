import Derived.Test.YtejncabmppobfaaRows
import Derived.Test.YtejncabmppobfaaP4
import Derived.Test.YtejncabmppobfaaQ1
import Derived.Test.YtejncabmppobfaaVH
/- The statement FnExactNeedlessRepairs holds. No condition. -/
set_option linter.unusedVariables false
set_option linter.unusedSimpArgs false
namespace Go.Proofs.Ytejncabmppobfaa.KNeedlessRepairs
open Go.ChangeShapes Go.WideShapes Go.ChangeAt Go.RowKit
open Go.ChangeMaps (open_string shut_string)
open Go.V
set_option maxRecDepth 100000 in
theorem lifted (os : Os) (started : os.Started) (H : Type) (enc : TypeId × Value → H) :
    ReturnsInHanded {} Try.checked os 3 .any (Rows.fnExactNeedlessRepairsSpec.pre6 enc Try.prog Try.f3 Rows.fnExactNeedlessRepairsRow.domain false) (Rows.fnExactNeedlessRepairsSpec.post enc Try.prog Try.f3 false true false false) := by
  refine returnsInHanded_of_change_sized (C := Try.checked) own started (by kernel_rfl) Try.func3
    (ChangeSpec.witness6 (enc := enc) (C := Try.checked) false ⟨#[], #[ti26.zero, ti28.zero, .slice none 0 0, .int .i64 0], []⟩ 8 (by kernel_rfl) (by kernel_rfl) (by kernel_rfl) (by kernel_rfl)) ?_
  intro W base args ds gs before hval0 hW hcnd hsz0 _
  have hsz : (DataW.weightsEach Try.prog (Try.f3.params.toList ++ Rows.fnExactNeedlessRepairsSpec.plain.varTypes Try.prog) (ds ++ gs)).all (· ≤ reachBytes) = true := hsz0
  have hval : ∀ (j : Nat) t v, Try.f3.params[j]? = some t → args[j]? = some v → Value.okWide Try.prog W .any base t v := hval0
  have hW' := hW
  obtain ⟨p, q, hA0, hV, rfl, hfz, hnd⟩ := hW
  have hA : DataW.TrodAll enc Try.prog W 0 (fun _ => true) true Try.f3.params.toList args.toList ds p := hA0
  rw [Try.params3] at hA hval hsz
  obtain ⟨v0, vs0, d0, ds0, p0, q0, hargs, rfl, rfl, h0, r0⟩ := trodAll_cons hA
  obtain ⟨v1, vs1, d1, ds1, p1, q1, rfl, rfl, rfl, h1, r1⟩ := trodAll_cons r0
  obtain ⟨v2, vs2, d2, ds2, p2, q2, rfl, rfl, rfl, h2, r2⟩ := trodAll_cons r1
  obtain ⟨v3, vs3, d3, ds3, p3, q3, rfl, rfl, rfl, h3, r3⟩ := trodAll_cons r2
  obtain ⟨rfl, rfl, rfl⟩ := trodAll_nil r3
  obtain rfl : args = #[v0, v1, v2, v3] := by cases args; simp_all
  obtain ⟨rfl, rfl⟩ := trodVars_none hV
  obtain ⟨cs0, rfl, l0, c0⟩ := open_cells tOk (n := 6) (t := 26) (i := ti26) (ks := IntKind.i8 :: IntKind.i8 :: IntKind.u8 :: List.replicate 64 IntKind.u8) rfl rfl (by kernel_rfl) rfl (hval 0 26 v0 rfl rfl) h0
  obtain ⟨a0, w0, rfl⟩ := roof_of l0 c0
  have lt0 : ∀ x ∈ p0, x.block < W.heap.size := by obtain ⟨m, hm⟩ := h0; exact DataW.trod_lt m _ _ _ hm
  obtain ⟨cs1, rfl, l1, c1⟩ := open_cells tOk (n := 6) (t := 28) (i := ti28) (ks := List.replicate 17 IntKind.i16) rfl rfl (by kernel_rfl) rfl (hval 1 28 v1 rfl rfl) h1
  obtain ⟨a1, w1, rfl⟩ := rai_of l1 c1
  have lt1 : ∀ x ∈ p1, x.block < W.heap.size := by obtain ⟨m, hm⟩ := h1; exact DataW.trod_lt m _ _ _ hm
  obtain ⟨a2, w2, rep2⟩ := places_of tOk (t := 29) Try.underlying29 (e := 53) (by kernel_rfl) (by kernel_rfl) (hval 2 29 v2 rfl rfl) h2
  have lt2 : ∀ x ∈ p2, x.block < W.heap.size := by obtain ⟨m, hm⟩ := h2; exact DataW.trod_lt m _ _ _ hm
  obtain ⟨a3, rfl, rfl, rfl, w3⟩ := open_int Try.underlying2 (hval 3 2 v3 rfl rfl) h3
  clear hA0 hval0 hsz0 hsz
  refine ((fnExactNeedlessRepairs_sat a0 w0 a1 w1 a2 w2 a3 (bounds_i64 w3)).walk (w := W) (vs := [.agg ⟨roofC a0⟩, .agg ⟨raiC a1⟩, v2, .int .i64 a3]) (globOk W) ⟨_, _, rfl, rep_v (flat_roof a0), ⟨_, _, rfl, rep_v (flat_rai a1), ⟨_, _, rfl, rep2 _, ⟨_, _, rfl, rep_v rfl, rfl⟩⟩⟩⟩).mono fun e W' ⟨he, bel⟩ => ?_
  subst he
  exact ⟨_, rfl, _, _, _, [], _, [], hW', trodAll_mk1 (shut_bool Try.underlying4 _), (trodAll_cons_mk (Below.trod laidOut (by kernel_rfl) (of_decide_eq_true (by kernel_rfl)) h0 bel lt0) (trodAll_cons_mk (Below.trod laidOut (by kernel_rfl) (of_decide_eq_true (by kernel_rfl)) h1 bel lt1) (trodAll_cons_mk (Below.trod laidOut (by kernel_rfl) (of_decide_eq_true (by kernel_rfl)) h2 bel lt2) (trodAll_cons_mk (shut_int Try.underlying2 w3) trodAll_mk0)))), rfl, bel.frame _, fun h => by cases h⟩
theorem facts : joinedFacts Try.prog 3 Try.f3 Rows.fnExactNeedlessRepairsSpec Rows.fnExactNeedlessRepairsRow = true := by
  unfold joinedFacts; rw [mayEnter_ok, lifts_ok, make_ok]; kernel_rfl
theorem over : Rows.fnExactNeedlessRepairsRow.holds Try.pinned (OpenSpec.ofChange Rows.fnExactNeedlessRepairsSpec) :=
  OpenClaim.holds_of_wide 3 Try.f3 rfl rfl rfl rfl rfl rfl rfl ⟨rfl, rfl, rfl, rfl, rfl⟩ rfl rfl rfl rfl rfl (by kernel_rfl) Try.func3 facts
    (of_decide_eq_true (by kernel_rfl)) (by unfold Func.isWrapper; first | (rw [if_pos (by decide +kernel)]; kernel_rfl) | (rw [if_neg (by decide +kernel)]; exact ⟨rfl, rfl⟩))
    (fun os started H enc _ => lifted os started H enc)
end Go.Proofs.Ytejncabmppobfaa.KNeedlessRepairs
namespace Go.Proofs.Ytejncabmppobfaa
/-- The row, under a short name, for the claim. -/
theorem needlessRepairs_holds : Rows.FnExactNeedlessRepairsSaid := KNeedlessRepairs.over
end Go.Proofs.Ytejncabmppobfaa
