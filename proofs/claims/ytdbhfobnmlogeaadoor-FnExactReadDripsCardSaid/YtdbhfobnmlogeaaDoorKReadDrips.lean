import Derived.Test.YtdbhfobnmlogeaaDoorRows
import Derived.Test.YtdbhfobnmlogeaaDoorP3
import Derived.Test.YtdbhfobnmlogeaaDoorQ1
import Derived.Test.YtdbhfobnmlogeaaDoorVH
import Derived.Test.YtdbhfobnmlogeaaDoorTie
import Derived.Test.YtdbhfobnmlogeaaDoorCards
/- The statement FnExactReadDrips holds. No condition. -/
set_option linter.unusedVariables false
set_option linter.unusedSimpArgs false
namespace Go.Proofs.YtdbhfobnmlogeaaDoor.KReadDrips
open Go.ChangeShapes Go.WideShapes Go.ChangeAt Go.RowKit
open Go.ChangeMaps (open_string shut_string)
open Go.V
theorem laid_ok {W : World} (h : laidMetH Tryd.prog Rows.fnExactReadDripsRow.laid W) : laidMet Tryd.prog Rows.fnExactReadDripsRow.laid W := by
  rw [MakeChecks.laidMetH_plain _ _ _ (by kernel_rfl)] at h; exact h
theorem globOk_of {W : World} (hL : laidMet Tryd.prog Rows.fnExactReadDripsRow.laid W) (hsh : W.ShapedOpen Tryd.prog) : GlobOk W noLoc := by
  refine ⟨fun g xs hg => ?_, fun g Q hg => ?_⟩
  · have hg' : globTab g = some xs := hg
    unfold globTab at hg'
    split at hg'
    · cases hg'
      exact ⟨cells_of_tab (g := 1) (by kernel_rfl) (Lib.tabIs_of_head (k := .u64) (zs := [1, 10, 100, 1000, 10000, 100000, 1000000, 10000000, 100000000, 1000000000, 10000000000, 100000000000, 1000000000000, 10000000000000, 100000000000000, 1000000000000000, 10000000000000000, 100000000000000000, 1000000000000000000, 10000000000000000000]) (g := 1) (t := 225) (e := 188) (n := 20) (by kernel_rfl) (by kernel_rfl) Tryd.underlying225 Tryd.underlying188 (by kernel_rfl) (by kernel_rfl) hL.tail.tail), fun id n => by simp [noLoc]⟩
    · cases hg'
  · have hg' : globAny g = some Q := hg
    unfold globAny at hg'
    split at hg'
    · cases hg'
      obtain ⟨m, hm⟩ := cells_of_shape (g := 0) (t := 3) (zero := #[.int .i64 0]) (k := .i64) hsh (of_decide_eq_true (by kernel_rfl)) (by kernel_rfl) rfl (by kernel_rfl) (by kernel_rfl) Tryd.underlying3
      exact ⟨_, ⟨m, rfl⟩, hm, fun id n => by simp [noLoc]⟩
    · cases hg'
      obtain ⟨t, p, hp⟩ := cells_of_iface (g := 2) (ti := 174) hL.tail.tail.tail.tail.tail (by kernel_rfl) (by kernel_rfl) Tryd.underlying174
      exact ⟨_, ⟨t, p, rfl⟩, hp, fun id n => by simp [noLoc]⟩
    · cases hg'
      obtain ⟨t, p, hp⟩ := cells_of_iface (g := 3) (ti := 174) hL.tail.tail.tail.tail (by kernel_rfl) (by kernel_rfl) Tryd.underlying174
      exact ⟨_, ⟨t, p, rfl⟩, hp, fun id n => by simp [noLoc]⟩
    · cases hg'
set_option maxRecDepth 100000 in
theorem lifted (os : Os) (started : os.Started) (H : Type) (enc : TypeId × Value → H) :
    ReturnsInHanded {} Tryd.checked os 9 .any (fun w args => (Rows.fnExactReadDripsSpec.pre enc Tryd.prog Tryd.f9 Rows.fnExactReadDripsRow.domain false w args ∧ laidMetH Tryd.prog Rows.fnExactReadDripsRow.laid w) ∧ sizedMet enc Tryd.prog Tryd.f9 (OpenSpec.ofChange Rows.fnExactReadDripsSpec) false w args) (Rows.fnExactReadDripsSpec.post enc Tryd.prog Tryd.f9 false true false false) := by
  refine returns_and_shaped (C := Tryd.checked) (X := fun w _ => laidMetH Tryd.prog Rows.fnExactReadDripsRow.laid w) (fun _ _ _ hh h => h.of_heap hh) own started (by kernel_rfl) Tryd.func9
    (ChangeSpec.witness_shaped (enc := enc) (C := Tryd.checked) (os := os) (X := fun w _ => laidMetH Tryd.prog Rows.fnExactReadDripsRow.laid w) false (World.laidAll Tryd.prog os Rows.fnExactReadDripsRow.laid) #[ti26.zero, .string ByteArray.empty] 8 (World.laidAll_os _ _ _)
      (World.shaped_of_ZipB (by kernel_rfl) (by kernel_rfl)) (by kernel_rfl) (by kernel_rfl) (by kernel_rfl)
      (by rw [MakeChecks.laidMetH_plain _ _ _ (by kernel_rfl)]; exact laidMet_laidAll _ (by kernel_rfl) (by kernel_rfl))) ?_
  intro W base args ds gs before hval0 hW hcnd hsz0 hL hsh _
  have hsz : (DataW.weightsEach Tryd.prog (Tryd.f9.params.toList ++ Rows.fnExactReadDripsSpec.plain.varTypes Tryd.prog) (ds ++ gs)).all (· ≤ reachBytes) = true := hsz0
  have hval : ∀ (j : Nat) t v, Tryd.f9.params[j]? = some t → args[j]? = some v → Value.okWide Tryd.prog W .any base t v := hval0
  have hW' := hW
  obtain ⟨p, q, hA0, hV, rfl, hfz, hnd⟩ := hW
  have hA : DataW.TrodAll enc Tryd.prog W 0 (fun _ => true) true Tryd.f9.params.toList args.toList ds p := hA0
  rw [Tryd.params9] at hA hval hsz
  obtain ⟨v0, vs0, d0, ds0, p0, q0, hargs, rfl, rfl, h0, r0⟩ := trodAll_cons hA
  obtain ⟨v1, vs1, d1, ds1, p1, q1, rfl, rfl, rfl, h1, r1⟩ := trodAll_cons r0
  obtain ⟨rfl, rfl, rfl⟩ := trodAll_nil r1
  obtain rfl : args = #[v0, v1] := by cases args; simp_all
  obtain ⟨rfl, rfl⟩ := trodVars_none hV
  obtain ⟨cs0, rfl, l0, c0⟩ := open_cells tOk (n := 6) (t := 26) (i := ti26) (ks := IntKind.i8 :: IntKind.i8 :: IntKind.u8 :: List.replicate 64 IntKind.u8) rfl rfl (by kernel_rfl) rfl (hval 0 26 v0 rfl rfl) h0
  obtain ⟨a0, w0, rfl⟩ := roof_of l0 c0
  have lt0 : ∀ x ∈ p0, x.block < W.heap.size := by obtain ⟨m, hm⟩ := h0; exact DataW.trod_lt m _ _ _ hm
  obtain ⟨a1, rfl, rfl, rfl, y1⟩ := open_string Tryd.underlying9 (hval 1 9 v1 rfl rfl) h1
  clear hA0 hval0 hsz0 hsz
  refine ((fnExactReadDrips_sat a0 w0 a1).walk (w := W) (vs := [.agg ⟨roofC a0⟩, .string a1]) (globOk_of (laid_ok hL) hsh) ⟨_, _, rfl, rep_v (flat_roof a0), ⟨_, _, rfl, rep_v rfl, rfl⟩⟩).mono fun e W' ⟨he, bel⟩ => ?_
  subst he
  exact ⟨_, rfl, _, _, _, [], _, [], hW', trodAll_mk1 (shut_bool Tryd.underlying4 _), (trodAll_cons_mk (Below.trod laidOut (by kernel_rfl) (of_decide_eq_true (by kernel_rfl)) h0 bel lt0) (trodAll_cons_mk (shut_string Tryd.underlying9 y1) trodAll_mk0)), rfl, bel.frame _, fun h => by cases h⟩
theorem facts : joinedFacts Tryd.prog 9 Tryd.f9 Rows.fnExactReadDripsSpec Rows.fnExactReadDripsRow = true := by
  unfold joinedFacts; rw [mayEnter_ok, lifts_ok, make_ok]; kernel_rfl
theorem over : Rows.fnExactReadDripsRow.holds Tryd.pinned (OpenSpec.ofChange Rows.fnExactReadDripsSpec) :=
  OpenClaim.holds_of_wide 9 Tryd.f9 rfl rfl rfl rfl rfl rfl rfl ⟨rfl, rfl, rfl, rfl, rfl⟩ rfl rfl rfl rfl rfl (by kernel_rfl) Tryd.func9 facts
    (of_decide_eq_true (by kernel_rfl)) (by unfold Func.isWrapper; first | (rw [if_pos (by decide +kernel)]; kernel_rfl) | (rw [if_neg (by decide +kernel)]; exact ⟨rfl, rfl⟩))
    (fun os started H enc _ => lifted os started H enc)
end Go.Proofs.YtdbhfobnmlogeaaDoor.KReadDrips
namespace Go.Proofs.YtdbhfobnmlogeaaDoor
/-- The row, under a short name, for the claim. -/
theorem readDrips_holds : Rows.FnExactReadDripsCardSaid :=
  Claim7.holds_tied_plain_at .later [] [.data, .data, .data, .data, .sentinel, .sentinel, .pinned] true (true, "5bbe10ea3b9883b30bfcdbe4e9f41651508123a1eb2eeb5811d7d5235778f619") true KReadDrips.over (fun _ h => by cases h) (by kernel_rfl) (fun _ h => by cases h) fnExactReadDrips_row_tie rfl ⟨rfl, rfl⟩ (by kernel_rfl) rfl
    (fun f fn hf hfn => by
      obtain rfl : f = 9 := Option.some.inj ((show Tryd.prog.funcNamed Rows.fnExactReadDripsRow.func = some 9 by kernel_rfl).symm.trans hf) |>.symm
      obtain rfl : fn = Tryd.f9 := (Option.some.inj (Tryd.func9.symm.trans hfn)).symm
      exact ⟨by kernel_rfl, fun j t ht => by
        rw [Tryd.params9] at ht
        have hm : t ∈ [26, 9] := by simpa using Array.mem_of_getElem? ht
        have hall : ([26, 9].all fun u => !Tryd.prog.wantsStandIn u) = true := by kernel_rfl
        exact (show Tryd.prog.wantsStandIn t = false by simpa using List.all_eq_true.1 hall t hm)⟩)
    (by kernel_rfl)
end Go.Proofs.YtdbhfobnmlogeaaDoor
