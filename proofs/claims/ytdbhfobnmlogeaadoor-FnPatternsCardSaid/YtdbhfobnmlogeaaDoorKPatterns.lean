import Derived.Test.YtdbhfobnmlogeaaDoorRows
import Derived.Test.YtdbhfobnmlogeaaDoorP5
import Derived.Test.YtdbhfobnmlogeaaDoorQ1
import Derived.Test.YtdbhfobnmlogeaaDoorVH
import Derived.Test.YtdbhfobnmlogeaaDoorTie
import Derived.Test.YtdbhfobnmlogeaaDoorCards
/- The statement FnPatterns holds. No condition. -/
set_option linter.unusedVariables false
set_option linter.unusedSimpArgs false
namespace Go.Proofs.YtdbhfobnmlogeaaDoor.KPatterns
open Go.ChangeShapes Go.WideShapes Go.ChangeAt Go.RowKit
open Go.ChangeMaps (open_string shut_string)
open Go.V
theorem laid_ok {W : World} (h : laidMetH Tryd.prog Rows.fnPatternsRow.laid W) : laidMet Tryd.prog Rows.fnPatternsRow.laid W := by
  rw [MakeChecks.laidMetH_plain _ _ _ (by kernel_rfl)] at h; exact h
theorem globOk_of {W : World} (hL : laidMet Tryd.prog Rows.fnPatternsRow.laid W) (hsh : W.ShapedOpen Tryd.prog) : GlobOk W noLoc := by
  refine ⟨fun g xs hg => ?_, fun g Q hg => ?_⟩
  · have hg' : globTab g = some xs := hg
    unfold globTab at hg'
    cases hg'
  · have hg' : globAny g = some Q := hg
    unfold globAny at hg'
    split at hg'
    · cases hg'
      obtain ⟨m, hm⟩ := cells_of_shape (g := 0) (t := 3) (zero := #[.int .i64 0]) (k := .i64) hsh (of_decide_eq_true (by kernel_rfl)) (by kernel_rfl) rfl (by kernel_rfl) (by kernel_rfl) Tryd.underlying3
      exact ⟨_, ⟨m, rfl⟩, hm, fun id n => by simp [noLoc]⟩
    · cases hg'
set_option maxRecDepth 100000 in
theorem lifted (os : Os) (started : os.Started) (H : Type) (enc : TypeId × Value → H) :
    ReturnsInHanded {} Tryd.checked os 10 .any (fun w args => (Rows.fnPatternsSpec.pre enc Tryd.prog Tryd.f10 Rows.fnPatternsRow.domain false w args ∧ laidMetH Tryd.prog Rows.fnPatternsRow.laid w) ∧ sizedMet enc Tryd.prog Tryd.f10 (OpenSpec.ofChange Rows.fnPatternsSpec) false w args) (Rows.fnPatternsSpec.post enc Tryd.prog Tryd.f10 false true false false) := by
  refine returns_and_shaped (C := Tryd.checked) (X := fun w _ => laidMetH Tryd.prog Rows.fnPatternsRow.laid w) (fun _ _ _ hh h => h.of_heap hh) own started (by kernel_rfl) Tryd.func10
    (ChangeSpec.witness_shaped (enc := enc) (C := Tryd.checked) (os := os) (X := fun w _ => laidMetH Tryd.prog Rows.fnPatternsRow.laid w) false (World.laidAll Tryd.prog os Rows.fnPatternsRow.laid) #[.slice none 0 0, .slice none 0 0] 8 (World.laidAll_os _ _ _)
      (World.shaped_of_ZipB (by kernel_rfl) (by kernel_rfl)) (by kernel_rfl) (by kernel_rfl) (by kernel_rfl)
      (by rw [MakeChecks.laidMetH_plain _ _ _ (by kernel_rfl)]; exact laidMet_laidAll _ (by kernel_rfl) (by kernel_rfl))) ?_
  intro W base args ds gs before hval0 hW hcnd hsz0 hL hsh _
  have hsz : (DataW.weightsEach Tryd.prog (Tryd.f10.params.toList ++ Rows.fnPatternsSpec.plain.varTypes Tryd.prog) (ds ++ gs)).all (· ≤ reachBytes) = true := hsz0
  have hval : ∀ (j : Nat) t v, Tryd.f10.params[j]? = some t → args[j]? = some v → Value.okWide Tryd.prog W .any base t v := hval0
  have hW' := hW
  obtain ⟨p, q, hA0, hV, rfl, hfz, hnd⟩ := hW
  have hA : DataW.TrodAll enc Tryd.prog W 0 (fun _ => true) true Tryd.f10.params.toList args.toList ds p := hA0
  rw [Tryd.params10] at hA hval hsz
  obtain ⟨v0, vs0, d0, ds0, p0, q0, hargs, rfl, rfl, h0, r0⟩ := trodAll_cons hA
  obtain ⟨v1, vs1, d1, ds1, p1, q1, rfl, rfl, rfl, h1, r1⟩ := trodAll_cons r0
  obtain ⟨rfl, rfl, rfl⟩ := trodAll_nil r1
  obtain rfl : args = #[v0, v1] := by cases args; simp_all
  obtain ⟨rfl, rfl⟩ := trodVars_none hV
  obtain ⟨a0, w0, rep0⟩ := ints_of Tryd.underlying69 Tryd.underlying5 (by kernel_rfl) (hval 0 69 v0 rfl rfl) h0
  have lt0 : ∀ x ∈ p0, x.block < W.heap.size := by obtain ⟨m, hm⟩ := h0; exact DataW.trod_lt m _ _ _ hm
  obtain ⟨a1, w1, rep1⟩ := ints_of Tryd.underlying69 Tryd.underlying5 (by kernel_rfl) (hval 1 69 v1 rfl rfl) h1
  have lt1 : ∀ x ∈ p1, x.block < W.heap.size := by obtain ⟨m, hm⟩ := h1; exact DataW.trod_lt m _ _ _ hm
  clear hA0 hval0 hsz0 hsz
  refine ((fnPatterns_sat a0 (bytes_wf w0) a1 (bytes_wf w1)).walk (w := W) (vs := [v0, v1]) (globOk_of (laid_ok hL) hsh) ⟨_, _, rfl, bytes_rep rep0 _, ⟨_, _, rfl, bytes_rep rep1 _, rfl⟩⟩).mono fun e W' ⟨he, bel⟩ => ?_
  subst he
  exact ⟨_, rfl, _, _, _, [], _, [], hW', trodAll_mk1 (shut_bool Tryd.underlying4 _), (trodAll_cons_mk (Below.trod laidOut (by kernel_rfl) (of_decide_eq_true (by kernel_rfl)) h0 bel lt0) (trodAll_cons_mk (Below.trod laidOut (by kernel_rfl) (of_decide_eq_true (by kernel_rfl)) h1 bel lt1) trodAll_mk0)), rfl, bel.frame _, fun h => by cases h⟩
theorem facts : joinedFacts Tryd.prog 10 Tryd.f10 Rows.fnPatternsSpec Rows.fnPatternsRow = true := by
  unfold joinedFacts; rw [mayEnter_ok, lifts_ok, make_ok]; kernel_rfl
theorem over : Rows.fnPatternsRow.holds Tryd.pinned (OpenSpec.ofChange Rows.fnPatternsSpec) :=
  OpenClaim.holds_of_wide 10 Tryd.f10 rfl rfl rfl rfl rfl rfl rfl ⟨rfl, rfl, rfl, rfl, rfl⟩ rfl rfl rfl rfl rfl (by kernel_rfl) Tryd.func10 facts
    (of_decide_eq_true (by kernel_rfl)) (by unfold Func.isWrapper; first | (rw [if_pos (by decide +kernel)]; kernel_rfl) | (rw [if_neg (by decide +kernel)]; exact ⟨rfl, rfl⟩))
    (fun os started H enc _ => lifted os started H enc)
end Go.Proofs.YtdbhfobnmlogeaaDoor.KPatterns
namespace Go.Proofs.YtdbhfobnmlogeaaDoor
/-- The row, under a short name, for the claim. -/
theorem patterns_holds : Rows.FnPatternsCardSaid :=
  Claim7.holds_tied_plain_at .later [] [.data, .pinned] true (true, "5bbe10ea3b9883b30bfcdbe4e9f41651508123a1eb2eeb5811d7d5235778f619") true KPatterns.over (fun _ h => by cases h) (by kernel_rfl) (fun _ h => by cases h) fnPatterns_row_tie rfl ⟨rfl, rfl⟩ (by kernel_rfl) rfl
    (fun f fn hf hfn => by
      obtain rfl : f = 10 := Option.some.inj ((show Tryd.prog.funcNamed Rows.fnPatternsRow.func = some 10 by kernel_rfl).symm.trans hf) |>.symm
      obtain rfl : fn = Tryd.f10 := (Option.some.inj (Tryd.func10.symm.trans hfn)).symm
      exact ⟨by kernel_rfl, fun j t ht => by
        rw [Tryd.params10] at ht
        have hm : t ∈ [69, 69] := by simpa using Array.mem_of_getElem? ht
        have hall : ([69, 69].all fun u => !Tryd.prog.wantsStandIn u) = true := by kernel_rfl
        exact (show Tryd.prog.wantsStandIn t = false by simpa using List.all_eq_true.1 hall t hm)⟩)
    (by kernel_rfl)
end Go.Proofs.YtdbhfobnmlogeaaDoor
