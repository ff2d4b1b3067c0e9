import Derived.Test.YtndlknhakdadjaaP1
/- Contracts: rain that runs down a roof, both sides. -/
set_option linter.unusedVariables false
set_option linter.unusedSimpArgs false
namespace Go.V
theorem congrArg2 {α β γ : Type} (f : α → β → γ) {a a' : α} {b b' : β} (h : a = a') (h' : b = b') : f a b = f a' b' := by rw [h, h']
theorem two136 {x y : List Value} (hx : x.length = 136) (hy : y.length = 136) : y = List.take 136 (List.drop 0 (splice x 0 (List.take 136 (List.drop 0 y)))) := by
  rw [List.drop_zero, List.drop_zero, take_full (l := y) (by omega), splice_all (by omega), take_full (by omega)]
end Go.V
namespace Go.Proofs.Ytndlknhakdadjaa
open Go.V
section
variable (r : Roof) (hr : r.In) (hb : (1 ≤ r.w ∧ r.w ≤ 8) ∧ (1 ≤ r.h ∧ r.h ≤ 8) ∧ r.s ≤ 1)
include hr hb
theorem sh_eq {i : Nat} (hi : i ≤ 1000) : (IntKind.i64.wrap ((i : Int) + IntKind.i64.wrap r.s)).tmod 2 = ((shN r i : Nat) : Int) := by
  have hs := hr.s
  rw [w64 (n := r.s) (by omega) (by omega), w64 (by omega) (by omega)]
  unfold shN
  have : (i : Int) + r.s = ((i + r.s.toNat : Nat) : Int) := by omega
  rw [this]
  rfl
theorem l01By_sat (i : Nat) (hi : i ≤ 1000) : Sat Try.prog 213 [.ref false (roofD r) 0, .v (.int .i64 i)] (.v (.int .i64 (shN r i : Nat))) := by
  refine sat_of_wp hMix tOk Try.func213 rfl rfl Try.ntmps213 rfl rfl Try.results213 (by kernel_rfl) ?_
  conv => whnf
  repeat (first | (refine And.intro (by first | exact Nat.le_of_ble_eq_true rfl | exact mapOkP | exact rfl | decide | omega | (simp [splice]; done) | (constructor <;> omega) | (simp [splice]; omega)) ?_; conv => whnf) | (refine optK_of (raiA (by omega)) ?_; conv => whnf) | (refine optK_of (raiA' (by omega)) ?_; conv => whnf) | (refine optK_of (dripA (by omega) (by omega)) ?_; conv => whnf) | (refine optK_of (roofN (by omega) (by omega)) ?_; conv => whnf) | (refine optK_of (gridN (by omega) (by omega)) ?_; conv => whnf) | (refine optK_of (flowG) ?_; conv => whnf) | (refine optK_of (flowM) ?_; conv => whnf) | (refine optK_of (intA (by omega)) ?_; conv => whnf) | (refine optK_of (intA' (by omega)) ?_; conv => whnf))
  rw [sh_eq r hr hb hi]
  first | refine ⟨rfl, _, rfl, ?_⟩ | refine ⟨_, rfl, ?_⟩
  rfl
theorem shift_sat (i : Nat) (hi : i ≤ 1000) : Sat Try.prog 206 [roofD r, .v (.int .i64 i)] (.v (.int .i64 (shN r i : Nat))) := by
  refine sat_of_wp hMix tOk Try.func206 rfl rfl Try.ntmps206 rfl rfl Try.results206 (by kernel_rfl) ?_
  conv => whnf
  repeat (first | (refine And.intro (by first | exact Nat.le_of_ble_eq_true rfl | exact mapOkP | exact rfl | decide | omega | (simp [splice]; done) | (constructor <;> omega) | (simp [splice]; omega)) ?_; conv => whnf) | (refine optK_of (raiA (by omega)) ?_; conv => whnf) | (refine optK_of (raiA' (by omega)) ?_; conv => whnf) | (refine optK_of (dripA (by omega) (by omega)) ?_; conv => whnf) | (refine optK_of (roofN (by omega) (by omega)) ?_; conv => whnf) | (refine optK_of (gridN (by omega) (by omega)) ?_; conv => whnf) | (refine optK_of (flowG) ?_; conv => whnf) | (refine optK_of (flowM) ?_; conv => whnf) | (refine optK_of (intA (by omega)) ?_; conv => whnf) | (refine optK_of (intA' (by omega)) ?_; conv => whnf))
  rw [sh_eq r hr hb hi]
  first | refine ⟨rfl, _, rfl, ?_⟩ | refine ⟨_, rfl, ?_⟩
  rfl
theorem l01Cells_sat : Sat Try.prog 89 [.ref false (roofD r) 0] (.v (.int .i64 (2 * r.w + 1))) := by
  have hw := hr.w
  refine sat_of_wp hMix tOk Try.func89 rfl rfl Try.ntmps89 rfl rfl Try.results89 (by kernel_rfl) ?_
  conv => whnf
  repeat (first | (refine And.intro (by first | exact Nat.le_of_ble_eq_true rfl | exact mapOkP | exact rfl | decide | omega | (simp [splice]; done) | (constructor <;> omega) | (simp [splice]; omega)) ?_; conv => whnf) | (refine optK_of (raiA (by omega)) ?_; conv => whnf) | (refine optK_of (raiA' (by omega)) ?_; conv => whnf) | (refine optK_of (dripA (by omega) (by omega)) ?_; conv => whnf) | (refine optK_of (roofN (by omega) (by omega)) ?_; conv => whnf) | (refine optK_of (gridN (by omega) (by omega)) ?_; conv => whnf) | (refine optK_of (flowG) ?_; conv => whnf) | (refine optK_of (flowM) ?_; conv => whnf) | (refine optK_of (intA (by omega)) ?_; conv => whnf) | (refine optK_of (intA' (by omega)) ?_; conv => whnf))
  rw [show IntKind.i64.wrap r.w = r.w from w64 (by omega) (by omega), show IntKind.i64.wrap (2 * r.w) = 2 * r.w from w64 (by omega) (by omega), show IntKind.i64.wrap (2 * r.w + 1) = 2 * r.w + 1 from w64 (by omega) (by omega)]
  first | refine ⟨rfl, _, rfl, ?_⟩ | refine ⟨_, rfl, ?_⟩
  rfl
theorem cells_sat : Sat Try.prog 95 [roofD r] (.v (.int .i64 (2 * r.w + 1))) := by
  have hw := hr.w
  refine sat_of_wp hMix tOk Try.func95 rfl rfl Try.ntmps95 rfl rfl Try.results95 (by kernel_rfl) ?_
  conv => whnf
  repeat (first | (refine And.intro (by first | exact Nat.le_of_ble_eq_true rfl | exact mapOkP | exact rfl | decide | omega | (simp [splice]; done) | (constructor <;> omega) | (simp [splice]; omega)) ?_; conv => whnf) | (refine optK_of (raiA (by omega)) ?_; conv => whnf) | (refine optK_of (raiA' (by omega)) ?_; conv => whnf) | (refine optK_of (dripA (by omega) (by omega)) ?_; conv => whnf) | (refine optK_of (roofN (by omega) (by omega)) ?_; conv => whnf) | (refine optK_of (gridN (by omega) (by omega)) ?_; conv => whnf) | (refine optK_of (flowG) ?_; conv => whnf) | (refine optK_of (flowM) ?_; conv => whnf) | (refine optK_of (intA (by omega)) ?_; conv => whnf) | (refine optK_of (intA' (by omega)) ?_; conv => whnf))
  rw [show IntKind.i64.wrap r.w = r.w from w64 (by omega) (by omega), show IntKind.i64.wrap (2 * r.w) = 2 * r.w from w64 (by omega) (by omega), show IntKind.i64.wrap (2 * r.w + 1) = 2 * r.w + 1 from w64 (by omega) (by omega)]
  first | refine ⟨rfl, _, rfl, ?_⟩ | refine ⟨_, rfl, ?_⟩
  rfl
theorem l01Tile_sat (i c : Nat) (hi : i ≤ 1000) (hc : c < 17) : Sat Try.prog 211 [.ref false (roofD r) 0, .v (.int .i64 i), .v (.int .i64 c)] (.v (.int .i64 (tlI r i c))) := by
  have hw := hr.w
  have hsh : shN r i < 2 := Nat.mod_lt _ (by omega)
  have ew : IntKind.i64.wrap r.w = r.w := w64 (by omega) (by omega)
  refine sat_of_wp hMix tOk Try.func211 rfl rfl Try.ntmps211 rfl rfl Try.results211 (by kernel_rfl) ?_
  conv => whnf
  repeat (first | (refine And.intro (by first | exact Nat.le_of_ble_eq_true rfl | exact mapOkP | exact rfl | decide | omega | (simp [splice]; done) | (constructor <;> omega) | (simp [splice]; omega)) ?_; conv => whnf) | (refine optK_of (raiA (by omega)) ?_; conv => whnf) | (refine optK_of (raiA' (by omega)) ?_; conv => whnf) | (refine optK_of (dripA (by omega) (by omega)) ?_; conv => whnf) | (refine optK_of (roofN (by omega) (by omega)) ?_; conv => whnf) | (refine optK_of (gridN (by omega) (by omega)) ?_; conv => whnf) | (refine optK_of (flowG) ?_; conv => whnf) | (refine optK_of (flowM) ?_; conv => whnf) | (refine optK_of (intA (by omega)) ?_; conv => whnf) | (refine optK_of (intA' (by omega)) ?_; conv => whnf))
  first | refine ⟨_, _, rfl, Sat.of_eq (l01By_sat r hr hb i hi) (by repeat (first | rfl | exact vfull (by first | (simp [splice]; done) | (simp [splice]; omega)) | exact rfull (by first | (simp [splice]; done) | (simp [splice]; omega)) | exact vplace (by simp; done) (by omega) | exact vrow (by simp; done) (by omega) | exact vtiles (by simp) | exact vsplice (by simp) (by simp) | refine ceq ?_ ?_ | refine Eq.trans (vsplice (by first | (simp; done) | (simp; omega)) (by first | (simp; done) | (simp; omega))) ?_)), ?_⟩ | refine .inl ⟨_, _, rfl, Sat.of_eq (l01By_sat r hr hb i hi) (by repeat (first | rfl | exact vfull (by first | (simp [splice]; done) | (simp [splice]; omega)) | exact rfull (by first | (simp [splice]; done) | (simp [splice]; omega)) | exact vplace (by simp; done) (by omega) | exact vrow (by simp; done) (by omega) | exact vtiles (by simp) | exact vsplice (by simp) (by simp) | refine ceq ?_ ?_ | refine Eq.trans (vsplice (by first | (simp; done) | (simp; omega)) (by first | (simp; done) | (simp; omega))) ?_)), ?_⟩
  conv => whnf
  repeat (first | (refine And.intro (by first | exact Nat.le_of_ble_eq_true rfl | exact mapOkP | exact rfl | decide | omega | (simp [splice]; done) | (constructor <;> omega) | (simp [splice]; omega)) ?_; conv => whnf) | (refine optK_of (raiA (by omega)) ?_; conv => whnf) | (refine optK_of (raiA' (by omega)) ?_; conv => whnf) | (refine optK_of (dripA (by omega) (by omega)) ?_; conv => whnf) | (refine optK_of (roofN (by omega) (by omega)) ?_; conv => whnf) | (refine optK_of (gridN (by omega) (by omega)) ?_; conv => whnf) | (refine optK_of (flowG) ?_; conv => whnf) | (refine optK_of (flowM) ?_; conv => whnf) | (refine optK_of (intA (by omega)) ?_; conv => whnf) | (refine optK_of (intA' (by omega)) ?_; conv => whnf))
  generalize hse : shN r i = s at *
  have e1 : IntKind.i64.wrap ((c : Int) - (s : Int)) = (c : Int) - s := w64 (by omega) (by omega)
  rw [e1]
  cases h1 : decide ((c : Int) - (s : Int) < 0)
  case true =>
    rw [show tlI r i c = -1 by unfold tlI; rw [hse, if_pos (by simp at h1; omega)]]
    conv => whnf
    repeat (first | (refine And.intro (by first | exact Nat.le_of_ble_eq_true rfl | exact mapOkP | exact rfl | decide | omega | (simp [splice]; done) | (constructor <;> omega) | (simp [splice]; omega)) ?_; conv => whnf) | (refine optK_of (raiA (by omega)) ?_; conv => whnf) | (refine optK_of (raiA' (by omega)) ?_; conv => whnf) | (refine optK_of (dripA (by omega) (by omega)) ?_; conv => whnf) | (refine optK_of (roofN (by omega) (by omega)) ?_; conv => whnf) | (refine optK_of (gridN (by omega) (by omega)) ?_; conv => whnf) | (refine optK_of (flowG) ?_; conv => whnf) | (refine optK_of (flowM) ?_; conv => whnf) | (refine optK_of (intA (by omega)) ?_; conv => whnf) | (refine optK_of (intA' (by omega)) ?_; conv => whnf))
    first | refine ⟨rfl, _, rfl, ?_⟩ | refine ⟨_, rfl, ?_⟩
    rfl
  have hcs : s ≤ c := by simp at h1; omega
  have e2 : IntKind.i64.wrap (((c : Int) - (s : Int)).tdiv 2) = (((c - s) / 2 : Nat) : Int) := by
    rw [show (c : Int) - s = ((c - s : Nat) : Int) by omega]
    rw [show (((c - s : Nat) : Int)).tdiv 2 = (((c - s) / 2 : Nat) : Int) from rfl, w64 (by omega) (by omega)]
  conv => whnf
  repeat (first | (refine And.intro (by first | exact Nat.le_of_ble_eq_true rfl | exact mapOkP | exact rfl | decide | omega | (simp [splice]; done) | (constructor <;> omega) | (simp [splice]; omega)) ?_; conv => whnf) | (refine optK_of (raiA (by omega)) ?_; conv => whnf) | (refine optK_of (raiA' (by omega)) ?_; conv => whnf) | (refine optK_of (dripA (by omega) (by omega)) ?_; conv => whnf) | (refine optK_of (roofN (by omega) (by omega)) ?_; conv => whnf) | (refine optK_of (gridN (by omega) (by omega)) ?_; conv => whnf) | (refine optK_of (flowG) ?_; conv => whnf) | (refine optK_of (flowM) ?_; conv => whnf) | (refine optK_of (intA (by omega)) ?_; conv => whnf) | (refine optK_of (intA' (by omega)) ?_; conv => whnf))
  rw [e2, ew]
  cases h2 : decide ((((c - s) / 2 : Nat) : Int) ≥ r.w)
  case true =>
    rw [show tlI r i c = -1 by unfold tlI; rw [hse, if_neg (by omega), if_neg (by simp at h2; omega)]]
    conv => whnf
    repeat (first | (refine And.intro (by first | exact Nat.le_of_ble_eq_true rfl | exact mapOkP | exact rfl | decide | omega | (simp [splice]; done) | (constructor <;> omega) | (simp [splice]; omega)) ?_; conv => whnf) | (refine optK_of (raiA (by omega)) ?_; conv => whnf) | (refine optK_of (raiA' (by omega)) ?_; conv => whnf) | (refine optK_of (dripA (by omega) (by omega)) ?_; conv => whnf) | (refine optK_of (roofN (by omega) (by omega)) ?_; conv => whnf) | (refine optK_of (gridN (by omega) (by omega)) ?_; conv => whnf) | (refine optK_of (flowG) ?_; conv => whnf) | (refine optK_of (flowM) ?_; conv => whnf) | (refine optK_of (intA (by omega)) ?_; conv => whnf) | (refine optK_of (intA' (by omega)) ?_; conv => whnf))
    first | refine ⟨rfl, _, rfl, ?_⟩ | refine ⟨_, rfl, ?_⟩
    rfl
  rw [show tlI r i c = (((c - s) / 2 : Nat) : Int) by unfold tlI; rw [hse, if_neg (by omega), if_pos (by simp at h2; omega)]]
  conv => whnf
  repeat (first | (refine And.intro (by first | exact Nat.le_of_ble_eq_true rfl | exact mapOkP | exact rfl | decide | omega | (simp [splice]; done) | (constructor <;> omega) | (simp [splice]; omega)) ?_; conv => whnf) | (refine optK_of (raiA (by omega)) ?_; conv => whnf) | (refine optK_of (raiA' (by omega)) ?_; conv => whnf) | (refine optK_of (dripA (by omega) (by omega)) ?_; conv => whnf) | (refine optK_of (roofN (by omega) (by omega)) ?_; conv => whnf) | (refine optK_of (gridN (by omega) (by omega)) ?_; conv => whnf) | (refine optK_of (flowG) ?_; conv => whnf) | (refine optK_of (flowM) ?_; conv => whnf) | (refine optK_of (intA (by omega)) ?_; conv => whnf) | (refine optK_of (intA' (by omega)) ?_; conv => whnf))
  first | refine ⟨rfl, _, rfl, ?_⟩ | refine ⟨_, rfl, ?_⟩
  skip
  rw [e2]; rfl
theorem tileAt_sat (i c : Nat) (hi : i ≤ 1000) (hc : c < 17) : Sat Try.prog 190 [roofD r, .v (.int .i64 i), .v (.int .i64 c)] (.v (.int .i64 (tlI r i c))) := by
  have hw := hr.w
  have hsh : shN r i < 2 := Nat.mod_lt _ (by omega)
  have ew : IntKind.i64.wrap r.w = r.w := w64 (by omega) (by omega)
  have ew2 : IntKind.i64.wrap (2 * r.w) = 2 * r.w := w64 (by omega) (by omega)
  have ew3 : IntKind.i64.wrap (2 * r.w - 1) = 2 * r.w - 1 := w64 (by omega) (by omega)
  refine sat_of_wp hMix tOk Try.func190 rfl rfl Try.ntmps190 rfl rfl Try.results190 (by kernel_rfl) ?_
  conv => whnf
  repeat (first | (refine And.intro (by first | exact Nat.le_of_ble_eq_true rfl | exact mapOkP | exact rfl | decide | omega | (simp [splice]; done) | (constructor <;> omega) | (simp [splice]; omega)) ?_; conv => whnf) | (refine optK_of (raiA (by omega)) ?_; conv => whnf) | (refine optK_of (raiA' (by omega)) ?_; conv => whnf) | (refine optK_of (dripA (by omega) (by omega)) ?_; conv => whnf) | (refine optK_of (roofN (by omega) (by omega)) ?_; conv => whnf) | (refine optK_of (gridN (by omega) (by omega)) ?_; conv => whnf) | (refine optK_of (flowG) ?_; conv => whnf) | (refine optK_of (flowM) ?_; conv => whnf) | (refine optK_of (intA (by omega)) ?_; conv => whnf) | (refine optK_of (intA' (by omega)) ?_; conv => whnf))
  first | refine ⟨_, _, rfl, Sat.of_eq (shift_sat r hr hb i hi) (by repeat (first | rfl | exact vfull (by first | (simp [splice]; done) | (simp [splice]; omega)) | exact rfull (by first | (simp [splice]; done) | (simp [splice]; omega)) | exact vplace (by simp; done) (by omega) | exact vrow (by simp; done) (by omega) | exact vtiles (by simp) | exact vsplice (by simp) (by simp) | refine ceq ?_ ?_ | refine Eq.trans (vsplice (by first | (simp; done) | (simp; omega)) (by first | (simp; done) | (simp; omega))) ?_)), ?_⟩ | refine .inl ⟨_, _, rfl, Sat.of_eq (shift_sat r hr hb i hi) (by repeat (first | rfl | exact vfull (by first | (simp [splice]; done) | (simp [splice]; omega)) | exact rfull (by first | (simp [splice]; done) | (simp [splice]; omega)) | exact vplace (by simp; done) (by omega) | exact vrow (by simp; done) (by omega) | exact vtiles (by simp) | exact vsplice (by simp) (by simp) | refine ceq ?_ ?_ | refine Eq.trans (vsplice (by first | (simp; done) | (simp; omega)) (by first | (simp; done) | (simp; omega))) ?_)), ?_⟩
  conv => whnf
  repeat (first | (refine And.intro (by first | exact Nat.le_of_ble_eq_true rfl | exact mapOkP | exact rfl | decide | omega | (simp [splice]; done) | (constructor <;> omega) | (simp [splice]; omega)) ?_; conv => whnf) | (refine optK_of (raiA (by omega)) ?_; conv => whnf) | (refine optK_of (raiA' (by omega)) ?_; conv => whnf) | (refine optK_of (dripA (by omega) (by omega)) ?_; conv => whnf) | (refine optK_of (roofN (by omega) (by omega)) ?_; conv => whnf) | (refine optK_of (gridN (by omega) (by omega)) ?_; conv => whnf) | (refine optK_of (flowG) ?_; conv => whnf) | (refine optK_of (flowM) ?_; conv => whnf) | (refine optK_of (intA (by omega)) ?_; conv => whnf) | (refine optK_of (intA' (by omega)) ?_; conv => whnf))
  generalize hse : shN r i = s at *
  have e1 : IntKind.i64.wrap ((c : Int) - (s : Int)) = (c : Int) - s := w64 (by omega) (by omega)
  rw [e1, ew, ew2, ew3]
  first | refine ⟨_, _, rfl, Sat.of_eq (withinInt_sat _ _ _) (by repeat (first | rfl | exact vfull (by first | (simp [splice]; done) | (simp [splice]; omega)) | exact rfull (by first | (simp [splice]; done) | (simp [splice]; omega)) | exact vplace (by simp; done) (by omega) | exact vrow (by simp; done) (by omega) | exact vtiles (by simp) | exact vsplice (by simp) (by simp) | refine ceq ?_ ?_ | refine Eq.trans (vsplice (by first | (simp; done) | (simp; omega)) (by first | (simp; done) | (simp; omega))) ?_)), ?_⟩ | refine .inl ⟨_, _, rfl, Sat.of_eq (withinInt_sat _ _ _) (by repeat (first | rfl | exact vfull (by first | (simp [splice]; done) | (simp [splice]; omega)) | exact rfull (by first | (simp [splice]; done) | (simp [splice]; omega)) | exact vplace (by simp; done) (by omega) | exact vrow (by simp; done) (by omega) | exact vtiles (by simp) | exact vsplice (by simp) (by simp) | refine ceq ?_ ?_ | refine Eq.trans (vsplice (by first | (simp; done) | (simp; omega)) (by first | (simp; done) | (simp; omega))) ?_)), ?_⟩
  conv => whnf
  repeat (first | (refine And.intro (by first | exact Nat.le_of_ble_eq_true rfl | exact mapOkP | exact rfl | decide | omega | (simp [splice]; done) | (constructor <;> omega) | (simp [splice]; omega)) ?_; conv => whnf) | (refine optK_of (raiA (by omega)) ?_; conv => whnf) | (refine optK_of (raiA' (by omega)) ?_; conv => whnf) | (refine optK_of (dripA (by omega) (by omega)) ?_; conv => whnf) | (refine optK_of (roofN (by omega) (by omega)) ?_; conv => whnf) | (refine optK_of (gridN (by omega) (by omega)) ?_; conv => whnf) | (refine optK_of (flowG) ?_; conv => whnf) | (refine optK_of (flowM) ?_; conv => whnf) | (refine optK_of (intA (by omega)) ?_; conv => whnf) | (refine optK_of (intA' (by omega)) ?_; conv => whnf))
  cases h1 : (decide (0 ≤ (c : Int) - (s : Int)) && decide ((c : Int) - (s : Int) ≤ 2 * r.w - 1))
  · have ht : tlI r i c = -1 := by
      unfold tlI
      rw [hse]
      by_cases hcs : c < s
      · rw [if_pos hcs]
      · rw [if_neg hcs, if_neg (by simp at h1; omega)]
    rw [ht]
    conv => whnf
    repeat (first | (refine And.intro (by first | exact Nat.le_of_ble_eq_true rfl | exact mapOkP | exact rfl | decide | omega | (simp [splice]; done) | (constructor <;> omega) | (simp [splice]; omega)) ?_; conv => whnf) | (refine optK_of (raiA (by omega)) ?_; conv => whnf) | (refine optK_of (raiA' (by omega)) ?_; conv => whnf) | (refine optK_of (dripA (by omega) (by omega)) ?_; conv => whnf) | (refine optK_of (roofN (by omega) (by omega)) ?_; conv => whnf) | (refine optK_of (gridN (by omega) (by omega)) ?_; conv => whnf) | (refine optK_of (flowG) ?_; conv => whnf) | (refine optK_of (flowM) ?_; conv => whnf) | (refine optK_of (intA (by omega)) ?_; conv => whnf) | (refine optK_of (intA' (by omega)) ?_; conv => whnf))
    first | refine ⟨rfl, _, rfl, ?_⟩ | refine ⟨_, rfl, ?_⟩
    rfl
  have hcs : s ≤ c := by simp at h1; omega
  have e2 : IntKind.i64.wrap (((c : Int) - (s : Int)).tdiv 2) = (((c - s) / 2 : Nat) : Int) := by
    rw [show (c : Int) - s = ((c - s : Nat) : Int) by omega]
    rw [show (((c - s : Nat) : Int)).tdiv 2 = (((c - s) / 2 : Nat) : Int) from rfl, w64 (by omega) (by omega)]
  rw [show tlI r i c = (((c - s) / 2 : Nat) : Int) by unfold tlI; rw [hse, if_neg (by omega), if_pos (by simp at h1; omega)]]
  conv => whnf
  repeat (first | (refine And.intro (by first | exact Nat.le_of_ble_eq_true rfl | exact mapOkP | exact rfl | decide | omega | (simp [splice]; done) | (constructor <;> omega) | (simp [splice]; omega)) ?_; conv => whnf) | (refine optK_of (raiA (by omega)) ?_; conv => whnf) | (refine optK_of (raiA' (by omega)) ?_; conv => whnf) | (refine optK_of (dripA (by omega) (by omega)) ?_; conv => whnf) | (refine optK_of (roofN (by omega) (by omega)) ?_; conv => whnf) | (refine optK_of (gridN (by omega) (by omega)) ?_; conv => whnf) | (refine optK_of (flowG) ?_; conv => whnf) | (refine optK_of (flowM) ?_; conv => whnf) | (refine optK_of (intA (by omega)) ?_; conv => whnf) | (refine optK_of (intA' (by omega)) ?_; conv => whnf))
  first | refine ⟨rfl, _, rfl, ?_⟩ | refine ⟨_, rfl, ?_⟩
  skip
  rw [e2]; rfl
theorem l02Over_sat (i c : Nat) (hi : i < 8) (hc : c < 17) : Sat Try.prog 205 [.ref false (roofD r) 0, .v (.int .i64 i), .v (.int .i64 c)] (.v (.int .i64 (ovI r i c))) := by
  have htl := tlI_range r i c
  refine sat_of_wp hMix tOk Try.func205 rfl rfl Try.ntmps205 rfl rfl Try.results205 (by kernel_rfl) ?_
  conv => whnf
  repeat (first | (refine And.intro (by first | exact Nat.le_of_ble_eq_true rfl | exact mapOkP | exact rfl | decide | omega | (simp [splice]; done) | (constructor <;> omega) | (simp [splice]; omega)) ?_; conv => whnf) | (refine optK_of (raiA (by omega)) ?_; conv => whnf) | (refine optK_of (raiA' (by omega)) ?_; conv => whnf) | (refine optK_of (dripA (by omega) (by omega)) ?_; conv => whnf) | (refine optK_of (roofN (by omega) (by omega)) ?_; conv => whnf) | (refine optK_of (gridN (by omega) (by omega)) ?_; conv => whnf) | (refine optK_of (flowG) ?_; conv => whnf) | (refine optK_of (flowM) ?_; conv => whnf) | (refine optK_of (intA (by omega)) ?_; conv => whnf) | (refine optK_of (intA' (by omega)) ?_; conv => whnf))
  first | refine ⟨_, _, rfl, Sat.of_eq (l01Tile_sat r hr hb i c (by omega) hc) (by repeat (first | rfl | exact vfull (by first | (simp [splice]; done) | (simp [splice]; omega)) | exact rfull (by first | (simp [splice]; done) | (simp [splice]; omega)) | exact vplace (by simp; done) (by omega) | exact vrow (by simp; done) (by omega) | exact vtiles (by simp) | exact vsplice (by simp) (by simp) | refine ceq ?_ ?_ | refine Eq.trans (vsplice (by first | (simp; done) | (simp; omega)) (by first | (simp; done) | (simp; omega))) ?_)), ?_⟩ | refine .inl ⟨_, _, rfl, Sat.of_eq (l01Tile_sat r hr hb i c (by omega) hc) (by repeat (first | rfl | exact vfull (by first | (simp [splice]; done) | (simp [splice]; omega)) | exact rfull (by first | (simp [splice]; done) | (simp [splice]; omega)) | exact vplace (by simp; done) (by omega) | exact vrow (by simp; done) (by omega) | exact vtiles (by simp) | exact vsplice (by simp) (by simp) | refine ceq ?_ ?_ | refine Eq.trans (vsplice (by first | (simp; done) | (simp; omega)) (by first | (simp; done) | (simp; omega))) ?_)), ?_⟩
  conv => whnf
  repeat (first | (refine And.intro (by first | exact Nat.le_of_ble_eq_true rfl | exact mapOkP | exact rfl | decide | omega | (simp [splice]; done) | (constructor <;> omega) | (simp [splice]; omega)) ?_; conv => whnf) | (refine optK_of (raiA (by omega)) ?_; conv => whnf) | (refine optK_of (raiA' (by omega)) ?_; conv => whnf) | (refine optK_of (dripA (by omega) (by omega)) ?_; conv => whnf) | (refine optK_of (roofN (by omega) (by omega)) ?_; conv => whnf) | (refine optK_of (gridN (by omega) (by omega)) ?_; conv => whnf) | (refine optK_of (flowG) ?_; conv => whnf) | (refine optK_of (flowM) ?_; conv => whnf) | (refine optK_of (intA (by omega)) ?_; conv => whnf) | (refine optK_of (intA' (by omega)) ?_; conv => whnf))
  cases h1 : decide (tlI r i c < 0)
  case true =>
    rw [show ovI r i c = 0 by unfold ovI; rw [if_pos (by simpa using h1)]]
    conv => whnf
    repeat (first | (refine And.intro (by first | exact Nat.le_of_ble_eq_true rfl | exact mapOkP | exact rfl | decide | omega | (simp [splice]; done) | (constructor <;> omega) | (simp [splice]; omega)) ?_; conv => whnf) | (refine optK_of (raiA (by omega)) ?_; conv => whnf) | (refine optK_of (raiA' (by omega)) ?_; conv => whnf) | (refine optK_of (dripA (by omega) (by omega)) ?_; conv => whnf) | (refine optK_of (roofN (by omega) (by omega)) ?_; conv => whnf) | (refine optK_of (gridN (by omega) (by omega)) ?_; conv => whnf) | (refine optK_of (flowG) ?_; conv => whnf) | (refine optK_of (flowM) ?_; conv => whnf) | (refine optK_of (intA (by omega)) ?_; conv => whnf) | (refine optK_of (intA' (by omega)) ?_; conv => whnf))
    first | refine ⟨rfl, _, rfl, ?_⟩ | refine ⟨_, rfl, ?_⟩
    rfl
  have h1' : ¬ tlI r i c < 0 := by simpa using h1
  have ho : ovI r i c = r.t i (tlI r i c).toNat := by unfold ovI; rw [if_neg h1']
  obtain ⟨k, hk⟩ := eq_toNat (x := tlI r i c) (by omega)
  rw [hk] at htl ho ⊢
  rw [Int.toNat_natCast] at ho
  have ht := hr.t i k
  rw [ho]
  conv => whnf
  repeat (first | (refine And.intro (by first | exact Nat.le_of_ble_eq_true rfl | exact mapOkP | exact rfl | decide | omega | (simp [splice]; done) | (constructor <;> omega) | (simp [splice]; omega)) ?_; conv => whnf) | (refine optK_of (raiA (by omega)) ?_; conv => whnf) | (refine optK_of (raiA' (by omega)) ?_; conv => whnf) | (refine optK_of (dripA (by omega) (by omega)) ?_; conv => whnf) | (refine optK_of (roofN (by omega) (by omega)) ?_; conv => whnf) | (refine optK_of (gridN (by omega) (by omega)) ?_; conv => whnf) | (refine optK_of (flowG) ?_; conv => whnf) | (refine optK_of (flowM) ?_; conv => whnf) | (refine optK_of (intA (by omega)) ?_; conv => whnf) | (refine optK_of (intA' (by omega)) ?_; conv => whnf))
  first | refine ⟨rfl, _, rfl, ?_⟩ | refine ⟨_, rfl, ?_⟩
  skip
  rw [show IntKind.i64.wrap (r.t i k) = r.t i k from w64 (by omega) (by omega)]; rfl
theorem covering_sat (i c : Nat) (hi : i < 8) (hc : c < 17) : Sat Try.prog 192 [roofD r, .v (.int .i64 i), .v (.int .i64 c)] (.v (.int .u8 (ovI r i c))) := by
  have htl := tlI_range r i c
  refine sat_of_wp hMix tOk Try.func192 rfl rfl Try.ntmps192 rfl rfl Try.results192 (by kernel_rfl) ?_
  conv => whnf
  repeat (first | (refine And.intro (by first | exact Nat.le_of_ble_eq_true rfl | exact mapOkP | exact rfl | decide | omega | (simp [splice]; done) | (constructor <;> omega) | (simp [splice]; omega)) ?_; conv => whnf) | (refine optK_of (raiA (by omega)) ?_; conv => whnf) | (refine optK_of (raiA' (by omega)) ?_; conv => whnf) | (refine optK_of (dripA (by omega) (by omega)) ?_; conv => whnf) | (refine optK_of (roofN (by omega) (by omega)) ?_; conv => whnf) | (refine optK_of (gridN (by omega) (by omega)) ?_; conv => whnf) | (refine optK_of (flowG) ?_; conv => whnf) | (refine optK_of (flowM) ?_; conv => whnf) | (refine optK_of (intA (by omega)) ?_; conv => whnf) | (refine optK_of (intA' (by omega)) ?_; conv => whnf))
  cases h0 : decide ((i : Int) < 0)
  case true => simp at h0; omega
  conv => whnf
  repeat (first | (refine And.intro (by first | exact Nat.le_of_ble_eq_true rfl | exact mapOkP | exact rfl | decide | omega | (simp [splice]; done) | (constructor <;> omega) | (simp [splice]; omega)) ?_; conv => whnf) | (refine optK_of (raiA (by omega)) ?_; conv => whnf) | (refine optK_of (raiA' (by omega)) ?_; conv => whnf) | (refine optK_of (dripA (by omega) (by omega)) ?_; conv => whnf) | (refine optK_of (roofN (by omega) (by omega)) ?_; conv => whnf) | (refine optK_of (gridN (by omega) (by omega)) ?_; conv => whnf) | (refine optK_of (flowG) ?_; conv => whnf) | (refine optK_of (flowM) ?_; conv => whnf) | (refine optK_of (intA (by omega)) ?_; conv => whnf) | (refine optK_of (intA' (by omega)) ?_; conv => whnf))
  first | refine ⟨_, _, rfl, Sat.of_eq (tileAt_sat r hr hb i c (by omega) hc) (by repeat (first | rfl | exact vfull (by first | (simp [splice]; done) | (simp [splice]; omega)) | exact rfull (by first | (simp [splice]; done) | (simp [splice]; omega)) | exact vplace (by simp; done) (by omega) | exact vrow (by simp; done) (by omega) | exact vtiles (by simp) | exact vsplice (by simp) (by simp) | refine ceq ?_ ?_ | refine Eq.trans (vsplice (by first | (simp; done) | (simp; omega)) (by first | (simp; done) | (simp; omega))) ?_)), ?_⟩ | refine .inl ⟨_, _, rfl, Sat.of_eq (tileAt_sat r hr hb i c (by omega) hc) (by repeat (first | rfl | exact vfull (by first | (simp [splice]; done) | (simp [splice]; omega)) | exact rfull (by first | (simp [splice]; done) | (simp [splice]; omega)) | exact vplace (by simp; done) (by omega) | exact vrow (by simp; done) (by omega) | exact vtiles (by simp) | exact vsplice (by simp) (by simp) | refine ceq ?_ ?_ | refine Eq.trans (vsplice (by first | (simp; done) | (simp; omega)) (by first | (simp; done) | (simp; omega))) ?_)), ?_⟩
  conv => whnf
  repeat (first | (refine And.intro (by first | exact Nat.le_of_ble_eq_true rfl | exact mapOkP | exact rfl | decide | omega | (simp [splice]; done) | (constructor <;> omega) | (simp [splice]; omega)) ?_; conv => whnf) | (refine optK_of (raiA (by omega)) ?_; conv => whnf) | (refine optK_of (raiA' (by omega)) ?_; conv => whnf) | (refine optK_of (dripA (by omega) (by omega)) ?_; conv => whnf) | (refine optK_of (roofN (by omega) (by omega)) ?_; conv => whnf) | (refine optK_of (gridN (by omega) (by omega)) ?_; conv => whnf) | (refine optK_of (flowG) ?_; conv => whnf) | (refine optK_of (flowM) ?_; conv => whnf) | (refine optK_of (intA (by omega)) ?_; conv => whnf) | (refine optK_of (intA' (by omega)) ?_; conv => whnf))
  cases h1 : (tlI r i c == -1)
  case true =>
    rw [show ovI r i c = 0 by unfold ovI; rw [if_pos (by simp at h1; omega)]]
    conv => whnf
    repeat (first | (refine And.intro (by first | exact Nat.le_of_ble_eq_true rfl | exact mapOkP | exact rfl | decide | omega | (simp [splice]; done) | (constructor <;> omega) | (simp [splice]; omega)) ?_; conv => whnf) | (refine optK_of (raiA (by omega)) ?_; conv => whnf) | (refine optK_of (raiA' (by omega)) ?_; conv => whnf) | (refine optK_of (dripA (by omega) (by omega)) ?_; conv => whnf) | (refine optK_of (roofN (by omega) (by omega)) ?_; conv => whnf) | (refine optK_of (gridN (by omega) (by omega)) ?_; conv => whnf) | (refine optK_of (flowG) ?_; conv => whnf) | (refine optK_of (flowM) ?_; conv => whnf) | (refine optK_of (intA (by omega)) ?_; conv => whnf) | (refine optK_of (intA' (by omega)) ?_; conv => whnf))
    first | refine ⟨rfl, _, rfl, ?_⟩ | refine ⟨_, rfl, ?_⟩
    rfl
  have h1' : ¬ tlI r i c < 0 := by
    have : ¬ tlI r i c = -1 := by simpa using h1
    omega
  have ho : ovI r i c = r.t i (tlI r i c).toNat := by unfold ovI; rw [if_neg h1']
  obtain ⟨k, hk⟩ := eq_toNat (x := tlI r i c) (by omega)
  rw [hk] at htl ho ⊢
  rw [Int.toNat_natCast] at ho
  rw [ho]
  conv => whnf
  repeat (first | (refine And.intro (by first | exact Nat.le_of_ble_eq_true rfl | exact mapOkP | exact rfl | decide | omega | (simp [splice]; done) | (constructor <;> omega) | (simp [splice]; omega)) ?_; conv => whnf) | (refine optK_of (raiA (by omega)) ?_; conv => whnf) | (refine optK_of (raiA' (by omega)) ?_; conv => whnf) | (refine optK_of (dripA (by omega) (by omega)) ?_; conv => whnf) | (refine optK_of (roofN (by omega) (by omega)) ?_; conv => whnf) | (refine optK_of (gridN (by omega) (by omega)) ?_; conv => whnf) | (refine optK_of (flowG) ?_; conv => whnf) | (refine optK_of (flowM) ?_; conv => whnf) | (refine optK_of (intA (by omega)) ?_; conv => whnf) | (refine optK_of (intA' (by omega)) ?_; conv => whnf))
  first | refine ⟨rfl, _, rfl, ?_⟩ | refine ⟨_, rfl, ?_⟩
  rfl
theorem l02Drip_sat (i c : Nat) (hi : i < 8) (hc : c < 17) (n : Int) (hn : 0 ≤ n ∧ n ≤ 1000) : Sat Try.prog 188 [.ref false (roofD r) 0, .v (.int .i64 i), .v (.int .i64 c), .v (.int .i64 n)] (.v (.int .i64 (drI r i c n))) := by
  have e1 : IntKind.i64.wrap (n + 1) = n + 1 := w64 (by omega) (by omega)
  have e2 : IntKind.i64.wrap (n + 2) = n + 2 := w64 (by omega) (by omega)
  have hd := drI_in r i c hn.1
  refine sat_of_wp hMix tOk Try.func188 rfl rfl Try.ntmps188 rfl rfl Try.results188 (by kernel_rfl) ?_
  conv => whnf
  repeat (first | (refine And.intro (by first | exact Nat.le_of_ble_eq_true rfl | exact mapOkP | exact rfl | decide | omega | (simp [splice]; done) | (constructor <;> omega) | (simp [splice]; omega)) ?_; conv => whnf) | (refine optK_of (raiA (by omega)) ?_; conv => whnf) | (refine optK_of (raiA' (by omega)) ?_; conv => whnf) | (refine optK_of (dripA (by omega) (by omega)) ?_; conv => whnf) | (refine optK_of (roofN (by omega) (by omega)) ?_; conv => whnf) | (refine optK_of (gridN (by omega) (by omega)) ?_; conv => whnf) | (refine optK_of (flowG) ?_; conv => whnf) | (refine optK_of (flowM) ?_; conv => whnf) | (refine optK_of (intA (by omega)) ?_; conv => whnf) | (refine optK_of (intA' (by omega)) ?_; conv => whnf))
  first | refine ⟨_, _, rfl, Sat.of_eq (l02Over_sat r hr hb i c hi hc) (by repeat (first | rfl | exact vfull (by first | (simp [splice]; done) | (simp [splice]; omega)) | exact rfull (by first | (simp [splice]; done) | (simp [splice]; omega)) | exact vplace (by simp; done) (by omega) | exact vrow (by simp; done) (by omega) | exact vtiles (by simp) | exact vsplice (by simp) (by simp) | refine ceq ?_ ?_ | refine Eq.trans (vsplice (by first | (simp; done) | (simp; omega)) (by first | (simp; done) | (simp; omega))) ?_)), ?_⟩ | refine .inl ⟨_, _, rfl, Sat.of_eq (l02Over_sat r hr hb i c hi hc) (by repeat (first | rfl | exact vfull (by first | (simp [splice]; done) | (simp [splice]; omega)) | exact rfull (by first | (simp [splice]; done) | (simp [splice]; omega)) | exact vplace (by simp; done) (by omega) | exact vrow (by simp; done) (by omega) | exact vtiles (by simp) | exact vsplice (by simp) (by simp) | refine ceq ?_ ?_ | refine Eq.trans (vsplice (by first | (simp; done) | (simp; omega)) (by first | (simp; done) | (simp; omega))) ?_)), ?_⟩
  conv => whnf
  repeat (first | (refine And.intro (by first | exact Nat.le_of_ble_eq_true rfl | exact mapOkP | exact rfl | decide | omega | (simp [splice]; done) | (constructor <;> omega) | (simp [splice]; omega)) ?_; conv => whnf) | (refine optK_of (raiA (by omega)) ?_; conv => whnf) | (refine optK_of (raiA' (by omega)) ?_; conv => whnf) | (refine optK_of (dripA (by omega) (by omega)) ?_; conv => whnf) | (refine optK_of (roofN (by omega) (by omega)) ?_; conv => whnf) | (refine optK_of (gridN (by omega) (by omega)) ?_; conv => whnf) | (refine optK_of (flowG) ?_; conv => whnf) | (refine optK_of (flowM) ?_; conv => whnf) | (refine optK_of (intA (by omega)) ?_; conv => whnf) | (refine optK_of (intA' (by omega)) ?_; conv => whnf))
  cases h1 : (ovI r i c == 1)
  case true =>
    have h1' : ovI r i c = 1 := by simpa using h1
    have hq : drI r i c n = (n + 1).tdiv 2 := by unfold drI; rw [if_pos h1']
    conv => whnf
    repeat (first | (refine And.intro (by first | exact Nat.le_of_ble_eq_true rfl | exact mapOkP | exact rfl | decide | omega | (simp [splice]; done) | (constructor <;> omega) | (simp [splice]; omega)) ?_; conv => whnf) | (refine optK_of (raiA (by omega)) ?_; conv => whnf) | (refine optK_of (raiA' (by omega)) ?_; conv => whnf) | (refine optK_of (dripA (by omega) (by omega)) ?_; conv => whnf) | (refine optK_of (roofN (by omega) (by omega)) ?_; conv => whnf) | (refine optK_of (gridN (by omega) (by omega)) ?_; conv => whnf) | (refine optK_of (flowG) ?_; conv => whnf) | (refine optK_of (flowM) ?_; conv => whnf) | (refine optK_of (intA (by omega)) ?_; conv => whnf) | (refine optK_of (intA' (by omega)) ?_; conv => whnf))
    first | refine ⟨rfl, _, rfl, ?_⟩ | refine ⟨_, rfl, ?_⟩
    skip
    rw [e1, ← hq, show IntKind.i64.wrap (drI r i c n) = drI r i c n from w64 (by omega) (by omega)]; rfl
  have h1' : ¬ ovI r i c = 1 := by simpa using h1
  conv => whnf
  repeat (first | (refine And.intro (by first | exact Nat.le_of_ble_eq_true rfl | exact mapOkP | exact rfl | decide | omega | (simp [splice]; done) | (constructor <;> omega) | (simp [splice]; omega)) ?_; conv => whnf) | (refine optK_of (raiA (by omega)) ?_; conv => whnf) | (refine optK_of (raiA' (by omega)) ?_; conv => whnf) | (refine optK_of (dripA (by omega) (by omega)) ?_; conv => whnf) | (refine optK_of (roofN (by omega) (by omega)) ?_; conv => whnf) | (refine optK_of (gridN (by omega) (by omega)) ?_; conv => whnf) | (refine optK_of (flowG) ?_; conv => whnf) | (refine optK_of (flowM) ?_; conv => whnf) | (refine optK_of (intA (by omega)) ?_; conv => whnf) | (refine optK_of (intA' (by omega)) ?_; conv => whnf))
  cases h2 : (ovI r i c == 2)
  case true =>
    have h2' : ovI r i c = 2 := by simpa using h2
    have hq : drI r i c n = (n + 2).tdiv 3 := by unfold drI; rw [if_neg h1', if_pos h2']
    conv => whnf
    repeat (first | (refine And.intro (by first | exact Nat.le_of_ble_eq_true rfl | exact mapOkP | exact rfl | decide | omega | (simp [splice]; done) | (constructor <;> omega) | (simp [splice]; omega)) ?_; conv => whnf) | (refine optK_of (raiA (by omega)) ?_; conv => whnf) | (refine optK_of (raiA' (by omega)) ?_; conv => whnf) | (refine optK_of (dripA (by omega) (by omega)) ?_; conv => whnf) | (refine optK_of (roofN (by omega) (by omega)) ?_; conv => whnf) | (refine optK_of (gridN (by omega) (by omega)) ?_; conv => whnf) | (refine optK_of (flowG) ?_; conv => whnf) | (refine optK_of (flowM) ?_; conv => whnf) | (refine optK_of (intA (by omega)) ?_; conv => whnf) | (refine optK_of (intA' (by omega)) ?_; conv => whnf))
    first | refine ⟨rfl, _, rfl, ?_⟩ | refine ⟨_, rfl, ?_⟩
    skip
    rw [e2, ← hq, show IntKind.i64.wrap (drI r i c n) = drI r i c n from w64 (by omega) (by omega)]; rfl
  have h2' : ¬ ovI r i c = 2 := by simpa using h2
  conv => whnf
  repeat (first | (refine And.intro (by first | exact Nat.le_of_ble_eq_true rfl | exact mapOkP | exact rfl | decide | omega | (simp [splice]; done) | (constructor <;> omega) | (simp [splice]; omega)) ?_; conv => whnf) | (refine optK_of (raiA (by omega)) ?_; conv => whnf) | (refine optK_of (raiA' (by omega)) ?_; conv => whnf) | (refine optK_of (dripA (by omega) (by omega)) ?_; conv => whnf) | (refine optK_of (roofN (by omega) (by omega)) ?_; conv => whnf) | (refine optK_of (gridN (by omega) (by omega)) ?_; conv => whnf) | (refine optK_of (flowG) ?_; conv => whnf) | (refine optK_of (flowM) ?_; conv => whnf) | (refine optK_of (intA (by omega)) ?_; conv => whnf) | (refine optK_of (intA' (by omega)) ?_; conv => whnf))
  cases h3 : (ovI r i c == 3)
  · have h3' : ¬ ovI r i c = 3 := by simpa using h3
    rw [show drI r i c n = 0 by unfold drI; rw [if_neg h1', if_neg h2', if_neg h3']]
    conv => whnf
    repeat (first | (refine And.intro (by first | exact Nat.le_of_ble_eq_true rfl | exact mapOkP | exact rfl | decide | omega | (simp [splice]; done) | (constructor <;> omega) | (simp [splice]; omega)) ?_; conv => whnf) | (refine optK_of (raiA (by omega)) ?_; conv => whnf) | (refine optK_of (raiA' (by omega)) ?_; conv => whnf) | (refine optK_of (dripA (by omega) (by omega)) ?_; conv => whnf) | (refine optK_of (roofN (by omega) (by omega)) ?_; conv => whnf) | (refine optK_of (gridN (by omega) (by omega)) ?_; conv => whnf) | (refine optK_of (flowG) ?_; conv => whnf) | (refine optK_of (flowM) ?_; conv => whnf) | (refine optK_of (intA (by omega)) ?_; conv => whnf) | (refine optK_of (intA' (by omega)) ?_; conv => whnf))
    first | refine ⟨rfl, _, rfl, ?_⟩ | refine ⟨_, rfl, ?_⟩
    rfl
  have h3' : ovI r i c = 3 := by simpa using h3
  have hq : drI r i c n = if 0 < i ∧ ovI r (i - 1) c = 2 then 0 else n := by unfold drI; rw [if_neg h1', if_neg h2', if_pos h3']
  rw [hq]
  conv => whnf
  repeat (first | (refine And.intro (by first | exact Nat.le_of_ble_eq_true rfl | exact mapOkP | exact rfl | decide | omega | (simp [splice]; done) | (constructor <;> omega) | (simp [splice]; omega)) ?_; conv => whnf) | (refine optK_of (raiA (by omega)) ?_; conv => whnf) | (refine optK_of (raiA' (by omega)) ?_; conv => whnf) | (refine optK_of (dripA (by omega) (by omega)) ?_; conv => whnf) | (refine optK_of (roofN (by omega) (by omega)) ?_; conv => whnf) | (refine optK_of (gridN (by omega) (by omega)) ?_; conv => whnf) | (refine optK_of (flowG) ?_; conv => whnf) | (refine optK_of (flowM) ?_; conv => whnf) | (refine optK_of (intA (by omega)) ?_; conv => whnf) | (refine optK_of (intA' (by omega)) ?_; conv => whnf))
  cases h4 : decide ((i : Int) > 0)
  · rw [if_neg (by simp at h4; omega)]
    conv => whnf
    repeat (first | (refine And.intro (by first | exact Nat.le_of_ble_eq_true rfl | exact mapOkP | exact rfl | decide | omega | (simp [splice]; done) | (constructor <;> omega) | (simp [splice]; omega)) ?_; conv => whnf) | (refine optK_of (raiA (by omega)) ?_; conv => whnf) | (refine optK_of (raiA' (by omega)) ?_; conv => whnf) | (refine optK_of (dripA (by omega) (by omega)) ?_; conv => whnf) | (refine optK_of (roofN (by omega) (by omega)) ?_; conv => whnf) | (refine optK_of (gridN (by omega) (by omega)) ?_; conv => whnf) | (refine optK_of (flowG) ?_; conv => whnf) | (refine optK_of (flowM) ?_; conv => whnf) | (refine optK_of (intA (by omega)) ?_; conv => whnf) | (refine optK_of (intA' (by omega)) ?_; conv => whnf))
    first | refine ⟨rfl, _, rfl, ?_⟩ | refine ⟨_, rfl, ?_⟩
    rfl
  have hi0 : 0 < i := by simp at h4; omega
  have ei : IntKind.i64.wrap ((i : Int) - 1) = ((i - 1 : Nat) : Int) := by rw [w64 (by omega) (by omega)]; omega
  conv => whnf
  repeat (first | (refine And.intro (by first | exact Nat.le_of_ble_eq_true rfl | exact mapOkP | exact rfl | decide | omega | (simp [splice]; done) | (constructor <;> omega) | (simp [splice]; omega)) ?_; conv => whnf) | (refine optK_of (raiA (by omega)) ?_; conv => whnf) | (refine optK_of (raiA' (by omega)) ?_; conv => whnf) | (refine optK_of (dripA (by omega) (by omega)) ?_; conv => whnf) | (refine optK_of (roofN (by omega) (by omega)) ?_; conv => whnf) | (refine optK_of (gridN (by omega) (by omega)) ?_; conv => whnf) | (refine optK_of (flowG) ?_; conv => whnf) | (refine optK_of (flowM) ?_; conv => whnf) | (refine optK_of (intA (by omega)) ?_; conv => whnf) | (refine optK_of (intA' (by omega)) ?_; conv => whnf))
  rw [ei]
  first | refine ⟨_, _, rfl, Sat.of_eq (l02Over_sat r hr hb (i - 1) c (by omega) hc) (by repeat (first | rfl | exact vfull (by first | (simp [splice]; done) | (simp [splice]; omega)) | exact rfull (by first | (simp [splice]; done) | (simp [splice]; omega)) | exact vplace (by simp; done) (by omega) | exact vrow (by simp; done) (by omega) | exact vtiles (by simp) | exact vsplice (by simp) (by simp) | refine ceq ?_ ?_ | refine Eq.trans (vsplice (by first | (simp; done) | (simp; omega)) (by first | (simp; done) | (simp; omega))) ?_)), ?_⟩ | refine .inl ⟨_, _, rfl, Sat.of_eq (l02Over_sat r hr hb (i - 1) c (by omega) hc) (by repeat (first | rfl | exact vfull (by first | (simp [splice]; done) | (simp [splice]; omega)) | exact rfull (by first | (simp [splice]; done) | (simp [splice]; omega)) | exact vplace (by simp; done) (by omega) | exact vrow (by simp; done) (by omega) | exact vtiles (by simp) | exact vsplice (by simp) (by simp) | refine ceq ?_ ?_ | refine Eq.trans (vsplice (by first | (simp; done) | (simp; omega)) (by first | (simp; done) | (simp; omega))) ?_)), ?_⟩
  conv => whnf
  repeat (first | (refine And.intro (by first | exact Nat.le_of_ble_eq_true rfl | exact mapOkP | exact rfl | decide | omega | (simp [splice]; done) | (constructor <;> omega) | (simp [splice]; omega)) ?_; conv => whnf) | (refine optK_of (raiA (by omega)) ?_; conv => whnf) | (refine optK_of (raiA' (by omega)) ?_; conv => whnf) | (refine optK_of (dripA (by omega) (by omega)) ?_; conv => whnf) | (refine optK_of (roofN (by omega) (by omega)) ?_; conv => whnf) | (refine optK_of (gridN (by omega) (by omega)) ?_; conv => whnf) | (refine optK_of (flowG) ?_; conv => whnf) | (refine optK_of (flowM) ?_; conv => whnf) | (refine optK_of (intA (by omega)) ?_; conv => whnf) | (refine optK_of (intA' (by omega)) ?_; conv => whnf))
  cases h5 : (ovI r (i - 1) c == 2)
  · rw [if_neg (by simp at h5; omega)]
    conv => whnf
    repeat (first | (refine And.intro (by first | exact Nat.le_of_ble_eq_true rfl | exact mapOkP | exact rfl | decide | omega | (simp [splice]; done) | (constructor <;> omega) | (simp [splice]; omega)) ?_; conv => whnf) | (refine optK_of (raiA (by omega)) ?_; conv => whnf) | (refine optK_of (raiA' (by omega)) ?_; conv => whnf) | (refine optK_of (dripA (by omega) (by omega)) ?_; conv => whnf) | (refine optK_of (roofN (by omega) (by omega)) ?_; conv => whnf) | (refine optK_of (gridN (by omega) (by omega)) ?_; conv => whnf) | (refine optK_of (flowG) ?_; conv => whnf) | (refine optK_of (flowM) ?_; conv => whnf) | (refine optK_of (intA (by omega)) ?_; conv => whnf) | (refine optK_of (intA' (by omega)) ?_; conv => whnf))
    first | refine ⟨rfl, _, rfl, ?_⟩ | refine ⟨_, rfl, ?_⟩
    rfl
  rw [if_pos ⟨hi0, by simpa using h5⟩]
  conv => whnf
  repeat (first | (refine And.intro (by first | exact Nat.le_of_ble_eq_true rfl | exact mapOkP | exact rfl | decide | omega | (simp [splice]; done) | (constructor <;> omega) | (simp [splice]; omega)) ?_; conv => whnf) | (refine optK_of (raiA (by omega)) ?_; conv => whnf) | (refine optK_of (raiA' (by omega)) ?_; conv => whnf) | (refine optK_of (dripA (by omega) (by omega)) ?_; conv => whnf) | (refine optK_of (roofN (by omega) (by omega)) ?_; conv => whnf) | (refine optK_of (gridN (by omega) (by omega)) ?_; conv => whnf) | (refine optK_of (flowG) ?_; conv => whnf) | (refine optK_of (flowM) ?_; conv => whnf) | (refine optK_of (intA (by omega)) ?_; conv => whnf) | (refine optK_of (intA' (by omega)) ?_; conv => whnf))
  first | refine ⟨rfl, _, rfl, ?_⟩ | refine ⟨_, rfl, ?_⟩
  rfl
omit hr hb in
theorem coveringNo_sat (c : Nat) (x : Int) (hx : x < 0) : Sat Try.prog 192 [roofD r, .v (.int .i64 x), .v (.int .i64 c)] (.v (.int .u8 0)) := by
  refine sat_of_wp hMix tOk Try.func192 rfl rfl Try.ntmps192 rfl rfl Try.results192 (by kernel_rfl) ?_
  conv => whnf
  repeat (first | (refine And.intro (by first | exact Nat.le_of_ble_eq_true rfl | exact mapOkP | exact rfl | decide | omega | (simp [splice]; done) | (constructor <;> omega) | (simp [splice]; omega)) ?_; conv => whnf) | (refine optK_of (raiA (by omega)) ?_; conv => whnf) | (refine optK_of (raiA' (by omega)) ?_; conv => whnf) | (refine optK_of (dripA (by omega) (by omega)) ?_; conv => whnf) | (refine optK_of (roofN (by omega) (by omega)) ?_; conv => whnf) | (refine optK_of (gridN (by omega) (by omega)) ?_; conv => whnf) | (refine optK_of (flowG) ?_; conv => whnf) | (refine optK_of (flowM) ?_; conv => whnf) | (refine optK_of (intA (by omega)) ?_; conv => whnf) | (refine optK_of (intA' (by omega)) ?_; conv => whnf))
  rw [show decide (x < 0) = true by simpa using hx]
  conv => whnf
  repeat (first | (refine And.intro (by first | exact Nat.le_of_ble_eq_true rfl | exact mapOkP | exact rfl | decide | omega | (simp [splice]; done) | (constructor <;> omega) | (simp [splice]; omega)) ?_; conv => whnf) | (refine optK_of (raiA (by omega)) ?_; conv => whnf) | (refine optK_of (raiA' (by omega)) ?_; conv => whnf) | (refine optK_of (dripA (by omega) (by omega)) ?_; conv => whnf) | (refine optK_of (roofN (by omega) (by omega)) ?_; conv => whnf) | (refine optK_of (gridN (by omega) (by omega)) ?_; conv => whnf) | (refine optK_of (flowG) ?_; conv => whnf) | (refine optK_of (flowM) ?_; conv => whnf) | (refine optK_of (intA (by omega)) ?_; conv => whnf) | (refine optK_of (intA' (by omega)) ?_; conv => whnf))
  first | refine ⟨rfl, _, rfl, ?_⟩ | refine ⟨_, rfl, ?_⟩
  rfl
end
theorem up32_sat (a b : Int) (ha : 0 ≤ a ∧ a ≤ 1000) (hb' : 2 ≤ b ∧ b ≤ 3) : Sat Try.prog 207 [.v (.int .i32 a), .v (.int .i32 b)] (.v (.int .i32 ((a + b - 1).tdiv b))) := by
  have h0 : b ≠ 0 := by omega
  refine sat_of_wp hMix tOk Try.func207 rfl rfl Try.ntmps207 rfl rfl Try.results207 (by kernel_rfl) ?_
  conv => whnf
  repeat (first | (refine And.intro (by first | exact Nat.le_of_ble_eq_true rfl | exact mapOkP | exact rfl | decide | omega | (simp [splice]; done) | (constructor <;> omega) | (simp [splice]; omega)) ?_; conv => whnf) | (refine optK_of (raiA (by omega)) ?_; conv => whnf) | (refine optK_of (raiA' (by omega)) ?_; conv => whnf) | (refine optK_of (dripA (by omega) (by omega)) ?_; conv => whnf) | (refine optK_of (roofN (by omega) (by omega)) ?_; conv => whnf) | (refine optK_of (gridN (by omega) (by omega)) ?_; conv => whnf) | (refine optK_of (flowG) ?_; conv => whnf) | (refine optK_of (flowM) ?_; conv => whnf) | (refine optK_of (intA (by omega)) ?_; conv => whnf) | (refine optK_of (intA' (by omega)) ?_; conv => whnf))
  rw [show IntKind.i32.wrap (a + b) = a + b from w32 (by omega) (by omega), show IntKind.i32.wrap (a + b - 1) = a + b - 1 from w32 (by omega) (by omega)]
  have hq : (a + b - 1).tdiv b = (a + b - 1) / b := Int.tdiv_eq_ediv_of_nonneg (by omega)
  have h1 : 0 ≤ (a + b - 1) / b := Int.ediv_nonneg (by omega) (by omega)
  have h2 : (a + b - 1) / b ≤ a + b - 1 := Int.ediv_le_self _ (by omega)
  first | refine ⟨rfl, _, rfl, ?_⟩ | refine ⟨_, rfl, ?_⟩
  skip
  rw [show IntKind.i32.wrap ((a + b - 1).tdiv b) = (a + b - 1).tdiv b by rw [hq]; exact w32 (by omega) (by omega)]; rfl
def dofI (k a n : Int) : Int := if k = 1 then (n + 1).tdiv 2 else if k = 2 then (n + 2).tdiv 3 else if k = 3 then (if a = 2 then 0 else n) else 0
theorem dripOf_sat (k a n : Int) (hn : 0 ≤ n ∧ n ≤ 1000) : Sat Try.prog 191 [.v (.int .u8 k), .v (.int .u8 a), .v (.int .i32 n)] (.v (.int .i32 (dofI k a n))) := by
  refine sat_of_wp hMix tOk Try.func191 rfl rfl Try.ntmps191 rfl rfl Try.results191 (by kernel_rfl) ?_
  conv => whnf
  repeat (first | (refine And.intro (by first | exact Nat.le_of_ble_eq_true rfl | exact mapOkP | exact rfl | decide | omega | (simp [splice]; done) | (constructor <;> omega) | (simp [splice]; omega)) ?_; conv => whnf) | (refine optK_of (raiA (by omega)) ?_; conv => whnf) | (refine optK_of (raiA' (by omega)) ?_; conv => whnf) | (refine optK_of (dripA (by omega) (by omega)) ?_; conv => whnf) | (refine optK_of (roofN (by omega) (by omega)) ?_; conv => whnf) | (refine optK_of (gridN (by omega) (by omega)) ?_; conv => whnf) | (refine optK_of (flowG) ?_; conv => whnf) | (refine optK_of (flowM) ?_; conv => whnf) | (refine optK_of (intA (by omega)) ?_; conv => whnf) | (refine optK_of (intA' (by omega)) ?_; conv => whnf))
  cases h1 : (k == 1)
  case true =>
    have h1' : k = 1 := by simpa using h1
    rw [show dofI k a n = (n + 2 - 1).tdiv 2 by unfold dofI; rw [if_pos h1', show n + 2 - 1 = n + 1 by omega]]
    conv => whnf
    repeat (first | (refine And.intro (by first | exact Nat.le_of_ble_eq_true rfl | exact mapOkP | exact rfl | decide | omega | (simp [splice]; done) | (constructor <;> omega) | (simp [splice]; omega)) ?_; conv => whnf) | (refine optK_of (raiA (by omega)) ?_; conv => whnf) | (refine optK_of (raiA' (by omega)) ?_; conv => whnf) | (refine optK_of (dripA (by omega) (by omega)) ?_; conv => whnf) | (refine optK_of (roofN (by omega) (by omega)) ?_; conv => whnf) | (refine optK_of (gridN (by omega) (by omega)) ?_; conv => whnf) | (refine optK_of (flowG) ?_; conv => whnf) | (refine optK_of (flowM) ?_; conv => whnf) | (refine optK_of (intA (by omega)) ?_; conv => whnf) | (refine optK_of (intA' (by omega)) ?_; conv => whnf))
    first | refine ⟨_, _, rfl, Sat.of_eq (up32_sat n 2 hn (by omega)) (by repeat (first | rfl | exact vfull (by first | (simp [splice]; done) | (simp [splice]; omega)) | exact rfull (by first | (simp [splice]; done) | (simp [splice]; omega)) | exact vplace (by simp; done) (by omega) | exact vrow (by simp; done) (by omega) | exact vtiles (by simp) | exact vsplice (by simp) (by simp) | refine ceq ?_ ?_ | refine Eq.trans (vsplice (by first | (simp; done) | (simp; omega)) (by first | (simp; done) | (simp; omega))) ?_)), ?_⟩ | refine .inl ⟨_, _, rfl, Sat.of_eq (up32_sat n 2 hn (by omega)) (by repeat (first | rfl | exact vfull (by first | (simp [splice]; done) | (simp [splice]; omega)) | exact rfull (by first | (simp [splice]; done) | (simp [splice]; omega)) | exact vplace (by simp; done) (by omega) | exact vrow (by simp; done) (by omega) | exact vtiles (by simp) | exact vsplice (by simp) (by simp) | refine ceq ?_ ?_ | refine Eq.trans (vsplice (by first | (simp; done) | (simp; omega)) (by first | (simp; done) | (simp; omega))) ?_)), ?_⟩
    conv => whnf
    repeat (first | (refine And.intro (by first | exact Nat.le_of_ble_eq_true rfl | exact mapOkP | exact rfl | decide | omega | (simp [splice]; done) | (constructor <;> omega) | (simp [splice]; omega)) ?_; conv => whnf) | (refine optK_of (raiA (by omega)) ?_; conv => whnf) | (refine optK_of (raiA' (by omega)) ?_; conv => whnf) | (refine optK_of (dripA (by omega) (by omega)) ?_; conv => whnf) | (refine optK_of (roofN (by omega) (by omega)) ?_; conv => whnf) | (refine optK_of (gridN (by omega) (by omega)) ?_; conv => whnf) | (refine optK_of (flowG) ?_; conv => whnf) | (refine optK_of (flowM) ?_; conv => whnf) | (refine optK_of (intA (by omega)) ?_; conv => whnf) | (refine optK_of (intA' (by omega)) ?_; conv => whnf))
    first | refine ⟨rfl, _, rfl, ?_⟩ | refine ⟨_, rfl, ?_⟩
    rfl
  have h1' : ¬ k = 1 := by simpa using h1
  conv => whnf
  repeat (first | (refine And.intro (by first | exact Nat.le_of_ble_eq_true rfl | exact mapOkP | exact rfl | decide | omega | (simp [splice]; done) | (constructor <;> omega) | (simp [splice]; omega)) ?_; conv => whnf) | (refine optK_of (raiA (by omega)) ?_; conv => whnf) | (refine optK_of (raiA' (by omega)) ?_; conv => whnf) | (refine optK_of (dripA (by omega) (by omega)) ?_; conv => whnf) | (refine optK_of (roofN (by omega) (by omega)) ?_; conv => whnf) | (refine optK_of (gridN (by omega) (by omega)) ?_; conv => whnf) | (refine optK_of (flowG) ?_; conv => whnf) | (refine optK_of (flowM) ?_; conv => whnf) | (refine optK_of (intA (by omega)) ?_; conv => whnf) | (refine optK_of (intA' (by omega)) ?_; conv => whnf))
  cases h2 : (k == 2)
  case true =>
    have h2' : k = 2 := by simpa using h2
    rw [show dofI k a n = (n + 3 - 1).tdiv 3 by unfold dofI; rw [if_neg h1', if_pos h2', show n + 3 - 1 = n + 2 by omega]]
    conv => whnf
    repeat (first | (refine And.intro (by first | exact Nat.le_of_ble_eq_true rfl | exact mapOkP | exact rfl | decide | omega | (simp [splice]; done) | (constructor <;> omega) | (simp [splice]; omega)) ?_; conv => whnf) | (refine optK_of (raiA (by omega)) ?_; conv => whnf) | (refine optK_of (raiA' (by omega)) ?_; conv => whnf) | (refine optK_of (dripA (by omega) (by omega)) ?_; conv => whnf) | (refine optK_of (roofN (by omega) (by omega)) ?_; conv => whnf) | (refine optK_of (gridN (by omega) (by omega)) ?_; conv => whnf) | (refine optK_of (flowG) ?_; conv => whnf) | (refine optK_of (flowM) ?_; conv => whnf) | (refine optK_of (intA (by omega)) ?_; conv => whnf) | (refine optK_of (intA' (by omega)) ?_; conv => whnf))
    first | refine ⟨_, _, rfl, Sat.of_eq (up32_sat n 3 hn (by omega)) (by repeat (first | rfl | exact vfull (by first | (simp [splice]; done) | (simp [splice]; omega)) | exact rfull (by first | (simp [splice]; done) | (simp [splice]; omega)) | exact vplace (by simp; done) (by omega) | exact vrow (by simp; done) (by omega) | exact vtiles (by simp) | exact vsplice (by simp) (by simp) | refine ceq ?_ ?_ | refine Eq.trans (vsplice (by first | (simp; done) | (simp; omega)) (by first | (simp; done) | (simp; omega))) ?_)), ?_⟩ | refine .inl ⟨_, _, rfl, Sat.of_eq (up32_sat n 3 hn (by omega)) (by repeat (first | rfl | exact vfull (by first | (simp [splice]; done) | (simp [splice]; omega)) | exact rfull (by first | (simp [splice]; done) | (simp [splice]; omega)) | exact vplace (by simp; done) (by omega) | exact vrow (by simp; done) (by omega) | exact vtiles (by simp) | exact vsplice (by simp) (by simp) | refine ceq ?_ ?_ | refine Eq.trans (vsplice (by first | (simp; done) | (simp; omega)) (by first | (simp; done) | (simp; omega))) ?_)), ?_⟩
    conv => whnf
    repeat (first | (refine And.intro (by first | exact Nat.le_of_ble_eq_true rfl | exact mapOkP | exact rfl | decide | omega | (simp [splice]; done) | (constructor <;> omega) | (simp [splice]; omega)) ?_; conv => whnf) | (refine optK_of (raiA (by omega)) ?_; conv => whnf) | (refine optK_of (raiA' (by omega)) ?_; conv => whnf) | (refine optK_of (dripA (by omega) (by omega)) ?_; conv => whnf) | (refine optK_of (roofN (by omega) (by omega)) ?_; conv => whnf) | (refine optK_of (gridN (by omega) (by omega)) ?_; conv => whnf) | (refine optK_of (flowG) ?_; conv => whnf) | (refine optK_of (flowM) ?_; conv => whnf) | (refine optK_of (intA (by omega)) ?_; conv => whnf) | (refine optK_of (intA' (by omega)) ?_; conv => whnf))
    first | refine ⟨rfl, _, rfl, ?_⟩ | refine ⟨_, rfl, ?_⟩
    rfl
  have h2' : ¬ k = 2 := by simpa using h2
  conv => whnf
  repeat (first | (refine And.intro (by first | exact Nat.le_of_ble_eq_true rfl | exact mapOkP | exact rfl | decide | omega | (simp [splice]; done) | (constructor <;> omega) | (simp [splice]; omega)) ?_; conv => whnf) | (refine optK_of (raiA (by omega)) ?_; conv => whnf) | (refine optK_of (raiA' (by omega)) ?_; conv => whnf) | (refine optK_of (dripA (by omega) (by omega)) ?_; conv => whnf) | (refine optK_of (roofN (by omega) (by omega)) ?_; conv => whnf) | (refine optK_of (gridN (by omega) (by omega)) ?_; conv => whnf) | (refine optK_of (flowG) ?_; conv => whnf) | (refine optK_of (flowM) ?_; conv => whnf) | (refine optK_of (intA (by omega)) ?_; conv => whnf) | (refine optK_of (intA' (by omega)) ?_; conv => whnf))
  cases h3 : (k == 3)
  · have h3' : ¬ k = 3 := by simpa using h3
    rw [show dofI k a n = 0 by unfold dofI; rw [if_neg h1', if_neg h2', if_neg h3']]
    conv => whnf
    repeat (first | (refine And.intro (by first | exact Nat.le_of_ble_eq_true rfl | exact mapOkP | exact rfl | decide | omega | (simp [splice]; done) | (constructor <;> omega) | (simp [splice]; omega)) ?_; conv => whnf) | (refine optK_of (raiA (by omega)) ?_; conv => whnf) | (refine optK_of (raiA' (by omega)) ?_; conv => whnf) | (refine optK_of (dripA (by omega) (by omega)) ?_; conv => whnf) | (refine optK_of (roofN (by omega) (by omega)) ?_; conv => whnf) | (refine optK_of (gridN (by omega) (by omega)) ?_; conv => whnf) | (refine optK_of (flowG) ?_; conv => whnf) | (refine optK_of (flowM) ?_; conv => whnf) | (refine optK_of (intA (by omega)) ?_; conv => whnf) | (refine optK_of (intA' (by omega)) ?_; conv => whnf))
    first | refine ⟨rfl, _, rfl, ?_⟩ | refine ⟨_, rfl, ?_⟩
    rfl
  have h3' : k = 3 := by simpa using h3
  rw [show dofI k a n = if a = 2 then 0 else n by unfold dofI; rw [if_neg h1', if_neg h2', if_pos h3']]
  conv => whnf
  repeat (first | (refine And.intro (by first | exact Nat.le_of_ble_eq_true rfl | exact mapOkP | exact rfl | decide | omega | (simp [splice]; done) | (constructor <;> omega) | (simp [splice]; omega)) ?_; conv => whnf) | (refine optK_of (raiA (by omega)) ?_; conv => whnf) | (refine optK_of (raiA' (by omega)) ?_; conv => whnf) | (refine optK_of (dripA (by omega) (by omega)) ?_; conv => whnf) | (refine optK_of (roofN (by omega) (by omega)) ?_; conv => whnf) | (refine optK_of (gridN (by omega) (by omega)) ?_; conv => whnf) | (refine optK_of (flowG) ?_; conv => whnf) | (refine optK_of (flowM) ?_; conv => whnf) | (refine optK_of (intA (by omega)) ?_; conv => whnf) | (refine optK_of (intA' (by omega)) ?_; conv => whnf))
  cases h4 : (a != 2)
  · rw [if_pos (by simpa using h4)]
    conv => whnf
    repeat (first | (refine And.intro (by first | exact Nat.le_of_ble_eq_true rfl | exact mapOkP | exact rfl | decide | omega | (simp [splice]; done) | (constructor <;> omega) | (simp [splice]; omega)) ?_; conv => whnf) | (refine optK_of (raiA (by omega)) ?_; conv => whnf) | (refine optK_of (raiA' (by omega)) ?_; conv => whnf) | (refine optK_of (dripA (by omega) (by omega)) ?_; conv => whnf) | (refine optK_of (roofN (by omega) (by omega)) ?_; conv => whnf) | (refine optK_of (gridN (by omega) (by omega)) ?_; conv => whnf) | (refine optK_of (flowG) ?_; conv => whnf) | (refine optK_of (flowM) ?_; conv => whnf) | (refine optK_of (intA (by omega)) ?_; conv => whnf) | (refine optK_of (intA' (by omega)) ?_; conv => whnf))
    first | refine ⟨rfl, _, rfl, ?_⟩ | refine ⟨_, rfl, ?_⟩
    rfl
  rw [if_neg (by simpa using h4)]
  conv => whnf
  repeat (first | (refine And.intro (by first | exact Nat.le_of_ble_eq_true rfl | exact mapOkP | exact rfl | decide | omega | (simp [splice]; done) | (constructor <;> omega) | (simp [splice]; omega)) ?_; conv => whnf) | (refine optK_of (raiA (by omega)) ?_; conv => whnf) | (refine optK_of (raiA' (by omega)) ?_; conv => whnf) | (refine optK_of (dripA (by omega) (by omega)) ?_; conv => whnf) | (refine optK_of (roofN (by omega) (by omega)) ?_; conv => whnf) | (refine optK_of (gridN (by omega) (by omega)) ?_; conv => whnf) | (refine optK_of (flowG) ?_; conv => whnf) | (refine optK_of (flowM) ?_; conv => whnf) | (refine optK_of (intA (by omega)) ?_; conv => whnf) | (refine optK_of (intA' (by omega)) ?_; conv => whnf))
  first | refine ⟨rfl, _, rfl, ?_⟩ | refine ⟨_, rfl, ?_⟩
  rfl
theorem dofI_eq (r : Roof) (i c : Nat) (n : Int) : dofI (ovI r i c) (if 0 < i then ovI r (i - 1) c else 0) n = drI r i c n := by
  unfold dofI drI
  by_cases hi : 0 < i
  · simp only [hi, if_true, true_and]
  · simp only [hi, if_false, false_and]
    split
    · rfl
    · split
      · rfl
      · split <;> rfl
set_option maxRecDepth 20000 in
theorem l02Run_sat (r : Roof) (hr : r.In) (hb : (1 ≤ r.w ∧ r.w ≤ 8) ∧ (1 ≤ r.h ∧ r.h ≤ 8) ∧ r.s ≤ 1) (w : Nat → Int) (hw : ∀ c, c < 17 → 0 ≤ w c ∧ w c ≤ 1000) :
    Sat Try.prog 148 [.ref false (roofD r) 0, .ref false (raiD w) 0] (.tup [dripD (dR r w), dripD (cmR r w), intsD true (gtL r w (2 * r.w + 1).toNat)]) := by
  have eh : IntKind.i64.wrap r.h = r.h := w64 (by omega) (by omega)
  have ez : dripC (fun _ _ => 0) = List.replicate 136 (.int .i32 0) := dripC_zero
  refine sat_of_wp hMix tOk Try.func148 rfl rfl Try.ntmps148 rfl rfl Try.results148 (by kernel_rfl) ?_
  conv => whnf
  repeat (first | (refine And.intro (by first | exact Nat.le_of_ble_eq_true rfl | exact mapOkP | exact rfl | decide | omega | (simp [splice]; done) | (constructor <;> omega) | (simp [splice]; omega)) ?_; conv => whnf) | (refine optK_of (raiA (by omega)) ?_; conv => whnf) | (refine optK_of (raiA' (by omega)) ?_; conv => whnf) | (refine optK_of (dripA (by omega) (by omega)) ?_; conv => whnf) | (refine optK_of (roofN (by omega) (by omega)) ?_; conv => whnf) | (refine optK_of (gridN (by omega) (by omega)) ?_; conv => whnf) | (refine optK_of (flowG) ?_; conv => whnf) | (refine optK_of (flowM) ?_; conv => whnf) | (refine optK_of (intA (by omega)) ?_; conv => whnf) | (refine optK_of (intA' (by omega)) ?_; conv => whnf))
  refine loop_rule (α := Nat) (fun c => [(0, .ref false (roofD r) 0), (1, .ref false (raiD w) 0), (4, .ptr (4, 0, 0) 0), (5, .ptr (5, 0, 0) 0), (7, .ptr (7, 0, 0) 0), (8, .ptr (8, 0, 0) 0), (9, .slc true 1 (16, 0, 0) 0 c), (10, .v (.int .i64 c))]) (fun c => [((4, 0, 0), dripD (fun _ _ => 0)), ((5, 0, 0), dripD (fun _ _ => 0)), ((7, 0, 0), dripD (ptR (dR r w) c 0)), ((8, 0, 0), dripD (ptR (cmR r w) c 0)), ((16, 0, 0), .v (.agg ⟨intsC (gtL r w c)⟩))]) (fun c => c ≤ (2 * r.w + 1).toNat) (fun c => (2 * r.w + 1).toNat - c) (0) ?_ (sim_of (rn := [((4, 0, 0), (4, 0, 0)), ((5, 0, 0), (5, 0, 0)), ((7, 0, 0), (7, 0, 0)), ((8, 0, 0), (8, 0, 0)), ((16, 0, 0), (16, 0, 0))]) rfl ?_ ?_) ?_
  · first | omega | (dsimp only; omega) | ((repeat' apply And.intro) <;> omega) | (dsimp only; (repeat' apply And.intro) <;> omega) | trivial
  · ((repeat' (first | exact trivial | apply And.intro)) <;> (first | rfl | exact succ8 (by omega) | exact succ64 (by omega) | exact CapOk.fn (by assumption) _ _ | exact vintS (by omega) | exact vintS (by rw [w64 (by omega) (by omega)]; omega) | exact vintS (by rw [w8 (by omega) (by omega)]; omega) | exact vslcS (by omega) | exact vslcS (by simp)))
  · ((repeat' (first | exact trivial | apply And.intro)) <;> ((first | refine ⟨_, _, rfl, rfl, ?_⟩ | refine ⟨_, _, rfl, renFlow rfl rfl, ?_⟩); first | (first | exact cset ez.symm | exact cset intsC_nil.symm | exact cset (by rw [ptR_zero, ez]; rfl)) | rfl))
  intro c hc
  conv => whnf
  repeat (first | (refine And.intro (by first | exact Nat.le_of_ble_eq_true rfl | exact mapOkP | exact rfl | decide | omega | (simp [splice]; done) | (constructor <;> omega) | (simp [splice]; omega)) ?_; conv => whnf) | (refine optK_of (raiA (by omega)) ?_; conv => whnf) | (refine optK_of (raiA' (by omega)) ?_; conv => whnf) | (refine optK_of (dripA (by omega) (by omega)) ?_; conv => whnf) | (refine optK_of (roofN (by omega) (by omega)) ?_; conv => whnf) | (refine optK_of (gridN (by omega) (by omega)) ?_; conv => whnf) | (refine optK_of (flowG) ?_; conv => whnf) | (refine optK_of (flowM) ?_; conv => whnf) | (refine optK_of (intA (by omega)) ?_; conv => whnf) | (refine optK_of (intA' (by omega)) ?_; conv => whnf))
  first | refine ⟨_, _, rfl, Sat.of_eq (l01Cells_sat r hr hb) (by repeat (first | rfl | exact vfull (by first | (simp [splice]; done) | (simp [splice]; omega)) | exact rfull (by first | (simp [splice]; done) | (simp [splice]; omega)) | exact vplace (by simp; done) (by omega) | exact vrow (by simp; done) (by omega) | exact vtiles (by simp) | exact vsplice (by simp) (by simp) | refine ceq ?_ ?_ | refine Eq.trans (vsplice (by first | (simp; done) | (simp; omega)) (by first | (simp; done) | (simp; omega))) ?_)), ?_⟩ | refine .inl ⟨_, _, rfl, Sat.of_eq (l01Cells_sat r hr hb) (by repeat (first | rfl | exact vfull (by first | (simp [splice]; done) | (simp [splice]; omega)) | exact rfull (by first | (simp [splice]; done) | (simp [splice]; omega)) | exact vplace (by simp; done) (by omega) | exact vrow (by simp; done) (by omega) | exact vtiles (by simp) | exact vsplice (by simp) (by simp) | refine ceq ?_ ?_ | refine Eq.trans (vsplice (by first | (simp; done) | (simp; omega)) (by first | (simp; done) | (simp; omega))) ?_)), ?_⟩
  conv => whnf
  repeat (first | (refine And.intro (by first | exact Nat.le_of_ble_eq_true rfl | exact mapOkP | exact rfl | decide | omega | (simp [splice]; done) | (constructor <;> omega) | (simp [splice]; omega)) ?_; conv => whnf) | (refine optK_of (raiA (by omega)) ?_; conv => whnf) | (refine optK_of (raiA' (by omega)) ?_; conv => whnf) | (refine optK_of (dripA (by omega) (by omega)) ?_; conv => whnf) | (refine optK_of (roofN (by omega) (by omega)) ?_; conv => whnf) | (refine optK_of (gridN (by omega) (by omega)) ?_; conv => whnf) | (refine optK_of (flowG) ?_; conv => whnf) | (refine optK_of (flowM) ?_; conv => whnf) | (refine optK_of (intA (by omega)) ?_; conv => whnf) | (refine optK_of (intA' (by omega)) ?_; conv => whnf))
  have z0 : ∀ i c, (2 * r.w + 1).toNat ≤ c → dR r w i c = 0 := fun i c h => by unfold dR; rw [if_neg (by unfold onR; omega)]
  have z1 : ∀ i c, (2 * r.w + 1).toNat ≤ c → cmR r w i c = 0 := fun i c h => by unfold cmR; rw [if_neg (by unfold onR; omega)]
  cases h1 : decide ((c : Int) < 2 * r.w + 1)
  · have hcn : c = (2 * r.w + 1).toNat := by simp at h1; omega
    subst hcn
    rw [ptR_all z0, ptR_all z1]
    conv => whnf
    repeat (first | (refine And.intro (by first | exact Nat.le_of_ble_eq_true rfl | exact mapOkP | exact rfl | decide | omega | (simp [splice]; done) | (constructor <;> omega) | (simp [splice]; omega)) ?_; conv => whnf) | (refine optK_of (raiA (by omega)) ?_; conv => whnf) | (refine optK_of (raiA' (by omega)) ?_; conv => whnf) | (refine optK_of (dripA (by omega) (by omega)) ?_; conv => whnf) | (refine optK_of (roofN (by omega) (by omega)) ?_; conv => whnf) | (refine optK_of (gridN (by omega) (by omega)) ?_; conv => whnf) | (refine optK_of (flowG) ?_; conv => whnf) | (refine optK_of (flowM) ?_; conv => whnf) | (refine optK_of (intA (by omega)) ?_; conv => whnf) | (refine optK_of (intA' (by omega)) ?_; conv => whnf))
    first | refine ⟨rfl, _, rfl, ?_⟩ | refine ⟨_, rfl, ?_⟩
    skip
    rw [show intsD true (gtL r w (2 * r.w + 1).toNat) = .row true 1 (.v (.agg ⟨intsC (gtL r w (2 * r.w + 1).toNat)⟩)) (2 * r.w + 1).toNat by unfold intsD; rw [gtL_len]]
    exact congrArg2 (fun l l' => D.tup [.v (.agg ⟨l⟩), .v (.agg ⟨l'⟩), .row true 1 (.v (.agg ⟨intsC (gtL r w (2 * r.w + 1).toNat)⟩)) (2 * r.w + 1).toNat]) (two136 (x := dripC fun _ _ => 0) (y := dripC (dR r w)) (by simp) (by simp)) (two136 (x := dripC fun _ _ => 0) (y := dripC (cmR r w)) (by simp) (by simp))
  have hcn : (c : Int) < 2 * r.w + 1 := by simpa using h1
  have hwc := hw c (by omega)
  conv => whnf
  repeat (first | (refine And.intro (by first | exact Nat.le_of_ble_eq_true rfl | exact mapOkP | exact rfl | decide | omega | (simp [splice]; done) | (constructor <;> omega) | (simp [splice]; omega)) ?_; conv => whnf) | (refine optK_of (raiA (by omega)) ?_; conv => whnf) | (refine optK_of (raiA' (by omega)) ?_; conv => whnf) | (refine optK_of (dripA (by omega) (by omega)) ?_; conv => whnf) | (refine optK_of (roofN (by omega) (by omega)) ?_; conv => whnf) | (refine optK_of (gridN (by omega) (by omega)) ?_; conv => whnf) | (refine optK_of (flowG) ?_; conv => whnf) | (refine optK_of (flowM) ?_; conv => whnf) | (refine optK_of (intA (by omega)) ?_; conv => whnf) | (refine optK_of (intA' (by omega)) ?_; conv => whnf))
  rw [show IntKind.i64.wrap (w c) = w c from w64 (by omega) (by omega)]
  refine loop_rule (α := Nat) (fun i => [(0, .ref false (roofD r) 0), (1, .ref false (raiD w) 0), (4, .ptr (4, 0, 0) 0), (5, .ptr (5, 0, 0) 0), (7, .ptr (7, 0, 0) 0), (8, .ptr (8, 0, 0) 0), (9, .slc true 1 (16, 0, 0) 0 c), (10, .v (.int .i64 c)), (11, .v (.int .i64 (wtI r w c i))), (12, .v (.int .i64 i))]) (fun i => [((4, 0, 0), dripD (fun _ _ => 0)), ((5, 0, 0), dripD (fun _ _ => 0)), ((7, 0, 0), dripD (ptR (dR r w) c i)), ((8, 0, 0), dripD (ptR (cmR r w) c i)), ((16, 0, 0), .v (.agg ⟨intsC (gtL r w c)⟩))]) (fun i => i ≤ r.h.toNat) (fun i => r.h.toNat - i) (0) ?_ (sim_of (rn := [((4, 0, 0), (4, 0, 0)), ((5, 0, 0), (5, 0, 0)), ((7, 0, 0), (7, 0, 0)), ((8, 0, 0), (8, 0, 0)), ((16, 0, 0), (16, 0, 0))]) rfl ?_ ?_) ?_
  · first | omega | (dsimp only; omega) | ((repeat' apply And.intro) <;> omega) | (dsimp only; (repeat' apply And.intro) <;> omega) | trivial
  · ((repeat' (first | exact trivial | apply And.intro)) <;> (first | rfl | exact succ8 (by omega) | exact succ64 (by omega) | exact CapOk.fn (by assumption) _ _ | exact vintS (by omega) | exact vintS (by rw [w64 (by omega) (by omega)]; omega) | exact vintS (by rw [w8 (by omega) (by omega)]; omega) | exact vslcS (by omega) | exact vslcS (by simp)))
  · ((repeat' (first | exact trivial | apply And.intro)) <;> ((first | refine ⟨_, _, rfl, rfl, ?_⟩ | refine ⟨_, _, rfl, renFlow rfl rfl, ?_⟩); rfl))
  intro i hi
  have hwi := wtI_in r (w := w) (c := c) hwc i
  have hdi := drI_in r i c hwi.1
  conv => whnf
  repeat (first | (refine And.intro (by first | exact Nat.le_of_ble_eq_true rfl | exact mapOkP | exact rfl | decide | omega | (simp [splice]; done) | (constructor <;> omega) | (simp [splice]; omega)) ?_; conv => whnf) | (refine optK_of (raiA (by omega)) ?_; conv => whnf) | (refine optK_of (raiA' (by omega)) ?_; conv => whnf) | (refine optK_of (dripA (by omega) (by omega)) ?_; conv => whnf) | (refine optK_of (roofN (by omega) (by omega)) ?_; conv => whnf) | (refine optK_of (gridN (by omega) (by omega)) ?_; conv => whnf) | (refine optK_of (flowG) ?_; conv => whnf) | (refine optK_of (flowM) ?_; conv => whnf) | (refine optK_of (intA (by omega)) ?_; conv => whnf) | (refine optK_of (intA' (by omega)) ?_; conv => whnf))
  rw [eh]
  cases h2 : decide ((i : Int) < r.h)
  · have hih : i = r.h.toNat := by simp at h2; omega
    subst hih
    have e2 : intsC (gtL r w c) ++ [.int .i64 (wtI r w c r.h.toNat)] = intsC (gtL r w (c + 1)) := by rw [gtL_next, intsC_append, intsC_one]
    have c0 : ptR (dR r w) c r.h.toNat = ptR (dR r w) (c + 1) 0 := ptR_col fun i hi => by unfold dR; rw [if_neg (by unfold onR; omega)]
    have c1 : ptR (cmR r w) c r.h.toNat = ptR (cmR r w) (c + 1) 0 := ptR_col fun i hi => by unfold cmR; rw [if_neg (by unfold onR; omega)]
    rw [c0, c1]
    conv => whnf
    repeat (first | (refine And.intro (by first | exact Nat.le_of_ble_eq_true rfl | exact mapOkP | exact rfl | decide | omega | (simp [splice]; done) | (constructor <;> omega) | (simp [splice]; omega)) ?_; conv => whnf) | (refine optK_of (raiA (by omega)) ?_; conv => whnf) | (refine optK_of (raiA' (by omega)) ?_; conv => whnf) | (refine optK_of (dripA (by omega) (by omega)) ?_; conv => whnf) | (refine optK_of (roofN (by omega) (by omega)) ?_; conv => whnf) | (refine optK_of (gridN (by omega) (by omega)) ?_; conv => whnf) | (refine optK_of (flowG) ?_; conv => whnf) | (refine optK_of (flowM) ?_; conv => whnf) | (refine optK_of (intA (by omega)) ?_; conv => whnf) | (refine optK_of (intA' (by omega)) ?_; conv => whnf))
    refine ⟨c + 1, ?_, ?_, sim_of (rn := [((4, 0, 0), (4, 0, 0)), ((5, 0, 0), (5, 0, 0)), ((7, 0, 0), (7, 0, 0)), ((8, 0, 0), (8, 0, 0)), ((16, 0, 0), (61, 1, 0))]) rfl ?_ ?_⟩
    · (dsimp only; omega)
    · first | omega | (dsimp only; omega) | ((repeat' apply And.intro) <;> omega) | (dsimp only; (repeat' apply And.intro) <;> omega) | trivial
    · ((repeat' (first | exact trivial | apply And.intro)) <;> (first | rfl | exact succ8 (by omega) | exact succ64 (by omega) | exact CapOk.fn (by assumption) _ _ | exact vintS (by omega) | exact vintS (by rw [w64 (by omega) (by omega)]; omega) | exact vintS (by rw [w8 (by omega) (by omega)]; omega) | exact vslcS (by omega) | exact vslcS (by simp)))
    · ((repeat' (first | exact trivial | apply And.intro)) <;> ((first | refine ⟨_, _, rfl, rfl, ?_⟩ | refine ⟨_, _, rfl, renFlow rfl rfl, ?_⟩); first | (exact cset e2) | rfl))
  have hih : (i : Int) < r.h := by simpa using h2
  have hon : onR r i c := ⟨hih, hcn⟩
  have ed : dR r w i c = drI r i c (wtI r w c i) := by unfold dR; rw [if_pos hon]
  have em : cmR r w i c = wtI r w c i := by unfold cmR; rw [if_pos hon]
  conv => whnf
  repeat (first | (refine And.intro (by first | exact Nat.le_of_ble_eq_true rfl | exact mapOkP | exact rfl | decide | omega | (simp [splice]; done) | (constructor <;> omega) | (simp [splice]; omega)) ?_; conv => whnf) | (refine optK_of (raiA (by omega)) ?_; conv => whnf) | (refine optK_of (raiA' (by omega)) ?_; conv => whnf) | (refine optK_of (dripA (by omega) (by omega)) ?_; conv => whnf) | (refine optK_of (roofN (by omega) (by omega)) ?_; conv => whnf) | (refine optK_of (gridN (by omega) (by omega)) ?_; conv => whnf) | (refine optK_of (flowG) ?_; conv => whnf) | (refine optK_of (flowM) ?_; conv => whnf) | (refine optK_of (intA (by omega)) ?_; conv => whnf) | (refine optK_of (intA' (by omega)) ?_; conv => whnf))
  first | refine ⟨_, _, rfl, Sat.of_eq (l02Drip_sat r hr hb i c (by omega) (by omega) (wtI r w c i) hwi) (by repeat (first | rfl | exact vfull (by first | (simp [splice]; done) | (simp [splice]; omega)) | exact rfull (by first | (simp [splice]; done) | (simp [splice]; omega)) | exact vplace (by simp; done) (by omega) | exact vrow (by simp; done) (by omega) | exact vtiles (by simp) | exact vsplice (by simp) (by simp) | refine ceq ?_ ?_ | refine Eq.trans (vsplice (by first | (simp; done) | (simp; omega)) (by first | (simp; done) | (simp; omega))) ?_)), ?_⟩ | refine .inl ⟨_, _, rfl, Sat.of_eq (l02Drip_sat r hr hb i c (by omega) (by omega) (wtI r w c i) hwi) (by repeat (first | rfl | exact vfull (by first | (simp [splice]; done) | (simp [splice]; omega)) | exact rfull (by first | (simp [splice]; done) | (simp [splice]; omega)) | exact vplace (by simp; done) (by omega) | exact vrow (by simp; done) (by omega) | exact vtiles (by simp) | exact vsplice (by simp) (by simp) | refine ceq ?_ ?_ | refine Eq.trans (vsplice (by first | (simp; done) | (simp; omega)) (by first | (simp; done) | (simp; omega))) ?_)), ?_⟩
  conv => whnf
  repeat (first | (refine And.intro (by first | exact Nat.le_of_ble_eq_true rfl | exact mapOkP | exact rfl | decide | omega | (simp [splice]; done) | (constructor <;> omega) | (simp [splice]; omega)) ?_; conv => whnf) | (refine optK_of (raiA (by omega)) ?_; conv => whnf) | (refine optK_of (raiA' (by omega)) ?_; conv => whnf) | (refine optK_of (dripA (by omega) (by omega)) ?_; conv => whnf) | (refine optK_of (roofN (by omega) (by omega)) ?_; conv => whnf) | (refine optK_of (gridN (by omega) (by omega)) ?_; conv => whnf) | (refine optK_of (flowG) ?_; conv => whnf) | (refine optK_of (flowM) ?_; conv => whnf) | (refine optK_of (intA (by omega)) ?_; conv => whnf) | (refine optK_of (intA' (by omega)) ?_; conv => whnf))
  have setD : (dripC (ptR (dR r w) c i)).set (0 + (i : Int).toNat * 17 + (c : Int).toNat * 1) (.int .i32 (IntKind.i32.wrap (drI r i c (wtI r w c i)))) = dripC (ptR (dR r w) c (i + 1)) := by
    rw [w32 (by omega) (by omega), drip_set (i := i) (c := c) (by simp) (by omega) (by omega), ← ed, ptR_put]
  have setM : (dripC (ptR (cmR r w) c i)).set (0 + (i : Int).toNat * 17 + (c : Int).toNat * 1) (.int .i32 (IntKind.i32.wrap (wtI r w c i))) = dripC (ptR (cmR r w) c (i + 1)) := by
    rw [w32 (by omega) (by omega), drip_set (i := i) (c := c) (by simp) (by omega) (by omega), ← em, ptR_put]
  have ew : wtI r w c (i + 1) = IntKind.i64.wrap (wtI r w c i - drI r i c (wtI r w c i)) := by rw [w64 (by omega) (by omega)]; rfl
  refine ⟨i + 1, ?_, ?_, sim_of (rn := [((4, 0, 0), (4, 0, 0)), ((5, 0, 0), (5, 0, 0)), ((7, 0, 0), (7, 0, 0)), ((8, 0, 0), (8, 0, 0)), ((16, 0, 0), (16, 0, 0))]) rfl ?_ ?_⟩
  · (dsimp only; omega)
  · first | omega | (dsimp only; omega) | ((repeat' apply And.intro) <;> omega) | (dsimp only; (repeat' apply And.intro) <;> omega) | trivial
  · ((repeat' (first | exact trivial | apply And.intro)) <;> (first | rfl | (exact vintS ew) | exact succ8 (by omega) | exact succ64 (by omega) | exact CapOk.fn (by assumption) _ _ | exact vintS (by omega) | exact vintS (by rw [w64 (by omega) (by omega)]; omega) | exact vintS (by rw [w8 (by omega) (by omega)]; omega) | exact vslcS (by omega) | exact vslcS (by simp)))
  · ((repeat' (first | exact trivial | apply And.intro)) <;> ((first | refine ⟨_, _, rfl, rfl, ?_⟩ | refine ⟨_, _, rfl, renFlow rfl rfl, ?_⟩); first | (first | exact cset setD | exact cset setM) | rfl))
end Go.Proofs.Ytndlknhakdadjaa
