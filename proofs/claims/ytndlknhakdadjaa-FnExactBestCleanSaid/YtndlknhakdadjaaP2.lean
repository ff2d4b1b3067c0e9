import Derived.Test.YtndlknhakdadjaaP1
set_option linter.unusedVariables false
set_option linter.unusedSimpArgs false
/- Contracts: valid gutters and water, both sides. -/
set_option linter.unusedVariables false
set_option linter.unusedSimpArgs false
namespace Go.V
theorem vfullS {l : List Value} {n : Nat} (h : l.length ≤ n) : some (D.v (.agg ⟨l⟩)) = some (D.v (.agg ⟨(l.drop 0).take n⟩)) := by rw [List.drop_zero, take_full h]
theorem pipeSA {ps : List (Int × Int)} {i : Nat} {x y : Value} (h : i < ps.length) : nth (splice [x, y] 0 (((pipesC ps).drop ((i : Int).toNat * 2)).take 2)) 0 = some (.int .i8 (px ps i).1) := by
  rw [show (i : Int).toNat * 2 = i * 2 by simp, pipe_sub h]; rfl
theorem pipeSB {ps : List (Int × Int)} {i : Nat} {x y : Value} (h : i < ps.length) : nth (splice [x, y] 0 (((pipesC ps).drop ((i : Int).toNat * 2)).take 2)) 1 = some (.int .i16 (px ps i).2) := by
  rw [show (i : Int).toNat * 2 = i * 2 by simp, pipe_sub h]; rfl
end Go.V
namespace Go.Proofs.Ytndlknhakdadjaa
open Go.V
theorem l06Deep_sat (x : Int) : Sat Try.prog 139 [.v (.int .i64 x)] (.v (.bool (deepB x))) := by
  refine sat_of_wp hMix tOk Try.func139 rfl rfl Try.ntmps139 rfl rfl Try.results139 (by kernel_rfl) ?_
  conv => whnf
  repeat (first | (refine And.intro (by first | exact Nat.le_of_ble_eq_true rfl | exact rfl | decide | omega | (simp [splice]; done) | (constructor <;> omega) | (simp [splice]; omega)) ?_; conv => whnf) | (refine optK_of (watA (by omega)) ?_; conv => whnf) | (refine optK_of (watA' (by omega)) ?_; conv => whnf) | (refine optK_of (hDA (by omega)) ?_; conv => whnf) | (refine optK_of (hDA' (by omega)) ?_; conv => whnf) | (refine optK_of (gutA (by omega)) ?_; conv => whnf) | (refine optK_of (pipeA (by omega)) ?_; conv => whnf) | (refine optK_of (pipeB (by omega)) ?_; conv => whnf) | (refine optK_of (pipeSA (by omega)) ?_; conv => whnf) | (refine optK_of (pipeSB (by omega)) ?_; conv => whnf) | (refine optK_of (intA (by omega)) ?_; conv => whnf) | (refine optK_of (intA' (by omega)) ?_; conv => whnf))
  first | refine ⟨_, _, rfl, Sat.of_eq (l00In_sat _ _ _) (by repeat (first | rfl | exact vfull (by first | (simp [splice]; done) | (simp [splice]; omega)) | exact rfull (by first | (simp [splice]; done) | (simp [splice]; omega)) | exact vpipe (by simp; done) (by omega) | exact vsplice (by simp) (by simp) | refine ceq ?_ ?_ | refine Eq.trans (vsplice (by first | (simp; done) | (simp; omega)) (by first | (simp; done) | (simp; omega))) ?_)), ?_⟩ | refine .inl ⟨_, _, rfl, Sat.of_eq (l00In_sat _ _ _) (by repeat (first | rfl | exact vfull (by first | (simp [splice]; done) | (simp [splice]; omega)) | exact rfull (by first | (simp [splice]; done) | (simp [splice]; omega)) | exact vpipe (by simp; done) (by omega) | exact vsplice (by simp) (by simp) | refine ceq ?_ ?_ | refine Eq.trans (vsplice (by first | (simp; done) | (simp; omega)) (by first | (simp; done) | (simp; omega))) ?_)), ?_⟩
  conv => whnf
  repeat (first | (refine And.intro (by first | exact Nat.le_of_ble_eq_true rfl | exact rfl | decide | omega | (simp [splice]; done) | (constructor <;> omega) | (simp [splice]; omega)) ?_; conv => whnf) | (refine optK_of (watA (by omega)) ?_; conv => whnf) | (refine optK_of (watA' (by omega)) ?_; conv => whnf) | (refine optK_of (hDA (by omega)) ?_; conv => whnf) | (refine optK_of (hDA' (by omega)) ?_; conv => whnf) | (refine optK_of (gutA (by omega)) ?_; conv => whnf) | (refine optK_of (pipeA (by omega)) ?_; conv => whnf) | (refine optK_of (pipeB (by omega)) ?_; conv => whnf) | (refine optK_of (pipeSA (by omega)) ?_; conv => whnf) | (refine optK_of (pipeSB (by omega)) ?_; conv => whnf) | (refine optK_of (intA (by omega)) ?_; conv => whnf) | (refine optK_of (intA' (by omega)) ?_; conv => whnf))
  first | refine ⟨rfl, _, rfl, ?_⟩ | refine ⟨_, rfl, ?_⟩
  rfl
theorem isDeep64_sat (x : Int) : Sat Try.prog 145 [.v (.int .i64 x)] (.v (.bool (deepB x))) := by
  refine sat_of_wp hMix tOk Try.func145 rfl rfl Try.ntmps145 rfl rfl Try.results145 (by kernel_rfl) ?_
  conv => whnf
  repeat (first | (refine And.intro (by first | exact Nat.le_of_ble_eq_true rfl | exact rfl | decide | omega | (simp [splice]; done) | (constructor <;> omega) | (simp [splice]; omega)) ?_; conv => whnf) | (refine optK_of (watA (by omega)) ?_; conv => whnf) | (refine optK_of (watA' (by omega)) ?_; conv => whnf) | (refine optK_of (hDA (by omega)) ?_; conv => whnf) | (refine optK_of (hDA' (by omega)) ?_; conv => whnf) | (refine optK_of (gutA (by omega)) ?_; conv => whnf) | (refine optK_of (pipeA (by omega)) ?_; conv => whnf) | (refine optK_of (pipeB (by omega)) ?_; conv => whnf) | (refine optK_of (pipeSA (by omega)) ?_; conv => whnf) | (refine optK_of (pipeSB (by omega)) ?_; conv => whnf) | (refine optK_of (intA (by omega)) ?_; conv => whnf) | (refine optK_of (intA' (by omega)) ?_; conv => whnf))
  first | refine ⟨_, _, rfl, Sat.of_eq (within64_sat _ _ _) (by repeat (first | rfl | exact vfull (by first | (simp [splice]; done) | (simp [splice]; omega)) | exact rfull (by first | (simp [splice]; done) | (simp [splice]; omega)) | exact vpipe (by simp; done) (by omega) | exact vsplice (by simp) (by simp) | refine ceq ?_ ?_ | refine Eq.trans (vsplice (by first | (simp; done) | (simp; omega)) (by first | (simp; done) | (simp; omega))) ?_)), ?_⟩ | refine .inl ⟨_, _, rfl, Sat.of_eq (within64_sat _ _ _) (by repeat (first | rfl | exact vfull (by first | (simp [splice]; done) | (simp [splice]; omega)) | exact rfull (by first | (simp [splice]; done) | (simp [splice]; omega)) | exact vpipe (by simp; done) (by omega) | exact vsplice (by simp) (by simp) | refine ceq ?_ ?_ | refine Eq.trans (vsplice (by first | (simp; done) | (simp; omega)) (by first | (simp; done) | (simp; omega))) ?_)), ?_⟩
  conv => whnf
  repeat (first | (refine And.intro (by first | exact Nat.le_of_ble_eq_true rfl | exact rfl | decide | omega | (simp [splice]; done) | (constructor <;> omega) | (simp [splice]; omega)) ?_; conv => whnf) | (refine optK_of (watA (by omega)) ?_; conv => whnf) | (refine optK_of (watA' (by omega)) ?_; conv => whnf) | (refine optK_of (hDA (by omega)) ?_; conv => whnf) | (refine optK_of (hDA' (by omega)) ?_; conv => whnf) | (refine optK_of (gutA (by omega)) ?_; conv => whnf) | (refine optK_of (pipeA (by omega)) ?_; conv => whnf) | (refine optK_of (pipeB (by omega)) ?_; conv => whnf) | (refine optK_of (pipeSA (by omega)) ?_; conv => whnf) | (refine optK_of (pipeSB (by omega)) ?_; conv => whnf) | (refine optK_of (intA (by omega)) ?_; conv => whnf) | (refine optK_of (intA' (by omega)) ?_; conv => whnf))
  first | refine ⟨rfl, _, rfl, ?_⟩ | refine ⟨_, rfl, ?_⟩
  rfl
theorem isDeep16_sat (x : Int) (hx : -32768 ≤ x ∧ x ≤ 32767) : Sat Try.prog 198 [.v (.int .i16 x)] (.v (.bool (deepB x))) := by
  refine sat_of_wp hMix tOk Try.func198 rfl rfl Try.ntmps198 rfl rfl Try.results198 (by kernel_rfl) ?_
  conv => whnf
  repeat (first | (refine And.intro (by first | exact Nat.le_of_ble_eq_true rfl | exact rfl | decide | omega | (simp [splice]; done) | (constructor <;> omega) | (simp [splice]; omega)) ?_; conv => whnf) | (refine optK_of (watA (by omega)) ?_; conv => whnf) | (refine optK_of (watA' (by omega)) ?_; conv => whnf) | (refine optK_of (hDA (by omega)) ?_; conv => whnf) | (refine optK_of (hDA' (by omega)) ?_; conv => whnf) | (refine optK_of (gutA (by omega)) ?_; conv => whnf) | (refine optK_of (pipeA (by omega)) ?_; conv => whnf) | (refine optK_of (pipeB (by omega)) ?_; conv => whnf) | (refine optK_of (pipeSA (by omega)) ?_; conv => whnf) | (refine optK_of (pipeSB (by omega)) ?_; conv => whnf) | (refine optK_of (intA (by omega)) ?_; conv => whnf) | (refine optK_of (intA' (by omega)) ?_; conv => whnf))
  rw [show IntKind.i64.wrap x = x from w64 (by omega) (by omega)]
  first | refine ⟨_, _, rfl, Sat.of_eq (within64_sat _ _ _) (by repeat (first | rfl | exact vfull (by first | (simp [splice]; done) | (simp [splice]; omega)) | exact rfull (by first | (simp [splice]; done) | (simp [splice]; omega)) | exact vpipe (by simp; done) (by omega) | exact vsplice (by simp) (by simp) | refine ceq ?_ ?_ | refine Eq.trans (vsplice (by first | (simp; done) | (simp; omega)) (by first | (simp; done) | (simp; omega))) ?_)), ?_⟩ | refine .inl ⟨_, _, rfl, Sat.of_eq (within64_sat _ _ _) (by repeat (first | rfl | exact vfull (by first | (simp [splice]; done) | (simp [splice]; omega)) | exact rfull (by first | (simp [splice]; done) | (simp [splice]; omega)) | exact vpipe (by simp; done) (by omega) | exact vsplice (by simp) (by simp) | refine ceq ?_ ?_ | refine Eq.trans (vsplice (by first | (simp; done) | (simp; omega)) (by first | (simp; done) | (simp; omega))) ?_)), ?_⟩
  conv => whnf
  repeat (first | (refine And.intro (by first | exact Nat.le_of_ble_eq_true rfl | exact rfl | decide | omega | (simp [splice]; done) | (constructor <;> omega) | (simp [splice]; omega)) ?_; conv => whnf) | (refine optK_of (watA (by omega)) ?_; conv => whnf) | (refine optK_of (watA' (by omega)) ?_; conv => whnf) | (refine optK_of (hDA (by omega)) ?_; conv => whnf) | (refine optK_of (hDA' (by omega)) ?_; conv => whnf) | (refine optK_of (gutA (by omega)) ?_; conv => whnf) | (refine optK_of (pipeA (by omega)) ?_; conv => whnf) | (refine optK_of (pipeB (by omega)) ?_; conv => whnf) | (refine optK_of (pipeSA (by omega)) ?_; conv => whnf) | (refine optK_of (pipeSB (by omega)) ?_; conv => whnf) | (refine optK_of (intA (by omega)) ?_; conv => whnf) | (refine optK_of (intA' (by omega)) ?_; conv => whnf))
  first | refine ⟨rfl, _, rfl, ?_⟩ | refine ⟨_, rfl, ?_⟩
  rfl
theorem l06Ok_sat (g : Gut) (hg : g.In) : Sat Try.prog 168 [.ref false (gutD false g) 0] (.v (.bool (okG g))) := by
  have hn := hg.n
  have hdp := hg.dp
  have en : IntKind.i64.wrap g.n = g.n := w64 (by omega) (by omega)
  have ed : IntKind.i64.wrap g.dp = g.dp := w64 (by omega) (by omega)
  refine sat_of_wp hMix tOk Try.func168 rfl rfl Try.ntmps168 rfl rfl Try.results168 (by kernel_rfl) ?_
  conv => whnf
  repeat (first | (refine And.intro (by first | exact Nat.le_of_ble_eq_true rfl | exact rfl | decide | omega | (simp [splice]; done) | (constructor <;> omega) | (simp [splice]; omega)) ?_; conv => whnf) | (refine optK_of (watA (by omega)) ?_; conv => whnf) | (refine optK_of (watA' (by omega)) ?_; conv => whnf) | (refine optK_of (hDA (by omega)) ?_; conv => whnf) | (refine optK_of (hDA' (by omega)) ?_; conv => whnf) | (refine optK_of (gutA (by omega)) ?_; conv => whnf) | (refine optK_of (pipeA (by omega)) ?_; conv => whnf) | (refine optK_of (pipeB (by omega)) ?_; conv => whnf) | (refine optK_of (pipeSA (by omega)) ?_; conv => whnf) | (refine optK_of (pipeSB (by omega)) ?_; conv => whnf) | (refine optK_of (intA (by omega)) ?_; conv => whnf) | (refine optK_of (intA' (by omega)) ?_; conv => whnf))
  rw [en]
  first | refine ⟨_, _, rfl, Sat.of_eq (l00In_sat _ _ _) (by repeat (first | rfl | exact vfull (by first | (simp [splice]; done) | (simp [splice]; omega)) | exact rfull (by first | (simp [splice]; done) | (simp [splice]; omega)) | exact vpipe (by simp; done) (by omega) | exact vsplice (by simp) (by simp) | refine ceq ?_ ?_ | refine Eq.trans (vsplice (by first | (simp; done) | (simp; omega)) (by first | (simp; done) | (simp; omega))) ?_)), ?_⟩ | refine .inl ⟨_, _, rfl, Sat.of_eq (l00In_sat _ _ _) (by repeat (first | rfl | exact vfull (by first | (simp [splice]; done) | (simp [splice]; omega)) | exact rfull (by first | (simp [splice]; done) | (simp [splice]; omega)) | exact vpipe (by simp; done) (by omega) | exact vsplice (by simp) (by simp) | refine ceq ?_ ?_ | refine Eq.trans (vsplice (by first | (simp; done) | (simp; omega)) (by first | (simp; done) | (simp; omega))) ?_)), ?_⟩
  conv => whnf
  repeat (first | (refine And.intro (by first | exact Nat.le_of_ble_eq_true rfl | exact rfl | decide | omega | (simp [splice]; done) | (constructor <;> omega) | (simp [splice]; omega)) ?_; conv => whnf) | (refine optK_of (watA (by omega)) ?_; conv => whnf) | (refine optK_of (watA' (by omega)) ?_; conv => whnf) | (refine optK_of (hDA (by omega)) ?_; conv => whnf) | (refine optK_of (hDA' (by omega)) ?_; conv => whnf) | (refine optK_of (gutA (by omega)) ?_; conv => whnf) | (refine optK_of (pipeA (by omega)) ?_; conv => whnf) | (refine optK_of (pipeB (by omega)) ?_; conv => whnf) | (refine optK_of (pipeSA (by omega)) ?_; conv => whnf) | (refine optK_of (pipeSB (by omega)) ?_; conv => whnf) | (refine optK_of (intA (by omega)) ?_; conv => whnf) | (refine optK_of (intA' (by omega)) ?_; conv => whnf))
  cases h1 : (decide (g.n ≥ 1) && decide (g.n ≤ 17))
  · rw [show okG g = false by unfold okG okG0; rw [show (decide (1 ≤ g.n) && decide (g.n ≤ 17)) = false from h1]; rfl]
    conv => whnf
    repeat (first | (refine And.intro (by first | exact Nat.le_of_ble_eq_true rfl | exact rfl | decide | omega | (simp [splice]; done) | (constructor <;> omega) | (simp [splice]; omega)) ?_; conv => whnf) | (refine optK_of (watA (by omega)) ?_; conv => whnf) | (refine optK_of (watA' (by omega)) ?_; conv => whnf) | (refine optK_of (hDA (by omega)) ?_; conv => whnf) | (refine optK_of (hDA' (by omega)) ?_; conv => whnf) | (refine optK_of (gutA (by omega)) ?_; conv => whnf) | (refine optK_of (pipeA (by omega)) ?_; conv => whnf) | (refine optK_of (pipeB (by omega)) ?_; conv => whnf) | (refine optK_of (pipeSA (by omega)) ?_; conv => whnf) | (refine optK_of (pipeSB (by omega)) ?_; conv => whnf) | (refine optK_of (intA (by omega)) ?_; conv => whnf) | (refine optK_of (intA' (by omega)) ?_; conv => whnf))
    first | refine ⟨rfl, _, rfl, ?_⟩ | refine ⟨_, rfl, ?_⟩
    rfl
  have h1' : 1 ≤ g.n ∧ g.n ≤ 17 := by simpa using h1
  have eu : IntKind.u64.wrap g.n = g.n := wu64 (by omega) (by omega)
  conv => whnf
  repeat (first | (refine And.intro (by first | exact Nat.le_of_ble_eq_true rfl | exact rfl | decide | omega | (simp [splice]; done) | (constructor <;> omega) | (simp [splice]; omega)) ?_; conv => whnf) | (refine optK_of (watA (by omega)) ?_; conv => whnf) | (refine optK_of (watA' (by omega)) ?_; conv => whnf) | (refine optK_of (hDA (by omega)) ?_; conv => whnf) | (refine optK_of (hDA' (by omega)) ?_; conv => whnf) | (refine optK_of (gutA (by omega)) ?_; conv => whnf) | (refine optK_of (pipeA (by omega)) ?_; conv => whnf) | (refine optK_of (pipeB (by omega)) ?_; conv => whnf) | (refine optK_of (pipeSA (by omega)) ?_; conv => whnf) | (refine optK_of (pipeSB (by omega)) ?_; conv => whnf) | (refine optK_of (intA (by omega)) ?_; conv => whnf) | (refine optK_of (intA' (by omega)) ?_; conv => whnf))
  rw [ed]
  first | refine ⟨_, _, rfl, Sat.of_eq (l06Deep_sat _) (by repeat (first | rfl | exact vfull (by first | (simp [splice]; done) | (simp [splice]; omega)) | exact rfull (by first | (simp [splice]; done) | (simp [splice]; omega)) | exact vpipe (by simp; done) (by omega) | exact vsplice (by simp) (by simp) | refine ceq ?_ ?_ | refine Eq.trans (vsplice (by first | (simp; done) | (simp; omega)) (by first | (simp; done) | (simp; omega))) ?_)), ?_⟩ | refine .inl ⟨_, _, rfl, Sat.of_eq (l06Deep_sat _) (by repeat (first | rfl | exact vfull (by first | (simp [splice]; done) | (simp [splice]; omega)) | exact rfull (by first | (simp [splice]; done) | (simp [splice]; omega)) | exact vpipe (by simp; done) (by omega) | exact vsplice (by simp) (by simp) | refine ceq ?_ ?_ | refine Eq.trans (vsplice (by first | (simp; done) | (simp; omega)) (by first | (simp; done) | (simp; omega))) ?_)), ?_⟩
  conv => whnf
  repeat (first | (refine And.intro (by first | exact Nat.le_of_ble_eq_true rfl | exact rfl | decide | omega | (simp [splice]; done) | (constructor <;> omega) | (simp [splice]; omega)) ?_; conv => whnf) | (refine optK_of (watA (by omega)) ?_; conv => whnf) | (refine optK_of (watA' (by omega)) ?_; conv => whnf) | (refine optK_of (hDA (by omega)) ?_; conv => whnf) | (refine optK_of (hDA' (by omega)) ?_; conv => whnf) | (refine optK_of (gutA (by omega)) ?_; conv => whnf) | (refine optK_of (pipeA (by omega)) ?_; conv => whnf) | (refine optK_of (pipeB (by omega)) ?_; conv => whnf) | (refine optK_of (pipeSA (by omega)) ?_; conv => whnf) | (refine optK_of (pipeSB (by omega)) ?_; conv => whnf) | (refine optK_of (intA (by omega)) ?_; conv => whnf) | (refine optK_of (intA' (by omega)) ?_; conv => whnf))
  cases h2 : deepB g.dp
  · rw [show okG g = false by unfold okG okG0; rw [show (decide (1 ≤ g.n) && decide (g.n ≤ 17)) = true from h1, h2]; rfl]
    conv => whnf
    repeat (first | (refine And.intro (by first | exact Nat.le_of_ble_eq_true rfl | exact rfl | decide | omega | (simp [splice]; done) | (constructor <;> omega) | (simp [splice]; omega)) ?_; conv => whnf) | (refine optK_of (watA (by omega)) ?_; conv => whnf) | (refine optK_of (watA' (by omega)) ?_; conv => whnf) | (refine optK_of (hDA (by omega)) ?_; conv => whnf) | (refine optK_of (hDA' (by omega)) ?_; conv => whnf) | (refine optK_of (gutA (by omega)) ?_; conv => whnf) | (refine optK_of (pipeA (by omega)) ?_; conv => whnf) | (refine optK_of (pipeB (by omega)) ?_; conv => whnf) | (refine optK_of (pipeSA (by omega)) ?_; conv => whnf) | (refine optK_of (pipeSB (by omega)) ?_; conv => whnf) | (refine optK_of (intA (by omega)) ?_; conv => whnf) | (refine optK_of (intA' (by omega)) ?_; conv => whnf))
    first | refine ⟨rfl, _, rfl, ?_⟩ | refine ⟨_, rfl, ?_⟩
    rfl
  conv => whnf
  repeat (first | (refine And.intro (by first | exact Nat.le_of_ble_eq_true rfl | exact rfl | decide | omega | (simp [splice]; done) | (constructor <;> omega) | (simp [splice]; omega)) ?_; conv => whnf) | (refine optK_of (watA (by omega)) ?_; conv => whnf) | (refine optK_of (watA' (by omega)) ?_; conv => whnf) | (refine optK_of (hDA (by omega)) ?_; conv => whnf) | (refine optK_of (hDA' (by omega)) ?_; conv => whnf) | (refine optK_of (gutA (by omega)) ?_; conv => whnf) | (refine optK_of (pipeA (by omega)) ?_; conv => whnf) | (refine optK_of (pipeB (by omega)) ?_; conv => whnf) | (refine optK_of (pipeSA (by omega)) ?_; conv => whnf) | (refine optK_of (pipeSB (by omega)) ?_; conv => whnf) | (refine optK_of (intA (by omega)) ?_; conv => whnf) | (refine optK_of (intA' (by omega)) ?_; conv => whnf))
  rw [eu]
  repeat (first | (refine And.intro (by first | exact Nat.le_of_ble_eq_true rfl | exact rfl | decide | omega | (simp [splice]; done) | (constructor <;> omega) | (simp [splice]; omega)) ?_; conv => whnf) | (refine optK_of (watA (by omega)) ?_; conv => whnf) | (refine optK_of (watA' (by omega)) ?_; conv => whnf) | (refine optK_of (hDA (by omega)) ?_; conv => whnf) | (refine optK_of (hDA' (by omega)) ?_; conv => whnf) | (refine optK_of (gutA (by omega)) ?_; conv => whnf) | (refine optK_of (pipeA (by omega)) ?_; conv => whnf) | (refine optK_of (pipeB (by omega)) ?_; conv => whnf) | (refine optK_of (pipeSA (by omega)) ?_; conv => whnf) | (refine optK_of (pipeSB (by omega)) ?_; conv => whnf) | (refine optK_of (intA (by omega)) ?_; conv => whnf) | (refine optK_of (intA' (by omega)) ?_; conv => whnf))
  cases h3 : (g.lv.fdiv (2 ^ (min g.n.toNat IntKind.u32.bits)) != 0)
  case true =>
    have h3' : (g.lv.fdiv (2 ^ (min g.n.toNat IntKind.u32.bits)) == 0) = false := by simpa using h3
    rw [show okG g = false by unfold okG okG0; rw [show (decide (1 ≤ g.n) && decide (g.n ≤ 17)) = true from h1, h2, h3']; rfl]
    conv => whnf
    repeat (first | (refine And.intro (by first | exact Nat.le_of_ble_eq_true rfl | exact rfl | decide | omega | (simp [splice]; done) | (constructor <;> omega) | (simp [splice]; omega)) ?_; conv => whnf) | (refine optK_of (watA (by omega)) ?_; conv => whnf) | (refine optK_of (watA' (by omega)) ?_; conv => whnf) | (refine optK_of (hDA (by omega)) ?_; conv => whnf) | (refine optK_of (hDA' (by omega)) ?_; conv => whnf) | (refine optK_of (gutA (by omega)) ?_; conv => whnf) | (refine optK_of (pipeA (by omega)) ?_; conv => whnf) | (refine optK_of (pipeB (by omega)) ?_; conv => whnf) | (refine optK_of (pipeSA (by omega)) ?_; conv => whnf) | (refine optK_of (pipeSB (by omega)) ?_; conv => whnf) | (refine optK_of (intA (by omega)) ?_; conv => whnf) | (refine optK_of (intA' (by omega)) ?_; conv => whnf))
    first | refine ⟨rfl, _, rfl, ?_⟩ | refine ⟨_, rfl, ?_⟩
    rfl
  have h3' : (g.lv.fdiv (2 ^ (min g.n.toNat IntKind.u32.bits)) == 0) = true := by simpa using h3
  conv => whnf
  repeat (first | (refine And.intro (by first | exact Nat.le_of_ble_eq_true rfl | exact rfl | decide | omega | (simp [splice]; done) | (constructor <;> omega) | (simp [splice]; omega)) ?_; conv => whnf) | (refine optK_of (watA (by omega)) ?_; conv => whnf) | (refine optK_of (watA' (by omega)) ?_; conv => whnf) | (refine optK_of (hDA (by omega)) ?_; conv => whnf) | (refine optK_of (hDA' (by omega)) ?_; conv => whnf) | (refine optK_of (gutA (by omega)) ?_; conv => whnf) | (refine optK_of (pipeA (by omega)) ?_; conv => whnf) | (refine optK_of (pipeB (by omega)) ?_; conv => whnf) | (refine optK_of (pipeSA (by omega)) ?_; conv => whnf) | (refine optK_of (pipeSB (by omega)) ?_; conv => whnf) | (refine optK_of (intA (by omega)) ?_; conv => whnf) | (refine optK_of (intA' (by omega)) ?_; conv => whnf))
  cases h4 : decide ((g.ps.length : Int) > 4)
  case true =>
    have h4' : decide (g.ps.length ≤ 4) = false := by simp at h4 ⊢; omega
    rw [show okG g = false by unfold okG okG0; rw [show (decide (1 ≤ g.n) && decide (g.n ≤ 17)) = true from h1, h2, h3', h4']; rfl]
    conv => whnf
    repeat (first | (refine And.intro (by first | exact Nat.le_of_ble_eq_true rfl | exact rfl | decide | omega | (simp [splice]; done) | (constructor <;> omega) | (simp [splice]; omega)) ?_; conv => whnf) | (refine optK_of (watA (by omega)) ?_; conv => whnf) | (refine optK_of (watA' (by omega)) ?_; conv => whnf) | (refine optK_of (hDA (by omega)) ?_; conv => whnf) | (refine optK_of (hDA' (by omega)) ?_; conv => whnf) | (refine optK_of (gutA (by omega)) ?_; conv => whnf) | (refine optK_of (pipeA (by omega)) ?_; conv => whnf) | (refine optK_of (pipeB (by omega)) ?_; conv => whnf) | (refine optK_of (pipeSA (by omega)) ?_; conv => whnf) | (refine optK_of (pipeSB (by omega)) ?_; conv => whnf) | (refine optK_of (intA (by omega)) ?_; conv => whnf) | (refine optK_of (intA' (by omega)) ?_; conv => whnf))
    first | refine ⟨rfl, _, rfl, ?_⟩ | refine ⟨_, rfl, ?_⟩
    rfl
  have h4' : g.ps.length ≤ 4 := by simp at h4; omega
  have h0 : okG0 g = true := by unfold okG0; rw [show (decide (1 ≤ g.n) && decide (g.n ≤ 17)) = true from h1, h2, h3']; simpa using h4'
  clear h1 h2 h3 h3' h4
  conv => whnf
  repeat (first | (refine And.intro (by first | exact Nat.le_of_ble_eq_true rfl | exact rfl | decide | omega | (simp [splice]; done) | (constructor <;> omega) | (simp [splice]; omega)) ?_; conv => whnf) | (refine optK_of (watA (by omega)) ?_; conv => whnf) | (refine optK_of (watA' (by omega)) ?_; conv => whnf) | (refine optK_of (hDA (by omega)) ?_; conv => whnf) | (refine optK_of (hDA' (by omega)) ?_; conv => whnf) | (refine optK_of (gutA (by omega)) ?_; conv => whnf) | (refine optK_of (pipeA (by omega)) ?_; conv => whnf) | (refine optK_of (pipeB (by omega)) ?_; conv => whnf) | (refine optK_of (pipeSA (by omega)) ?_; conv => whnf) | (refine optK_of (pipeSB (by omega)) ?_; conv => whnf) | (refine optK_of (intA (by omega)) ?_; conv => whnf) | (refine optK_of (intA' (by omega)) ?_; conv => whnf))
  refine loop_rule (α := Nat) (fun k => [(0, .ref false (gutD false g) 0), (3, .v (.int .i8 k))]) (fun k => []) (fun k => k ≤ 17 ∧ ∀ j, j < k → hOk g j = true) (fun k => 17 - k) (0) ?_ (sim_of (rn := []) rfl ?_ ?_) ?_
  · exact ⟨Nat.zero_le _, fun j hj => by omega⟩
  · ((repeat' (first | exact trivial | apply And.intro)) <;> (first | rfl | exact succ8 (by omega) | exact succ64 (by omega) | exact CapOk.fn (by assumption) _ _ | exact vintS (by omega) | exact vintS (by rw [w64 (by omega) (by omega)]; omega) | exact vintS (by rw [w8 (by omega) (by omega)]; omega) | exact vslcS (by omega) | exact vslcS (by simp)))
  · ((repeat' (first | exact trivial | apply And.intro)) <;> (refine ⟨_, _, rfl, rfl, ?_⟩; first | rfl | (rfl)))
  rintro k ⟨hk, hall⟩
  conv => whnf
  repeat (first | (refine And.intro (by first | exact Nat.le_of_ble_eq_true rfl | exact rfl | decide | omega | (simp [splice]; done) | (constructor <;> omega) | (simp [splice]; omega)) ?_; conv => whnf) | (refine optK_of (watA (by omega)) ?_; conv => whnf) | (refine optK_of (watA' (by omega)) ?_; conv => whnf) | (refine optK_of (hDA (by omega)) ?_; conv => whnf) | (refine optK_of (hDA' (by omega)) ?_; conv => whnf) | (refine optK_of (gutA (by omega)) ?_; conv => whnf) | (refine optK_of (pipeA (by omega)) ?_; conv => whnf) | (refine optK_of (pipeB (by omega)) ?_; conv => whnf) | (refine optK_of (pipeSA (by omega)) ?_; conv => whnf) | (refine optK_of (pipeSB (by omega)) ?_; conv => whnf) | (refine optK_of (intA (by omega)) ?_; conv => whnf) | (refine optK_of (intA' (by omega)) ?_; conv => whnf))
  cases h5 : decide ((k : Int) < 17)
  case true =>
    have hk17 : k < 17 := by simp at h5; omega
    have hhk := hg.h k
    have eh : IntKind.i64.wrap (g.h k) = g.h k := w64 (by omega) (by omega)
    conv => whnf
    repeat (first | (refine And.intro (by first | exact Nat.le_of_ble_eq_true rfl | exact rfl | decide | omega | (simp [splice]; done) | (constructor <;> omega) | (simp [splice]; omega)) ?_; conv => whnf) | (refine optK_of (watA (by omega)) ?_; conv => whnf) | (refine optK_of (watA' (by omega)) ?_; conv => whnf) | (refine optK_of (hDA (by omega)) ?_; conv => whnf) | (refine optK_of (hDA' (by omega)) ?_; conv => whnf) | (refine optK_of (gutA (by omega)) ?_; conv => whnf) | (refine optK_of (pipeA (by omega)) ?_; conv => whnf) | (refine optK_of (pipeB (by omega)) ?_; conv => whnf) | (refine optK_of (pipeSA (by omega)) ?_; conv => whnf) | (refine optK_of (pipeSB (by omega)) ?_; conv => whnf) | (refine optK_of (intA (by omega)) ?_; conv => whnf) | (refine optK_of (intA' (by omega)) ?_; conv => whnf))
    rw [eh]
    first | refine ⟨_, _, rfl, Sat.of_eq (l00In_sat _ _ _) (by repeat (first | rfl | exact vfull (by first | (simp [splice]; done) | (simp [splice]; omega)) | exact rfull (by first | (simp [splice]; done) | (simp [splice]; omega)) | exact vpipe (by simp; done) (by omega) | exact vsplice (by simp) (by simp) | refine ceq ?_ ?_ | refine Eq.trans (vsplice (by first | (simp; done) | (simp; omega)) (by first | (simp; done) | (simp; omega))) ?_)), ?_⟩ | refine .inl ⟨_, _, rfl, Sat.of_eq (l00In_sat _ _ _) (by repeat (first | rfl | exact vfull (by first | (simp [splice]; done) | (simp [splice]; omega)) | exact rfull (by first | (simp [splice]; done) | (simp [splice]; omega)) | exact vpipe (by simp; done) (by omega) | exact vsplice (by simp) (by simp) | refine ceq ?_ ?_ | refine Eq.trans (vsplice (by first | (simp; done) | (simp; omega)) (by first | (simp; done) | (simp; omega))) ?_)), ?_⟩
    conv => whnf
    repeat (first | (refine And.intro (by first | exact Nat.le_of_ble_eq_true rfl | exact rfl | decide | omega | (simp [splice]; done) | (constructor <;> omega) | (simp [splice]; omega)) ?_; conv => whnf) | (refine optK_of (watA (by omega)) ?_; conv => whnf) | (refine optK_of (watA' (by omega)) ?_; conv => whnf) | (refine optK_of (hDA (by omega)) ?_; conv => whnf) | (refine optK_of (hDA' (by omega)) ?_; conv => whnf) | (refine optK_of (gutA (by omega)) ?_; conv => whnf) | (refine optK_of (pipeA (by omega)) ?_; conv => whnf) | (refine optK_of (pipeB (by omega)) ?_; conv => whnf) | (refine optK_of (pipeSA (by omega)) ?_; conv => whnf) | (refine optK_of (pipeSB (by omega)) ?_; conv => whnf) | (refine optK_of (intA (by omega)) ?_; conv => whnf) | (refine optK_of (intA' (by omega)) ?_; conv => whnf))
    cases h6 : (decide (g.h k ≥ 0) && decide (g.h k ≤ 9))
    · have hb : hOk g k = false := by unfold hOk; rw [show (decide (0 ≤ g.h k) && decide (g.h k ≤ 9)) = false from h6]; rfl
      rw [show okG g = false by unfold okG; rw [h0, allN_false hk17 hb]; rfl]
      conv => whnf
      repeat (first | (refine And.intro (by first | exact Nat.le_of_ble_eq_true rfl | exact rfl | decide | omega | (simp [splice]; done) | (constructor <;> omega) | (simp [splice]; omega)) ?_; conv => whnf) | (refine optK_of (watA (by omega)) ?_; conv => whnf) | (refine optK_of (watA' (by omega)) ?_; conv => whnf) | (refine optK_of (hDA (by omega)) ?_; conv => whnf) | (refine optK_of (hDA' (by omega)) ?_; conv => whnf) | (refine optK_of (gutA (by omega)) ?_; conv => whnf) | (refine optK_of (pipeA (by omega)) ?_; conv => whnf) | (refine optK_of (pipeB (by omega)) ?_; conv => whnf) | (refine optK_of (pipeSA (by omega)) ?_; conv => whnf) | (refine optK_of (pipeSB (by omega)) ?_; conv => whnf) | (refine optK_of (intA (by omega)) ?_; conv => whnf) | (refine optK_of (intA' (by omega)) ?_; conv => whnf))
      first | refine ⟨rfl, _, rfl, ?_⟩ | refine ⟨_, rfl, ?_⟩
      rfl
    conv => whnf
    repeat (first | (refine And.intro (by first | exact Nat.le_of_ble_eq_true rfl | exact rfl | decide | omega | (simp [splice]; done) | (constructor <;> omega) | (simp [splice]; omega)) ?_; conv => whnf) | (refine optK_of (watA (by omega)) ?_; conv => whnf) | (refine optK_of (watA' (by omega)) ?_; conv => whnf) | (refine optK_of (hDA (by omega)) ?_; conv => whnf) | (refine optK_of (hDA' (by omega)) ?_; conv => whnf) | (refine optK_of (gutA (by omega)) ?_; conv => whnf) | (refine optK_of (pipeA (by omega)) ?_; conv => whnf) | (refine optK_of (pipeB (by omega)) ?_; conv => whnf) | (refine optK_of (pipeSA (by omega)) ?_; conv => whnf) | (refine optK_of (pipeSB (by omega)) ?_; conv => whnf) | (refine optK_of (intA (by omega)) ?_; conv => whnf) | (refine optK_of (intA' (by omega)) ?_; conv => whnf))
    cases h7 : decide ((k : Int) ≥ g.n)
    · have hb : hOk g k = true := by
        unfold hOk
        rw [show (decide (0 ≤ g.h k) && decide (g.h k ≤ 9)) = true from h6, show decide ((k : Int) < g.n) = true by simp at h7 ⊢; omega]
        rfl
      have hall' := below_succ (p := fun j => hOk g j = true) hall hb
      conv => whnf
      repeat (first | (refine And.intro (by first | exact Nat.le_of_ble_eq_true rfl | exact rfl | decide | omega | (simp [splice]; done) | (constructor <;> omega) | (simp [splice]; omega)) ?_; conv => whnf) | (refine optK_of (watA (by omega)) ?_; conv => whnf) | (refine optK_of (watA' (by omega)) ?_; conv => whnf) | (refine optK_of (hDA (by omega)) ?_; conv => whnf) | (refine optK_of (hDA' (by omega)) ?_; conv => whnf) | (refine optK_of (gutA (by omega)) ?_; conv => whnf) | (refine optK_of (pipeA (by omega)) ?_; conv => whnf) | (refine optK_of (pipeB (by omega)) ?_; conv => whnf) | (refine optK_of (pipeSA (by omega)) ?_; conv => whnf) | (refine optK_of (pipeSB (by omega)) ?_; conv => whnf) | (refine optK_of (intA (by omega)) ?_; conv => whnf) | (refine optK_of (intA' (by omega)) ?_; conv => whnf))
      refine ⟨k + 1, ?_, ?_, sim_of (rn := []) rfl ?_ ?_⟩
      · (dsimp only; omega)
      · exact ⟨by omega, hall'⟩
      · ((repeat' (first | exact trivial | apply And.intro)) <;> (first | rfl | exact succ8 (by omega) | exact succ64 (by omega) | exact CapOk.fn (by assumption) _ _ | exact vintS (by omega) | exact vintS (by rw [w64 (by omega) (by omega)]; omega) | exact vintS (by rw [w8 (by omega) (by omega)]; omega) | exact vslcS (by omega) | exact vslcS (by simp)))
      · ((repeat' (first | exact trivial | apply And.intro)) <;> (refine ⟨_, _, rfl, rfl, ?_⟩; first | rfl | (rfl)))
    have h7' : decide ((k : Int) < g.n) = false := by simp at h7 ⊢; omega
    conv => whnf
    repeat (first | (refine And.intro (by first | exact Nat.le_of_ble_eq_true rfl | exact rfl | decide | omega | (simp [splice]; done) | (constructor <;> omega) | (simp [splice]; omega)) ?_; conv => whnf) | (refine optK_of (watA (by omega)) ?_; conv => whnf) | (refine optK_of (watA' (by omega)) ?_; conv => whnf) | (refine optK_of (hDA (by omega)) ?_; conv => whnf) | (refine optK_of (hDA' (by omega)) ?_; conv => whnf) | (refine optK_of (gutA (by omega)) ?_; conv => whnf) | (refine optK_of (pipeA (by omega)) ?_; conv => whnf) | (refine optK_of (pipeB (by omega)) ?_; conv => whnf) | (refine optK_of (pipeSA (by omega)) ?_; conv => whnf) | (refine optK_of (pipeSB (by omega)) ?_; conv => whnf) | (refine optK_of (intA (by omega)) ?_; conv => whnf) | (refine optK_of (intA' (by omega)) ?_; conv => whnf))
    cases h8 : (g.h k != 0)
    · have hb : hOk g k = true := by
        unfold hOk
        rw [show (decide (0 ≤ g.h k) && decide (g.h k ≤ 9)) = true from h6, h7']
        simpa using h8
      have hall' := below_succ (p := fun j => hOk g j = true) hall hb
      conv => whnf
      repeat (first | (refine And.intro (by first | exact Nat.le_of_ble_eq_true rfl | exact rfl | decide | omega | (simp [splice]; done) | (constructor <;> omega) | (simp [splice]; omega)) ?_; conv => whnf) | (refine optK_of (watA (by omega)) ?_; conv => whnf) | (refine optK_of (watA' (by omega)) ?_; conv => whnf) | (refine optK_of (hDA (by omega)) ?_; conv => whnf) | (refine optK_of (hDA' (by omega)) ?_; conv => whnf) | (refine optK_of (gutA (by omega)) ?_; conv => whnf) | (refine optK_of (pipeA (by omega)) ?_; conv => whnf) | (refine optK_of (pipeB (by omega)) ?_; conv => whnf) | (refine optK_of (pipeSA (by omega)) ?_; conv => whnf) | (refine optK_of (pipeSB (by omega)) ?_; conv => whnf) | (refine optK_of (intA (by omega)) ?_; conv => whnf) | (refine optK_of (intA' (by omega)) ?_; conv => whnf))
      refine ⟨k + 1, ?_, ?_, sim_of (rn := []) rfl ?_ ?_⟩
      · (dsimp only; omega)
      · exact ⟨by omega, hall'⟩
      · ((repeat' (first | exact trivial | apply And.intro)) <;> (first | rfl | exact succ8 (by omega) | exact succ64 (by omega) | exact CapOk.fn (by assumption) _ _ | exact vintS (by omega) | exact vintS (by rw [w64 (by omega) (by omega)]; omega) | exact vintS (by rw [w8 (by omega) (by omega)]; omega) | exact vslcS (by omega) | exact vslcS (by simp)))
      · ((repeat' (first | exact trivial | apply And.intro)) <;> (refine ⟨_, _, rfl, rfl, ?_⟩; first | rfl | (rfl)))
    have hb : hOk g k = false := by
      unfold hOk
      rw [show (decide (0 ≤ g.h k) && decide (g.h k ≤ 9)) = true from h6, h7']
      simpa using h8
    rw [show okG g = false by unfold okG; rw [h0, allN_false hk17 hb]; rfl]
    conv => whnf
    repeat (first | (refine And.intro (by first | exact Nat.le_of_ble_eq_true rfl | exact rfl | decide | omega | (simp [splice]; done) | (constructor <;> omega) | (simp [splice]; omega)) ?_; conv => whnf) | (refine optK_of (watA (by omega)) ?_; conv => whnf) | (refine optK_of (watA' (by omega)) ?_; conv => whnf) | (refine optK_of (hDA (by omega)) ?_; conv => whnf) | (refine optK_of (hDA' (by omega)) ?_; conv => whnf) | (refine optK_of (gutA (by omega)) ?_; conv => whnf) | (refine optK_of (pipeA (by omega)) ?_; conv => whnf) | (refine optK_of (pipeB (by omega)) ?_; conv => whnf) | (refine optK_of (pipeSA (by omega)) ?_; conv => whnf) | (refine optK_of (pipeSB (by omega)) ?_; conv => whnf) | (refine optK_of (intA (by omega)) ?_; conv => whnf) | (refine optK_of (intA' (by omega)) ?_; conv => whnf))
    first | refine ⟨rfl, _, rfl, ?_⟩ | refine ⟨_, rfl, ?_⟩
    rfl
  have hk17 : k = 17 := by simp at h5; omega
  subst hk17
  have hH : (List.range 17).all (hOk g) = true := allN_iff.2 hall
  clear hall h5
  conv => whnf
  repeat (first | (refine And.intro (by first | exact Nat.le_of_ble_eq_true rfl | exact rfl | decide | omega | (simp [splice]; done) | (constructor <;> omega) | (simp [splice]; omega)) ?_; conv => whnf) | (refine optK_of (watA (by omega)) ?_; conv => whnf) | (refine optK_of (watA' (by omega)) ?_; conv => whnf) | (refine optK_of (hDA (by omega)) ?_; conv => whnf) | (refine optK_of (hDA' (by omega)) ?_; conv => whnf) | (refine optK_of (gutA (by omega)) ?_; conv => whnf) | (refine optK_of (pipeA (by omega)) ?_; conv => whnf) | (refine optK_of (pipeB (by omega)) ?_; conv => whnf) | (refine optK_of (pipeSA (by omega)) ?_; conv => whnf) | (refine optK_of (pipeSB (by omega)) ?_; conv => whnf) | (refine optK_of (intA (by omega)) ?_; conv => whnf) | (refine optK_of (intA' (by omega)) ?_; conv => whnf))
  refine loop_rule (α := Nat) (fun i => [(0, .ref false (gutD false g) 0), (4, .v (.int .i64 i))]) (fun i => []) (fun i => i ≤ g.ps.length ∧ ∀ j, j < i → pOk g j = true) (fun i => g.ps.length - i) (0) ?_ (sim_of (rn := []) rfl ?_ ?_) ?_
  · exact ⟨Nat.zero_le _, fun j hj => by omega⟩
  · ((repeat' (first | exact trivial | apply And.intro)) <;> (first | rfl | exact succ8 (by omega) | exact succ64 (by omega) | exact CapOk.fn (by assumption) _ _ | exact vintS (by omega) | exact vintS (by rw [w64 (by omega) (by omega)]; omega) | exact vintS (by rw [w8 (by omega) (by omega)]; omega) | exact vslcS (by omega) | exact vslcS (by simp)))
  · ((repeat' (first | exact trivial | apply And.intro)) <;> (refine ⟨_, _, rfl, rfl, ?_⟩; first | rfl | (rfl)))
  rintro i ⟨hi, hall⟩
  conv => whnf
  repeat (first | (refine And.intro (by first | exact Nat.le_of_ble_eq_true rfl | exact rfl | decide | omega | (simp [splice]; done) | (constructor <;> omega) | (simp [splice]; omega)) ?_; conv => whnf) | (refine optK_of (watA (by omega)) ?_; conv => whnf) | (refine optK_of (watA' (by omega)) ?_; conv => whnf) | (refine optK_of (hDA (by omega)) ?_; conv => whnf) | (refine optK_of (hDA' (by omega)) ?_; conv => whnf) | (refine optK_of (gutA (by omega)) ?_; conv => whnf) | (refine optK_of (pipeA (by omega)) ?_; conv => whnf) | (refine optK_of (pipeB (by omega)) ?_; conv => whnf) | (refine optK_of (pipeSA (by omega)) ?_; conv => whnf) | (refine optK_of (pipeSB (by omega)) ?_; conv => whnf) | (refine optK_of (intA (by omega)) ?_; conv => whnf) | (refine optK_of (intA' (by omega)) ?_; conv => whnf))
  cases h5 : decide ((i : Int) < (g.ps.length : Int))
  · have hin : i = g.ps.length := by simp at h5; omega
    subst hin
    rw [show okG g = true by unfold okG; rw [h0, hH, allN_iff.2 hall]; rfl]
    conv => whnf
    repeat (first | (refine And.intro (by first | exact Nat.le_of_ble_eq_true rfl | exact rfl | decide | omega | (simp [splice]; done) | (constructor <;> omega) | (simp [splice]; omega)) ?_; conv => whnf) | (refine optK_of (watA (by omega)) ?_; conv => whnf) | (refine optK_of (watA' (by omega)) ?_; conv => whnf) | (refine optK_of (hDA (by omega)) ?_; conv => whnf) | (refine optK_of (hDA' (by omega)) ?_; conv => whnf) | (refine optK_of (gutA (by omega)) ?_; conv => whnf) | (refine optK_of (pipeA (by omega)) ?_; conv => whnf) | (refine optK_of (pipeB (by omega)) ?_; conv => whnf) | (refine optK_of (pipeSA (by omega)) ?_; conv => whnf) | (refine optK_of (pipeSB (by omega)) ?_; conv => whnf) | (refine optK_of (intA (by omega)) ?_; conv => whnf) | (refine optK_of (intA' (by omega)) ?_; conv => whnf))
    first | refine ⟨rfl, _, rfl, ?_⟩ | refine ⟨_, rfl, ?_⟩
    rfl
  have hin : i < g.ps.length := by simpa using h5
  have hp := hg.ps i hin
  have et : IntKind.i64.wrap (px g.ps i).2 = (px g.ps i).2 := w64 (by omega) (by omega)
  have bad : pOk g i = false → okG g = false := fun hb => by unfold okG; rw [h0, hH, allN_false hin hb]; rfl
  conv => whnf
  repeat (first | (refine And.intro (by first | exact Nat.le_of_ble_eq_true rfl | exact rfl | decide | omega | (simp [splice]; done) | (constructor <;> omega) | (simp [splice]; omega)) ?_; conv => whnf) | (refine optK_of (watA (by omega)) ?_; conv => whnf) | (refine optK_of (watA' (by omega)) ?_; conv => whnf) | (refine optK_of (hDA (by omega)) ?_; conv => whnf) | (refine optK_of (hDA' (by omega)) ?_; conv => whnf) | (refine optK_of (gutA (by omega)) ?_; conv => whnf) | (refine optK_of (pipeA (by omega)) ?_; conv => whnf) | (refine optK_of (pipeB (by omega)) ?_; conv => whnf) | (refine optK_of (pipeSA (by omega)) ?_; conv => whnf) | (refine optK_of (pipeSB (by omega)) ?_; conv => whnf) | (refine optK_of (intA (by omega)) ?_; conv => whnf) | (refine optK_of (intA' (by omega)) ?_; conv => whnf))
  cases h6 : decide ((px g.ps i).1 < 0)
  case true =>
    rw [bad (by unfold pOk; rw [show decide (0 ≤ (px g.ps i).1) = false by simp at h6 ⊢; omega]; rfl)]
    conv => whnf
    repeat (first | (refine And.intro (by first | exact Nat.le_of_ble_eq_true rfl | exact rfl | decide | omega | (simp [splice]; done) | (constructor <;> omega) | (simp [splice]; omega)) ?_; conv => whnf) | (refine optK_of (watA (by omega)) ?_; conv => whnf) | (refine optK_of (watA' (by omega)) ?_; conv => whnf) | (refine optK_of (hDA (by omega)) ?_; conv => whnf) | (refine optK_of (hDA' (by omega)) ?_; conv => whnf) | (refine optK_of (gutA (by omega)) ?_; conv => whnf) | (refine optK_of (pipeA (by omega)) ?_; conv => whnf) | (refine optK_of (pipeB (by omega)) ?_; conv => whnf) | (refine optK_of (pipeSA (by omega)) ?_; conv => whnf) | (refine optK_of (pipeSB (by omega)) ?_; conv => whnf) | (refine optK_of (intA (by omega)) ?_; conv => whnf) | (refine optK_of (intA' (by omega)) ?_; conv => whnf))
    first | refine ⟨rfl, _, rfl, ?_⟩ | refine ⟨_, rfl, ?_⟩
    rfl
  have h6' : decide (0 ≤ (px g.ps i).1) = true := by simp at h6 ⊢; omega
  conv => whnf
  repeat (first | (refine And.intro (by first | exact Nat.le_of_ble_eq_true rfl | exact rfl | decide | omega | (simp [splice]; done) | (constructor <;> omega) | (simp [splice]; omega)) ?_; conv => whnf) | (refine optK_of (watA (by omega)) ?_; conv => whnf) | (refine optK_of (watA' (by omega)) ?_; conv => whnf) | (refine optK_of (hDA (by omega)) ?_; conv => whnf) | (refine optK_of (hDA' (by omega)) ?_; conv => whnf) | (refine optK_of (gutA (by omega)) ?_; conv => whnf) | (refine optK_of (pipeA (by omega)) ?_; conv => whnf) | (refine optK_of (pipeB (by omega)) ?_; conv => whnf) | (refine optK_of (pipeSA (by omega)) ?_; conv => whnf) | (refine optK_of (pipeSB (by omega)) ?_; conv => whnf) | (refine optK_of (intA (by omega)) ?_; conv => whnf) | (refine optK_of (intA' (by omega)) ?_; conv => whnf))
  cases h7 : decide ((px g.ps i).1 ≥ g.n)
  case true =>
    rw [bad (by unfold pOk; rw [h6', show decide ((px g.ps i).1 ≤ g.n - 1) = false by simp at h7 ⊢; omega]; rfl)]
    conv => whnf
    repeat (first | (refine And.intro (by first | exact Nat.le_of_ble_eq_true rfl | exact rfl | decide | omega | (simp [splice]; done) | (constructor <;> omega) | (simp [splice]; omega)) ?_; conv => whnf) | (refine optK_of (watA (by omega)) ?_; conv => whnf) | (refine optK_of (watA' (by omega)) ?_; conv => whnf) | (refine optK_of (hDA (by omega)) ?_; conv => whnf) | (refine optK_of (hDA' (by omega)) ?_; conv => whnf) | (refine optK_of (gutA (by omega)) ?_; conv => whnf) | (refine optK_of (pipeA (by omega)) ?_; conv => whnf) | (refine optK_of (pipeB (by omega)) ?_; conv => whnf) | (refine optK_of (pipeSA (by omega)) ?_; conv => whnf) | (refine optK_of (pipeSB (by omega)) ?_; conv => whnf) | (refine optK_of (intA (by omega)) ?_; conv => whnf) | (refine optK_of (intA' (by omega)) ?_; conv => whnf))
    first | refine ⟨rfl, _, rfl, ?_⟩ | refine ⟨_, rfl, ?_⟩
    rfl
  have h7' : decide ((px g.ps i).1 ≤ g.n - 1) = true := by simp at h7 ⊢; omega
  conv => whnf
  repeat (first | (refine And.intro (by first | exact Nat.le_of_ble_eq_true rfl | exact rfl | decide | omega | (simp [splice]; done) | (constructor <;> omega) | (simp [splice]; omega)) ?_; conv => whnf) | (refine optK_of (watA (by omega)) ?_; conv => whnf) | (refine optK_of (watA' (by omega)) ?_; conv => whnf) | (refine optK_of (hDA (by omega)) ?_; conv => whnf) | (refine optK_of (hDA' (by omega)) ?_; conv => whnf) | (refine optK_of (gutA (by omega)) ?_; conv => whnf) | (refine optK_of (pipeA (by omega)) ?_; conv => whnf) | (refine optK_of (pipeB (by omega)) ?_; conv => whnf) | (refine optK_of (pipeSA (by omega)) ?_; conv => whnf) | (refine optK_of (pipeSB (by omega)) ?_; conv => whnf) | (refine optK_of (intA (by omega)) ?_; conv => whnf) | (refine optK_of (intA' (by omega)) ?_; conv => whnf))
  rw [et]
  first | refine ⟨_, _, rfl, Sat.of_eq (l06Deep_sat _) (by repeat (first | rfl | exact vfull (by first | (simp [splice]; done) | (simp [splice]; omega)) | exact rfull (by first | (simp [splice]; done) | (simp [splice]; omega)) | exact vpipe (by simp; done) (by omega) | exact vsplice (by simp) (by simp) | refine ceq ?_ ?_ | refine Eq.trans (vsplice (by first | (simp; done) | (simp; omega)) (by first | (simp; done) | (simp; omega))) ?_)), ?_⟩ | refine .inl ⟨_, _, rfl, Sat.of_eq (l06Deep_sat _) (by repeat (first | rfl | exact vfull (by first | (simp [splice]; done) | (simp [splice]; omega)) | exact rfull (by first | (simp [splice]; done) | (simp [splice]; omega)) | exact vpipe (by simp; done) (by omega) | exact vsplice (by simp) (by simp) | refine ceq ?_ ?_ | refine Eq.trans (vsplice (by first | (simp; done) | (simp; omega)) (by first | (simp; done) | (simp; omega))) ?_)), ?_⟩
  conv => whnf
  repeat (first | (refine And.intro (by first | exact Nat.le_of_ble_eq_true rfl | exact rfl | decide | omega | (simp [splice]; done) | (constructor <;> omega) | (simp [splice]; omega)) ?_; conv => whnf) | (refine optK_of (watA (by omega)) ?_; conv => whnf) | (refine optK_of (watA' (by omega)) ?_; conv => whnf) | (refine optK_of (hDA (by omega)) ?_; conv => whnf) | (refine optK_of (hDA' (by omega)) ?_; conv => whnf) | (refine optK_of (gutA (by omega)) ?_; conv => whnf) | (refine optK_of (pipeA (by omega)) ?_; conv => whnf) | (refine optK_of (pipeB (by omega)) ?_; conv => whnf) | (refine optK_of (pipeSA (by omega)) ?_; conv => whnf) | (refine optK_of (pipeSB (by omega)) ?_; conv => whnf) | (refine optK_of (intA (by omega)) ?_; conv => whnf) | (refine optK_of (intA' (by omega)) ?_; conv => whnf))
  cases h8 : deepB (px g.ps i).2
  · rw [bad (by unfold pOk; rw [h6', h7', h8]; rfl)]
    conv => whnf
    repeat (first | (refine And.intro (by first | exact Nat.le_of_ble_eq_true rfl | exact rfl | decide | omega | (simp [splice]; done) | (constructor <;> omega) | (simp [splice]; omega)) ?_; conv => whnf) | (refine optK_of (watA (by omega)) ?_; conv => whnf) | (refine optK_of (watA' (by omega)) ?_; conv => whnf) | (refine optK_of (hDA (by omega)) ?_; conv => whnf) | (refine optK_of (hDA' (by omega)) ?_; conv => whnf) | (refine optK_of (gutA (by omega)) ?_; conv => whnf) | (refine optK_of (pipeA (by omega)) ?_; conv => whnf) | (refine optK_of (pipeB (by omega)) ?_; conv => whnf) | (refine optK_of (pipeSA (by omega)) ?_; conv => whnf) | (refine optK_of (pipeSB (by omega)) ?_; conv => whnf) | (refine optK_of (intA (by omega)) ?_; conv => whnf) | (refine optK_of (intA' (by omega)) ?_; conv => whnf))
    first | refine ⟨rfl, _, rfl, ?_⟩ | refine ⟨_, rfl, ?_⟩
    rfl
  conv => whnf
  repeat (first | (refine And.intro (by first | exact Nat.le_of_ble_eq_true rfl | exact rfl | decide | omega | (simp [splice]; done) | (constructor <;> omega) | (simp [splice]; omega)) ?_; conv => whnf) | (refine optK_of (watA (by omega)) ?_; conv => whnf) | (refine optK_of (watA' (by omega)) ?_; conv => whnf) | (refine optK_of (hDA (by omega)) ?_; conv => whnf) | (refine optK_of (hDA' (by omega)) ?_; conv => whnf) | (refine optK_of (gutA (by omega)) ?_; conv => whnf) | (refine optK_of (pipeA (by omega)) ?_; conv => whnf) | (refine optK_of (pipeB (by omega)) ?_; conv => whnf) | (refine optK_of (pipeSA (by omega)) ?_; conv => whnf) | (refine optK_of (pipeSB (by omega)) ?_; conv => whnf) | (refine optK_of (intA (by omega)) ?_; conv => whnf) | (refine optK_of (intA' (by omega)) ?_; conv => whnf))
  cases h9 : decide ((i : Int) > 0)
  · have hb : pOk g i = true := by
      unfold pOk
      have : i = 0 := by simp at h9; omega
      rw [h6', h7', h8, this]; rfl
    have hall' := below_succ (p := fun j => pOk g j = true) hall hb
    conv => whnf
    repeat (first | (refine And.intro (by first | exact Nat.le_of_ble_eq_true rfl | exact rfl | decide | omega | (simp [splice]; done) | (constructor <;> omega) | (simp [splice]; omega)) ?_; conv => whnf) | (refine optK_of (watA (by omega)) ?_; conv => whnf) | (refine optK_of (watA' (by omega)) ?_; conv => whnf) | (refine optK_of (hDA (by omega)) ?_; conv => whnf) | (refine optK_of (hDA' (by omega)) ?_; conv => whnf) | (refine optK_of (gutA (by omega)) ?_; conv => whnf) | (refine optK_of (pipeA (by omega)) ?_; conv => whnf) | (refine optK_of (pipeB (by omega)) ?_; conv => whnf) | (refine optK_of (pipeSA (by omega)) ?_; conv => whnf) | (refine optK_of (pipeSB (by omega)) ?_; conv => whnf) | (refine optK_of (intA (by omega)) ?_; conv => whnf) | (refine optK_of (intA' (by omega)) ?_; conv => whnf))
    refine ⟨i + 1, ?_, ?_, sim_of (rn := []) rfl ?_ ?_⟩
    · (dsimp only; omega)
    · exact ⟨by omega, hall'⟩
    · ((repeat' (first | exact trivial | apply And.intro)) <;> (first | rfl | exact succ8 (by omega) | exact succ64 (by omega) | exact CapOk.fn (by assumption) _ _ | exact vintS (by omega) | exact vintS (by rw [w64 (by omega) (by omega)]; omega) | exact vintS (by rw [w8 (by omega) (by omega)]; omega) | exact vslcS (by omega) | exact vslcS (by simp)))
    · ((repeat' (first | exact trivial | apply And.intro)) <;> (refine ⟨_, _, rfl, rfl, ?_⟩; first | rfl | (rfl)))
  have hi0 : 0 < i := by simp at h9; omega
  have hi0' : (i == 0) = false := by simp; omega
  have ei : IntKind.i64.wrap ((i : Int) - 1) = ((i - 1 : Nat) : Int) := by rw [w64 (by omega) (by omega)]; omega
  conv => whnf
  repeat (first | (refine And.intro (by first | exact Nat.le_of_ble_eq_true rfl | exact rfl | decide | omega | (simp [splice]; done) | (constructor <;> omega) | (simp [splice]; omega)) ?_; conv => whnf) | (refine optK_of (watA (by omega)) ?_; conv => whnf) | (refine optK_of (watA' (by omega)) ?_; conv => whnf) | (refine optK_of (hDA (by omega)) ?_; conv => whnf) | (refine optK_of (hDA' (by omega)) ?_; conv => whnf) | (refine optK_of (gutA (by omega)) ?_; conv => whnf) | (refine optK_of (pipeA (by omega)) ?_; conv => whnf) | (refine optK_of (pipeB (by omega)) ?_; conv => whnf) | (refine optK_of (pipeSA (by omega)) ?_; conv => whnf) | (refine optK_of (pipeSB (by omega)) ?_; conv => whnf) | (refine optK_of (intA (by omega)) ?_; conv => whnf) | (refine optK_of (intA' (by omega)) ?_; conv => whnf))
  rw [ei]
  repeat (first | (refine And.intro (by first | exact Nat.le_of_ble_eq_true rfl | exact rfl | decide | omega | (simp [splice]; done) | (constructor <;> omega) | (simp [splice]; omega)) ?_; conv => whnf) | (refine optK_of (watA (by omega)) ?_; conv => whnf) | (refine optK_of (watA' (by omega)) ?_; conv => whnf) | (refine optK_of (hDA (by omega)) ?_; conv => whnf) | (refine optK_of (hDA' (by omega)) ?_; conv => whnf) | (refine optK_of (gutA (by omega)) ?_; conv => whnf) | (refine optK_of (pipeA (by omega)) ?_; conv => whnf) | (refine optK_of (pipeB (by omega)) ?_; conv => whnf) | (refine optK_of (pipeSA (by omega)) ?_; conv => whnf) | (refine optK_of (pipeSB (by omega)) ?_; conv => whnf) | (refine optK_of (intA (by omega)) ?_; conv => whnf) | (refine optK_of (intA' (by omega)) ?_; conv => whnf))
  cases h10 : decide ((px g.ps i).1 ≤ (px g.ps (i - 1)).1)
  · have hb : pOk g i = true := by
      unfold pOk
      rw [h6', h7', h8, hi0', show decide ((px g.ps (i - 1)).1 < (px g.ps i).1) = true by simp at h10 ⊢; omega]; rfl
    have hall' := below_succ (p := fun j => pOk g j = true) hall hb
    conv => whnf
    repeat (first | (refine And.intro (by first | exact Nat.le_of_ble_eq_true rfl | exact rfl | decide | omega | (simp [splice]; done) | (constructor <;> omega) | (simp [splice]; omega)) ?_; conv => whnf) | (refine optK_of (watA (by omega)) ?_; conv => whnf) | (refine optK_of (watA' (by omega)) ?_; conv => whnf) | (refine optK_of (hDA (by omega)) ?_; conv => whnf) | (refine optK_of (hDA' (by omega)) ?_; conv => whnf) | (refine optK_of (gutA (by omega)) ?_; conv => whnf) | (refine optK_of (pipeA (by omega)) ?_; conv => whnf) | (refine optK_of (pipeB (by omega)) ?_; conv => whnf) | (refine optK_of (pipeSA (by omega)) ?_; conv => whnf) | (refine optK_of (pipeSB (by omega)) ?_; conv => whnf) | (refine optK_of (intA (by omega)) ?_; conv => whnf) | (refine optK_of (intA' (by omega)) ?_; conv => whnf))
    refine ⟨i + 1, ?_, ?_, sim_of (rn := []) rfl ?_ ?_⟩
    · (dsimp only; omega)
    · exact ⟨by omega, hall'⟩
    · ((repeat' (first | exact trivial | apply And.intro)) <;> (first | rfl | exact succ8 (by omega) | exact succ64 (by omega) | exact CapOk.fn (by assumption) _ _ | exact vintS (by omega) | exact vintS (by rw [w64 (by omega) (by omega)]; omega) | exact vintS (by rw [w8 (by omega) (by omega)]; omega) | exact vslcS (by omega) | exact vslcS (by simp)))
    · ((repeat' (first | exact trivial | apply And.intro)) <;> (refine ⟨_, _, rfl, rfl, ?_⟩; first | rfl | (rfl)))
  rw [bad (by unfold pOk; rw [h6', h7', h8, hi0', show decide ((px g.ps (i - 1)).1 < (px g.ps i).1) = false by simp at h10 ⊢; omega]; rfl)]
  conv => whnf
  repeat (first | (refine And.intro (by first | exact Nat.le_of_ble_eq_true rfl | exact rfl | decide | omega | (simp [splice]; done) | (constructor <;> omega) | (simp [splice]; omega)) ?_; conv => whnf) | (refine optK_of (watA (by omega)) ?_; conv => whnf) | (refine optK_of (watA' (by omega)) ?_; conv => whnf) | (refine optK_of (hDA (by omega)) ?_; conv => whnf) | (refine optK_of (hDA' (by omega)) ?_; conv => whnf) | (refine optK_of (gutA (by omega)) ?_; conv => whnf) | (refine optK_of (pipeA (by omega)) ?_; conv => whnf) | (refine optK_of (pipeB (by omega)) ?_; conv => whnf) | (refine optK_of (pipeSA (by omega)) ?_; conv => whnf) | (refine optK_of (pipeSB (by omega)) ?_; conv => whnf) | (refine optK_of (intA (by omega)) ?_; conv => whnf) | (refine optK_of (intA' (by omega)) ?_; conv => whnf))
  first | refine ⟨rfl, _, rfl, ?_⟩ | refine ⟨_, rfl, ?_⟩
  rfl
theorem validGutter_sat (g : Gut) (hg : g.In) : Sat Try.prog 169 [gutD false g] (.v (.bool (okG g))) := by
  have hn := hg.n
  have hdp := hg.dp
  have en : IntKind.i64.wrap g.n = g.n := w64 (by omega) (by omega)
  refine sat_of_wp hMix tOk Try.func169 rfl rfl Try.ntmps169 rfl rfl Try.results169 (by kernel_rfl) ?_
  conv => whnf
  repeat (first | (refine And.intro (by first | exact Nat.le_of_ble_eq_true rfl | exact rfl | decide | omega | (simp [splice]; done) | (constructor <;> omega) | (simp [splice]; omega)) ?_; conv => whnf) | (refine optK_of (watA (by omega)) ?_; conv => whnf) | (refine optK_of (watA' (by omega)) ?_; conv => whnf) | (refine optK_of (hDA (by omega)) ?_; conv => whnf) | (refine optK_of (hDA' (by omega)) ?_; conv => whnf) | (refine optK_of (gutA (by omega)) ?_; conv => whnf) | (refine optK_of (pipeA (by omega)) ?_; conv => whnf) | (refine optK_of (pipeB (by omega)) ?_; conv => whnf) | (refine optK_of (pipeSA (by omega)) ?_; conv => whnf) | (refine optK_of (pipeSB (by omega)) ?_; conv => whnf) | (refine optK_of (intA (by omega)) ?_; conv => whnf) | (refine optK_of (intA' (by omega)) ?_; conv => whnf))
  first | refine ⟨_, _, rfl, Sat.of_eq (within8_sat _ _ _) (by repeat (first | rfl | exact vfull (by first | (simp [splice]; done) | (simp [splice]; omega)) | exact rfull (by first | (simp [splice]; done) | (simp [splice]; omega)) | exact vpipe (by simp; done) (by omega) | exact vsplice (by simp) (by simp) | refine ceq ?_ ?_ | refine Eq.trans (vsplice (by first | (simp; done) | (simp; omega)) (by first | (simp; done) | (simp; omega))) ?_)), ?_⟩ | refine .inl ⟨_, _, rfl, Sat.of_eq (within8_sat _ _ _) (by repeat (first | rfl | exact vfull (by first | (simp [splice]; done) | (simp [splice]; omega)) | exact rfull (by first | (simp [splice]; done) | (simp [splice]; omega)) | exact vpipe (by simp; done) (by omega) | exact vsplice (by simp) (by simp) | refine ceq ?_ ?_ | refine Eq.trans (vsplice (by first | (simp; done) | (simp; omega)) (by first | (simp; done) | (simp; omega))) ?_)), ?_⟩
  conv => whnf
  repeat (first | (refine And.intro (by first | exact Nat.le_of_ble_eq_true rfl | exact rfl | decide | omega | (simp [splice]; done) | (constructor <;> omega) | (simp [splice]; omega)) ?_; conv => whnf) | (refine optK_of (watA (by omega)) ?_; conv => whnf) | (refine optK_of (watA' (by omega)) ?_; conv => whnf) | (refine optK_of (hDA (by omega)) ?_; conv => whnf) | (refine optK_of (hDA' (by omega)) ?_; conv => whnf) | (refine optK_of (gutA (by omega)) ?_; conv => whnf) | (refine optK_of (pipeA (by omega)) ?_; conv => whnf) | (refine optK_of (pipeB (by omega)) ?_; conv => whnf) | (refine optK_of (pipeSA (by omega)) ?_; conv => whnf) | (refine optK_of (pipeSB (by omega)) ?_; conv => whnf) | (refine optK_of (intA (by omega)) ?_; conv => whnf) | (refine optK_of (intA' (by omega)) ?_; conv => whnf))
  cases h1 : (decide (1 ≤ g.n) && decide (g.n ≤ 17))
  · rw [show okG g = false by unfold okG okG0; rw [h1]; rfl]
    conv => whnf
    repeat (first | (refine And.intro (by first | exact Nat.le_of_ble_eq_true rfl | exact rfl | decide | omega | (simp [splice]; done) | (constructor <;> omega) | (simp [splice]; omega)) ?_; conv => whnf) | (refine optK_of (watA (by omega)) ?_; conv => whnf) | (refine optK_of (watA' (by omega)) ?_; conv => whnf) | (refine optK_of (hDA (by omega)) ?_; conv => whnf) | (refine optK_of (hDA' (by omega)) ?_; conv => whnf) | (refine optK_of (gutA (by omega)) ?_; conv => whnf) | (refine optK_of (pipeA (by omega)) ?_; conv => whnf) | (refine optK_of (pipeB (by omega)) ?_; conv => whnf) | (refine optK_of (pipeSA (by omega)) ?_; conv => whnf) | (refine optK_of (pipeSB (by omega)) ?_; conv => whnf) | (refine optK_of (intA (by omega)) ?_; conv => whnf) | (refine optK_of (intA' (by omega)) ?_; conv => whnf))
    first | refine ⟨rfl, _, rfl, ?_⟩ | refine ⟨_, rfl, ?_⟩
    rfl
  have h1' : 1 ≤ g.n ∧ g.n ≤ 17 := by simpa using h1
  conv => whnf
  repeat (first | (refine And.intro (by first | exact Nat.le_of_ble_eq_true rfl | exact rfl | decide | omega | (simp [splice]; done) | (constructor <;> omega) | (simp [splice]; omega)) ?_; conv => whnf) | (refine optK_of (watA (by omega)) ?_; conv => whnf) | (refine optK_of (watA' (by omega)) ?_; conv => whnf) | (refine optK_of (hDA (by omega)) ?_; conv => whnf) | (refine optK_of (hDA' (by omega)) ?_; conv => whnf) | (refine optK_of (gutA (by omega)) ?_; conv => whnf) | (refine optK_of (pipeA (by omega)) ?_; conv => whnf) | (refine optK_of (pipeB (by omega)) ?_; conv => whnf) | (refine optK_of (pipeSA (by omega)) ?_; conv => whnf) | (refine optK_of (pipeSB (by omega)) ?_; conv => whnf) | (refine optK_of (intA (by omega)) ?_; conv => whnf) | (refine optK_of (intA' (by omega)) ?_; conv => whnf))
  first | refine ⟨_, _, rfl, Sat.of_eq (isDeep16_sat _ hdp) (by repeat (first | rfl | exact vfull (by first | (simp [splice]; done) | (simp [splice]; omega)) | exact rfull (by first | (simp [splice]; done) | (simp [splice]; omega)) | exact vpipe (by simp; done) (by omega) | exact vsplice (by simp) (by simp) | refine ceq ?_ ?_ | refine Eq.trans (vsplice (by first | (simp; done) | (simp; omega)) (by first | (simp; done) | (simp; omega))) ?_)), ?_⟩ | refine .inl ⟨_, _, rfl, Sat.of_eq (isDeep16_sat _ hdp) (by repeat (first | rfl | exact vfull (by first | (simp [splice]; done) | (simp [splice]; omega)) | exact rfull (by first | (simp [splice]; done) | (simp [splice]; omega)) | exact vpipe (by simp; done) (by omega) | exact vsplice (by simp) (by simp) | refine ceq ?_ ?_ | refine Eq.trans (vsplice (by first | (simp; done) | (simp; omega)) (by first | (simp; done) | (simp; omega))) ?_)), ?_⟩
  conv => whnf
  repeat (first | (refine And.intro (by first | exact Nat.le_of_ble_eq_true rfl | exact rfl | decide | omega | (simp [splice]; done) | (constructor <;> omega) | (simp [splice]; omega)) ?_; conv => whnf) | (refine optK_of (watA (by omega)) ?_; conv => whnf) | (refine optK_of (watA' (by omega)) ?_; conv => whnf) | (refine optK_of (hDA (by omega)) ?_; conv => whnf) | (refine optK_of (hDA' (by omega)) ?_; conv => whnf) | (refine optK_of (gutA (by omega)) ?_; conv => whnf) | (refine optK_of (pipeA (by omega)) ?_; conv => whnf) | (refine optK_of (pipeB (by omega)) ?_; conv => whnf) | (refine optK_of (pipeSA (by omega)) ?_; conv => whnf) | (refine optK_of (pipeSB (by omega)) ?_; conv => whnf) | (refine optK_of (intA (by omega)) ?_; conv => whnf) | (refine optK_of (intA' (by omega)) ?_; conv => whnf))
  cases h2 : deepB g.dp
  · rw [show okG g = false by unfold okG okG0; rw [h1, h2]; rfl]
    conv => whnf
    repeat (first | (refine And.intro (by first | exact Nat.le_of_ble_eq_true rfl | exact rfl | decide | omega | (simp [splice]; done) | (constructor <;> omega) | (simp [splice]; omega)) ?_; conv => whnf) | (refine optK_of (watA (by omega)) ?_; conv => whnf) | (refine optK_of (watA' (by omega)) ?_; conv => whnf) | (refine optK_of (hDA (by omega)) ?_; conv => whnf) | (refine optK_of (hDA' (by omega)) ?_; conv => whnf) | (refine optK_of (gutA (by omega)) ?_; conv => whnf) | (refine optK_of (pipeA (by omega)) ?_; conv => whnf) | (refine optK_of (pipeB (by omega)) ?_; conv => whnf) | (refine optK_of (pipeSA (by omega)) ?_; conv => whnf) | (refine optK_of (pipeSB (by omega)) ?_; conv => whnf) | (refine optK_of (intA (by omega)) ?_; conv => whnf) | (refine optK_of (intA' (by omega)) ?_; conv => whnf))
    first | refine ⟨rfl, _, rfl, ?_⟩ | refine ⟨_, rfl, ?_⟩
    rfl
  conv => whnf
  repeat (first | (refine And.intro (by first | exact Nat.le_of_ble_eq_true rfl | exact rfl | decide | omega | (simp [splice]; done) | (constructor <;> omega) | (simp [splice]; omega)) ?_; conv => whnf) | (refine optK_of (watA (by omega)) ?_; conv => whnf) | (refine optK_of (watA' (by omega)) ?_; conv => whnf) | (refine optK_of (hDA (by omega)) ?_; conv => whnf) | (refine optK_of (hDA' (by omega)) ?_; conv => whnf) | (refine optK_of (gutA (by omega)) ?_; conv => whnf) | (refine optK_of (pipeA (by omega)) ?_; conv => whnf) | (refine optK_of (pipeB (by omega)) ?_; conv => whnf) | (refine optK_of (pipeSA (by omega)) ?_; conv => whnf) | (refine optK_of (pipeSB (by omega)) ?_; conv => whnf) | (refine optK_of (intA (by omega)) ?_; conv => whnf) | (refine optK_of (intA' (by omega)) ?_; conv => whnf))
  cases h3 : (g.lv.fdiv (2 ^ (min g.n.toNat IntKind.u32.bits)) != 0)
  case true =>
    have h3' : (g.lv.fdiv (2 ^ (min g.n.toNat IntKind.u32.bits)) == 0) = false := by simpa using h3
    rw [show okG g = false by unfold okG okG0; rw [h1, h2, h3']; rfl]
    conv => whnf
    repeat (first | (refine And.intro (by first | exact Nat.le_of_ble_eq_true rfl | exact rfl | decide | omega | (simp [splice]; done) | (constructor <;> omega) | (simp [splice]; omega)) ?_; conv => whnf) | (refine optK_of (watA (by omega)) ?_; conv => whnf) | (refine optK_of (watA' (by omega)) ?_; conv => whnf) | (refine optK_of (hDA (by omega)) ?_; conv => whnf) | (refine optK_of (hDA' (by omega)) ?_; conv => whnf) | (refine optK_of (gutA (by omega)) ?_; conv => whnf) | (refine optK_of (pipeA (by omega)) ?_; conv => whnf) | (refine optK_of (pipeB (by omega)) ?_; conv => whnf) | (refine optK_of (pipeSA (by omega)) ?_; conv => whnf) | (refine optK_of (pipeSB (by omega)) ?_; conv => whnf) | (refine optK_of (intA (by omega)) ?_; conv => whnf) | (refine optK_of (intA' (by omega)) ?_; conv => whnf))
    first | refine ⟨rfl, _, rfl, ?_⟩ | refine ⟨_, rfl, ?_⟩
    rfl
  have h3' : (g.lv.fdiv (2 ^ (min g.n.toNat IntKind.u32.bits)) == 0) = true := by simpa using h3
  conv => whnf
  repeat (first | (refine And.intro (by first | exact Nat.le_of_ble_eq_true rfl | exact rfl | decide | omega | (simp [splice]; done) | (constructor <;> omega) | (simp [splice]; omega)) ?_; conv => whnf) | (refine optK_of (watA (by omega)) ?_; conv => whnf) | (refine optK_of (watA' (by omega)) ?_; conv => whnf) | (refine optK_of (hDA (by omega)) ?_; conv => whnf) | (refine optK_of (hDA' (by omega)) ?_; conv => whnf) | (refine optK_of (gutA (by omega)) ?_; conv => whnf) | (refine optK_of (pipeA (by omega)) ?_; conv => whnf) | (refine optK_of (pipeB (by omega)) ?_; conv => whnf) | (refine optK_of (pipeSA (by omega)) ?_; conv => whnf) | (refine optK_of (pipeSB (by omega)) ?_; conv => whnf) | (refine optK_of (intA (by omega)) ?_; conv => whnf) | (refine optK_of (intA' (by omega)) ?_; conv => whnf))
  cases h4 : decide ((g.ps.length : Int) > 4)
  case true =>
    have h4' : decide (g.ps.length ≤ 4) = false := by simp at h4 ⊢; omega
    rw [show okG g = false by unfold okG okG0; rw [h1, h2, h3', h4']; rfl]
    conv => whnf
    repeat (first | (refine And.intro (by first | exact Nat.le_of_ble_eq_true rfl | exact rfl | decide | omega | (simp [splice]; done) | (constructor <;> omega) | (simp [splice]; omega)) ?_; conv => whnf) | (refine optK_of (watA (by omega)) ?_; conv => whnf) | (refine optK_of (watA' (by omega)) ?_; conv => whnf) | (refine optK_of (hDA (by omega)) ?_; conv => whnf) | (refine optK_of (hDA' (by omega)) ?_; conv => whnf) | (refine optK_of (gutA (by omega)) ?_; conv => whnf) | (refine optK_of (pipeA (by omega)) ?_; conv => whnf) | (refine optK_of (pipeB (by omega)) ?_; conv => whnf) | (refine optK_of (pipeSA (by omega)) ?_; conv => whnf) | (refine optK_of (pipeSB (by omega)) ?_; conv => whnf) | (refine optK_of (intA (by omega)) ?_; conv => whnf) | (refine optK_of (intA' (by omega)) ?_; conv => whnf))
    first | refine ⟨rfl, _, rfl, ?_⟩ | refine ⟨_, rfl, ?_⟩
    rfl
  have h4' : g.ps.length ≤ 4 := by simp at h4; omega
  have h0 : okG0 g = true := by unfold okG0; rw [h1, h2, h3']; simpa using h4'
  clear h1 h2 h3 h3' h4
  conv => whnf
  repeat (first | (refine And.intro (by first | exact Nat.le_of_ble_eq_true rfl | exact rfl | decide | omega | (simp [splice]; done) | (constructor <;> omega) | (simp [splice]; omega)) ?_; conv => whnf) | (refine optK_of (watA (by omega)) ?_; conv => whnf) | (refine optK_of (watA' (by omega)) ?_; conv => whnf) | (refine optK_of (hDA (by omega)) ?_; conv => whnf) | (refine optK_of (hDA' (by omega)) ?_; conv => whnf) | (refine optK_of (gutA (by omega)) ?_; conv => whnf) | (refine optK_of (pipeA (by omega)) ?_; conv => whnf) | (refine optK_of (pipeB (by omega)) ?_; conv => whnf) | (refine optK_of (pipeSA (by omega)) ?_; conv => whnf) | (refine optK_of (pipeSB (by omega)) ?_; conv => whnf) | (refine optK_of (intA (by omega)) ?_; conv => whnf) | (refine optK_of (intA' (by omega)) ?_; conv => whnf))
  refine loop_rule (α := Nat) (fun k => [(1, .ptr (1, 0, 0) 0), (32, .agg (hD g.h)), (33, .v (.int .i64 k))]) (fun k => [((1, 0, 0), gutD false g)]) (fun k => k ≤ 17 ∧ ∀ j, j < k → hOk g j = true) (fun k => 17 - k) (0) ?_ (sim_of (rn := [((1, 0, 0), (1, 0, 0))]) rfl ?_ ?_) ?_
  · exact ⟨Nat.zero_le _, fun j hj => by omega⟩
  · ((repeat' (first | exact trivial | apply And.intro)) <;> (first | rfl | exact succ8 (by omega) | exact succ64 (by omega) | exact CapOk.fn (by assumption) _ _ | exact vintS (by omega) | exact vintS (by rw [w64 (by omega) (by omega)]; omega) | exact vintS (by rw [w8 (by omega) (by omega)]; omega) | exact vslcS (by omega) | exact vslcS (by simp)))
  · ((repeat' (first | exact trivial | apply And.intro)) <;> (refine ⟨_, _, rfl, rfl, ?_⟩; first | rfl | (rfl)))
  rintro k ⟨hk, hall⟩
  conv => whnf
  repeat (first | (refine And.intro (by first | exact Nat.le_of_ble_eq_true rfl | exact rfl | decide | omega | (simp [splice]; done) | (constructor <;> omega) | (simp [splice]; omega)) ?_; conv => whnf) | (refine optK_of (watA (by omega)) ?_; conv => whnf) | (refine optK_of (watA' (by omega)) ?_; conv => whnf) | (refine optK_of (hDA (by omega)) ?_; conv => whnf) | (refine optK_of (hDA' (by omega)) ?_; conv => whnf) | (refine optK_of (gutA (by omega)) ?_; conv => whnf) | (refine optK_of (pipeA (by omega)) ?_; conv => whnf) | (refine optK_of (pipeB (by omega)) ?_; conv => whnf) | (refine optK_of (pipeSA (by omega)) ?_; conv => whnf) | (refine optK_of (pipeSB (by omega)) ?_; conv => whnf) | (refine optK_of (intA (by omega)) ?_; conv => whnf) | (refine optK_of (intA' (by omega)) ?_; conv => whnf))
  cases h5 : decide ((k : Int) < 17)
  case true =>
    have hk17 : k < 17 := by simp at h5; omega
    conv => whnf
    repeat (first | (refine And.intro (by first | exact Nat.le_of_ble_eq_true rfl | exact rfl | decide | omega | (simp [splice]; done) | (constructor <;> omega) | (simp [splice]; omega)) ?_; conv => whnf) | (refine optK_of (watA (by omega)) ?_; conv => whnf) | (refine optK_of (watA' (by omega)) ?_; conv => whnf) | (refine optK_of (hDA (by omega)) ?_; conv => whnf) | (refine optK_of (hDA' (by omega)) ?_; conv => whnf) | (refine optK_of (gutA (by omega)) ?_; conv => whnf) | (refine optK_of (pipeA (by omega)) ?_; conv => whnf) | (refine optK_of (pipeB (by omega)) ?_; conv => whnf) | (refine optK_of (pipeSA (by omega)) ?_; conv => whnf) | (refine optK_of (pipeSB (by omega)) ?_; conv => whnf) | (refine optK_of (intA (by omega)) ?_; conv => whnf) | (refine optK_of (intA' (by omega)) ?_; conv => whnf))
    first | refine ⟨_, _, rfl, Sat.of_eq (within8_sat _ _ _) (by repeat (first | rfl | exact vfull (by first | (simp [splice]; done) | (simp [splice]; omega)) | exact rfull (by first | (simp [splice]; done) | (simp [splice]; omega)) | exact vpipe (by simp; done) (by omega) | exact vsplice (by simp) (by simp) | refine ceq ?_ ?_ | refine Eq.trans (vsplice (by first | (simp; done) | (simp; omega)) (by first | (simp; done) | (simp; omega))) ?_)), ?_⟩ | refine .inl ⟨_, _, rfl, Sat.of_eq (within8_sat _ _ _) (by repeat (first | rfl | exact vfull (by first | (simp [splice]; done) | (simp [splice]; omega)) | exact rfull (by first | (simp [splice]; done) | (simp [splice]; omega)) | exact vpipe (by simp; done) (by omega) | exact vsplice (by simp) (by simp) | refine ceq ?_ ?_ | refine Eq.trans (vsplice (by first | (simp; done) | (simp; omega)) (by first | (simp; done) | (simp; omega))) ?_)), ?_⟩
    conv => whnf
    repeat (first | (refine And.intro (by first | exact Nat.le_of_ble_eq_true rfl | exact rfl | decide | omega | (simp [splice]; done) | (constructor <;> omega) | (simp [splice]; omega)) ?_; conv => whnf) | (refine optK_of (watA (by omega)) ?_; conv => whnf) | (refine optK_of (watA' (by omega)) ?_; conv => whnf) | (refine optK_of (hDA (by omega)) ?_; conv => whnf) | (refine optK_of (hDA' (by omega)) ?_; conv => whnf) | (refine optK_of (gutA (by omega)) ?_; conv => whnf) | (refine optK_of (pipeA (by omega)) ?_; conv => whnf) | (refine optK_of (pipeB (by omega)) ?_; conv => whnf) | (refine optK_of (pipeSA (by omega)) ?_; conv => whnf) | (refine optK_of (pipeSB (by omega)) ?_; conv => whnf) | (refine optK_of (intA (by omega)) ?_; conv => whnf) | (refine optK_of (intA' (by omega)) ?_; conv => whnf))
    cases h6 : (decide (0 ≤ g.h k) && decide (g.h k ≤ 9))
    · have hb : hOk g k = false := by unfold hOk; rw [h6]; rfl
      rw [show okG g = false by unfold okG; rw [h0, allN_false hk17 hb]; rfl]
      conv => whnf
      repeat (first | (refine And.intro (by first | exact Nat.le_of_ble_eq_true rfl | exact rfl | decide | omega | (simp [splice]; done) | (constructor <;> omega) | (simp [splice]; omega)) ?_; conv => whnf) | (refine optK_of (watA (by omega)) ?_; conv => whnf) | (refine optK_of (watA' (by omega)) ?_; conv => whnf) | (refine optK_of (hDA (by omega)) ?_; conv => whnf) | (refine optK_of (hDA' (by omega)) ?_; conv => whnf) | (refine optK_of (gutA (by omega)) ?_; conv => whnf) | (refine optK_of (pipeA (by omega)) ?_; conv => whnf) | (refine optK_of (pipeB (by omega)) ?_; conv => whnf) | (refine optK_of (pipeSA (by omega)) ?_; conv => whnf) | (refine optK_of (pipeSB (by omega)) ?_; conv => whnf) | (refine optK_of (intA (by omega)) ?_; conv => whnf) | (refine optK_of (intA' (by omega)) ?_; conv => whnf))
      first | refine ⟨rfl, _, rfl, ?_⟩ | refine ⟨_, rfl, ?_⟩
      rfl
    conv => whnf
    repeat (first | (refine And.intro (by first | exact Nat.le_of_ble_eq_true rfl | exact rfl | decide | omega | (simp [splice]; done) | (constructor <;> omega) | (simp [splice]; omega)) ?_; conv => whnf) | (refine optK_of (watA (by omega)) ?_; conv => whnf) | (refine optK_of (watA' (by omega)) ?_; conv => whnf) | (refine optK_of (hDA (by omega)) ?_; conv => whnf) | (refine optK_of (hDA' (by omega)) ?_; conv => whnf) | (refine optK_of (gutA (by omega)) ?_; conv => whnf) | (refine optK_of (pipeA (by omega)) ?_; conv => whnf) | (refine optK_of (pipeB (by omega)) ?_; conv => whnf) | (refine optK_of (pipeSA (by omega)) ?_; conv => whnf) | (refine optK_of (pipeSB (by omega)) ?_; conv => whnf) | (refine optK_of (intA (by omega)) ?_; conv => whnf) | (refine optK_of (intA' (by omega)) ?_; conv => whnf))
    cases h8 : (g.h k != 0)
    · have hb : hOk g k = true := by
        unfold hOk
        rw [h6, show (g.h k == 0) = true by simpa using h8]
        simp
      have hall' := below_succ (p := fun j => hOk g j = true) hall hb
      conv => whnf
      repeat (first | (refine And.intro (by first | exact Nat.le_of_ble_eq_true rfl | exact rfl | decide | omega | (simp [splice]; done) | (constructor <;> omega) | (simp [splice]; omega)) ?_; conv => whnf) | (refine optK_of (watA (by omega)) ?_; conv => whnf) | (refine optK_of (watA' (by omega)) ?_; conv => whnf) | (refine optK_of (hDA (by omega)) ?_; conv => whnf) | (refine optK_of (hDA' (by omega)) ?_; conv => whnf) | (refine optK_of (gutA (by omega)) ?_; conv => whnf) | (refine optK_of (pipeA (by omega)) ?_; conv => whnf) | (refine optK_of (pipeB (by omega)) ?_; conv => whnf) | (refine optK_of (pipeSA (by omega)) ?_; conv => whnf) | (refine optK_of (pipeSB (by omega)) ?_; conv => whnf) | (refine optK_of (intA (by omega)) ?_; conv => whnf) | (refine optK_of (intA' (by omega)) ?_; conv => whnf))
      refine ⟨k + 1, ?_, ?_, sim_of (rn := [((1, 0, 0), (1, 0, 0))]) rfl ?_ ?_⟩
      · (dsimp only; omega)
      · exact ⟨by omega, hall'⟩
      · ((repeat' (first | exact trivial | apply And.intro)) <;> (first | rfl | exact succ8 (by omega) | exact succ64 (by omega) | exact CapOk.fn (by assumption) _ _ | exact vintS (by omega) | exact vintS (by rw [w64 (by omega) (by omega)]; omega) | exact vintS (by rw [w8 (by omega) (by omega)]; omega) | exact vslcS (by omega) | exact vslcS (by simp)))
      · ((repeat' (first | exact trivial | apply And.intro)) <;> (refine ⟨_, _, rfl, rfl, ?_⟩; first | rfl | (rfl)))
    conv => whnf
    repeat (first | (refine And.intro (by first | exact Nat.le_of_ble_eq_true rfl | exact rfl | decide | omega | (simp [splice]; done) | (constructor <;> omega) | (simp [splice]; omega)) ?_; conv => whnf) | (refine optK_of (watA (by omega)) ?_; conv => whnf) | (refine optK_of (watA' (by omega)) ?_; conv => whnf) | (refine optK_of (hDA (by omega)) ?_; conv => whnf) | (refine optK_of (hDA' (by omega)) ?_; conv => whnf) | (refine optK_of (gutA (by omega)) ?_; conv => whnf) | (refine optK_of (pipeA (by omega)) ?_; conv => whnf) | (refine optK_of (pipeB (by omega)) ?_; conv => whnf) | (refine optK_of (pipeSA (by omega)) ?_; conv => whnf) | (refine optK_of (pipeSB (by omega)) ?_; conv => whnf) | (refine optK_of (intA (by omega)) ?_; conv => whnf) | (refine optK_of (intA' (by omega)) ?_; conv => whnf))
    rw [en]
    cases h7 : decide ((k : Int) ≥ g.n)
    · have hb : hOk g k = true := by
        unfold hOk
        rw [h6, show decide ((k : Int) < g.n) = true by simp at h7 ⊢; omega]
        rfl
      have hall' := below_succ (p := fun j => hOk g j = true) hall hb
      conv => whnf
      repeat (first | (refine And.intro (by first | exact Nat.le_of_ble_eq_true rfl | exact rfl | decide | omega | (simp [splice]; done) | (constructor <;> omega) | (simp [splice]; omega)) ?_; conv => whnf) | (refine optK_of (watA (by omega)) ?_; conv => whnf) | (refine optK_of (watA' (by omega)) ?_; conv => whnf) | (refine optK_of (hDA (by omega)) ?_; conv => whnf) | (refine optK_of (hDA' (by omega)) ?_; conv => whnf) | (refine optK_of (gutA (by omega)) ?_; conv => whnf) | (refine optK_of (pipeA (by omega)) ?_; conv => whnf) | (refine optK_of (pipeB (by omega)) ?_; conv => whnf) | (refine optK_of (pipeSA (by omega)) ?_; conv => whnf) | (refine optK_of (pipeSB (by omega)) ?_; conv => whnf) | (refine optK_of (intA (by omega)) ?_; conv => whnf) | (refine optK_of (intA' (by omega)) ?_; conv => whnf))
      refine ⟨k + 1, ?_, ?_, sim_of (rn := [((1, 0, 0), (1, 0, 0))]) rfl ?_ ?_⟩
      · (dsimp only; omega)
      · exact ⟨by omega, hall'⟩
      · ((repeat' (first | exact trivial | apply And.intro)) <;> (first | rfl | exact succ8 (by omega) | exact succ64 (by omega) | exact CapOk.fn (by assumption) _ _ | exact vintS (by omega) | exact vintS (by rw [w64 (by omega) (by omega)]; omega) | exact vintS (by rw [w8 (by omega) (by omega)]; omega) | exact vslcS (by omega) | exact vslcS (by simp)))
      · ((repeat' (first | exact trivial | apply And.intro)) <;> (refine ⟨_, _, rfl, rfl, ?_⟩; first | rfl | (rfl)))
    have hb : hOk g k = false := by
      unfold hOk
      rw [h6, show decide ((k : Int) < g.n) = false by simp at h7 ⊢; omega]
      simpa using h8
    rw [show okG g = false by unfold okG; rw [h0, allN_false hk17 hb]; rfl]
    conv => whnf
    repeat (first | (refine And.intro (by first | exact Nat.le_of_ble_eq_true rfl | exact rfl | decide | omega | (simp [splice]; done) | (constructor <;> omega) | (simp [splice]; omega)) ?_; conv => whnf) | (refine optK_of (watA (by omega)) ?_; conv => whnf) | (refine optK_of (watA' (by omega)) ?_; conv => whnf) | (refine optK_of (hDA (by omega)) ?_; conv => whnf) | (refine optK_of (hDA' (by omega)) ?_; conv => whnf) | (refine optK_of (gutA (by omega)) ?_; conv => whnf) | (refine optK_of (pipeA (by omega)) ?_; conv => whnf) | (refine optK_of (pipeB (by omega)) ?_; conv => whnf) | (refine optK_of (pipeSA (by omega)) ?_; conv => whnf) | (refine optK_of (pipeSB (by omega)) ?_; conv => whnf) | (refine optK_of (intA (by omega)) ?_; conv => whnf) | (refine optK_of (intA' (by omega)) ?_; conv => whnf))
    first | refine ⟨rfl, _, rfl, ?_⟩ | refine ⟨_, rfl, ?_⟩
    rfl
  have hk17 : k = 17 := by simp at h5; omega
  subst hk17
  have hH : (List.range 17).all (hOk g) = true := allN_iff.2 hall
  clear hall h5
  have en1 : IntKind.i8.wrap (g.n - 1) = g.n - 1 := w8 (by omega) (by omega)
  conv => whnf
  repeat (first | (refine And.intro (by first | exact Nat.le_of_ble_eq_true rfl | exact rfl | decide | omega | (simp [splice]; done) | (constructor <;> omega) | (simp [splice]; omega)) ?_; conv => whnf) | (refine optK_of (watA (by omega)) ?_; conv => whnf) | (refine optK_of (watA' (by omega)) ?_; conv => whnf) | (refine optK_of (hDA (by omega)) ?_; conv => whnf) | (refine optK_of (hDA' (by omega)) ?_; conv => whnf) | (refine optK_of (gutA (by omega)) ?_; conv => whnf) | (refine optK_of (pipeA (by omega)) ?_; conv => whnf) | (refine optK_of (pipeB (by omega)) ?_; conv => whnf) | (refine optK_of (pipeSA (by omega)) ?_; conv => whnf) | (refine optK_of (pipeSB (by omega)) ?_; conv => whnf) | (refine optK_of (intA (by omega)) ?_; conv => whnf) | (refine optK_of (intA' (by omega)) ?_; conv => whnf))
  refine loop_rule (α := Nat) (fun i => [(1, .ptr (1, 0, 0) 0), (53, pipesD false g.ps), (54, .v (.int .i64 g.ps.length)), (55, .v (.int .i64 i))]) (fun i => [((1, 0, 0), gutD false g)]) (fun i => i ≤ g.ps.length ∧ ∀ j, j < i → pOk g j = true) (fun i => g.ps.length - i) (0) ?_ (sim_of (rn := [((1, 0, 0), (1, 0, 0))]) rfl ?_ ?_) ?_
  · exact ⟨Nat.zero_le _, fun j hj => by omega⟩
  · ((repeat' (first | exact trivial | apply And.intro)) <;> (first | rfl | exact succ8 (by omega) | exact succ64 (by omega) | exact CapOk.fn (by assumption) _ _ | exact vintS (by omega) | exact vintS (by rw [w64 (by omega) (by omega)]; omega) | exact vintS (by rw [w8 (by omega) (by omega)]; omega) | exact vslcS (by omega) | exact vslcS (by simp)))
  · ((repeat' (first | exact trivial | apply And.intro)) <;> (refine ⟨_, _, rfl, rfl, ?_⟩; first | rfl | (rfl)))
  rintro i ⟨hi, hall⟩
  conv => whnf
  repeat (first | (refine And.intro (by first | exact Nat.le_of_ble_eq_true rfl | exact rfl | decide | omega | (simp [splice]; done) | (constructor <;> omega) | (simp [splice]; omega)) ?_; conv => whnf) | (refine optK_of (watA (by omega)) ?_; conv => whnf) | (refine optK_of (watA' (by omega)) ?_; conv => whnf) | (refine optK_of (hDA (by omega)) ?_; conv => whnf) | (refine optK_of (hDA' (by omega)) ?_; conv => whnf) | (refine optK_of (gutA (by omega)) ?_; conv => whnf) | (refine optK_of (pipeA (by omega)) ?_; conv => whnf) | (refine optK_of (pipeB (by omega)) ?_; conv => whnf) | (refine optK_of (pipeSA (by omega)) ?_; conv => whnf) | (refine optK_of (pipeSB (by omega)) ?_; conv => whnf) | (refine optK_of (intA (by omega)) ?_; conv => whnf) | (refine optK_of (intA' (by omega)) ?_; conv => whnf))
  cases h5 : decide ((i : Int) < (g.ps.length : Int))
  · have hin : i = g.ps.length := by simp at h5; omega
    subst hin
    rw [show okG g = true by unfold okG; rw [h0, hH, allN_iff.2 hall]; rfl]
    conv => whnf
    repeat (first | (refine And.intro (by first | exact Nat.le_of_ble_eq_true rfl | exact rfl | decide | omega | (simp [splice]; done) | (constructor <;> omega) | (simp [splice]; omega)) ?_; conv => whnf) | (refine optK_of (watA (by omega)) ?_; conv => whnf) | (refine optK_of (watA' (by omega)) ?_; conv => whnf) | (refine optK_of (hDA (by omega)) ?_; conv => whnf) | (refine optK_of (hDA' (by omega)) ?_; conv => whnf) | (refine optK_of (gutA (by omega)) ?_; conv => whnf) | (refine optK_of (pipeA (by omega)) ?_; conv => whnf) | (refine optK_of (pipeB (by omega)) ?_; conv => whnf) | (refine optK_of (pipeSA (by omega)) ?_; conv => whnf) | (refine optK_of (pipeSB (by omega)) ?_; conv => whnf) | (refine optK_of (intA (by omega)) ?_; conv => whnf) | (refine optK_of (intA' (by omega)) ?_; conv => whnf))
    first | refine ⟨rfl, _, rfl, ?_⟩ | refine ⟨_, rfl, ?_⟩
    rfl
  have hin : i < g.ps.length := by simpa using h5
  have hp := hg.ps i hin
  have bad : pOk g i = false → okG g = false := fun hb => by unfold okG; rw [h0, hH, allN_false hin hb]; rfl
  conv => whnf
  repeat (first | (refine And.intro (by first | exact Nat.le_of_ble_eq_true rfl | exact rfl | decide | omega | (simp [splice]; done) | (constructor <;> omega) | (simp [splice]; omega)) ?_; conv => whnf) | (refine optK_of (watA (by omega)) ?_; conv => whnf) | (refine optK_of (watA' (by omega)) ?_; conv => whnf) | (refine optK_of (hDA (by omega)) ?_; conv => whnf) | (refine optK_of (hDA' (by omega)) ?_; conv => whnf) | (refine optK_of (gutA (by omega)) ?_; conv => whnf) | (refine optK_of (pipeA (by omega)) ?_; conv => whnf) | (refine optK_of (pipeB (by omega)) ?_; conv => whnf) | (refine optK_of (pipeSA (by omega)) ?_; conv => whnf) | (refine optK_of (pipeSB (by omega)) ?_; conv => whnf) | (refine optK_of (intA (by omega)) ?_; conv => whnf) | (refine optK_of (intA' (by omega)) ?_; conv => whnf))
  rw [en1]
  first | refine ⟨_, _, rfl, Sat.of_eq (within8_sat _ _ _) (by repeat (first | rfl | exact vfull (by first | (simp [splice]; done) | (simp [splice]; omega)) | exact rfull (by first | (simp [splice]; done) | (simp [splice]; omega)) | exact vpipe (by simp; done) (by omega) | exact vsplice (by simp) (by simp) | refine ceq ?_ ?_ | refine Eq.trans (vsplice (by first | (simp; done) | (simp; omega)) (by first | (simp; done) | (simp; omega))) ?_)), ?_⟩ | refine .inl ⟨_, _, rfl, Sat.of_eq (within8_sat _ _ _) (by repeat (first | rfl | exact vfull (by first | (simp [splice]; done) | (simp [splice]; omega)) | exact rfull (by first | (simp [splice]; done) | (simp [splice]; omega)) | exact vpipe (by simp; done) (by omega) | exact vsplice (by simp) (by simp) | refine ceq ?_ ?_ | refine Eq.trans (vsplice (by first | (simp; done) | (simp; omega)) (by first | (simp; done) | (simp; omega))) ?_)), ?_⟩
  conv => whnf
  repeat (first | (refine And.intro (by first | exact Nat.le_of_ble_eq_true rfl | exact rfl | decide | omega | (simp [splice]; done) | (constructor <;> omega) | (simp [splice]; omega)) ?_; conv => whnf) | (refine optK_of (watA (by omega)) ?_; conv => whnf) | (refine optK_of (watA' (by omega)) ?_; conv => whnf) | (refine optK_of (hDA (by omega)) ?_; conv => whnf) | (refine optK_of (hDA' (by omega)) ?_; conv => whnf) | (refine optK_of (gutA (by omega)) ?_; conv => whnf) | (refine optK_of (pipeA (by omega)) ?_; conv => whnf) | (refine optK_of (pipeB (by omega)) ?_; conv => whnf) | (refine optK_of (pipeSA (by omega)) ?_; conv => whnf) | (refine optK_of (pipeSB (by omega)) ?_; conv => whnf) | (refine optK_of (intA (by omega)) ?_; conv => whnf) | (refine optK_of (intA' (by omega)) ?_; conv => whnf))
  cases h6 : (decide (0 ≤ (px g.ps i).1) && decide ((px g.ps i).1 ≤ g.n - 1))
  · rw [bad (by unfold pOk; rw [h6]; rfl)]
    conv => whnf
    repeat (first | (refine And.intro (by first | exact Nat.le_of_ble_eq_true rfl | exact rfl | decide | omega | (simp [splice]; done) | (constructor <;> omega) | (simp [splice]; omega)) ?_; conv => whnf) | (refine optK_of (watA (by omega)) ?_; conv => whnf) | (refine optK_of (watA' (by omega)) ?_; conv => whnf) | (refine optK_of (hDA (by omega)) ?_; conv => whnf) | (refine optK_of (hDA' (by omega)) ?_; conv => whnf) | (refine optK_of (gutA (by omega)) ?_; conv => whnf) | (refine optK_of (pipeA (by omega)) ?_; conv => whnf) | (refine optK_of (pipeB (by omega)) ?_; conv => whnf) | (refine optK_of (pipeSA (by omega)) ?_; conv => whnf) | (refine optK_of (pipeSB (by omega)) ?_; conv => whnf) | (refine optK_of (intA (by omega)) ?_; conv => whnf) | (refine optK_of (intA' (by omega)) ?_; conv => whnf))
    first | refine ⟨rfl, _, rfl, ?_⟩ | refine ⟨_, rfl, ?_⟩
    rfl
  conv => whnf
  repeat (first | (refine And.intro (by first | exact Nat.le_of_ble_eq_true rfl | exact rfl | decide | omega | (simp [splice]; done) | (constructor <;> omega) | (simp [splice]; omega)) ?_; conv => whnf) | (refine optK_of (watA (by omega)) ?_; conv => whnf) | (refine optK_of (watA' (by omega)) ?_; conv => whnf) | (refine optK_of (hDA (by omega)) ?_; conv => whnf) | (refine optK_of (hDA' (by omega)) ?_; conv => whnf) | (refine optK_of (gutA (by omega)) ?_; conv => whnf) | (refine optK_of (pipeA (by omega)) ?_; conv => whnf) | (refine optK_of (pipeB (by omega)) ?_; conv => whnf) | (refine optK_of (pipeSA (by omega)) ?_; conv => whnf) | (refine optK_of (pipeSB (by omega)) ?_; conv => whnf) | (refine optK_of (intA (by omega)) ?_; conv => whnf) | (refine optK_of (intA' (by omega)) ?_; conv => whnf))
  first | refine ⟨_, _, rfl, Sat.of_eq (isDeep16_sat _ hp.2) (by repeat (first | rfl | exact vfull (by first | (simp [splice]; done) | (simp [splice]; omega)) | exact rfull (by first | (simp [splice]; done) | (simp [splice]; omega)) | exact vpipe (by simp; done) (by omega) | exact vsplice (by simp) (by simp) | refine ceq ?_ ?_ | refine Eq.trans (vsplice (by first | (simp; done) | (simp; omega)) (by first | (simp; done) | (simp; omega))) ?_)), ?_⟩ | refine .inl ⟨_, _, rfl, Sat.of_eq (isDeep16_sat _ hp.2) (by repeat (first | rfl | exact vfull (by first | (simp [splice]; done) | (simp [splice]; omega)) | exact rfull (by first | (simp [splice]; done) | (simp [splice]; omega)) | exact vpipe (by simp; done) (by omega) | exact vsplice (by simp) (by simp) | refine ceq ?_ ?_ | refine Eq.trans (vsplice (by first | (simp; done) | (simp; omega)) (by first | (simp; done) | (simp; omega))) ?_)), ?_⟩
  conv => whnf
  repeat (first | (refine And.intro (by first | exact Nat.le_of_ble_eq_true rfl | exact rfl | decide | omega | (simp [splice]; done) | (constructor <;> omega) | (simp [splice]; omega)) ?_; conv => whnf) | (refine optK_of (watA (by omega)) ?_; conv => whnf) | (refine optK_of (watA' (by omega)) ?_; conv => whnf) | (refine optK_of (hDA (by omega)) ?_; conv => whnf) | (refine optK_of (hDA' (by omega)) ?_; conv => whnf) | (refine optK_of (gutA (by omega)) ?_; conv => whnf) | (refine optK_of (pipeA (by omega)) ?_; conv => whnf) | (refine optK_of (pipeB (by omega)) ?_; conv => whnf) | (refine optK_of (pipeSA (by omega)) ?_; conv => whnf) | (refine optK_of (pipeSB (by omega)) ?_; conv => whnf) | (refine optK_of (intA (by omega)) ?_; conv => whnf) | (refine optK_of (intA' (by omega)) ?_; conv => whnf))
  cases h8 : deepB (px g.ps i).2
  · rw [bad (by unfold pOk; rw [h6, h8]; rfl)]
    conv => whnf
    repeat (first | (refine And.intro (by first | exact Nat.le_of_ble_eq_true rfl | exact rfl | decide | omega | (simp [splice]; done) | (constructor <;> omega) | (simp [splice]; omega)) ?_; conv => whnf) | (refine optK_of (watA (by omega)) ?_; conv => whnf) | (refine optK_of (watA' (by omega)) ?_; conv => whnf) | (refine optK_of (hDA (by omega)) ?_; conv => whnf) | (refine optK_of (hDA' (by omega)) ?_; conv => whnf) | (refine optK_of (gutA (by omega)) ?_; conv => whnf) | (refine optK_of (pipeA (by omega)) ?_; conv => whnf) | (refine optK_of (pipeB (by omega)) ?_; conv => whnf) | (refine optK_of (pipeSA (by omega)) ?_; conv => whnf) | (refine optK_of (pipeSB (by omega)) ?_; conv => whnf) | (refine optK_of (intA (by omega)) ?_; conv => whnf) | (refine optK_of (intA' (by omega)) ?_; conv => whnf))
    first | refine ⟨rfl, _, rfl, ?_⟩ | refine ⟨_, rfl, ?_⟩
    rfl
  conv => whnf
  repeat (first | (refine And.intro (by first | exact Nat.le_of_ble_eq_true rfl | exact rfl | decide | omega | (simp [splice]; done) | (constructor <;> omega) | (simp [splice]; omega)) ?_; conv => whnf) | (refine optK_of (watA (by omega)) ?_; conv => whnf) | (refine optK_of (watA' (by omega)) ?_; conv => whnf) | (refine optK_of (hDA (by omega)) ?_; conv => whnf) | (refine optK_of (hDA' (by omega)) ?_; conv => whnf) | (refine optK_of (gutA (by omega)) ?_; conv => whnf) | (refine optK_of (pipeA (by omega)) ?_; conv => whnf) | (refine optK_of (pipeB (by omega)) ?_; conv => whnf) | (refine optK_of (pipeSA (by omega)) ?_; conv => whnf) | (refine optK_of (pipeSB (by omega)) ?_; conv => whnf) | (refine optK_of (intA (by omega)) ?_; conv => whnf) | (refine optK_of (intA' (by omega)) ?_; conv => whnf))
  cases h9 : decide ((i : Int) > 0)
  · have hb : pOk g i = true := by
      unfold pOk
      have : i = 0 := by simp at h9; omega
      rw [h6, h8, this]; rfl
    have hall' := below_succ (p := fun j => pOk g j = true) hall hb
    conv => whnf
    repeat (first | (refine And.intro (by first | exact Nat.le_of_ble_eq_true rfl | exact rfl | decide | omega | (simp [splice]; done) | (constructor <;> omega) | (simp [splice]; omega)) ?_; conv => whnf) | (refine optK_of (watA (by omega)) ?_; conv => whnf) | (refine optK_of (watA' (by omega)) ?_; conv => whnf) | (refine optK_of (hDA (by omega)) ?_; conv => whnf) | (refine optK_of (hDA' (by omega)) ?_; conv => whnf) | (refine optK_of (gutA (by omega)) ?_; conv => whnf) | (refine optK_of (pipeA (by omega)) ?_; conv => whnf) | (refine optK_of (pipeB (by omega)) ?_; conv => whnf) | (refine optK_of (pipeSA (by omega)) ?_; conv => whnf) | (refine optK_of (pipeSB (by omega)) ?_; conv => whnf) | (refine optK_of (intA (by omega)) ?_; conv => whnf) | (refine optK_of (intA' (by omega)) ?_; conv => whnf))
    refine ⟨i + 1, ?_, ?_, sim_of (rn := [((1, 0, 0), (1, 0, 0))]) rfl ?_ ?_⟩
    · (dsimp only; omega)
    · exact ⟨by omega, hall'⟩
    · ((repeat' (first | exact trivial | apply And.intro)) <;> (first | rfl | exact succ8 (by omega) | exact succ64 (by omega) | exact CapOk.fn (by assumption) _ _ | exact vintS (by omega) | exact vintS (by rw [w64 (by omega) (by omega)]; omega) | exact vintS (by rw [w8 (by omega) (by omega)]; omega) | exact vslcS (by omega) | exact vslcS (by simp)))
    · ((repeat' (first | exact trivial | apply And.intro)) <;> (refine ⟨_, _, rfl, rfl, ?_⟩; first | rfl | (rfl)))
  have hi0 : 0 < i := by simp at h9; omega
  have hi0' : (i == 0) = false := by simp; omega
  have ei : IntKind.i64.wrap ((i : Int) - 1) = ((i - 1 : Nat) : Int) := by rw [w64 (by omega) (by omega)]; omega
  conv => whnf
  repeat (first | (refine And.intro (by first | exact Nat.le_of_ble_eq_true rfl | exact rfl | decide | omega | (simp [splice]; done) | (constructor <;> omega) | (simp [splice]; omega)) ?_; conv => whnf) | (refine optK_of (watA (by omega)) ?_; conv => whnf) | (refine optK_of (watA' (by omega)) ?_; conv => whnf) | (refine optK_of (hDA (by omega)) ?_; conv => whnf) | (refine optK_of (hDA' (by omega)) ?_; conv => whnf) | (refine optK_of (gutA (by omega)) ?_; conv => whnf) | (refine optK_of (pipeA (by omega)) ?_; conv => whnf) | (refine optK_of (pipeB (by omega)) ?_; conv => whnf) | (refine optK_of (pipeSA (by omega)) ?_; conv => whnf) | (refine optK_of (pipeSB (by omega)) ?_; conv => whnf) | (refine optK_of (intA (by omega)) ?_; conv => whnf) | (refine optK_of (intA' (by omega)) ?_; conv => whnf))
  rw [ei]
  repeat (first | (refine And.intro (by first | exact Nat.le_of_ble_eq_true rfl | exact rfl | decide | omega | (simp [splice]; done) | (constructor <;> omega) | (simp [splice]; omega)) ?_; conv => whnf) | (refine optK_of (watA (by omega)) ?_; conv => whnf) | (refine optK_of (watA' (by omega)) ?_; conv => whnf) | (refine optK_of (hDA (by omega)) ?_; conv => whnf) | (refine optK_of (hDA' (by omega)) ?_; conv => whnf) | (refine optK_of (gutA (by omega)) ?_; conv => whnf) | (refine optK_of (pipeA (by omega)) ?_; conv => whnf) | (refine optK_of (pipeB (by omega)) ?_; conv => whnf) | (refine optK_of (pipeSA (by omega)) ?_; conv => whnf) | (refine optK_of (pipeSB (by omega)) ?_; conv => whnf) | (refine optK_of (intA (by omega)) ?_; conv => whnf) | (refine optK_of (intA' (by omega)) ?_; conv => whnf))
  cases h10 : decide ((px g.ps (i - 1)).1 ≥ (px g.ps i).1)
  · have hb : pOk g i = true := by
      unfold pOk
      rw [h6, h8, hi0', show decide ((px g.ps (i - 1)).1 < (px g.ps i).1) = true by simp at h10 ⊢; omega]; rfl
    have hall' := below_succ (p := fun j => pOk g j = true) hall hb
    conv => whnf
    repeat (first | (refine And.intro (by first | exact Nat.le_of_ble_eq_true rfl | exact rfl | decide | omega | (simp [splice]; done) | (constructor <;> omega) | (simp [splice]; omega)) ?_; conv => whnf) | (refine optK_of (watA (by omega)) ?_; conv => whnf) | (refine optK_of (watA' (by omega)) ?_; conv => whnf) | (refine optK_of (hDA (by omega)) ?_; conv => whnf) | (refine optK_of (hDA' (by omega)) ?_; conv => whnf) | (refine optK_of (gutA (by omega)) ?_; conv => whnf) | (refine optK_of (pipeA (by omega)) ?_; conv => whnf) | (refine optK_of (pipeB (by omega)) ?_; conv => whnf) | (refine optK_of (pipeSA (by omega)) ?_; conv => whnf) | (refine optK_of (pipeSB (by omega)) ?_; conv => whnf) | (refine optK_of (intA (by omega)) ?_; conv => whnf) | (refine optK_of (intA' (by omega)) ?_; conv => whnf))
    refine ⟨i + 1, ?_, ?_, sim_of (rn := [((1, 0, 0), (1, 0, 0))]) rfl ?_ ?_⟩
    · (dsimp only; omega)
    · exact ⟨by omega, hall'⟩
    · ((repeat' (first | exact trivial | apply And.intro)) <;> (first | rfl | exact succ8 (by omega) | exact succ64 (by omega) | exact CapOk.fn (by assumption) _ _ | exact vintS (by omega) | exact vintS (by rw [w64 (by omega) (by omega)]; omega) | exact vintS (by rw [w8 (by omega) (by omega)]; omega) | exact vslcS (by omega) | exact vslcS (by simp)))
    · ((repeat' (first | exact trivial | apply And.intro)) <;> (refine ⟨_, _, rfl, rfl, ?_⟩; first | rfl | (rfl)))
  rw [bad (by unfold pOk; rw [h6, h8, hi0', show decide ((px g.ps (i - 1)).1 < (px g.ps i).1) = false by simp at h10 ⊢; omega]; rfl)]
  conv => whnf
  repeat (first | (refine And.intro (by first | exact Nat.le_of_ble_eq_true rfl | exact rfl | decide | omega | (simp [splice]; done) | (constructor <;> omega) | (simp [splice]; omega)) ?_; conv => whnf) | (refine optK_of (watA (by omega)) ?_; conv => whnf) | (refine optK_of (watA' (by omega)) ?_; conv => whnf) | (refine optK_of (hDA (by omega)) ?_; conv => whnf) | (refine optK_of (hDA' (by omega)) ?_; conv => whnf) | (refine optK_of (gutA (by omega)) ?_; conv => whnf) | (refine optK_of (pipeA (by omega)) ?_; conv => whnf) | (refine optK_of (pipeB (by omega)) ?_; conv => whnf) | (refine optK_of (pipeSA (by omega)) ?_; conv => whnf) | (refine optK_of (pipeSB (by omega)) ?_; conv => whnf) | (refine optK_of (intA (by omega)) ?_; conv => whnf) | (refine optK_of (intA' (by omega)) ?_; conv => whnf))
  first | refine ⟨rfl, _, rfl, ?_⟩ | refine ⟨_, rfl, ?_⟩
  rfl
end Go.Proofs.Ytndlknhakdadjaa
/- Plain words: what a minute does with the water in a gutter. -/
set_option linter.unusedVariables false
set_option linter.unusedSimpArgs false
namespace Go.V
def leafB (g : Gut) (c : Nat) : Bool := IntKind.u32.wrap (BitVec.ofInt IntKind.u32.bits (g.lv.fdiv (2 ^ (min (c : Int).toNat IntKind.u32.bits))) &&& BitVec.ofInt IntKind.u32.bits 1).toNat == 1
def hasB (g : Gut) (c : Nat) : Bool := (List.range g.ps.length).any fun i => (px g.ps i).1 == (c : Int)
def idxN (n : Nat) (p : Nat → Bool) : Int := match (List.range n).find? p with | some i => (i : Int) | none => -1
theorem idxN_some {p : Nat → Bool} {n i : Nat} (hi : i < n) (h : p i = true) (hall : ∀ j, j < i → p j = false) : idxN n p = i := by
  unfold idxN; rw [find_some hi h hall]
theorem idxN_none {p : Nat → Bool} {n : Nat} (hall : ∀ j, j < n → p j = false) : idxN n p = -1 := by
  unfold idxN; rw [find_none hall]
theorem anyN_none {p : Nat → Bool} {n : Nat} (hall : ∀ j, j < n → p j = false) : (List.range n).any p = false := by
  rw [List.any_eq_false]; intro i hi; rw [hall i (by simpa using hi)]; simp
theorem anyN_some {p : Nat → Bool} {n i : Nat} (hi : i < n) (h : p i = true) : (List.range n).any p = true := by
  rw [List.any_eq_true]; exact ⟨i, by simpa using hi, h⟩
theorem idxN_any (n : Nat) (p : Nat → Bool) : decide (idxN n p ≥ 0) = (List.range n).any p := by
  cases h : (List.range n).any p
  · rw [idxN_none fun j hj => by
      rw [List.any_eq_false] at h
      have := h j (by simpa using hj)
      simpa using this]
    rfl
  · unfold idxN
    cases hf : (List.range n).find? p with
    | some i => simp
    | none =>
      rw [List.find?_eq_none] at hf
      rw [List.any_eq_true] at h
      obtain ⟨i, hi, hp⟩ := h
      exact absurd hp (hf i hi)
def lowL (g : Gut) (c : Nat) : Bool := decide (0 < c) && decide (g.h (c - 1) < g.h c)
def toP (g : Gut) (c : Nat) : Int :=
  if (leafB g c || hasB g c) = true then -1
  else if lowL g c = true then (if (c : Int) + 1 < g.n ∧ g.h (c + 1) < g.h (c - 1) then (c : Int) + 1 else (c : Int) - 1)
  else (if (c : Int) + 1 < g.n ∧ g.h (c + 1) < g.h c then (c : Int) + 1 else -1)
theorem toP_range {g : Gut} {c : Nat} (h : (c : Int) < g.n) : -1 ≤ toP g c ∧ toP g c < g.n := by
  unfold toP lowL
  split
  · omega
  · split
    · rename_i hl
      simp only [Bool.and_eq_true, decide_eq_true_eq] at hl
      split <;> omega
    · split <;> omega
def tgt (g : Gut) (c : Nat) : Nat := if toP g c < 0 then c else (toP g c).toNat
theorem tgt_lt {g : Gut} {c : Nat} (h : (c : Int) < g.n) : (tgt g c : Int) < g.n := by
  have := toP_range h
  unfold tgt; split <;> omega
def minI (a b : Int) : Int := if b < a then b else a
theorem minI_le (a b : Int) : minI a b ≤ a ∧ minI a b ≤ b := by unfold minI; split <;> omega
theorem minI_ge {a b : Int} (ha : 0 ≤ a) (hb : 0 ≤ b) : 0 ≤ minI a b := by unfold minI; split <;> omega
theorem minI_lt (a b : Int) : (if a < b then a else b) = minI a b := by unfold minI; split <;> split <;> omega
/-- Rain, then pipes, then what flows. -/
def wR (w : Nat → Int) (xs : List Int) (k : Nat) : Nat → Int := fun j => if j < k then w j + ix xs j else w j
def wP (g : Gut) (w : Nat → Int) : Nat → Nat → Int
  | 0 => w
  | i + 1 => putW (wP g w i) (px g.ps i).1.toNat (wP g w i (px g.ps i).1.toNat - minI (wP g w i (px g.ps i).1.toNat) (px g.ps i).2)
def tP (g : Gut) (w : Nat → Int) : Nat → Int
  | 0 => 0
  | i + 1 => tP g w i + minI (wP g w i (px g.ps i).1.toNat) (px g.ps i).2
def oK (g : Gut) (w : Nat → Int) : Nat → Nat → Int
  | 0 => fun _ => 0
  | k + 1 => putW (oK g w k) (tgt g k) (oK g w k (tgt g k) + w k)
def over1 (dp x : Int) : Int := if x - dp > 0 then x - dp else 0
def cut1 (dp x : Int) : Int := if x - dp > 0 then dp else x
def ovK (dp : Int) (o : Nat → Int) : Nat → Int
  | 0 => 0
  | k + 1 => ovK dp o k + over1 dp (o k)
def minF (g : Gut) (w : Nat → Int) (xs : List Int) : Nat → Int := wP g (wR w xs g.n.toNat) g.ps.length
def minW (g : Gut) (w : Nat → Int) (xs : List Int) : Nat → Int := fun j => cut1 g.dp (oK g (minF g w xs) g.n.toNat j)
def minT (g : Gut) (w : Nat → Int) (xs : List Int) : Int := tP g (wR w xs g.n.toNat) g.ps.length
def minO (g : Gut) (w : Nat → Int) (xs : List Int) : Int := ovK g.dp (oK g (minF g w xs) g.n.toNat) 17
structure W17 (b : Int) (w : Nat → Int) : Prop where
  t : ∀ k, k < 17 → 0 ≤ w k ∧ w k ≤ b
theorem wR_in {w : Nat → Int} (hw : W17 1000 w) {xs : List Int} (hx : ∀ i, i < xs.length → 0 ≤ ix xs i ∧ ix xs i ≤ 1000) {k : Nat} (hk : k ≤ xs.length) : W17 2000 (wR w xs k) := ⟨fun j hj => by
  have := hw.t j hj
  unfold wR
  split
  · have := hx j (by omega); omega
  · omega⟩
theorem wR_put {w : Nat → Int} {xs : List Int} {k : Nat} : putW (wR w xs k) k (w k + ix xs k) = wR w xs (k + 1) := by
  funext j
  unfold putW wR
  by_cases h : j = k
  · subst h; simp
  · rw [if_neg h]
    by_cases h2 : j < k
    · rw [if_pos h2, if_pos (by omega)]
    · rw [if_neg h2, if_neg (by omega)]
theorem wR_at {w : Nat → Int} {xs : List Int} {k : Nat} : wR w xs k k = w k := by simp [wR]
theorem wR_zero {w : Nat → Int} {xs : List Int} : wR w xs 0 = w := by funext j; simp [wR]
theorem wP_in {g : Gut} (hg : g.Ok) {w : Nat → Int} (hw : W17 2000 w) : ∀ i, i ≤ g.ps.length → W17 2000 (wP g w i)
  | 0, _ => hw
  | i + 1, hi => ⟨fun j hj => by
    have ih := wP_in hg hw i (by omega)
    have hp := hg.ps i (by omega)
    have hn := hg.n
    have h1 := ih.t (px g.ps i).1.toNat (by omega)
    have h2 := minI_le (wP g w i (px g.ps i).1.toNat) (px g.ps i).2
    have h3 := minI_ge h1.1 hp.2.1
    simp only [wP]
    unfold putW
    split
    · omega
    · exact ih.t j hj⟩
theorem tP_in {g : Gut} (hg : g.Ok) {w : Nat → Int} (hw : W17 2000 w) : ∀ i, i ≤ g.ps.length → 0 ≤ tP g w i ∧ tP g w i ≤ 2000 * i
  | 0, _ => by simp [tP]
  | i + 1, hi => by
    have ih := tP_in hg hw i (by omega)
    have hp := hg.ps i (by omega)
    have hn := hg.n
    have h1 := (wP_in hg hw i (by omega)).t (px g.ps i).1.toNat (by omega)
    have h2 := minI_le (wP g w i (px g.ps i).1.toNat) (px g.ps i).2
    have h3 := minI_ge h1.1 hp.2.1
    simp only [tP]
    push_cast
    omega
theorem oK_in {g : Gut} (hg : g.Ok) {w : Nat → Int} (hw : W17 2000 w) : ∀ k : Nat, (k : Int) ≤ g.n → W17 (2000 * k) (oK g w k)
  | 0, _ => ⟨fun j hj => by simp [oK]⟩
  | k + 1, hk => ⟨fun j hj => by
    have ih := oK_in hg hw k (by omega)
    have hn := hg.n
    have hwk := hw.t k (by omega)
    have ht := tgt_lt (g := g) (c := k) (by omega)
    have h1 := ih.t (tgt g k) (by omega)
    have h2 := ih.t j hj
    simp only [oK]
    unfold putW
    split
    · push_cast; omega
    · push_cast; omega⟩
theorem oK_zero {g : Gut} {w : Nat → Int} : ∀ k : Nat, (k : Int) ≤ g.n → ∀ j : Nat, g.n ≤ (j : Int) → oK g w k j = 0
  | 0, _, j, hj => rfl
  | k + 1, hk, j, hj => by
    have ht := tgt_lt (g := g) (c := k) (by omega)
    simp only [oK]
    unfold putW
    rw [if_neg (by omega)]
    exact oK_zero k (by omega) j hj
theorem cut1_in {dp x : Int} (hd : 0 ≤ dp) (hx : 0 ≤ x) : 0 ≤ cut1 dp x ∧ cut1 dp x ≤ dp := by unfold cut1; split <;> omega
theorem over1_in {dp x : Int} (hd : 0 ≤ dp) (hx : 0 ≤ x) : 0 ≤ over1 dp x ∧ over1 dp x ≤ x := by unfold over1; split <;> omega
theorem ovK_in {dp b : Int} (hd : 0 ≤ dp) (hb : 0 ≤ b) {o : Nat → Int} (ho : W17 b o) : ∀ k, k ≤ 17 → 0 ≤ ovK dp o k ∧ ovK dp o k ≤ b * k
  | 0, _ => by simp [ovK]
  | k + 1, hk => by
    have ih := ovK_in hd hb ho k (by omega)
    have h1 := ho.t k (by omega)
    have h2 := over1_in (dp := dp) hd h1.1
    simp only [ovK]
    have : b * ((k + 1 : Nat) : Int) = b * k + b := by rw [Int.natCast_add, Int.mul_add]; simp
    omega
theorem ovK_same {dp : Int} (hd : 0 ≤ dp) {o : Nat → Int} {n : Nat} (hz : ∀ j, n ≤ j → o j = 0) : ∀ k, n ≤ k → ovK dp o k = ovK dp o n
  | 0, h => by rw [show n = 0 by omega]
  | k + 1, h => by
    by_cases hk : n = k + 1
    · rw [hk]
    · simp only [ovK]
      rw [ovK_same hd hz k (by omega), hz k (by omega), show over1 dp 0 = 0 by unfold over1; split <;> omega]
      omega
/-- Rain for each cell. -/
def rainB (g : Gut) (xs : List Int) : Bool := ((xs.length : Int) == g.n) && (List.range xs.length).all fun i => deepB (ix xs i)
structure RainOk (g : Gut) (xs : List Int) : Prop where
  len : (xs.length : Int) = g.n
  t : ∀ i, i < xs.length → 0 ≤ ix xs i ∧ ix xs i ≤ 1000
theorem rainB_ok {g : Gut} {xs : List Int} (h : rainB g xs = true) : RainOk g xs := by
  simp only [rainB, Bool.and_eq_true, beq_iff_eq] at h
  refine ⟨h.1, fun i hi => ?_⟩
  have := allN_iff.1 h.2 i hi
  simpa [deepB] using this
theorem minF_in {g : Gut} (hg : g.Ok) {w : Nat → Int} (hw : W17 1000 w) {xs : List Int} (hx : RainOk g xs) : W17 2000 (minF g w xs) := by
  have := hx.len
  exact wP_in hg (wR_in hw hx.t (by omega)) _ (Nat.le_refl _)
theorem minW_in {g : Gut} (hg : g.Ok) {w : Nat → Int} (hw : W17 1000 w) {xs : List Int} (hx : RainOk g xs) : W17 1000 (minW g w xs) := ⟨fun k hk => by
  have hn := hg.n
  have hd := hg.dp
  have h1 := (oK_in hg (minF_in hg hw hx) g.n.toNat (by omega)).t k hk
  have := cut1_in hd.1 h1.1
  unfold minW
  omega⟩
theorem minT_in {g : Gut} (hg : g.Ok) {w : Nat → Int} (hw : W17 1000 w) {xs : List Int} (hx : RainOk g xs) : 0 ≤ minT g w xs ∧ minT g w xs ≤ 8000 := by
  have h0 := hx.len
  have h1 := hg.len
  have := tP_in hg (wR_in hw hx.t (k := g.n.toNat) (by omega)) _ (Nat.le_refl _)
  unfold minT
  omega
theorem minO_in {g : Gut} (hg : g.Ok) {w : Nat → Int} (hw : W17 1000 w) {xs : List Int} (hx : RainOk g xs) : 0 ≤ minO g w xs ∧ minO g w xs ≤ 578000 := by
  have hn := hg.n
  have h1 := oK_in hg (minF_in hg hw hx) g.n.toNat (by omega)
  have h2 : W17 34000 (oK g (minF g w xs) g.n.toNat) := ⟨fun k hk => by have := h1.t k hk; omega⟩
  have := ovK_in hg.dp.1 (by omega) h2 17 (by omega)
  unfold minO
  omega
/-- Behind several minutes. -/
def wM (g : Gut) (w : Nat → Int) (xs : List Int) : Nat → Nat → Int
  | 0 => w
  | m + 1 => minW g (wM g w xs m) xs
def tM (g : Gut) (w : Nat → Int) (xs : List Int) : Nat → Int
  | 0 => 0
  | m + 1 => tM g w xs m + minT g (wM g w xs m) xs
def oM (g : Gut) (w : Nat → Int) (xs : List Int) : Nat → Int
  | 0 => 0
  | m + 1 => oM g w xs m + minO g (wM g w xs m) xs
theorem wM_in {g : Gut} (hg : g.Ok) {w : Nat → Int} (hw : W17 1000 w) {xs : List Int} (hx : RainOk g xs) : ∀ m, W17 1000 (wM g w xs m)
  | 0 => hw
  | m + 1 => minW_in hg (wM_in hg hw hx m) hx
theorem tM_in {g : Gut} (hg : g.Ok) {w : Nat → Int} (hw : W17 1000 w) {xs : List Int} (hx : RainOk g xs) : ∀ m : Nat, 0 ≤ tM g w xs m ∧ tM g w xs m ≤ 8000 * m
  | 0 => by simp [tM]
  | m + 1 => by
    have ih := tM_in hg hw hx m
    have := minT_in hg (wM_in hg hw hx m) hx
    simp only [tM]
    push_cast
    omega
theorem oM_in {g : Gut} (hg : g.Ok) {w : Nat → Int} (hw : W17 1000 w) {xs : List Int} (hx : RainOk g xs) : ∀ m : Nat, 0 ≤ oM g w xs m ∧ oM g w xs m ≤ 578000 * m
  | 0 => by simp [oM]
  | m + 1 => by
    have ih := oM_in hg hw hx m
    have := minO_in hg (wM_in hg hw hx m) hx
    simp only [oM]
    push_cast
    omega
def upL (n : Nat) : List Int := (List.range n).map fun i => Int.ofNat i
@[simp] theorem upL_len (n : Nat) : (upL n).length = n := by simp [upL]
theorem upL_next (n : Nat) : upL (n + 1) = upL n ++ [(n : Int)] := by simp [upL, List.range_succ]
theorem upL_ix {n i : Nat} (h : i < n) : ix (upL n) i = (i : Int) := by
  unfold ix upL
  rw [List.getD_eq_getElem?_getD]
  simp [h]
theorem upA {n i : Nat} (h : i < n) : nth (intsC (upL n)) (0 + (i : Int).toNat * 1) = some (.int .i64 (i : Int)) := by
  rw [intA (by simpa using h), upL_ix h]
end Go.V
