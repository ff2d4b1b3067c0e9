/- Contracts: broken roofs, both sides, and the law. -/
import Derived.Test.YtndlknhakdadjaaC20
set_option linter.unusedVariables false
set_option linter.unusedSimpArgs false
namespace Go.V
def yearsOk (y : Int) : Bool := decide (0 ≤ y) && decide (y ≤ 200)
def zeroR : Roof := ⟨0, 0, 0, fun _ _ => 0⟩
theorem zeroR_c : roofC zeroR = [.int .i8 0, .int .i8 0] ++ List.replicate 65 (.int .u8 0) := by
  unfold roofC zeroR
  rw [grid_zero]; rfl
def brkAt (r : Roof) (ps : List Pl) (i : Nat) : Roof := (ps.take i).foldl (fun r q => putR r q.1 q.2 3) r
theorem brkAt_zero (r : Roof) (ps : List Pl) : brkAt r ps 0 = r := by simp [brkAt]
theorem brkAt_next (r : Roof) {ps : List Pl} {i : Nat} (h : i < ps.length) : brkAt r ps (i + 1) = putR (brkAt r ps i) (nthP ps i).1 (nthP ps i).2 3 := by
  unfold brkAt; rw [take_next h, List.foldl_append]; rfl
def brkK (r : Roof) (a : Nat → Nat → Int) (life years : Int) : Int := askC r a (lifeOk life && yearsOk years)
def brkR (r : Roof) (a : Nat → Nat → Int) (life years : Int) : Roof := if brkK r a life years = 0 then brkAt r (oldL r a life years) (oldL r a life years).length else zeroR
theorem roofD_copied {r : Roof} {xs : List Value} (hx : xs.length = 67) : D.v (.agg ⟨((splice xs 0 (((roofC r).drop 0).take 67)).drop 0).take 67⟩) = roofD r := by
  rw [copied (n := 67) hx (by simp)]; rfl
end Go.V
namespace Go.Proofs.Ytndlknhakdadjaa
open Go.V
theorem l07Years_sat (n : Int) : Sat Try.prog 62 [.v (.int .i64 n)] (.v (.bool (yearsOk n))) := by
  refine sat_of_wp hMix tOk Try.func62 rfl rfl Try.ntmps62 rfl rfl Try.results62 (by kernel_rfl) ?_
  conv => whnf
  repeat (first | (refine And.intro (by first  | exact rfl | decide | omega | (simp [splice]; done) | (constructor <;> omega) | (simp [splice]; omega)) ?_; conv => whnf) | (refine optK_of (gridN (by omega) (by omega)) ?_; conv => whnf) | (refine optK_of (rowN (by omega)) ?_; conv => whnf) | (refine optK_of (roofN (by omega) (by omega)) ?_; conv => whnf) | (refine optK_of (placeA (by omega)) ?_; conv => whnf) | (refine optK_of (placeB (by omega)) ?_; conv => whnf) | (refine optK_of (placeA' (by omega)) ?_; conv => whnf) | (refine optK_of (placeB' (by omega)) ?_; conv => whnf))
  first | refine ⟨_, _, rfl, Sat.of_eq (l00In_sat _ _ _) (by repeat (first | rfl | exact vfull (by first | (simp [splice]; done) | (simp [splice]; omega)) | exact rfull (by first | (simp [splice]; done) | (simp [splice]; omega)) | exact vplace (by simp; done) (by omega) | exact vrow (by simp; done) (by omega) | exact vtiles (by simp) | exact vsplice (by simp) (by simp) | refine ceq ?_ ?_ | refine Eq.trans (vsplice (by first | (simp; done) | (simp; omega)) (by first | (simp; done) | (simp; omega))) ?_)), ?_⟩ | refine .inl ⟨_, _, rfl, Sat.of_eq (l00In_sat _ _ _) (by repeat (first | rfl | exact vfull (by first | (simp [splice]; done) | (simp [splice]; omega)) | exact rfull (by first | (simp [splice]; done) | (simp [splice]; omega)) | exact vplace (by simp; done) (by omega) | exact vrow (by simp; done) (by omega) | exact vtiles (by simp) | exact vsplice (by simp) (by simp) | refine ceq ?_ ?_ | refine Eq.trans (vsplice (by first | (simp; done) | (simp; omega)) (by first | (simp; done) | (simp; omega))) ?_)), ?_⟩
  conv => whnf
  repeat (first | (refine And.intro (by first  | exact rfl | decide | omega | (simp [splice]; done) | (constructor <;> omega) | (simp [splice]; omega)) ?_; conv => whnf) | (refine optK_of (gridN (by omega) (by omega)) ?_; conv => whnf) | (refine optK_of (rowN (by omega)) ?_; conv => whnf) | (refine optK_of (roofN (by omega) (by omega)) ?_; conv => whnf) | (refine optK_of (placeA (by omega)) ?_; conv => whnf) | (refine optK_of (placeB (by omega)) ?_; conv => whnf) | (refine optK_of (placeA' (by omega)) ?_; conv => whnf) | (refine optK_of (placeB' (by omega)) ?_; conv => whnf))
  first | refine ⟨rfl, _, rfl, ?_⟩ | refine ⟨_, rfl, ?_⟩
  rfl
theorem isYears_sat (n : Int) : Sat Try.prog 133 [.v (.int .i64 n)] (.v (.bool (yearsOk n))) := by
  refine sat_of_wp hMix tOk Try.func133 rfl rfl Try.ntmps133 rfl rfl Try.results133 (by kernel_rfl) ?_
  conv => whnf
  repeat (first | (refine And.intro (by first  | exact rfl | decide | omega | (simp [splice]; done) | (constructor <;> omega) | (simp [splice]; omega)) ?_; conv => whnf) | (refine optK_of (gridN (by omega) (by omega)) ?_; conv => whnf) | (refine optK_of (rowN (by omega)) ?_; conv => whnf) | (refine optK_of (roofN (by omega) (by omega)) ?_; conv => whnf) | (refine optK_of (placeA (by omega)) ?_; conv => whnf) | (refine optK_of (placeB (by omega)) ?_; conv => whnf) | (refine optK_of (placeA' (by omega)) ?_; conv => whnf) | (refine optK_of (placeB' (by omega)) ?_; conv => whnf))
  first | refine ⟨_, _, rfl, Sat.of_eq (within64_sat _ _ _) (by repeat (first | rfl | exact vfull (by first | (simp [splice]; done) | (simp [splice]; omega)) | exact rfull (by first | (simp [splice]; done) | (simp [splice]; omega)) | exact vplace (by simp; done) (by omega) | exact vrow (by simp; done) (by omega) | exact vtiles (by simp) | exact vsplice (by simp) (by simp) | refine ceq ?_ ?_ | refine Eq.trans (vsplice (by first | (simp; done) | (simp; omega)) (by first | (simp; done) | (simp; omega))) ?_)), ?_⟩ | refine .inl ⟨_, _, rfl, Sat.of_eq (within64_sat _ _ _) (by repeat (first | rfl | exact vfull (by first | (simp [splice]; done) | (simp [splice]; omega)) | exact rfull (by first | (simp [splice]; done) | (simp [splice]; omega)) | exact vplace (by simp; done) (by omega) | exact vrow (by simp; done) (by omega) | exact vtiles (by simp) | exact vsplice (by simp) (by simp) | refine ceq ?_ ?_ | refine Eq.trans (vsplice (by first | (simp; done) | (simp; omega)) (by first | (simp; done) | (simp; omega))) ?_)), ?_⟩
  conv => whnf
  repeat (first | (refine And.intro (by first  | exact rfl | decide | omega | (simp [splice]; done) | (constructor <;> omega) | (simp [splice]; omega)) ?_; conv => whnf) | (refine optK_of (gridN (by omega) (by omega)) ?_; conv => whnf) | (refine optK_of (rowN (by omega)) ?_; conv => whnf) | (refine optK_of (roofN (by omega) (by omega)) ?_; conv => whnf) | (refine optK_of (placeA (by omega)) ?_; conv => whnf) | (refine optK_of (placeB (by omega)) ?_; conv => whnf) | (refine optK_of (placeA' (by omega)) ?_; conv => whnf) | (refine optK_of (placeB' (by omega)) ?_; conv => whnf))
  first | refine ⟨rfl, _, rfl, ?_⟩ | refine ⟨_, rfl, ?_⟩
  rfl
theorem with_sat (r : Roof) (c k : Nat) (hc : c < 8) (hk : k < 8) (x : Int) (hx : 0 ≤ x ∧ x ≤ 255) : Sat Try.prog 105 [roofD r, placeD c k, .v (.int .u8 x)] (roofD (putR r c k x)) := by
  refine sat_of_wp hMix tOk Try.func105 rfl rfl Try.ntmps105 rfl rfl Try.results105 (by kernel_rfl) ?_
  conv => whnf
  repeat (first | (refine And.intro (by first  | exact rfl | decide | omega | (simp [splice]; done) | (constructor <;> omega) | (simp [splice]; omega)) ?_; conv => whnf) | (refine optK_of (gridN (by omega) (by omega)) ?_; conv => whnf) | (refine optK_of (rowN (by omega)) ?_; conv => whnf) | (refine optK_of (roofN (by omega) (by omega)) ?_; conv => whnf) | (refine optK_of (placeA (by omega)) ?_; conv => whnf) | (refine optK_of (placeB (by omega)) ?_; conv => whnf) | (refine optK_of (placeA' (by omega)) ?_; conv => whnf) | (refine optK_of (placeB' (by omega)) ?_; conv => whnf))
  first | refine ⟨rfl, _, rfl, ?_⟩ | refine ⟨_, rfl, ?_⟩
  skip
  have e := roof_set (r := r) (c := c) (k := k) (o := 0 + 3 + (c : Int).toNat * 8 + (k : Int).toNat * 1) (x := x) (by simp) hc hk
  refine Eq.symm ?_
  refine Eq.trans ?_ (roofD_copied (r := putR r c k x) (xs := [.int .i8 0, .int .i8 0] ++ List.replicate 65 (.int .u8 0)) (by simp))
  rw [← e]; rfl
end Go.Proofs.Ytndlknhakdadjaa
