/- Contracts: FirstBreak, both sides, and the law. -/
import Derived.Test.YtlpgfemmbnkaiaaC16
set_option linter.unusedVariables false
set_option linter.unusedSimpArgs false
namespace Go.V
def lifeOk (n : Int) : Bool := decide (1 ≤ n) && decide (n ≤ 100)
def max0 (d : Int) : Int := if 0 > d then 0 else d
def brkN (r : Roof) (a : Nat → Nat → Int) (life : Int) : Int := if askC r a (lifeOk life) = 0 then max0 (IntKind.i64.wrap (IntKind.i64.wrap (life + 1) - ageP a (oldP r a))) else 0
def brkV (r : Roof) (a : Nat → Nat → Int) (life : Int) : D := .tup [.v (.int .i64 (brkN r a life)), .v (.int .i64 (askC r a (lifeOk life)))]
theorem askC_ok {r : Roof} {a : Nat → Nat → Int} {is : Bool} (h : askC r a is = 0) : okA r a = true ∧ is = true := by
  unfold askC at h
  cases h1 : okA r a <;> cases is <;> simp [h1] at h ⊢
end Go.V
namespace Go.Proofs.Ytlpgfemmbnkaiaa
open Go.V
theorem l07Life_sat (n : Int) : Sat Try.prog 93 [.v (.int .i64 n)] (.v (.bool (lifeOk n))) := by
  refine sat_of_wp hMix tOk Try.func93 rfl rfl Try.ntmps93 rfl rfl Try.results93 (by kernel_rfl) ?_
  conv => whnf
  refine ⟨_, _, rfl, l00In_sat _ _ _, ?_⟩
  exact ⟨rfl, _, rfl, rfl⟩
theorem isLife_sat (n : Int) : Sat Try.prog 95 [.v (.int .i64 n)] (.v (.bool (lifeOk n))) := by
  refine sat_of_wp hMix tOk Try.func95 rfl rfl Try.ntmps95 rfl rfl Try.results95 (by kernel_rfl) ?_
  conv => whnf
  refine ⟨_, _, rfl, within64_sat _ _ _, ?_⟩
  exact ⟨rfl, _, rfl, rfl⟩
theorem l00Max0_sat (d : Int) : Sat Try.prog 94 [.v (.int .i64 0), .v (.int .i64 d)] (.v (.int .i64 (max0 d))) := by
  refine sat_of_wp hMix tOk Try.func94 rfl rfl Try.ntmps94 rfl rfl Try.results94 (by kernel_rfl) ?_
  conv => whnf
  cases h : decide (0 > d)
  · refine ⟨rfl, _, rfl, ?_⟩
    have : ¬ 0 > d := by simpa using h
    simp only [max0, if_neg this]; rfl
  · refine ⟨rfl, _, rfl, ?_⟩
    have : 0 > d := by simpa using h
    simp only [max0, if_pos this]; rfl

theorem specFirstBreak_sat (r : Roof) (hr : r.In) (a : Nat → Nat → Int) (ha : AgesIn a) (life : Int) : Sat Try.prog 44 [roofD r, gridD a, .v (.int .i64 life)] (brkV r a life) := by
  refine sat_of_wp hMix tOk Try.func44 rfl rfl Try.ntmps44 rfl rfl Try.results44 (by kernel_rfl) ?_
  conv => whnf
  refine ⟨_, _, rfl, l07Life_sat life, ?_⟩
  conv => whnf
  refine ⟨_, _, rfl, l07Asked_sat r hr a ha _, ?_⟩
  conv => whnf
  cases h1 : (askC r a (lifeOk life) != 0)
  case true =>
    refine ⟨rfl, _, rfl, ?_⟩
    have : ¬ askC r a (lifeOk life) = 0 := by simpa using h1
    simp only [brkV, brkN, if_neg this]; rfl
  have hz : askC r a (lifeOk life) = 0 := by simpa using h1
  obtain ⟨hA, hL⟩ := askC_ok hz
  conv => whnf
  refine ⟨_, _, rfl, l07Oldest_sat r hr (okA_bounds hA) a ha, ?_⟩
  conv => whnf
  refine ⟨by simp, ?_⟩
  conv => whnf
  refine ⟨by simp, ?_⟩
  conv => whnf
  refine ⟨_, _, rfl, l00Max0_sat _, ?_⟩
  conv => whnf
  refine ⟨rfl, _, rfl, ?_⟩
  simp only [brkV, brkN, hz, if_true]; rfl

theorem firstBreak_sat (r : Roof) (hr : r.In) (a : Nat → Nat → Int) (ha : AgesIn a) (life : Int) : Sat Try.prog 45 [roofD r, gridD a, .v (.int .i64 life)] (brkV r a life) := by
  have e0 : ((roofC r).drop 0).take 67 = roofC r := take_drop0 (by simp [roofC])
  have e1 : ((grid a).drop 0).take 64 = grid a := take_drop0 (by simp)
  have cc : Sat Try.prog 89 [D.v (.agg ⟨((roofC r).drop 0).take 67⟩), D.v (.agg ⟨((grid a).drop 0).take 64⟩), .v (.bool (lifeOk life))] (.v (.int .i64 (askC r a (lifeOk life)))) := by rw [e0, e1]; exact agesCode_sat r hr a ha _
  refine sat_of_wp hMix tOk Try.func45 rfl rfl Try.ntmps45 rfl rfl Try.results45 (by kernel_rfl) ?_
  conv => whnf
  refine ⟨by simp [roofC], ?_⟩
  conv => whnf
  refine ⟨by simp, ?_⟩
  conv => whnf
  refine ⟨_, _, rfl, isLife_sat life, ?_⟩
  conv => whnf
  refine ⟨_, _, rfl, cc, ?_⟩
  conv => whnf
  cases h1 : (askC r a (lifeOk life) != 0)
  case true =>
    refine ⟨rfl, _, rfl, ?_⟩
    have : ¬ askC r a (lifeOk life) = 0 := by simpa using h1
    simp only [brkV, brkN, if_neg this]; rfl
  have hz : askC r a (lifeOk life) = 0 := by simpa using h1
  obtain ⟨hA, hL⟩ := askC_ok hz
  have hb := okA_bounds hA
  have hp := oldP_in hb a
  have co : Sat Try.prog 90 [D.v (.agg ⟨((roofC r).drop 0).take 67⟩), D.v (.agg ⟨((grid a).drop 0).take 64⟩)] (plD (oldP r a)) := by rw [e0, e1]; exact oldest_sat r hr hb a ha
  have ca : Sat Try.prog 91 [D.v (.agg ⟨((grid a).drop 0).take 64⟩), plD (oldP r a)] (.v (.int .i64 (ageP a (oldP r a)))) := by rw [e1]; exact at_sat a ha _ _ hp.1 hp.2
  conv => whnf
  refine ⟨by simp, ?_⟩
  conv => whnf
  refine ⟨by simp [roofC], ?_⟩
  conv => whnf
  refine ⟨by simp, ?_⟩
  conv => whnf
  refine ⟨_, _, rfl, co, ?_⟩
  conv => whnf
  refine ⟨_, _, rfl, ca, ?_⟩
  conv => whnf
  refine ⟨rfl, _, rfl, ?_⟩
  simp only [brkV, brkN, hz, if_true]; rfl

theorem fnExactFirstBreak_sat (r : Roof) (hr : r.In) (a : Nat → Nat → Int) (ha : AgesIn a) (life : Int) (hlife : -9223372036854775808 ≤ life ∧ life ≤ 9223372036854775807) : Sat Try.prog 13 [roofD r, gridD a, .v (.int .i64 life)] (.v (.bool true)) := by
  have e0 : ((roofC r).drop 0).take 67 = roofC r := take_drop0 (by simp [roofC])
  have e1 : ((grid a).drop 0).take 64 = grid a := take_drop0 (by simp)
  have cr : Sat Try.prog 22 [D.v (.agg ⟨((roofC r).drop 0).take 67⟩)] (roofD r) := by rw [e0]; exact toRoof_sat r
  have ca : Sat Try.prog 26 [D.v (.agg ⟨((grid a).drop 0).take 64⟩)] (gridD a) := by rw [e1]; exact toAges_sat a
  have s1 := specFirstBreak_sat r hr a ha life
  have s2 := firstBreak_sat r hr a ha life
  unfold brkV at s1 s2
  generalize brkN r a life = x at s1 s2
  generalize askC r a (lifeOk life) = y at s1 s2
  refine sat_of_wp hMix tOk Try.func13 rfl rfl Try.ntmps13 rfl rfl Try.results13 (by kernel_rfl) ?_
  conv => whnf
  refine ⟨by simp [roofC], ?_⟩
  conv => whnf
  refine ⟨_, _, rfl, cr, ?_⟩
  conv => whnf
  refine ⟨by simp [gridD], ?_⟩
  conv => whnf
  refine ⟨_, _, rfl, ca, ?_⟩
  conv => whnf
  refine ⟨_, _, rfl, s1, ?_⟩
  conv => whnf
  refine ⟨by simp [roofC], ?_⟩
  conv => whnf
  refine ⟨_, _, rfl, cr, ?_⟩
  conv => whnf
  refine ⟨by simp [gridD], ?_⟩
  conv => whnf
  refine ⟨_, _, rfl, ca, ?_⟩
  conv => whnf
  refine ⟨_, _, rfl, s2, ?_⟩
  conv => whnf
  rw [show (x != x) = false by simp]
  conv => whnf
  rw [show (y != y) = false by simp]
  exact ⟨rfl, _, rfl, rfl⟩
end Go.Proofs.Ytlpgfemmbnkaiaa
