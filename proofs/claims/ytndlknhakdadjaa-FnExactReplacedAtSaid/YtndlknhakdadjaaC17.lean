/- Contracts: FirstBreak, both sides, and the law. -/
import Derived.Test.YtndlknhakdadjaaC16
set_option linter.unusedVariables false
set_option linter.unusedSimpArgs false
namespace Go.V
def lifeOk (n : Int) : Bool := decide (1 ≤ n) && decide (n ≤ 100)
def max0 (d : Int) : Int := if 0 > d then 0 else d
def brkN (r : Roof) (a : Nat → Nat → Int) (life : Int) : Int := if askC r a (lifeOk life) = 0 then max0 (IntKind.i64.wrap (IntKind.i64.wrap (life + 1) - ageP a (oldP r a))) else 0
def brkV (r : Roof) (a : Nat → Nat → Int) (life : Int) : D := .tup [.v (.int .i64 (brkN r a life)), .v (.int .i64 (askC r a (lifeOk life)))]
theorem askC_ok {r : Roof} {a : Nat → Nat → Int} {is : Bool} (h : askC r a is = 0) : okA r a = true ∧ is = true := by
  unfold askC at h
  cases h1 : okA r a <;> cases is <;> simp [h1] at h ⊢
end Go.V
namespace Go.Proofs.Ytndlknhakdadjaa
open Go.V
theorem l07Life_sat (n : Int) : Sat Try.prog 61 [.v (.int .i64 n)] (.v (.bool (lifeOk n))) := by
  refine sat_of_wp hMix tOk Try.func61 rfl rfl Try.ntmps61 rfl rfl Try.results61 (by kernel_rfl) ?_
  conv => whnf
  refine ⟨_, _, rfl, l00In_sat _ _ _, ?_⟩
  exact ⟨rfl, _, rfl, rfl⟩
theorem isLife_sat (n : Int) : Sat Try.prog 132 [.v (.int .i64 n)] (.v (.bool (lifeOk n))) := by
  refine sat_of_wp hMix tOk Try.func132 rfl rfl Try.ntmps132 rfl rfl Try.results132 (by kernel_rfl) ?_
  conv => whnf
  refine ⟨_, _, rfl, within64_sat _ _ _, ?_⟩
  exact ⟨rfl, _, rfl, rfl⟩
end Go.Proofs.Ytndlknhakdadjaa
