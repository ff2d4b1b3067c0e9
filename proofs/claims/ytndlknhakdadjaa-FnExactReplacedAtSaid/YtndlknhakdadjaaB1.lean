/- Contracts: bounds, kinds, places. -/
import Derived.Test.YtndlknhakdadjaaVT
import Derived.Test.YtndlknhakdadjaaB0
set_option linter.unusedVariables false
set_option linter.unusedSimpArgs false
namespace Go.Proofs.Ytndlknhakdadjaa
open Go.V

theorem l00In_sat (n lo hi : Int) : Sat Try.prog 78 [.v (.int .i64 n), .v (.int .i64 lo), .v (.int .i64 hi)] (.v (.bool (decide (n ≥ lo) && decide (n ≤ hi)))) := by
  refine sat_of_wp hMix tOk Try.func78 rfl rfl Try.ntmps78 rfl rfl Try.results78 (by kernel_rfl) ?_
  conv => whnf
  cases h1 : decide (n ≥ lo)
  · exact ⟨rfl, _, rfl, rfl⟩
  · conv => whnf
    cases h2 : decide (n ≤ hi) <;> exact ⟨rfl, _, rfl, rfl⟩

theorem within8_sat (n lo hi : Int) : Sat Try.prog 151 [.v (.int .i8 n), .v (.int .i8 lo), .v (.int .i8 hi)] (.v (.bool (decide (lo ≤ n) && decide (n ≤ hi)))) := by
  refine sat_of_wp hMix tOk Try.func151 rfl rfl Try.ntmps151 rfl rfl Try.results151 (by kernel_rfl) ?_
  conv => whnf
  cases h1 : decide (lo ≤ n)
  · exact ⟨rfl, _, rfl, rfl⟩
  · conv => whnf
    cases h2 : decide (n ≤ hi) <;> exact ⟨rfl, _, rfl, rfl⟩

theorem l01Kind_sat (k : Int) : Sat Try.prog 172 [.v (.int .i64 k)] (.v (.bool (decide (k ≥ 0) && decide (k ≤ 3)))) := by
  refine sat_of_wp hMix tOk Try.func172 rfl rfl Try.ntmps172 rfl rfl Try.results172 (by kernel_rfl) ?_
  conv => whnf
  refine ⟨_, _, rfl, l00In_sat _ _ _, ?_⟩
  exact ⟨rfl, _, rfl, rfl⟩

theorem l01Is_sat (r : Roof) (hr : r.In) (c k : Int) (hc : -128 ≤ c ∧ c ≤ 127) (hk : -128 ≤ k ∧ k ≤ 127) :
    Sat Try.prog 173 [.ref false (roofD r) 0, placeD c k] (.v (.bool ((decide (c ≥ 0) && decide (c ≤ r.h - 1)) && (decide (k ≥ 0) && decide (k ≤ r.w - 1))))) := by
  have e1 : IntKind.i64.wrap c = c := w64 (by omega) (by omega)
  have e2 : IntKind.i64.wrap k = k := w64 (by omega) (by omega)
  have e3 : IntKind.i64.wrap r.h = r.h := by have := hr.h; exact w64 (by omega) (by omega)
  have e4 : IntKind.i64.wrap r.w = r.w := by have := hr.w; exact w64 (by omega) (by omega)
  have e5 : IntKind.i64.wrap (r.h - 1) = r.h - 1 := by have := hr.h; exact w64 (by omega) (by omega)
  have e6 : IntKind.i64.wrap (r.w - 1) = r.w - 1 := by have := hr.w; exact w64 (by omega) (by omega)
  refine sat_of_wp hMix tOk Try.func173 rfl rfl Try.ntmps173 rfl rfl Try.results173 (by kernel_rfl) ?_
  conv => whnf
  rw [e1, e3, e5]
  refine ⟨_, _, rfl, l00In_sat _ _ _, ?_⟩
  conv => whnf
  cases h1 : (decide (c ≥ 0) && decide (c ≤ r.h - 1))
  · exact ⟨rfl, _, rfl, rfl⟩
  · conv => whnf
    rw [e2, e4, e6]
    refine ⟨_, _, rfl, l00In_sat _ _ _, ?_⟩
    conv => whnf
    cases h2 : (decide (k ≥ 0) && decide (k ≤ r.w - 1)) <;> exact ⟨rfl, _, rfl, rfl⟩
end Go.Proofs.Ytndlknhakdadjaa
