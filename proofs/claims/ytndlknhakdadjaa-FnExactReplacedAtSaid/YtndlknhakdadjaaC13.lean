/- Contracts: codes of ages, the age of a tile. -/
import Derived.Test.YtndlknhakdadjaaC12
set_option linter.unusedVariables false
set_option linter.unusedSimpArgs false
namespace Go.V
def askC (r : Roof) (a : Nat → Nat → Int) (is : Bool) : Int := if okA r a = true then (if is = true then 0 else 2) else 1
end Go.V
namespace Go.Proofs.Ytndlknhakdadjaa
open Go.V
theorem l07Asked_sat (r : Roof) (hr : r.In) (a : Nat → Nat → Int) (ha : AgesIn a) (is : Bool) : Sat Try.prog 60 [.ref false (roofD r) 0, .ref false (gridD a) 0, .v (.bool is)] (.v (.int .i64 (askC r a is))) := by
  refine sat_of_wp hMix tOk Try.func60 rfl rfl Try.ntmps60 rfl rfl Try.results60 (by kernel_rfl) ?_
  conv => whnf
  refine ⟨_, _, rfl, l07Ages_sat r hr a ha, ?_⟩
  conv => whnf
  cases h1 : okA r a
  · refine ⟨rfl, _, rfl, ?_⟩
    simp only [askC, h1]; rfl
  conv => whnf
  cases is
  · refine ⟨rfl, _, rfl, ?_⟩
    simp only [askC, h1]; rfl
  · refine ⟨rfl, _, rfl, ?_⟩
    simp only [askC, h1]; rfl

theorem agesCode_sat (r : Roof) (hr : r.In) (a : Nat → Nat → Int) (ha : AgesIn a) (is : Bool) : Sat Try.prog 131 [roofD r, gridD a, .v (.bool is)] (.v (.int .i64 (askC r a is))) := by
  have e0 : ((roofC r).drop 0).take 67 = roofC r := take_drop0 (by simp [roofC])
  have e1 : ((grid a).drop 0).take 64 = grid a := take_drop0 (by simp)
  have cv : Sat Try.prog 181 [D.v (.agg ⟨((roofC r).drop 0).take 67⟩), D.v (.agg ⟨((grid a).drop 0).take 64⟩)] (.v (.bool (okA r a))) := by rw [e0, e1]; exact validAges_sat r hr a ha
  refine sat_of_wp hMix tOk Try.func131 rfl rfl Try.ntmps131 rfl rfl Try.results131 (by kernel_rfl) ?_
  conv => whnf
  refine ⟨by simp [roofC], ?_⟩
  conv => whnf
  refine ⟨by simp, ?_⟩
  conv => whnf
  refine ⟨_, _, rfl, cv, ?_⟩
  conv => whnf
  cases h1 : okA r a
  · refine ⟨rfl, _, rfl, ?_⟩
    simp only [askC, h1]; rfl
  conv => whnf
  cases is
  · refine ⟨rfl, _, rfl, ?_⟩
    simp only [askC, h1]; rfl
  · refine ⟨rfl, _, rfl, ?_⟩
    simp only [askC, h1]; rfl

theorem l07Age_sat (a : Nat → Nat → Int) (ha : AgesIn a) (c k : Nat) (hc : c < 8) (hk : k < 8) : Sat Try.prog 65 [.ref false (gridD a) 0, placeD c k] (.v (.int .i64 (a c k))) := by
  have ht := ha.t c k
  have e : IntKind.i64.wrap (a c k) = a c k := w64 (by omega) (by omega)
  refine sat_of_wp hMix tOk Try.func65 rfl rfl Try.ntmps65 rfl rfl Try.results65 (by kernel_rfl) ?_
  conv => whnf
  refine ⟨⟨by omega, by omega⟩, ?_⟩
  conv => whnf
  refine ⟨⟨by omega, by omega⟩, ?_⟩
  conv => whnf
  refine optK_of (grid_at (c := c) (k := k) (by simp) hc hk) ?_
  conv => whnf
  rw [e]
  exact ⟨rfl, _, rfl, rfl⟩

theorem at_sat (a : Nat → Nat → Int) (ha : AgesIn a) (c k : Nat) (hc : c < 8) (hk : k < 8) : Sat Try.prog 69 [gridD a, placeD c k] (.v (.int .i64 (a c k))) := by
  have ht := ha.t c k
  have e : IntKind.i64.wrap (a c k) = a c k := w64 (by omega) (by omega)
  refine sat_of_wp hMix tOk Try.func69 rfl rfl Try.ntmps69 rfl rfl Try.results69 (by kernel_rfl) ?_
  conv => whnf
  refine ⟨⟨by omega, by omega⟩, ?_⟩
  conv => whnf
  refine ⟨⟨by omega, by omega⟩, ?_⟩
  conv => whnf
  refine optK_of (grid_at (c := c) (k := k) (by simp) hc hk) ?_
  conv => whnf
  rw [e]
  exact ⟨rfl, _, rfl, rfl⟩
end Go.Proofs.Ytndlknhakdadjaa
