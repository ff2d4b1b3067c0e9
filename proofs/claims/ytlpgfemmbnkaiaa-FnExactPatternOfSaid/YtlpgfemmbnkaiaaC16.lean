/- Contracts: OldestOf, both sides, and the law. -/
import Derived.Test.YtlpgfemmbnkaiaaC15
set_option linter.unusedVariables false
set_option linter.unusedSimpArgs false
namespace Go.V
def oldV (r : Roof) (a : Nat → Nat → Int) : D := if okA r a = true then .tup [plD (oldP r a), .v (.int .i64 (ageP a (oldP r a))), .v (.int .i64 0)] else .tup [plD (0, 0), .v (.int .i64 0), .v (.int .i64 1)]
theorem okA_bounds {r : Roof} {a : Nat → Nat → Int} (h : okA r a = true) : (1 ≤ r.w ∧ r.w ≤ 8) ∧ (1 ≤ r.h ∧ r.h ≤ 8) ∧ r.s ≤ 1 := by
  simp only [okA, Bool.and_eq_true] at h
  exact okR_bounds h.1
theorem oldP_in {r : Roof} (hb : (1 ≤ r.w ∧ r.w ≤ 8) ∧ (1 ≤ r.h ∧ r.h ≤ 8) ∧ r.s ≤ 1) (a : Nat → Nat → Int) : (oldP r a).1 < 8 ∧ (oldP r a).2 < 8 := by
  have hs := gridP_size hb
  exact bestL_in (gridP_in (by omega) (by omega)) _ (by omega)
end Go.V
namespace Go.Proofs.Ytlpgfemmbnkaiaa
open Go.V
theorem specOldestOf_sat (r : Roof) (hr : r.In) (a : Nat → Nat → Int) (ha : AgesIn a) : Sat Try.prog 41 [roofD r, gridD a] (oldV r a) := by
  refine sat_of_wp hMix tOk Try.func41 rfl rfl Try.ntmps41 rfl rfl Try.results41 (by kernel_rfl) ?_
  conv => whnf
  refine ⟨_, _, rfl, l07Ages_sat r hr a ha, ?_⟩
  conv => whnf
  cases h1 : okA r a
  · conv => whnf
    refine ⟨rfl, ?_⟩
    conv => whnf
    refine ⟨by decide, ?_⟩
    conv => whnf
    refine ⟨by decide, ?_⟩
    conv => whnf
    refine ⟨rfl, _, rfl, ?_⟩
    simp only [oldV, h1]; rfl
  conv => whnf
  refine ⟨_, _, rfl, l07Oldest_sat r hr (okA_bounds h1) a ha, ?_⟩
  conv => whnf
  refine ⟨by simp, ?_⟩
  conv => whnf
  refine ⟨by simp, ?_⟩
  conv => whnf
  refine ⟨by simp [splice], ?_⟩
  conv => whnf
  refine ⟨by simp [splice], ?_⟩
  conv => whnf
  refine ⟨by simp [splice], ?_⟩
  conv => whnf
  refine ⟨by simp [splice], ?_⟩
  conv => whnf
  refine ⟨rfl, _, rfl, ?_⟩
  simp only [oldV, h1, if_true]; rfl

theorem oldestOf_sat (r : Roof) (hr : r.In) (a : Nat → Nat → Int) (ha : AgesIn a) : Sat Try.prog 42 [roofD r, gridD a] (oldV r a) := by
  have e0 : ((roofC r).drop 0).take 67 = roofC r := take_drop0 (by simp [roofC])
  have e1 : ((grid a).drop 0).take 64 = grid a := take_drop0 (by simp)
  have cc : Sat Try.prog 89 [D.v (.agg ⟨((roofC r).drop 0).take 67⟩), D.v (.agg ⟨((grid a).drop 0).take 64⟩), .v (.bool true)] (.v (.int .i64 (askC r a true))) := by rw [e0, e1]; exact agesCode_sat r hr a ha true
  refine sat_of_wp hMix tOk Try.func42 rfl rfl Try.ntmps42 rfl rfl Try.results42 (by kernel_rfl) ?_
  conv => whnf
  refine ⟨by simp [roofC], ?_⟩
  conv => whnf
  refine ⟨by simp, ?_⟩
  conv => whnf
  refine ⟨_, _, rfl, cc, ?_⟩
  cases h1 : okA r a
  · rw [show askC r a true = 1 by simp [askC, h1]]
    conv => whnf
    refine ⟨rfl, ?_⟩
    conv => whnf
    refine ⟨by decide, ?_⟩
    conv => whnf
    refine ⟨by decide, ?_⟩
    conv => whnf
    refine ⟨rfl, _, rfl, ?_⟩
    simp only [oldV, h1]; rfl
  rw [show askC r a true = 0 by simp [askC, h1]]
  have hb := okA_bounds h1
  have hp := oldP_in hb a
  have co : Sat Try.prog 90 [D.v (.agg ⟨((roofC r).drop 0).take 67⟩), D.v (.agg ⟨((grid a).drop 0).take 64⟩)] (plD (oldP r a)) := by rw [e0, e1]; exact oldest_sat r hr hb a ha
  have ca : Sat Try.prog 91 [D.v (.agg ⟨((grid a).drop 0).take 64⟩), plD (oldP r a)] (.v (.int .i64 (ageP a (oldP r a)))) := by rw [e1]; exact at_sat a ha _ _ hp.1 hp.2
  conv => whnf
  refine ⟨by simp [roofC], ?_⟩
  conv => whnf
  refine ⟨by simp, ?_⟩
  conv => whnf
  refine ⟨_, _, rfl, co, ?_⟩
  conv => whnf
  refine ⟨by simp, ?_⟩
  conv => whnf
  refine ⟨by simp, ?_⟩
  conv => whnf
  refine ⟨by simp [splice], ?_⟩
  conv => whnf
  refine ⟨by simp, ?_⟩
  conv => whnf
  refine ⟨by simp [splice], ?_⟩
  conv => whnf
  refine ⟨_, _, rfl, ca, ?_⟩
  conv => whnf
  refine ⟨by simp [splice], ?_⟩
  conv => whnf
  refine ⟨by simp [splice], ?_⟩
  conv => whnf
  refine ⟨by simp [splice], ?_⟩
  conv => whnf
  refine ⟨rfl, _, rfl, ?_⟩
  simp only [oldV, h1, if_true]; rfl

theorem eqPlace_same (q : Pl) : Sat Try.prog 43 [plD q, plD q] (.v (.bool true)) := by
  refine sat_of_wp hMix tOk Try.func43 rfl rfl Try.ntmps43 rfl rfl Try.results43 (by kernel_rfl) ?_
  conv => whnf
  rw [show (((q.1 : Nat) : Int) != ((q.1 : Nat) : Int)) = false by simp]
  conv => whnf
  rw [show (((q.2 : Nat) : Int) != ((q.2 : Nat) : Int)) = false by simp]
  exact ⟨rfl, _, rfl, rfl⟩

def oldQ (r : Roof) (a : Nat → Nat → Int) : Pl := if okA r a = true then oldP r a else (0, 0)
def oldN (r : Roof) (a : Nat → Nat → Int) : Int := if okA r a = true then ageP a (oldP r a) else 0
def oldK (r : Roof) (a : Nat → Nat → Int) : Int := if okA r a = true then 0 else 1
theorem oldV_eq (r : Roof) (a : Nat → Nat → Int) : oldV r a = .tup [plD (oldQ r a), .v (.int .i64 (oldN r a)), .v (.int .i64 (oldK r a))] := by
  unfold oldV oldQ oldN oldK
  cases okA r a <;> simp

theorem fnExactOldestOf_sat (r : Roof) (hr : r.In) (a : Nat → Nat → Int) (ha : AgesIn a) : Sat Try.prog 12 [roofD r, gridD a] (.v (.bool true)) := by
  have e0 : ((roofC r).drop 0).take 67 = roofC r := take_drop0 (by simp [roofC])
  have e1 : ((grid a).drop 0).take 64 = grid a := take_drop0 (by simp)
  have cr : Sat Try.prog 22 [D.v (.agg ⟨((roofC r).drop 0).take 67⟩)] (roofD r) := by rw [e0]; exact toRoof_sat r
  have ca : Sat Try.prog 26 [D.v (.agg ⟨((grid a).drop 0).take 64⟩)] (gridD a) := by rw [e1]; exact toAges_sat a
  have s1 := specOldestOf_sat r hr a ha
  have s2 := oldestOf_sat r hr a ha
  rw [oldV_eq] at s1 s2
  generalize oldQ r a = q at s1 s2
  generalize oldN r a = x at s1 s2
  generalize oldK r a = y at s1 s2
  refine sat_of_wp hMix tOk Try.func12 rfl rfl Try.ntmps12 rfl rfl Try.results12 (by kernel_rfl) ?_
  conv => whnf
  refine ⟨by simp [roofC], ?_⟩
  conv => whnf
  refine ⟨_, _, rfl, cr, ?_⟩
  conv => whnf
  refine ⟨by simp [gridD], ?_⟩
  conv => whnf
  refine ⟨_, _, rfl, ca, ?_⟩
  conv => whnf
  refine ⟨_, _, rfl, s1, ?_⟩
  conv => whnf
  refine ⟨by simp, ?_⟩
  conv => whnf
  refine ⟨by simp, ?_⟩
  conv => whnf
  refine ⟨by simp [roofC], ?_⟩
  conv => whnf
  refine ⟨_, _, rfl, cr, ?_⟩
  conv => whnf
  refine ⟨by simp [gridD], ?_⟩
  conv => whnf
  refine ⟨_, _, rfl, ca, ?_⟩
  conv => whnf
  refine ⟨_, _, rfl, s2, ?_⟩
  conv => whnf
  refine ⟨by simp, ?_⟩
  conv => whnf
  refine ⟨by simp, ?_⟩
  conv => whnf
  refine ⟨by simp [splice], ?_⟩
  conv => whnf
  refine ⟨by simp [splice], ?_⟩
  conv => whnf
  refine ⟨_, _, rfl, eqPlace_same q, ?_⟩
  conv => whnf
  rw [show (x != x) = false by simp]
  conv => whnf
  rw [show (y != y) = false by simp]
  exact ⟨rfl, _, rfl, rfl⟩
end Go.Proofs.Ytlpgfemmbnkaiaa
