/- Contracts: OldestOf, both sides, and the law. -/
import Derived.Test.YtndlknhakdadjaaC15
set_option linter.unusedVariables false
set_option linter.unusedSimpArgs false
namespace Go.V
def oldV (r : Roof) (a : Nat → Nat → Int) : D := if okA r a = true then .tup [plD (oldP r a), .v (.int .i64 (ageP a (oldP r a))), .v (.int .i64 0)] else .tup [plD (0, 0), .v (.int .i64 0), .v (.int .i64 1)]
theorem okA_bounds {r : Roof} {a : Nat → Nat → Int} (h : okA r a = true) : (1 ≤ r.w ∧ r.w ≤ 8) ∧ (1 ≤ r.h ∧ r.h ≤ 8) ∧ r.s ≤ 1 := by
  simp only [okA, Bool.and_eq_true] at h
  exact okR_bounds h.1
theorem oldP_in {r : Roof} (hb : (1 ≤ r.w ∧ r.w ≤ 8) ∧ (1 ≤ r.h ∧ r.h ≤ 8) ∧ r.s ≤ 1) (a : Nat → Nat → Int) : (oldP r a).1 < 8 ∧ (oldP r a).2 < 8 := by
  have hs := gridP_size hb
  exact bestL_in (gridP_in (by omega) (by omega)) _ (by omega)
end Go.V
namespace Go.Proofs.Ytndlknhakdadjaa
open Go.V
theorem eqPlace_same (q : Pl) : Sat Try.prog 106 [plD q, plD q] (.v (.bool true)) := by
  refine sat_of_wp hMix tOk Try.func106 rfl rfl Try.ntmps106 rfl rfl Try.results106 (by kernel_rfl) ?_
  conv => whnf
  rw [show (((q.1 : Nat) : Int) != ((q.1 : Nat) : Int)) = false by simp]
  conv => whnf
  rw [show (((q.2 : Nat) : Int) != ((q.2 : Nat) : Int)) = false by simp]
  exact ⟨rfl, _, rfl, rfl⟩

def oldQ (r : Roof) (a : Nat → Nat → Int) : Pl := if okA r a = true then oldP r a else (0, 0)
def oldN (r : Roof) (a : Nat → Nat → Int) : Int := if okA r a = true then ageP a (oldP r a) else 0
def oldK (r : Roof) (a : Nat → Nat → Int) : Int := if okA r a = true then 0 else 1
theorem oldV_eq (r : Roof) (a : Nat → Nat → Int) : oldV r a = .tup [plD (oldQ r a), .v (.int .i64 (oldN r a)), .v (.int .i64 (oldK r a))] := by
  unfold oldV oldQ oldN oldK
  cases okA r a <;> simp

end Go.Proofs.Ytndlknhakdadjaa
