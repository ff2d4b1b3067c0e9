/- Contracts: visits that are checked, both sides, and the law. -/
import Derived.Test.YtndlknhakdadjaaC22
set_option linter.unusedVariables false
set_option linter.unusedSimpArgs false
namespace Go.V
/-- Whether the visits keep all tiles from getting too old. -/
def chkL (life years : Int) : Int → Int → List Int → Bool
  | _, born, [] => decide (years - born ≤ life)
  | last, born, y :: ys => if y ≤ last ∨ y > years ∨ y - born > life then false else chkL life years y y ys
def lastAt (xs : List Int) (i : Nat) : Int := if i = 0 then -1 else ix xs (i - 1)
def bornAt (old : Int) (xs : List Int) (i : Nat) : Int := if i = 0 then -old else ix xs (i - 1)
theorem drop_ix {xs : List Int} {i : Nat} (h : i < xs.length) : xs.drop i = ix xs i :: xs.drop (i + 1) := by
  rw [List.drop_eq_getElem_cons h]
  unfold ix
  rw [List.getD_eq_getElem?_getD]
  simp [h]
def chkK (r : Roof) (a : Nat → Nat → Int) (life years : Int) (xs : List Int) : Int := if brkK r a life years = 0 then (if xs.length > 200 then 3 else 0) else brkK r a life years
def chkB (r : Roof) (a : Nat → Nat → Int) (life years : Int) (xs : List Int) : Bool := if chkK r a life years xs = 0 then chkL life years (-1) (-(ageP a (oldP r a))) xs else false
end Go.V
namespace Go.Proofs.Ytndlknhakdadjaa
open Go.V
end Go.Proofs.Ytndlknhakdadjaa
