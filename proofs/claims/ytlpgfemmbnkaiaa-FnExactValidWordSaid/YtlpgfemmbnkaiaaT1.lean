/- Words for the top rows: from a contract to what the row asks; how arguments made of whole numbers alone are opened. -/
import Derived.Test.YtlpgfemmbnkaiaaB0
import Derived.WalkKit
import Derived.ProofKit
import Derived.OpenShut
import Derived.ShutString
import Derived.ChangeOld
import Derived.SizedLaws
namespace Go.V

theorem Sat.walk {P : Program} {g : FuncId} {args : List D} {vs : List Value} {b : Bool} {w : World} (h : Sat P g args (.v (.bool b))) (hr : RepL w w.heap.size noLoc args vs) :
    Calls P g ⟨vs⟩ w fun e w' => e = .returned (.bool b) ∧ RowKit.Below w.heap.size w w' := by
  refine Calls.mono (h.2 w vs hr) ?_
  rintro e w' ⟨y, loc, rfl, hb, hres⟩
  have : y = .bool b := by
    have h1 : Rep w' w.heap.size loc (.v (.bool b)) y := hres.rep
    simp only [Rep] at h1
    exact h1.1
  exact ⟨by rw [this], hb⟩
end Go.V
