/- Contracts: mirrored colours, the program's side, and the law. -/
import Derived.Test.YtndlknhakdadjaaC6
set_option linter.unusedVariables false
set_option linter.unusedSimpArgs false
namespace Go.V
theorem mirOut_zero {r : Roof} {f : Nat → Int} (h1 : okC r f = false) : row8 (mirOut r f) = List.replicate 8 (.int .u8 0) := by
  rw [← part_zero 8 f]
  apply tab_congr
  intro i hi
  simp [mirOut, partV, h1]
theorem mirOut_ok {r : Roof} {f : Nat → Int} (h1 : okC r f = true) : row8 (mirOut r f) = row8 (mir r f) := by
  apply tab_congr
  intro i hi
  simp [mirOut, h1]
end Go.V
namespace Go.Proofs.Ytndlknhakdadjaa
open Go.V
end Go.Proofs.Ytndlknhakdadjaa
