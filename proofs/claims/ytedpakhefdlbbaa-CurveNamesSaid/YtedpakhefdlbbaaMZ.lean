/-
  One multiple of a point (Z): one run. Conditions: none.
-/
import Derived.Test.YtedpakhefdlbbaaC9
namespace Ev
open Go Go.Proofs
noncomputable section
theorem mulZ_run : ansR (evCall2 wEnv (pfOf specsM) 100000 (.fn 28) [.agg (encL 32 8), pointA 0 1] ⟨0, .nil⟩) = some (pointA 0 1) := by kernel_rfl
end
end Ev
