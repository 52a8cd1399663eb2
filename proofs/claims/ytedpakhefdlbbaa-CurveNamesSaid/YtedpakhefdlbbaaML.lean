/-
  One multiple of a point (L): one run. Conditions: none.
-/
import Derived.Test.YtedpakhefdlbbaaC9
namespace Ev
open Go Go.Proofs
noncomputable section
theorem mulL_run : ansR (evCall2 wEnv (pfOf specsM) 100000 (.fn 28) [.agg (encL 32 7237005577332262213973186563042994240857116359379907606001950938285454250989), pointA baseX baseY] ⟨0, .nil⟩) = some (pointA 0 1) := by kernel_rfl
end
end Ev
