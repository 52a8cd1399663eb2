/-
  The inverse under the curve's constant, as the reference has it: one run. Conditions: none.
-/
import Derived.Test.YtedpakhefdlbbaaC2
namespace Ev
open Go Go.Proofs
noncomputable section
def refInv : Nat := 37095705934669439343138083508754565189542113879843219016388785533085940283556
theorem refInv_run : ansR (evCall (pEnv specsT) 100000 (.fn 48) [.agg (encL 32 121666)] ⟨0, .nil⟩) = some (.agg (encL 32 refInv)) := by kernel_rfl
end
end Ev
