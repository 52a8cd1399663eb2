/-
  The negative under the curve's constant, as the reference has it: one run. Conditions: none.
-/
import Derived.Test.YtedpakhefdlbbaaC2
namespace Ev
open Go Go.Proofs
noncomputable section
def refNeg : Nat := 57896044618658097711785492504343953926634992332820282019728792003956564698284
theorem refNeg_run : ansR (evCall (pEnv specsT) 100000 (.fn 46) [.agg (encL 32 121665)] ⟨0, .nil⟩) = some (.agg (encL 32 refNeg)) := by kernel_rfl
end
end Ev
