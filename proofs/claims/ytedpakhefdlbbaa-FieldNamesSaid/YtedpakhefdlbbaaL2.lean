import Derived.Test.YtedpakhefdlbbaaL1
namespace Ev
open Go Go.Proofs
noncomputable section
theorem ran : isTrue (evCall (pEnv specs5) 10000 (.fn 3) [] ⟨0, .nil⟩) = true := by kernel_rfl
end
end Ev
