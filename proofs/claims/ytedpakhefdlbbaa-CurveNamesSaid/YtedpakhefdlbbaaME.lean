/-
  One multiple of a point (E): one run. Conditions: none.
-/
import Derived.Test.YtedpakhefdlbbaaC9
namespace Ev
open Go Go.Proofs
noncomputable section
theorem mulE_run : ansR (evCall2 wEnv (pfOf specsM) 100000 (.fn 28) [.agg (encL 32 8), pointA baseX baseY] ⟨0, .nil⟩) = some (pointA 46706390780465557264338673484185971070529246228527338942042475661633188627656 15299170165656271974649334809062094114079726227711063015095704409550798436788) := by kernel_rfl
end
end Ev
