/-
  The power to one exponent (Nought), as conditions that the kernel wrote. Conditions: those of the product.
-/
import Derived.Test.YtmbkjhcmbbcphaaF5
namespace Ev
open Go Go.Proofs
noncomputable section
def eNought : List Nat := [0, 0, 0, 0, 0, 0, 0, 0, 0, 0, 0, 0, 0, 0, 0, 0, 0, 0, 0, 0, 0, 0, 0, 0, 0, 0, 0, 0, 0, 0, 0, 0]
set_option maxRecDepth 1000000 in
theorem powNought_wp (x0 x1 x2 x3 x4 : Int) (K : AV → Prop) :
    (powP (bitsOf eNought) 1 0 0 0 0 x0 x1 x2 x3 x4 fun c0 c1 c2 c3 c4 => ∀ _ : AMem, K (wordsA c0 c1 c2 c3 c4)) =
      wpCall noEx (pEnv specs3) ow3 1000 (.fn 58) [wordsA x0 x1 x2 x3 x4, num eNought] ⟨0, .nil⟩ (fun r _ => ∀ _ : AMem, K r) := by kernel_rfl
end
end Ev
