/-
  The field's program: its own environment, checked once. Conditions: none.
-/
import Derived.Test.YtmbkjhcmbbcphaaProg
import Derived.KernelRfl
import Derived.Test.YtmbkjhcmbbcphaaEvD
open Go Go.Proofs
namespace Ev
noncomputable section

noncomputable def pEnv (l : List (Nat × (List AV → Option AV))) : Env := envOf Try.prog (tab Try.prog.types.toList) (tab Try.prog.funcs.toList) (lookS l)
theorem okP : okFuncs Try.prog = true := by kernel_rfl
theorem mixP : Try.prog.follows .mixedOrders = true := by kernel_rfl

def noEx : Wcfg := ⟨fun _ => false, fun _ => false, fun _ => none⟩
end
end Ev
