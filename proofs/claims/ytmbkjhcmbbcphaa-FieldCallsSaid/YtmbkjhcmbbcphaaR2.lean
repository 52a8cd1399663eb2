/-
  Rests are below 2^256. Conditions: none.
-/
import Derived.Test.YtmbkjhcmbbcphaaG8
namespace Ev
open Go Go.Proofs
noncomputable section
theorem lt_add (A B : Nat) : addN A B < 256 ^ 32 := mod_lt32 _
theorem lt_mul (A B : Nat) : mulN A B < 256 ^ 32 := mod_lt32 _
theorem lt_sub (A B : Nat) : subN A B < 256 ^ 32 := mod_lt32 _
theorem lt_neg (A : Nat) : negN A < 256 ^ 32 := mod_lt32 _
theorem lt_rest (A : Nat) : restN A < 256 ^ 32 := mod_lt32 _
end
end Ev
