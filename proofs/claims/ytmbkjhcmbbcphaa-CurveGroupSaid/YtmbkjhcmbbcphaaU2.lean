/-
  (words).power: what stands before its loop and behind it. Conditions: none.
-/
import Derived.Test.YtmbkjhcmbbcphaaU1
import Derived.Test.YtmbkjhcmbbcphaaG1
namespace Ev
open Go Go.Proofs
noncomputable section

def bytesA (e0 e1 e2 e3 e4 e5 e6 e7 e8 e9 e10 e11 e12 e13 e14 e15 e16 e17 e18 e19 e20 e21 e22 e23 e24 e25 e26 e27 e28 e29 e30 e31 : Int) : List AV := [byt e0, byt e1, byt e2, byt e3, byt e4, byt e5, byt e6, byt e7, byt e8, byt e9, byt e10, byt e11, byt e12, byt e13, byt e14, byt e15, byt e16, byt e17, byt e18, byt e19, byt e20, byt e21, byt e22, byt e23, byt e24, byt e25, byt e26, byt e27, byt e28, byt e29, byt e30, byt e31]
def rowZ : ABlk := rowO 0 0 0 0 0
theorem powPre_wp (e0 e1 e2 e3 e4 e5 e6 e7 e8 e9 e10 e11 e12 e13 e14 e15 e16 e17 e18 e19 e20 e21 e22 e23 e24 e25 e26 e27 e28 e29 e30 e31 w0 w1 w2 w3 w4 : Int) (P PX : Seen) :
    seen P (.int .i64 0) (memU (.row 32 (bytesA e0 e1 e2 e3 e4 e5 e6 e7 e8 e9 e10 e11 e12 e13 e14 e15 e16 e17 e18 e19 e20 e21 e22 e23 e24 e25 e26 e27 e28 e29 e30 e31) .nil true) rowZ (rowF (load8 e24 e25 e26 e27 e28 e29 e30 e31) (load8 e16 e17 e18 e19 e20 e21 e22 e23) (load8 e8 e9 e10 e11 e12 e13 e14 e15) (load8 e0 e1 e2 e3 e4 e5 e6 e7)) w0 w1 w2 w3 w4 1 0 0 0 0) =
    wpCodeF cfU powPre (pEnv specs3) (wpCall cfU (pEnv specs3) owU 999) 999 ⟨initTm [wordsA w0 w1 w2 w3 w4, .agg (bytesA e0 e1 e2 e3 e4 e5 e6 e7 e8 e9 e10 e11 e12 e13 e14 e15 e16 e17 e18 e19 e20 e21 e22 e23 e24 e25 e26 e27 e28 e29 e30 e31)] 0 .nil, ⟨0, .nil⟩⟩ (lookX P PX) := by kernel_rfl

theorem powPre_at {X : List AV} {e0 e1 e2 e3 e4 e5 e6 e7 e8 e9 e10 e11 e12 e13 e14 e15 e16 e17 e18 e19 e20 e21 e22 e23 e24 e25 e26 e27 e28 e29 e30 e31 : Int} (hX : X = bytesA e0 e1 e2 e3 e4 e5 e6 e7 e8 e9 e10 e11 e12 e13 e14 e15 e16 e17 e18 e19 e20 e21 e22 e23 e24 e25 e26 e27 e28 e29 e30 e31) (w0 w1 w2 w3 w4 : Int) (P PX : Seen) :
    seen P (.int .i64 0) (memU (.row 32 (bytesA e0 e1 e2 e3 e4 e5 e6 e7 e8 e9 e10 e11 e12 e13 e14 e15 e16 e17 e18 e19 e20 e21 e22 e23 e24 e25 e26 e27 e28 e29 e30 e31) .nil true) rowZ (rowF (load8 e24 e25 e26 e27 e28 e29 e30 e31) (load8 e16 e17 e18 e19 e20 e21 e22 e23) (load8 e8 e9 e10 e11 e12 e13 e14 e15) (load8 e0 e1 e2 e3 e4 e5 e6 e7)) w0 w1 w2 w3 w4 1 0 0 0 0) =
    wpCodeF cfU powPre (pEnv specs3) (wpCall cfU (pEnv specs3) owU 999) 999 ⟨initTm [wordsA w0 w1 w2 w3 w4, .agg X] 0 .nil, ⟨0, .nil⟩⟩ (lookX P PX) := by
  rw [hX]; exact powPre_wp e0 e1 e2 e3 e4 e5 e6 e7 e8 e9 e10 e11 e12 e13 e14 e15 e16 e17 e18 e19 e20 e21 e22 e23 e24 e25 e26 e27 e28 e29 e30 e31 w0 w1 w2 w3 w4 P PX

def leaveU (K : KP) : KX := fun e s => Ex.casesOn (motive := fun _ => Prop) e (needR (evLeave (pEnv specs3) Try.f58 s) K) (fun _ => False) (needR (evLeave (pEnv specs3) Try.f58 s) K)
theorem powPost_wp (j : Nat → AV) (e L : ABlk) (i w0 w1 w2 w3 w4 o0 o1 o2 o3 o4 : Int) (K : AV → Prop) :
    (∀ _ : AMem, K (wordsA o0 o1 o2 o3 o4)) =
    wpCodeF cfU powPost (pEnv specs3) (wpCall cfU (pEnv specs3) owU 999) 999 ⟨tmU j i, memU e rowZ L w0 w1 w2 w3 w4 o0 o1 o2 o3 o4⟩ (leaveU fun r _ => ∀ _ : AMem, K r) := by kernel_rfl
end
end Ev
