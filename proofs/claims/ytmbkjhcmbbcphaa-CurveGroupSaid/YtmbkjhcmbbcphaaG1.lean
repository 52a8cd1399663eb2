/-
  A number's bytes and its words: what the code computes. Conditions: those named.
-/
import Derived.Test.YtmbkjhcmbbcphaaF5
namespace Ev
open Go Go.Proofs
noncomputable section

def byt (x : Int) : AV := .int .u8 x
def w64 (x : Int) : Int := wrapI .u64 x
def w8 (x : Int) : Int := wrapI .u8 x
def ld (n b : Int) : Int := uor (ushl n 8) (w64 b)
def load8 (b0 b1 b2 b3 b4 b5 b6 b7 : Int) : Int := ld (ld (ld (ld (ld (ld (ld (ld 0 b7) b6) b5) b4) b3) b2) b1) b0
def openW (p q r s : Int) : AV := wordsA (uand p m51) (uand (uor (ushr p 51) (ushl q 13)) m51) (uand (uor (ushr q 38) (ushl r 26)) m51) (uand (uor (ushr r 25) (ushl s 39)) m51) (ushr s 12)

theorem open_run (a0 a1 a2 a3 a4 a5 a6 a7 a8 a9 a10 a11 a12 a13 a14 a15 a16 a17 a18 a19 a20 a21 a22 a23 a24 a25 a26 a27 a28 a29 a30 a31 : Int) : ansR (evCall (pEnv []) 1000 (.fn 49) [.agg [byt a0, byt a1, byt a2, byt a3, byt a4, byt a5, byt a6, byt a7, byt a8, byt a9, byt a10, byt a11, byt a12, byt a13, byt a14, byt a15, byt a16, byt a17, byt a18, byt a19, byt a20, byt a21, byt a22, byt a23, byt a24, byt a25, byt a26, byt a27, byt a28, byt a29, byt a30, byt a31]] ⟨0, .nil⟩) = some (openW (load8 a0 a1 a2 a3 a4 a5 a6 a7) (load8 a8 a9 a10 a11 a12 a13 a14 a15) (load8 a16 a17 a18 a19 a20 a21 a22 a23) (load8 a24 a25 a26 a27 a28 a29 a30 a31)) := by kernel_rfl

def carM (w0 w1 w2 w3 w4 : Int) (K : Int → Int → Int → Int → Int → Prop) : Prop :=
  (fun x0 => (fun x1 => (fun x2 => (fun x3 => (fun x4 => K (uadd (uand x0 m51) (umul (ushr x4 51) 19)) (uand x1 m51) (uand x2 m51) (uand x3 m51) (uand x4 m51)) (uadd w4 (ushr x3 51))) (uadd w3 (ushr x2 51))) (uadd w2 (ushr x1 51))) (uadd w1 (ushr x0 51))) (uadd w0 0)
theorem carry_wp (w0 w1 w2 w3 w4 : Int) (K : AV → Prop) : (carM w0 w1 w2 w3 w4 fun c0 c1 c2 c3 c4 => ∀ _ : AMem, K (wordsA c0 c1 c2 c3 c4)) = wpCall noEx (pEnv []) (fun _ => none) 1000 (.fn 54) [wordsA w0 w1 w2 w3 w4] ⟨0, .nil⟩ (fun r _ => ∀ _ : AMem, K r) := by kernel_rfl
end
end Ev
