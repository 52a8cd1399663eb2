/-
  Back from words to a number's bytes: what the code computes. Conditions: those named.
-/
import Derived.Test.YtmbkjhcmbbcphaaG2
namespace Ev
open Go Go.Proofs
noncomputable section

def endM (d0 d1 d2 d3 d4 : Int) (K : Int → Int → Int → Int → Int → Prop) : Prop :=
  (fun v0 => (fun v1 => (fun v2 => (fun v3 => (fun v4 =>
    (fun x0 => (fun x1 => (fun x2 => (fun x3 => (fun x4 => K (uand x0 m51) (uand x1 m51) (uand x2 m51) (uand x3 m51) (uand x4 m51))
      (uadd d4 (ushr x3 51))) (uadd d3 (ushr x2 51))) (uadd d2 (ushr x1 51))) (uadd d1 (ushr x0 51))) (uadd d0 (umul v4 19)))
    (ushr (uadd d4 v3) 51)) (ushr (uadd d3 v2) 51)) (ushr (uadd d2 v1) 51)) (ushr (uadd d1 v0) 51)) (ushr (uadd d0 19) 51)
def byteM (l0 l1 l2 l3 : Int) : List AV := [byt (w8 (ushr l0 0)), byt (w8 (ushr l0 8)), byt (w8 (ushr l0 16)), byt (w8 (ushr l0 24)), byt (w8 (ushr l0 32)), byt (w8 (ushr l0 40)), byt (w8 (ushr l0 48)), byt (w8 (ushr l0 56)), byt (w8 (ushr l1 0)), byt (w8 (ushr l1 8)), byt (w8 (ushr l1 16)), byt (w8 (ushr l1 24)), byt (w8 (ushr l1 32)), byt (w8 (ushr l1 40)), byt (w8 (ushr l1 48)), byt (w8 (ushr l1 56)), byt (w8 (ushr l2 0)), byt (w8 (ushr l2 8)), byt (w8 (ushr l2 16)), byt (w8 (ushr l2 24)), byt (w8 (ushr l2 32)), byt (w8 (ushr l2 40)), byt (w8 (ushr l2 48)), byt (w8 (ushr l2 56)), byt (w8 (ushr l3 0)), byt (w8 (ushr l3 8)), byt (w8 (ushr l3 16)), byt (w8 (ushr l3 24)), byt (w8 (ushr l3 32)), byt (w8 (ushr l3 40)), byt (w8 (ushr l3 48)), byt (w8 (ushr l3 56))]
def packM (e0 e1 e2 e3 e4 : Int) : AV := .agg (byteM (uor e0 (ushl e1 51)) (uor (ushr e1 13) (ushl e2 38)) (uor (ushr e2 26) (ushl e3 25)) (uor (ushr e3 39) (ushl e4 12)))
def closeM (w0 w1 w2 w3 w4 : Int) (K : AV → Prop) : Prop :=
  carM w0 w1 w2 w3 w4 fun c0 c1 c2 c3 c4 => carM c0 c1 c2 c3 c4 fun d0 d1 d2 d3 d4 => endM d0 d1 d2 d3 d4 fun e0 e1 e2 e3 e4 => K (packM e0 e1 e2 e3 e4)
theorem close_wp (w0 w1 w2 w3 w4 : Int) (K : AV → Prop) : (closeM w0 w1 w2 w3 w4 fun r => ∀ _ : AMem, K r) = wpCall noEx (pEnv []) (fun _ => none) 1000 (.fn 50) [wordsA w0 w1 w2 w3 w4] ⟨0, .nil⟩ (fun r _ => ∀ _ : AMem, K r) := by kernel_rfl
end
end Ev
