/-
  The sum of wide points, in place: what the code does to the row it is given. Conditions: rows of four numbers.
-/
import Derived.Test.YtmbkjhcmbbcphaaD1
import Derived.Test.YtmbkjhcmbbcphaaEvD
namespace Ev
open Go Go.Proofs
noncomputable section

def cat4 (x y z t : List AV) : List AV := x ++ (y ++ (z ++ t))
def rowW (x y z t : Nat) (cl : Bool) : ABlk := .row 128 (cat4 (encL 32 x) (encL 32 y) (encL 32 z) (encL 32 t)) .nil cl
def addW (x1 y1 z1 t1 x2 y2 z2 t2 : List AV) (K : List AV → Prop) : Prop :=
  q2 subN y1 x1 fun p => q2 subN y2 x2 fun q => q2 mulN p q fun a =>
  q2 addN y1 x1 fun p => q2 addN y2 x2 fun q => q2 mulN p q fun b =>
  q2 mulN t1 (encL 32 curveD) fun p => q2 mulN p t2 fun c => q2 addN c c fun c =>
  q2 mulN z1 z2 fun z => q2 addN z z fun z =>
  q2 subN b a fun e => q2 subN z c fun f => q2 addN z c fun g => q2 addN b a fun h =>
  q2 mulN e f fun X => q2 mulN g h fun Y => q2 mulN f g fun Z => q2 mulN e h fun T => K (cat4 X Y Z T)
def specsA : List (Nat × (List AV → Option AV)) := [(23, numS2 mulN), (17, numS2 addN), (19, numS2 subN), (61, dS)]
theorem specsA_ok : ∀ p ∈ specsA, FnOK Try.prog p.1 (orcS p.2) := by
  intro p hp
  simp only [specsA, List.mem_cons, List.not_mem_nil, or_false] at hp
  rcases hp with rfl | rfl | rfl | rfl
  · exact plain_ok mul_c
  · exact plain_ok add_c
  · exact plain_ok sub_c
  · exact plain_ok d_c
def waysA : List (Nat × (List AV → AMem → KP → Prop)) := [(23, numA2 mulN), (17, numA2 addN), (19, numA2 subN), (61, dA)]
theorem pairedA : Paired specsA waysA := .cons (fun _ _ _ h => numA2_ok h) (.cons (fun _ _ _ h => numA2_ok h) (.cons (fun _ _ _ h => numA2_ok h) (.cons (fun _ _ _ h => dA_ok h) .nil)))
def cfA : Wcfg := ⟨fun _ => false, pfS specsA, fun _ => none⟩
def mem1 (A : ABlk) : AMem := AMem.add ⟨0, .nil⟩ A
def mem2 (A B : ABlk) : AMem := AMem.add (AMem.add ⟨0, .nil⟩ A) B

set_option maxRecDepth 1000000 in
theorem add2_wp (x1 y1 z1 t1 x2 y2 z2 t2 : Nat) (cl cl' : Bool) (Post : AV → Option ABlk → Option ABlk → Prop) :
    (addW (encL 32 x1) (encL 32 y1) (encL 32 z1) (encL 32 t1) (encL 32 x2) (encL 32 y2) (encL 32 z2) (encL 32 t2) fun l => Post (.tup []) (some (.row 128 l .nil cl)) (some (rowW x2 y2 z2 t2 cl'))) =
    wpCall cfA (pEnv specsA) (owL waysA) 1000 (.fn 63) [.ptr 0 0, .ptr 1 0] (mem2 (rowW x1 y1 z1 t1 cl) (rowW x2 y2 z2 t2 cl')) (fun r m => Post r (m.get 0) (m.get 1)) := by kernel_rfl
set_option maxRecDepth 1000000 in
theorem add1_wp (x1 y1 z1 t1 : Nat) (cl : Bool) (Post : AV → Option ABlk → Prop) :
    (addW (encL 32 x1) (encL 32 y1) (encL 32 z1) (encL 32 t1) (encL 32 x1) (encL 32 y1) (encL 32 z1) (encL 32 t1) fun l => Post (.tup []) (some (.row 128 l .nil cl))) =
    wpCall cfA (pEnv specsA) (owL waysA) 1000 (.fn 63) [.ptr 0 0, .ptr 0 0] (mem1 (rowW x1 y1 z1 t1 cl)) (fun r m => Post r (m.get 0)) := by kernel_rfl
end
end Ev
