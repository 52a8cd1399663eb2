/-
  The law FieldSmall over two numbers below 2^32: it answers true. Conditions: those named.
-/
import Derived.Test.YtedpakhefdlbbaaS3
namespace Ev
open Go Go.Proofs
noncomputable section

def specsS : List (Nat × (List AV → Option AV)) := [(11, numS1 restN), (19, numS2 addN), (20, numS2 mulN), (21, numS2 subN), (13, numS1 negN), (12, predS canonN), (14, ofS), (10, liveS), (17, predS oddN), (18, predS2 sameN), (16, powES)]
theorem specsS_ok : ∀ p ∈ specsS, FnOK Try.prog p.1 (orcS p.2) := by
  intro p hp
  simp only [specsS, List.mem_cons, List.not_mem_nil, or_false] at hp
  rcases hp with rfl | rfl | rfl | rfl | rfl | rfl | rfl | rfl | rfl | rfl | rfl
  · exact plain_ok rest_c
  · exact plain_ok add_c
  · exact plain_ok mul_c
  · exact plain_ok sub_c
  · exact plain_ok neg_c
  · exact plain_ok canon_c
  · exact plain_ok of_c
  · exact plain_ok lives_c
  · exact plain_ok odd_c
  · exact plain_ok same_c
  · exact plain_ok powE_c
def waysS : List (Nat × (List AV → AMem → KP → Prop)) := [(11, numA1 restN), (19, numA2 addN), (20, numA2 mulN), (21, numA2 subN), (13, numA1 negN), (12, predA canonN), (14, ofA), (10, liveA), (17, predA oddN), (18, predA2 sameN), (16, powEA)]
theorem pairedS : Paired specsS waysS := .cons (fun _ _ _ h => numA1_ok h) (.cons (fun _ _ _ h => numA2_ok h) (.cons (fun _ _ _ h => numA2_ok h) (.cons (fun _ _ _ h => numA2_ok h)
  (.cons (fun _ _ _ h => numA1_ok h) (.cons (fun _ _ _ h => predA_ok h) (.cons (fun _ _ _ h => ofA_ok h) (.cons (fun _ _ _ h => liveA_ok h) (.cons (fun _ _ _ h => predA_ok h) (.cons (fun _ _ _ h => predA2_ok h) (.cons (fun _ _ _ h => powEA_ok h) .nil))))))))))
def sP (f : Nat) : Bool := rP f || (Nat.beq f 17 || (Nat.beq f 18 || Nat.beq f 16))
theorem pfS (g : Nat) (h : sP g = true) : ∃ s, lookS specsS g = some (orcS s) := by
  simp only [sP, rP, Bool.or_eq_true] at h
  rcases h with (h | h | h | h | h | h | h | h) | h | h | h
  all_goals (have := Nat.eq_of_beq_eq_true h; subst this; exact ⟨_, rfl⟩)
def exS (o : Oper) : Bool := match o.dst with
  | some d => Nat.beq d 21 || (Nat.beq d 34 || (Nat.beq d 74 || Nat.beq d 83))
  | none => false
def cfS : Wcfg := ⟨exS, sP, fun _ => some true⟩

def eqS (X Y : List AV) (K : Prop) : Prop := eqAgg (pEnv specsS) 23 X Y = some true ∧ K
def splitB (b : Bool) (T F : Prop) : Prop := (b = true → T) ∧ (b = false → F)
def ofQ (n : Int) (K : List AV → Prop) : Prop := inU n ∧ K (encL 32 n.toNat)
def usub32 (a b : Int) : Int := wrapI .u32 (addI a (negI b))
def endS (a : Int) (x : List AV) (K : Bool → Prop) : Prop :=
  ofQ 2 fun e => powQ x e fun s => ofQ (umul (w64 a) (w64 a)) fun t => eqS s t (ofQ 1 fun e => powQ x e fun s => eqS s x (predQ canonN x (K true) (K false)))
def sameS (a b : Int) (x y : List AV) (K : Bool → Prop) : Prop :=
  predQ2 sameN x y (splitB (eqBool true (eqI a b)) (endS a x K) (K false)) (splitB (eqBool false (eqI a b)) (endS a x K) (K false))
def restS (a b : Int) (x y : List AV) (K : Bool → Prop) : Prop :=
  q2 addN x y fun s => ofQ (uadd (w64 a) (w64 b)) fun t => eqS s t (
  q2 mulN x y fun s => ofQ (umul (w64 a) (w64 b)) fun t => eqS s t (
  predQ oddN x (splitB (eqBool true (eqI (Int.tmod a 2) 1)) (sameS a b x y K) (K false)) (splitB (eqBool false (eqI (Int.tmod a 2) 1)) (sameS a b x y K) (K false))))
def midS (a b : Int) (d x y : List AV) (K : Bool → Prop) : Prop :=
  splitB (ltI a b) (ofQ (w64 (usub32 b a)) fun t => q1 negN t fun n => eqS d n (restS a b x y K)) (restS a b x y K)
def smallP (a b : Int) (K : Bool → Prop) : Prop :=
  ofQ (w64 a) fun x => ofQ (w64 b) fun y => q2 subN x y fun d =>
    splitB (!ltI a b) (ofQ (w64 (usub32 a b)) fun t => eqS d t (midS a b d x y K)) (midS a b d x y K)

set_option maxRecDepth 1000000 in
theorem small_wp (a b : Int) (K : AV → Prop) : (smallP a b fun r => ∀ _ : AMem, K (.bool r)) =
    wpCall cfS (pEnv specsS) (owL waysS) 1000 (.fn 5) [.int .u32 a, .int .u32 b] ⟨0, .nil⟩ (fun r _ => ∀ _ : AMem, K r) := by kernel_rfl
end
end Ev
