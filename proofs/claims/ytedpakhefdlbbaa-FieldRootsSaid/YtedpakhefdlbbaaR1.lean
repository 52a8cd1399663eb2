/-
  The law FieldRing over three numbers: it answers true. Conditions: numbers of 32 bytes.
-/
import Derived.Test.YtedpakhefdlbbaaG8
import Derived.Test.YtedpakhefdlbbaaL1
namespace Ev
open Go Go.Proofs
noncomputable section

def liveA : List AV → AMem → KP → Prop
  | [], m, K => K (.bool true) m
  | _, _, _ => False
theorem liveA_ok {args : List AV} {m : AMem} {K : KP} (h : liveA args m K) : ∃ r, liveS args = some r ∧ K r m := by
  unfold liveA at h
  split at h
  · exact ⟨_, rfl, h⟩
  · cases h
def specsR : List (Nat × (List AV → Option AV)) := [(11, numS1 restN), (19, numS2 addN), (20, numS2 mulN), (21, numS2 subN), (13, numS1 negN), (12, predS canonN), (14, of1S), (10, liveS)]
theorem specsR_ok : ∀ p ∈ specsR, FnOK Try.prog p.1 (orcS p.2) := by
  intro p hp
  simp only [specsR, List.mem_cons, List.not_mem_nil, or_false] at hp
  rcases hp with rfl | rfl | rfl | rfl | rfl | rfl | rfl | rfl
  · exact plain_ok rest_c
  · exact plain_ok add_c
  · exact plain_ok mul_c
  · exact plain_ok sub_c
  · exact plain_ok neg_c
  · exact plain_ok canon_c
  · exact plain_ok of1_c
  · exact plain_ok lives_c
def waysR : List (Nat × (List AV → AMem → KP → Prop)) := [(11, numA1 restN), (19, numA2 addN), (20, numA2 mulN), (21, numA2 subN), (13, numA1 negN), (12, predA canonN), (14, of1A), (10, liveA)]
theorem pairedR : Paired specsR waysR := .cons (fun _ _ _ h => numA1_ok h) (.cons (fun _ _ _ h => numA2_ok h) (.cons (fun _ _ _ h => numA2_ok h) (.cons (fun _ _ _ h => numA2_ok h)
  (.cons (fun _ _ _ h => numA1_ok h) (.cons (fun _ _ _ h => predA_ok h) (.cons (fun _ _ _ h => of1A_ok h) (.cons (fun _ _ _ h => liveA_ok h) .nil)))))))
def rP (f : Nat) : Bool := Nat.beq f 11 || (Nat.beq f 19 || (Nat.beq f 20 || (Nat.beq f 21 || (Nat.beq f 13 || (Nat.beq f 12 || (Nat.beq f 14 || Nat.beq f 10))))))
theorem pfR (g : Nat) (h : rP g = true) : ∃ s, lookS specsR g = some (orcS s) := by
  simp only [rP, Bool.or_eq_true] at h
  rcases h with h | h | h | h | h | h | h | h
  all_goals (have := Nat.eq_of_beq_eq_true h; subst this; exact ⟨_, rfl⟩)
def wantR (o : Oper) : Option Bool := match o.dst with
  | some d => Bool.casesOn (motive := fun _ => Option Bool) (Nat.beq d 159) (some true) none
  | none => none
def cfR : Wcfg := ⟨fun _ => false, rP, wantR⟩

def eqT (X Y : List AV) (K : Prop) : Prop := eqAgg (pEnv specsR) 23 X Y = some true ∧ K
def ringP (a b c : List AV) (K : Bool → Prop) : Prop :=
  q2 addN a b fun s => q2 mulN a b fun p =>
  q2 addN b a fun x => eqT s x (q2 mulN b a fun x => eqT p x (q2 addN s c fun x => q2 addN b c fun y => q2 addN a y fun z => eqT x z (
  q2 mulN p c fun x => q2 mulN b c fun y => q2 mulN a y fun z => eqT x z (
  q2 mulN s c fun x => q2 mulN a c fun y => q2 mulN b c fun z => q2 addN y z fun w => eqT x w (
  q2 subN s b fun x => q1 restN a fun r => eqT x r (
  q2 subN a b fun x => q2 addN x b fun y => q1 restN a fun r => eqT y r (
  q1 negN a fun n => q2 subN (encL 32 0) a fun z => eqT n z (
  q1 negN a fun n => q2 addN a n fun x => eqT x (encL 32 0) (
  q1 negN a fun n => q2 mulN n b fun x => q1 negN p fun m => eqT x m (
  q1 restN a fun r =>
  predQ canonN s (predQ canonN p (predQ canonN r (q1 restN r fun x => eqT x r (
    q1 restN b fun y => q2 addN r y fun z => eqT z s (
    q1 restN b fun y => q2 mulN r y fun z => eqT z p (
    (1 : Int) = 1 ∧ q2 mulN a (encL 32 1) fun x => eqT x r (
    q2 addN a (encL 32 0) fun x => eqT x r (
    predQ canonN a (eqP (pEnv specsR) 23 r a fun b => K (eqBool true b)) (eqP (pEnv specsR) 23 r a fun b => K (eqBool false b))))))))
    (K false)) (K false)) (K false)))))))))))

set_option maxRecDepth 1000000 in
theorem ring_wp (A B C : Nat) (K : AV → Prop) : (ringP (encL 32 A) (encL 32 B) (encL 32 C) fun b => ∀ _ : AMem, K (.bool b)) =
    wpCall cfR (pEnv specsR) (owL waysR) 1000 (.fn 4) [.agg (encL 32 A), .agg (encL 32 B), .agg (encL 32 C)] ⟨0, .nil⟩ (fun r _ => ∀ _ : AMem, K r) := by kernel_rfl
end
end Ev
