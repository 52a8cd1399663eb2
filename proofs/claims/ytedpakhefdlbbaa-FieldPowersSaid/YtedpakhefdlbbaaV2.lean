/-
  The laws FieldRoots and FieldPowers: what their runs need. Conditions: none.
-/
import Derived.Test.YtedpakhefdlbbaaV1
import Derived.Test.YtedpakhefdlbbaaR1
namespace Ev
open Go Go.Proofs
noncomputable section

def specsZ : List (Nat × (List AV → Option AV)) := [(11, numS1 restN), (20, numS2 mulN), (13, numS1 negN), (14, ofS), (10, liveS), (17, predS oddN), (9, rootS), (16, numS2 powM), (15, numS1 invN)]
theorem specsZ_ok : ∀ p ∈ specsZ, FnOK Try.prog p.1 (orcS p.2) := by
  intro p hp
  simp only [specsZ, List.mem_cons, List.not_mem_nil, or_false] at hp
  rcases hp with rfl | rfl | rfl | rfl | rfl | rfl | rfl | rfl | rfl
  · exact plain_ok rest_c
  · exact plain_ok mul_c
  · exact plain_ok neg_c
  · exact plain_ok of_c
  · exact plain_ok lives_c
  · exact plain_ok odd_c
  · exact plain_ok root_c
  · exact plain_ok pow_c
  · exact plain_ok inv_c
def waysZ : List (Nat × (List AV → AMem → KP → Prop)) := [(11, numA1 restN), (20, numA2 mulN), (13, numA1 negN), (14, ofA), (10, liveA), (17, predA oddN), (9, rootA), (16, numA2 powM), (15, numA1 invN)]
theorem pairedZ : Paired specsZ waysZ := .cons (fun _ _ _ h => numA1_ok h) (.cons (fun _ _ _ h => numA2_ok h) (.cons (fun _ _ _ h => numA1_ok h) (.cons (fun _ _ _ h => ofA_ok h) (.cons (fun _ _ _ h => liveA_ok h) (.cons (fun _ _ _ h => predA_ok h)
  (.cons (fun _ _ _ h => rootA_ok h) (.cons (fun _ _ _ h => numA2_ok h) (.cons (fun _ _ _ h => numA1_ok h) .nil))))))))
def zP (f : Nat) : Bool := Nat.beq f 11 || (Nat.beq f 20 || (Nat.beq f 13 || (Nat.beq f 14 || (Nat.beq f 10 || (Nat.beq f 17 || (Nat.beq f 9 || (Nat.beq f 16 || Nat.beq f 15)))))))
theorem pfZ (g : Nat) (h : zP g = true) : ∃ s, lookS specsZ g = some (orcS s) := by
  simp only [zP, Bool.or_eq_true] at h
  rcases h with h | h | h | h | h | h | h | h | h
  all_goals (have := Nat.eq_of_beq_eq_true h; subst this; exact ⟨_, rfl⟩)
theorem okZ : EnvOK (pEnv specsZ) Try.prog := okE specsZ specsZ_ok
def eqZ (X Y : List AV) (K : Prop) : Prop := eqAgg (pEnv specsZ) 23 X Y = some true ∧ K
def splitZ (b : Bool) (K : Bool → Prop) : Prop := (b = true → K true) ∧ (b = false → K false)

/-! FieldRoots -/
def exR (o : Oper) : Bool := match o.dst with
  | some d => Nat.beq d 23 || (Nat.beq d 28 || (Nat.beq d 76 || Nat.beq d 85))
  | none => false
def wantRt (o : Oper) : Option Bool := match o.dst with
  | some d => Bool.casesOn (motive := fun _ => Option Bool) (Nat.beq d 79 || Nat.beq d 88) none (some true)
  | none => none
def cfRt : Wcfg := ⟨exR, zP, wantRt⟩

def rt85 (none : List AV) (x y z : Bool) (K : Bool → Prop) (b : Bool) : Prop :=
  Bool.casesOn (motive := fun _ => Prop) b (K false) (eqZ none (encL 32 0) (K (eqBool z (eqBool x y))))
def rt76 (r even none : List AV) (is x y z : Bool) (K : Bool → Prop) (b : Bool) : Prop :=
  Bool.casesOn (motive := fun _ => Prop) b (splitZ false (rt85 none x y z K)) (eqZ r even (splitZ (!is) (rt85 none x y z K)))
def rtEnd (a r even none : List AV) (ok is x y z : Bool) (K : Bool → Prop) : Prop :=
  predQ oddN a (q1 negN a fun n => predQ oddN n (splitZ false (rt76 r even none is x y z K)) (splitZ ok (rt76 r even none is x y z K)))
    (q1 negN a fun n => predQ oddN n (splitZ ok (rt76 r even none is x y z K)) (splitZ false (rt76 r even none is x y z K)))
def rtMid (a b s r even : List AV) (ok : Bool) (K : Bool → Prop) : Prop :=
  ofQ 2 fun two => q2 mulN two s fun t => rootQ t fun none is => rootQ a fun _ x => rootQ b fun _ y => q2 mulN a b fun p => rootQ p fun _ z => rtEnd a r even none ok is x y z K
def rtRest (a b : List AV) (K : Bool → Prop) : Prop :=
  q2 mulN a a fun s => rootQ s fun r ok => q1 restN a fun e => predQ oddN a (q1 negN a fun e => rtMid a b s r e ok K) (rtMid a b s r e ok K)
def rootsP (a b : List AV) (K : Bool → Prop) : Prop :=
  q1 restN a fun x => eqP (pEnv specsZ) 23 x (encL 32 0) fun z1 =>
    splitZ z1 fun z1 => Bool.casesOn (motive := fun _ => Prop) z1
      (q1 restN b fun y => eqP (pEnv specsZ) 23 y (encL 32 0) fun z2 => splitZ z2 fun z2 => Bool.casesOn (motive := fun _ => Prop) z2 (rtRest a b K) (K true))
      (splitZ true fun z2 => Bool.casesOn (motive := fun _ => Prop) z2 (rtRest a b K) (K true))

set_option maxRecDepth 1000000 in
theorem roots_wp (A B : Nat) (K : AV → Prop) : (rootsP (encL 32 A) (encL 32 B) fun r => ∀ _ : AMem, K (.bool r)) =
    wpCall cfRt (pEnv specsZ) (owL waysZ) 1000 (.fn 7) [.agg (encL 32 A), .agg (encL 32 B)] ⟨0, .nil⟩ (fun r _ => ∀ _ : AMem, K r) := by kernel_rfl
end
end Ev
