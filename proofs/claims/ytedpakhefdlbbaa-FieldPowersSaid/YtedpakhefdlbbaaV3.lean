/-
  The law FieldPowers: what its run needs. Conditions: none.
-/
import Derived.Test.YtedpakhefdlbbaaV2
namespace Ev
open Go Go.Proofs
noncomputable section

def exW (o : Oper) : Bool := match o.dst with
  | some d => Nat.beq d 39 || Nat.beq d 51
  | none => false
def wantW (o : Oper) : Option Bool := match o.dst with
  | some d => Bool.casesOn (motive := fun _ => Option Bool) (Nat.beq d 42 || (Nat.beq d 48 || (Nat.beq d 68 || (Nat.beq d 74 || (Nat.beq d 85 || (Nat.beq d 94 || Nat.beq d 101)))))) none (some true)
  | none => none
def cfW : Wcfg := ⟨exW, zP, wantW⟩

def intZ (n : Int) (F : Nat → Prop) : Prop := smallI n ∧ (n = .ofNat 0 → F 0) ∧ (n = .ofNat 1 → F 1) ∧ (n = .ofNat 2 → F 2) ∧ (n = .ofNat 3 → F 3) ∧ (n = .ofNat 4 → F 4) ∧ (n = .ofNat 5 → F 5) ∧ (n = .ofNat 6 → F 6) ∧ (n = .ofNat 7 → F 7) ∧ (n = .ofNat 8 → F 8)
def mulK : Nat → List AV → List AV → (List AV → Prop) → Prop
  | 0, w, _, K => K w
  | k + 1, w, p, K => q2 mulN w p fun w => mulK k w p K
def pwTail (a i y sum less power want : List AV) (k : Nat) (K : Bool → Prop) : Prop :=
  q2 mulN i a fun x => ofQ 1 fun o => eqZ x o (q1 invN i fun x => q1 restN a fun r => eqZ x r (
  q2 powM a y fun u => q2 mulN power u fun v => q2 powM a sum fun w => eqZ v w (
  ofQ (.ofNat k) fun e => q2 powM power e fun x => eqZ x want (
  q2 powM a less fun x => ofQ 1 fun o => eqZ x o (K true)))))
def pwRest (a i x y sum less : List AV) (n : Int) (K : Bool → Prop) : Prop :=
  intZ (Int.tmod n 9) fun k => q2 powM a x fun power => ofQ 1 fun want => mulK k want power fun want => pwTail a i y sum less power want k K
def powersP (a : List AV) (m n : Int) (K : Bool → Prop) : Prop :=
  q1 invN a fun i => q1 restN a fun r => eqP (pEnv specsZ) 23 r (encL 32 0) fun z =>
  ofQ (w64 m) fun x => ofQ (w64 n) fun y => ofQ (uadd (w64 m) (w64 n)) fun sum => ofQ 1 fun one => q1 negN one fun less =>
  splitZ z fun z => Bool.casesOn (motive := fun _ => Prop) z (pwRest a i x y sum less n K)
    (eqZ i (encL 32 0) (q2 powM a less fun p => eqZ p (encL 32 0) (K true)))

set_option maxRecDepth 1000000 in
theorem powers_wp (A : Nat) (m n : Int) (K : AV → Prop) : (powersP (encL 32 A) m n fun r => ∀ _ : AMem, K (.bool r)) =
    wpCall cfW (pEnv specsZ) (owL waysZ) 1000 (.fn 6) [.agg (encL 32 A), .int .u32 m, .int .u32 n] ⟨0, .nil⟩ (fun r _ => ∀ _ : AMem, K r) := by kernel_rfl
end
end Ev
