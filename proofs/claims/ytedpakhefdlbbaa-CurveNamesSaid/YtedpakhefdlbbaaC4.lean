/-
  The oracles under the curve: the numbers' functions, powers by squaring. Conditions: those named.
-/
import Derived.Test.YtedpakhefdlbbaaS3
import Derived.Test.YtedpakhefdlbbaaC3
import Derived.Test.YtedpakhefdlbbaaEvD
namespace Ev
open Go Go.Proofs
noncomputable section

def powMod : List Bool → Nat → Nat → Nat
  | [], c, _ => c
  | b :: r, c, A => forceN (c * c % pF) fun d => Bool.casesOn (motive := fun _ => Nat) b (powMod r d A) (forceN (d * A % pF) fun e => powMod r e A)
theorem powMod_eq : ∀ (l : List Bool) (c A : Nat), c < pF → powMod l c A = c ^ 2 ^ l.length * A ^ bval l % pF
  | [], c, A, h => by simp [powMod, bval, Nat.mod_eq_of_lt h]
  | b :: r, c, A, h => by
    have hd : c * c % pF < pF := Nat.mod_lt _ (by decide)
    simp only [powMod, forceN_eq]
    have hc : c * c % pF % pF = c * c % pF := Nat.mod_mod _ _
    cases b with
    | false =>
      show powMod r (c * c % pF) A = _
      rw [powMod_eq r _ A hd, pow_cong hc]
      congr 2
      · rw [List.length_cons, Nat.pow_succ, Nat.mul_comm (2 ^ r.length) 2, Nat.pow_mul, Nat.pow_two]
      · simp [bval]
    | true =>
      show powMod r (c * c % pF * A % pF) A = _
      rw [powMod_eq r _ A (Nat.mod_lt _ (by decide))]
      have h2 : c * c % pF * A % pF % pF = c * c * A % pF := by rw [Nat.mod_mod, mul_l]
      rw [pow_cong h2]
      congr 1
      rw [Nat.mul_pow, List.length_cons, Nat.pow_succ, Nat.mul_comm (2 ^ r.length) 2, Nat.pow_mul, Nat.pow_two, Nat.mul_assoc, ← Nat.pow_add]
      rfl
theorem esS_num : ∀ e ∈ esS, num e = .agg (encL 32 (bval (bitsOf e))) := by
  intro e he
  simp only [esS, List.mem_cons, List.not_mem_nil, or_false] at he
  have h1 : num eOne = .agg (encL 32 (bval (bitsOf eOne))) := by kernel_rfl
  have h2 : num ePair = .agg (encL 32 (bval (bitsOf ePair))) := by kernel_rfl
  have h3 : num eInv = .agg (encL 32 (bval (bitsOf eInv))) := by kernel_rfl
  have h4 : num eRoot = .agg (encL 32 (bval (bitsOf eRoot))) := by kernel_rfl
  have h5 : num eTwo = .agg (encL 32 (bval (bitsOf eTwo))) := by kernel_rfl
  rcases he with h | h | h | h | h
  · rw [h]; exact h1
  · rw [h]; exact h2
  · rw [h]; exact h3
  · rw [h]; exact h4
  · rw [h]; exact h5
def powKS : List AV → Option AV
  | [.agg l, .agg l'] => Option.casesOn (motive := fun _ => Option AV) (decN 32 l) none fun A => Option.casesOn (motive := fun _ => Option AV) (findE l' esS) none fun b => some (.agg (encL 32 (powMod b 1 A)))
  | _ => none
theorem powK_c : PlainC Try.prog 16 powKS := by
  have main : ∀ l r, powKS l = some r → ∃ A e, A < 256 ^ 32 ∧ e ∈ esS ∧ l = [.agg (encL 32 A), num e] ∧ r = .agg (encL 32 (powMod (bitsOf e) 1 A)) := by
    intro l r h
    unfold powKS at h
    split at h
    · next l l' =>
      cases hd : decN 32 l with
      | none => rw [hd] at h; cases h
      | some A =>
        rw [hd] at h
        cases hf : findE l' esS with
        | none => rw [hf] at h; cases h
        | some b =>
          rw [hf] at h
          obtain ⟨e, he, hl, rfl⟩ := findE_some hf
          obtain ⟨rfl, hA⟩ := enc_decN hd
          exact ⟨A, e, hA, he, by rw [hl], (Option.some.inj h).symm⟩
    · cases h
  refine ⟨fun l r hs => ?_, fun l r hs => ?_⟩ <;> obtain ⟨A, e, hA, he, rfl, rfl⟩ := main l r hs
  · exact ⟨by show (AV.plain _ && (AV.plain _ && true)) = true; rw [plain_enc, plain_num]; rfl, plain_enc _⟩
  · obtain ⟨m, hm⟩ := pow_at (E := bval (bitsOf e)) hA he (esS_num e he).symm rfl
    rw [← esS_num e he] at hm
    refine ⟨pEnv specsP, 1000, m, okE specsP specsP_ok, ?_⟩
    rw [hm, powMod_eq _ _ _ (by decide), Nat.one_pow, Nat.one_mul]

def refDS : List AV → Option AV
  | [] => some (.agg (encL 32 curveD))
  | _ => none
theorem refD_c : PlainC Try.prog 33 refDS := by
  refine ⟨fun l r h => ?_, fun l r h => ?_⟩ <;> unfold refDS at h <;> split at h
  · cases h; exact ⟨rfl, plain_enc _⟩
  · cases h
  · cases h
    obtain ⟨m, hm⟩ := ansR_some refD_run
    exact ⟨_, _, m, okE specsU specsU_ok, hm⟩
  · cases h

def specsC : List (Nat × (List AV → Option AV)) := [(20, numS2 mulN), (19, numS2 addN), (21, numS2 subN), (11, numS1 restN), (12, predS canonN), (13, numS1 negN), (14, ofS), (17, predS oddN), (18, predS2 sameN), (16, powKS), (33, refDS)]
theorem specsC_ok : ∀ p ∈ specsC, FnOK Try.prog p.1 (orcS p.2) := by
  intro p hp
  simp only [specsC, List.mem_cons, List.not_mem_nil, or_false] at hp
  rcases hp with rfl | rfl | rfl | rfl | rfl | rfl | rfl | rfl | rfl | rfl | rfl
  · exact plain_ok mul_c
  · exact plain_ok add_c
  · exact plain_ok sub_c
  · exact plain_ok rest_c
  · exact plain_ok canon_c
  · exact plain_ok neg_c
  · exact plain_ok of_c
  · exact plain_ok odd_c
  · exact plain_ok same_c
  · exact plain_ok powK_c
  · exact plain_ok refD_c
/-- every function of a list keeps the memory -/
def pfOf (l : List (Nat × (List AV → Option AV))) (f : Nat) : Bool := List.rec (motive := fun _ => Bool) false (fun p _ ih => Bool.casesOn (motive := fun _ => Bool) (Nat.beq f p.1) ih true) l
theorem pfOf_some {l : List (Nat × (List AV → Option AV))} {f : Nat} (h : pfOf l f = true) : ∃ s, lookS l f = some (orcS s) := by
  induction l with
  | nil => cases h
  | cons p l ih =>
    have h : Bool.casesOn (motive := fun _ => Bool) (Nat.beq f p.1) (pfOf l f) true = true := h
    show ∃ s, Bool.casesOn (motive := fun _ => Option (List AV → AMem → R)) (Nat.beq f p.1) (lookS l f) (some (orcS p.2)) = some (orcS s)
    cases hb : Nat.beq f p.1 with
    | false => rw [hb] at h; exact ih h
    | true => exact ⟨p.2, rfl⟩
theorem run2 {l : List (Nat × (List AV → Option AV))} (hl : ∀ p ∈ l, FnOK Try.prog p.1 (orcS p.2)) {n f : Nat} {args : List AV} {m : AMem} {r : AV} (h : ansR (evCall2 (pEnv l) (pfOf l) n (.fn f) args m) = some r) : ∃ m', evCall (pEnv l) n (.fn f) args m = some (r, m') := by
  obtain ⟨m', hm⟩ := ansR_some h
  exact ⟨m', evCall2_from (okE l hl).grows (fun g hg => pfOf_some hg) n _ _ _ _ hm⟩
end
end Ev
