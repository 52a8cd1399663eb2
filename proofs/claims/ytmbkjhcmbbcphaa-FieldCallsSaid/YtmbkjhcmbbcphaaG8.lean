/-
  Negatives, canonical numbers, and the number one, as functions of plain data. Conditions: numbers of 32 bytes.
-/
import Derived.Test.YtmbkjhcmbbcphaaG7
namespace Ev
open Go Go.Proofs
noncomputable section

def qP (f : Nat) : Bool := Nat.beq f 11 || (Nat.beq f 17 || (Nat.beq f 23 || Nat.beq f 19))
def cfQ : Wcfg := ⟨fun _ => false, qP, fun _ => none⟩
def specsQ : List (Nat × (List AV → Option AV)) := [(11, numS1 restN), (17, numS2 addN), (23, numS2 mulN), (19, numS2 subN)]
theorem specsQ_ok : ∀ p ∈ specsQ, FnOK Try.prog p.1 (orcS p.2) := by
  intro p hp
  simp only [specsQ, List.mem_cons, List.not_mem_nil, or_false] at hp
  rcases hp with rfl | rfl | rfl | rfl
  · exact plain_ok rest_c
  · exact plain_ok add_c
  · exact plain_ok mul_c
  · exact plain_ok sub_c
def waysQ : List (Nat × (List AV → AMem → KP → Prop)) := [(11, numA1 restN), (17, numA2 addN), (23, numA2 mulN), (19, numA2 subN)]
theorem pairedQ : Paired specsQ waysQ := .cons (fun _ _ _ h => numA1_ok h) (.cons (fun _ _ _ h => numA2_ok h) (.cons (fun _ _ _ h => numA2_ok h) (.cons (fun _ _ _ h => numA2_ok h) .nil)))
theorem pfQ (g : Nat) (h : qP g = true) : ∃ s, lookS specsQ g = some (orcS s) := by
  simp only [qP, Bool.or_eq_true] at h
  rcases h with h | h | h | h
  all_goals (have := Nat.eq_of_beq_eq_true h; subst this; exact ⟨_, rfl⟩)

def negN (A : Nat) : Nat := subN 0 A
theorem neg_wp (A : Nat) (K : AV → Prop) : (q2 subN (encL 32 0) (encL 32 A) fun r => ∀ _ : AMem, K (.agg r)) = wpCall cfQ (pEnv specsQ) (owL waysQ) 1000 (.fn 21) [.agg (encL 32 A)] ⟨0, .nil⟩ (fun r _ => ∀ _ : AMem, K r) := by kernel_rfl
theorem canon_wp (A : Nat) (K : AV → Prop) : (q1 restN (encL 32 A) fun r => eqP (pEnv specsQ) 23 r (encL 32 A) fun b => ∀ _ : AMem, K (.bool b)) = wpCall cfQ (pEnv specsQ) (owL waysQ) 1000 (.fn 13) [.agg (encL 32 A)] ⟨0, .nil⟩ (fun r _ => ∀ _ : AMem, K r) := by kernel_rfl
theorem of1_run : ansR (evCall (pEnv []) 1000 (.fn 15) [.int .u64 1] ⟨0, .nil⟩) = some (.agg (encL 32 1)) := by kernel_rfl

theorem q1_nat {g : Nat → Nat} {A : Nat} (hA : A < 256 ^ 32) {K : List AV → Prop} (hk : K (encL 32 (g A))) : q1 g (encL 32 A) K := ⟨A, decN_enc hA, hk⟩
theorem q2_nat {g : Nat → Nat → Nat} {A B : Nat} (hA : A < 256 ^ 32) (hB : B < 256 ^ 32) {K : List AV → Prop} (hk : K (encL 32 (g A B))) : q2 g (encL 32 A) (encL 32 B) K := ⟨A, B, ⟨decN_enc hA, decN_enc hB⟩, hk⟩
theorem pF_lt : pF < 256 ^ 32 := by decide
theorem mod_lt32 (X : Nat) : X % pF < 256 ^ 32 := Nat.lt_trans (Nat.mod_lt _ (by decide)) pF_lt

theorem neg_c : PlainC Try.prog 21 (numS1 negN) := num1_c fun A hA => by
  have hk : q2 subN (encL 32 0) (encL 32 A) fun r => ∀ _ : AMem, AV.agg r = .agg (encL 32 (negN A)) := q2_nat (by decide) hA fun _ => rfl
  obtain ⟨r, m, h, rfl⟩ := run_of pairedQ specsQ_ok (cf := cfQ) pfQ (K := fun r => r = .agg (encL 32 (negN A))) (Eq.mp (neg_wp A _) hk)
  exact ⟨_, _, m, okE specsQ specsQ_ok, h⟩

def predS (g : Nat → Bool) : List AV → Option AV
  | [.agg l] => Option.casesOn (motive := fun _ => Option AV) (decN 32 l) none fun A => some (.bool (g A))
  | _ => none
def predQ (g : Nat → Bool) (l : List AV) (T F : Prop) : Prop := ∃ A, decN 32 l = some A ∧ (g A = true → T) ∧ (g A = false → F)
def predA (g : Nat → Bool) : List AV → AMem → KP → Prop
  | [.agg l], m, K => predQ g l (K (.bool true) m) (K (.bool false) m)
  | _, _, _ => False
theorem predA_ok {g : Nat → Bool} {args : List AV} {m : AMem} {K : KP} (h : predA g args m K) : ∃ r, predS g args = some r ∧ K r m := by
  unfold predA at h
  split at h
  · next l =>
    obtain ⟨A, hd, ht, hf⟩ := h
    refine ⟨.bool (g A), ?_, ?_⟩
    · show Option.casesOn (motive := fun _ => Option AV) (decN 32 l) none _ = _
      rw [hd]
    · cases hg : g A with
      | true => exact ht hg
      | false => exact hf hg
  · cases h
theorem pred_c {f : Nat} {g : Nat → Bool} (h : ∀ A, A < 256 ^ 32 → ∃ E n m, EnvOK E Try.prog ∧ evCall E n (.fn f) [.agg (encL 32 A)] ⟨0, .nil⟩ = some (.bool (g A), m)) : PlainC Try.prog f (predS g) := by
  have main : ∀ l r, predS g l = some r → ∃ A, A < 256 ^ 32 ∧ l = [.agg (encL 32 A)] ∧ r = .bool (g A) := by
    intro l r h
    unfold predS at h
    split at h
    · next l =>
      cases hd : decN 32 l with
      | none => rw [hd] at h; cases h
      | some A =>
        rw [hd] at h; cases h
        obtain ⟨rfl, hA⟩ := enc_decN hd
        exact ⟨A, hA, rfl, rfl⟩
    · cases h
  refine ⟨fun l r hs => ?_, fun l r hs => ?_⟩ <;> obtain ⟨A, hA, rfl, rfl⟩ := main l r hs
  · exact ⟨by show (AV.plain _ && true) = true; rw [plain_enc]; rfl, rfl⟩
  · exact h A hA
def canonN (A : Nat) : Bool := Nat.blt A pF
theorem canon_c : PlainC Try.prog 13 (predS canonN) := pred_c fun A hA => by
  have hk : q1 restN (encL 32 A) fun r => eqP (pEnv specsQ) 23 r (encL 32 A) fun b => ∀ _ : AMem, AV.bool b = .bool (canonN A) := q1_nat hA ⟨_, eq_num (mod_lt32 A) hA, fun _ => by
    congr 1
    unfold canonN restN
    cases hb : Nat.blt A pF with
    | true =>
      rw [Nat.blt_eq] at hb
      rw [decide_eq_true_iff]
      exact Nat.mod_eq_of_lt hb
    | false =>
      have hb : ¬ A < pF := fun h => by rw [← Nat.blt_eq] at h; rw [h] at hb; cases hb
      rw [decide_eq_false_iff_not]
      intro h
      have := Nat.mod_lt A (show pF > 0 by decide)
      omega⟩
  obtain ⟨r, m, h, rfl⟩ := run_of pairedQ specsQ_ok (cf := cfQ) pfQ (K := fun r => r = .bool (canonN A)) (Eq.mp (canon_wp A _) hk)
  exact ⟨_, _, m, okE specsQ specsQ_ok, h⟩

def of1S : List AV → Option AV
  | [.int .u64 (.ofNat n)] => Bool.casesOn (motive := fun _ => Option AV) (Nat.beq n 1) none (some (.agg (encL 32 1)))
  | _ => none
def of1A : List AV → AMem → KP → Prop
  | [.int .u64 n], m, K => n = 1 ∧ K (.agg (encL 32 1)) m
  | _, _, _ => False
theorem of1A_ok {args : List AV} {m : AMem} {K : KP} (h : of1A args m K) : ∃ r, of1S args = some r ∧ K r m := by
  unfold of1A at h
  split at h
  · next n =>
    obtain ⟨rfl, hk⟩ := h
    exact ⟨_, rfl, hk⟩
  · cases h
theorem of1_c : PlainC Try.prog 15 of1S := by
  refine ⟨fun l r h => ?_, fun l r h => ?_⟩ <;> unfold of1S at h <;> split at h
  · next n =>
    cases hb : Nat.beq n 1 with
    | false => rw [hb] at h; cases h
    | true => rw [hb] at h; cases h; exact ⟨rfl, plain_enc 1⟩
  · cases h
  · next n =>
    cases hb : Nat.beq n 1 with
    | false => rw [hb] at h; cases h
    | true =>
      rw [hb] at h; cases h
      have := Nat.eq_of_beq_eq_true hb; subst this
      obtain ⟨m, hm⟩ := ansR_some of1_run
      exact ⟨_, _, m, okE0, hm⟩
  · cases h
end
end Ev
