/-
  Odd numbers, same numbers, powers to exponents that are named. Conditions: those named.
-/
import Derived.Test.YtmbkjhcmbbcphaaS1
namespace Ev
open Go Go.Proofs
noncomputable section

/-! Odd -/
def oddM (r : Int) : Bool := eqI (restK .u8 (Nat.land (toU .u8 r) (toU .u8 1))) 1
def headI (l : List AV) : Int := match l with
  | .int _ n :: _ => n
  | _ => 0
theorem odd_wp (A : Nat) (K : AV → Prop) : (q1 restN (encL 32 A) fun r => ∀ _ : AMem, K (.bool (oddM (headI r)))) = wpCall cfQ (pEnv specsQ) (owL waysQ) 1000 (.fn 29) [.agg (encL 32 A)] ⟨0, .nil⟩ (fun r _ => ∀ _ : AMem, K r) := by kernel_rfl
def oddN (A : Nat) : Bool := Nat.beq (A % pF % 2) 1
theorem oddM_nat {b : Nat} (h : b < 256) : oddM (.ofNat b) = Nat.beq (b % 2) 1 := by
  have h1 : Nat.land (toU .u8 (.ofNat b)) (toU .u8 1) = b % 2 := by
    show (b % 256) &&& (1 % 256) = b % 2
    rw [Nat.mod_eq_of_lt h]
    exact Nat.and_one_is_mod b
  have h2 : restK .u8 (b % 2) = .ofNat (b % 2) := by
    show Bool.casesOn (motive := fun _ => Int) (Nat.blt (b % 2) 256) _ (.ofNat (b % 2)) = _
    have : Nat.blt (b % 2) 256 = true := by rw [Nat.blt_eq]; omega
    rw [this]
  unfold oddM
  rw [h1, h2]; rfl
theorem odd_c : PlainC Try.prog 29 (predS oddN) := pred_c fun A hA => by
  have hk : q1 restN (encL 32 A) fun r => ∀ _ : AMem, AV.bool (oddM (headI r)) = .bool (oddN A) := q1_nat hA fun _ => by
    congr 1
    show oddM (.ofNat (restN A % 256)) = _
    rw [oddM_nat (Nat.mod_lt _ (by decide))]
    unfold oddN restN
    congr 1
    omega
  obtain ⟨r, m, h, rfl⟩ := run_of pairedQ specsQ_ok (cf := cfQ) pfQ (K := fun r => r = .bool (oddN A)) (Eq.mp (odd_wp A _) hk)
  exact ⟨_, _, m, okE specsQ specsQ_ok, h⟩

/-! Same -/
def predS2 (g : Nat → Nat → Bool) : List AV → Option AV
  | [.agg l, .agg l'] => Option.casesOn (motive := fun _ => Option AV) (decN 32 l) none fun A => Option.casesOn (motive := fun _ => Option AV) (decN 32 l') none fun B => some (.bool (g A B))
  | _ => none
def predQ2 (g : Nat → Nat → Bool) (l l' : List AV) (T F : Prop) : Prop := ∃ A B, (decN 32 l = some A ∧ decN 32 l' = some B) ∧ (g A B = true → T) ∧ (g A B = false → F)
def predA2 (g : Nat → Nat → Bool) : List AV → AMem → KP → Prop
  | [.agg l, .agg l'], m, K => predQ2 g l l' (K (.bool true) m) (K (.bool false) m)
  | _, _, _ => False
theorem predA2_ok {g : Nat → Nat → Bool} {args : List AV} {m : AMem} {K : KP} (h : predA2 g args m K) : ∃ r, predS2 g args = some r ∧ K r m := by
  unfold predA2 at h
  split at h
  · next l l' =>
    obtain ⟨A, B, ⟨hd, hd'⟩, ht, hf⟩ := h
    refine ⟨.bool (g A B), ?_, ?_⟩
    · show Option.casesOn (motive := fun _ => Option AV) (decN 32 l) none _ = _
      rw [hd]
      show Option.casesOn (motive := fun _ => Option AV) (decN 32 l') none _ = _
      rw [hd']
    · cases hg : g A B with
      | true => exact ht hg
      | false => exact hf hg
  · cases h
theorem pred2_c {f : Nat} {g : Nat → Nat → Bool} (h : ∀ A B, A < 256 ^ 32 → B < 256 ^ 32 → ∃ E n m, EnvOK E Try.prog ∧ evCall E n (.fn f) [.agg (encL 32 A), .agg (encL 32 B)] ⟨0, .nil⟩ = some (.bool (g A B), m)) : PlainC Try.prog f (predS2 g) := by
  have main : ∀ l r, predS2 g l = some r → ∃ A B, A < 256 ^ 32 ∧ B < 256 ^ 32 ∧ l = [.agg (encL 32 A), .agg (encL 32 B)] ∧ r = .bool (g A B) := by
    intro l r h
    unfold predS2 at h
    split at h
    · next l l' =>
      cases hd : decN 32 l with
      | none => rw [hd] at h; cases h
      | some A =>
        rw [hd] at h
        cases hd' : decN 32 l' with
        | none => rw [hd'] at h; cases h
        | some B =>
          rw [hd'] at h; cases h
          obtain ⟨rfl, hA⟩ := enc_decN hd
          obtain ⟨rfl, hB⟩ := enc_decN hd'
          exact ⟨A, B, hA, hB, rfl, rfl⟩
    · cases h
  refine ⟨fun l r hs => ?_, fun l r hs => ?_⟩ <;> obtain ⟨A, B, hA, hB, rfl, rfl⟩ := main l r hs
  · exact ⟨by show (AV.plain _ && (AV.plain _ && true)) = true; rw [plain_enc, plain_enc]; rfl, rfl⟩
  · exact h A B hA hB
theorem same_wp (A B : Nat) (K : AV → Prop) : (q1 restN (encL 32 A) fun x => q1 restN (encL 32 B) fun y => eqP (pEnv specsQ) 23 x y fun b => ∀ _ : AMem, K (.bool b)) = wpCall cfQ (pEnv specsQ) (owL waysQ) 1000 (.fn 31) [.agg (encL 32 A), .agg (encL 32 B)] ⟨0, .nil⟩ (fun r _ => ∀ _ : AMem, K r) := by kernel_rfl
def sameN (A B : Nat) : Bool := Nat.beq (A % pF) (B % pF)
theorem same_c : PlainC Try.prog 31 (predS2 sameN) := pred2_c fun A B hA hB => by
  have hk : q1 restN (encL 32 A) fun x => q1 restN (encL 32 B) fun y => eqP (pEnv specsQ) 23 x y fun b => ∀ _ : AMem, AV.bool b = .bool (sameN A B) := q1_nat hA (q1_nat hB ⟨_, eq_num (mod_lt32 A) (mod_lt32 B), fun _ => by
    congr 1
    unfold sameN restN
    cases hb : Nat.beq (A % pF) (B % pF) with
    | true => rw [decide_eq_true_iff]; exact Nat.eq_of_beq_eq_true hb
    | false => rw [decide_eq_false_iff_not]; exact Nat.ne_of_beq_eq_false hb⟩)
  obtain ⟨r, m, h, rfl⟩ := run_of pairedQ specsQ_ok (cf := cfQ) pfQ (K := fun r => r = .bool (sameN A B)) (Eq.mp (same_wp A B _) hk)
  exact ⟨_, _, m, okE specsQ specsQ_ok, h⟩

end
end Ev
