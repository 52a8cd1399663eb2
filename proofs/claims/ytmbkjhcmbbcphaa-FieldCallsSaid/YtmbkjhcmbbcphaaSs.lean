/-
  Small numbers as numbers of 32 bytes; odd ones; same ones. Conditions: those named.
-/
import Derived.Test.YtmbkjhcmbbcphaaR2
namespace Ev
open Go Go.Proofs
noncomputable section

/-! Of -/
def setL : List AV → Nat → AV → List AV
  | [], _, _ => []
  | _ :: l, 0, v => v :: l
  | a :: l, i + 1, v => a :: setL l i v
def ofP : Nat → Nat → Int → List AV → (List AV → Prop) → Prop
  | 0, _, n, l, K => Bool.casesOn (motive := fun _ => Prop) (ltI 0 n) (K l) False
  | k + 1, i, n, l, K => Bool.casesOn (motive := fun _ => Prop) (ltI 0 n) (K l) (ofP k (i + 1) (ushr n 8) (setL l i (byt (w8 n))) K)
set_option maxRecDepth 1000000 in
theorem of_wp (n : Int) (K : AV → Prop) : (ofP 32 0 n (encL 32 0) fun l => ∀ _ : AMem, K (.agg l)) = wpCall cfQ (pEnv specsQ) (owL waysQ) 1000 (.fn 15) [.int .u64 n] ⟨0, .nil⟩ (fun r _ => ∀ _ : AMem, K r) := by kernel_rfl

theorem enc_zero : ∀ n : Nat, encL n 0 = List.replicate n (.int .u8 (.ofNat 0))
  | 0 => rfl
  | n + 1 => by
    show AV.int .u8 (.ofNat (0 % 256)) :: encL n (0 / 256) = _
    rw [List.replicate_succ, show (0 / 256) = 0 from rfl, enc_zero n]
theorem setL_at (v : AV) : ∀ (l l' : List AV) (a : AV), setL (l ++ a :: l') l.length v = l ++ v :: l'
  | [], l', a => rfl
  | b :: l, l', a => by
    show b :: setL (l ++ a :: l') l.length v = _
    rw [setL_at v l l' a]; rfl
theorem enc_len : ∀ n V : Nat, (encL n V).length = n
  | 0, _ => rfl
  | n + 1, V => by show (encL n (V / 256)).length + 1 = _; rw [enc_len n]
theorem enc_snoc : ∀ n V : Nat, encL (n + 1) V = encL n V ++ [.int .u8 (.ofNat (V / 256 ^ n % 256))]
  | 0, V => by simp [encL]
  | n + 1, V => by
    show AV.int .u8 (.ofNat (V % 256)) :: encL (n + 1) (V / 256) = AV.int .u8 (.ofNat (V % 256)) :: (encL n (V / 256) ++ _)
    rw [enc_snoc n (V / 256), Nat.div_div_eq_div_mul, Nat.pow_succ, Nat.mul_comm 256]
theorem enc_small : ∀ (k n V : Nat), V < 256 ^ n → encL (n + k) V = encL n V ++ encL k 0
  | 0, n, V, _ => by simp [encL]
  | k + 1, n, V, h => by
    have h1 : V / 256 ^ n = 0 := Nat.div_eq_of_lt h
    have h2 : V < 256 ^ (n + 1) := Nat.lt_of_lt_of_le h (Nat.pow_le_pow_right (by decide) (by omega))
    rw [show n + (k + 1) = (n + 1) + k by omega, enc_small k (n + 1) V h2, enc_snoc, h1]
    show _ = encL n V ++ (AV.int .u8 (.ofNat (0 % 256)) :: encL k (0 / 256))
    simp
theorem ofP_nat {N : Nat} (hN : N < M64) {K : List AV → Prop} (hk : K (encL 32 N)) : ∀ (k i : Nat), i + k = 32 → ofP k i (.ofNat (N / 256 ^ i)) (encL i N ++ encL k 0) K
  | 0, i, h => by
    have hi : i = 32 := by omega
    subst hi
    have h0 : N / 256 ^ 32 = 0 := Nat.div_eq_of_lt (Nat.lt_trans hN (by decide))
    rw [h0]
    show K (encL 32 N ++ encL 0 0)
    simp only [encL, List.append_nil]
    exact hk
  | k + 1, i, h => by
    unfold ofP
    have hlt : ltI 0 (.ofNat (N / 256 ^ i)) = Nat.blt 0 (N / 256 ^ i) := rfl
    rw [hlt]
    cases hb : Nat.blt 0 (N / 256 ^ i) with
    | false =>
      have h0 : N / 256 ^ i = 0 := by
        have : ¬ 0 < N / 256 ^ i := fun h => by rw [← Nat.blt_eq] at h; rw [h] at hb; cases hb
        exact Nat.eq_zero_of_not_pos this
      have hlt2 : N < 256 ^ i := by
        rcases Nat.lt_or_ge N (256 ^ i) with h | h
        · exact h
        · have := Nat.div_pos h (Nat.pow_pos (by decide : 0 < 256))
          omega
      show K (encL i N ++ encL (k + 1) 0)
      rw [← enc_small (k + 1) i N hlt2, h]
      exact hk
    | true =>
      show ofP k (i + 1) (ushr (.ofNat (N / 256 ^ i)) 8) (setL (encL i N ++ encL (k + 1) 0) i (byt (w8 (.ofNat (N / 256 ^ i))))) K
      have h1 : ushr (.ofNat (N / 256 ^ i)) 8 = .ofNat (N / 256 ^ (i + 1)) := by
        rw [ushr_nat _ 8 (by decide), Nat.div_div_eq_div_mul, show 256 ^ (i + 1) = 256 ^ i * 2 ^ 8 from Nat.pow_succ _ _]
      have h2 : byt (w8 (.ofNat (N / 256 ^ i))) = .int .u8 (.ofNat (N / 256 ^ i % 256)) := by
        show AV.int .u8 (wrapI .u8 _) = _
        rw [wrap8]
      have h3 : setL (encL i N ++ encL (k + 1) 0) i (.int .u8 (.ofNat (N / 256 ^ i % 256))) = encL (i + 1) N ++ encL k 0 := by
        have := setL_at (.int .u8 (.ofNat (N / 256 ^ i % 256))) (encL i N) (encL k (0 / 256)) (.int .u8 (.ofNat (0 % 256)))
        rw [enc_len] at this
        rw [show encL (k + 1) 0 = AV.int .u8 (.ofNat (0 % 256)) :: encL k (0 / 256) from rfl, this, enc_snoc, List.append_assoc]
        rfl
      rw [h1, h2, h3]
      exact ofP_nat hN hk k (i + 1) (by omega)
def ofS : List AV → Option AV
  | [.int .u64 (.ofNat n)] => Bool.casesOn (motive := fun _ => Option AV) (Nat.blt n M64) none (some (.agg (encL 32 n)))
  | _ => none
def ofA : List AV → AMem → KP → Prop
  | [.int .u64 n], m, K => inU n ∧ K (.agg (encL 32 n.toNat)) m
  | _, _, _ => False
theorem ofA_ok {args : List AV} {m : AMem} {K : KP} (h : ofA args m K) : ∃ r, ofS args = some r ∧ K r m := by
  unfold ofA at h
  split at h
  · next n =>
    obtain ⟨hu, hk⟩ := h
    obtain ⟨n, rfl, hn⟩ := inU_nat hu
    refine ⟨_, ?_, hk⟩
    show Bool.casesOn (motive := fun _ => Option AV) (Nat.blt n M64) none (some (.agg (encL 32 n))) = _
    have : Nat.blt n M64 = true := by rw [Nat.blt_eq]; exact hn
    rw [this]; rfl
  · cases h
theorem of_c : PlainC Try.prog 15 ofS := by
  refine ⟨fun l r h => ?_, fun l r h => ?_⟩ <;> unfold ofS at h <;> split at h
  · next n =>
    cases hb : Nat.blt n M64 with
    | false => rw [hb] at h; cases h
    | true => rw [hb] at h; cases h; exact ⟨rfl, plain_enc n⟩
  · cases h
  · next n =>
    cases hb : Nat.blt n M64 with
    | false => rw [hb] at h; cases h
    | true =>
      rw [hb] at h; cases h
      rw [Nat.blt_eq] at hb
      have hk : ofP 32 0 (.ofNat n) (encL 32 0) fun l => ∀ _ : AMem, AV.agg l = .agg (encL 32 n) := by
        have := ofP_nat hb (K := fun l => ∀ _ : AMem, AV.agg l = .agg (encL 32 n)) (fun _ => rfl) 32 0 rfl
        rw [Nat.pow_zero, Nat.div_one] at this
        exact this
      obtain ⟨r, m, h, rfl⟩ := run_of pairedQ specsQ_ok (cf := cfQ) pfQ (K := fun r => r = .agg (encL 32 n)) (Eq.mp (of_wp _ _) hk)
      exact ⟨_, _, m, okE specsQ specsQ_ok, h⟩
  · cases h
end
end Ev

/-
  Odd numbers, same numbers, powers to exponents that are named. Conditions: those named.
-/
namespace Ev
open Go Go.Proofs
noncomputable section

/-! Odd -/
def oddM (r : Int) : Bool := eqI (restK .u8 (Nat.land (toU .u8 r) (toU .u8 1))) 1
def headI (l : List AV) : Int := match l with
  | .int _ n :: _ => n
  | _ => 0
theorem odd_wp (A : Nat) (K : AV → Prop) : (q1 restN (encL 32 A) fun r => ∀ _ : AMem, K (.bool (oddM (headI r)))) = wpCall cfQ (pEnv specsQ) (owL waysQ) 1000 (.fn 29) [.agg (encL 32 A)] ⟨0, .nil⟩ (fun r _ => ∀ _ : AMem, K r) := by kernel_rfl
def oddN (A : Nat) : Bool := Nat.beq (A % pF % 2) 1
theorem oddM_nat {b : Nat} (h : b < 256) : oddM (.ofNat b) = Nat.beq (b % 2) 1 := by
  have h1 : Nat.land (toU .u8 (.ofNat b)) (toU .u8 1) = b % 2 := by
    show (b % 256) &&& (1 % 256) = b % 2
    rw [Nat.mod_eq_of_lt h]
    exact Nat.and_one_is_mod b
  have h2 : restK .u8 (b % 2) = .ofNat (b % 2) := by
    show Bool.casesOn (motive := fun _ => Int) (Nat.blt (b % 2) 256) _ (.ofNat (b % 2)) = _
    have : Nat.blt (b % 2) 256 = true := by rw [Nat.blt_eq]; omega
    rw [this]
  unfold oddM
  rw [h1, h2]; rfl
theorem odd_c : PlainC Try.prog 29 (predS oddN) := pred_c fun A hA => by
  have hk : q1 restN (encL 32 A) fun r => ∀ _ : AMem, AV.bool (oddM (headI r)) = .bool (oddN A) := q1_nat hA fun _ => by
    congr 1
    show oddM (.ofNat (restN A % 256)) = _
    rw [oddM_nat (Nat.mod_lt _ (by decide))]
    unfold oddN restN
    congr 1
    omega
  obtain ⟨r, m, h, rfl⟩ := run_of pairedQ specsQ_ok (cf := cfQ) pfQ (K := fun r => r = .bool (oddN A)) (Eq.mp (odd_wp A _) hk)
  exact ⟨_, _, m, okE specsQ specsQ_ok, h⟩

/-! Same -/
def predS2 (g : Nat → Nat → Bool) : List AV → Option AV
  | [.agg l, .agg l'] => Option.casesOn (motive := fun _ => Option AV) (decN 32 l) none fun A => Option.casesOn (motive := fun _ => Option AV) (decN 32 l') none fun B => some (.bool (g A B))
  | _ => none
def predQ2 (g : Nat → Nat → Bool) (l l' : List AV) (T F : Prop) : Prop := ∃ A B, (decN 32 l = some A ∧ decN 32 l' = some B) ∧ (g A B = true → T) ∧ (g A B = false → F)
def predA2 (g : Nat → Nat → Bool) : List AV → AMem → KP → Prop
  | [.agg l, .agg l'], m, K => predQ2 g l l' (K (.bool true) m) (K (.bool false) m)
  | _, _, _ => False
theorem predA2_ok {g : Nat → Nat → Bool} {args : List AV} {m : AMem} {K : KP} (h : predA2 g args m K) : ∃ r, predS2 g args = some r ∧ K r m := by
  unfold predA2 at h
  split at h
  · next l l' =>
    obtain ⟨A, B, ⟨hd, hd'⟩, ht, hf⟩ := h
    refine ⟨.bool (g A B), ?_, ?_⟩
    · show Option.casesOn (motive := fun _ => Option AV) (decN 32 l) none _ = _
      rw [hd]
      show Option.casesOn (motive := fun _ => Option AV) (decN 32 l') none _ = _
      rw [hd']
    · cases hg : g A B with
      | true => exact ht hg
      | false => exact hf hg
  · cases h
theorem pred2_c {f : Nat} {g : Nat → Nat → Bool} (h : ∀ A B, A < 256 ^ 32 → B < 256 ^ 32 → ∃ E n m, EnvOK E Try.prog ∧ evCall E n (.fn f) [.agg (encL 32 A), .agg (encL 32 B)] ⟨0, .nil⟩ = some (.bool (g A B), m)) : PlainC Try.prog f (predS2 g) := by
  have main : ∀ l r, predS2 g l = some r → ∃ A B, A < 256 ^ 32 ∧ B < 256 ^ 32 ∧ l = [.agg (encL 32 A), .agg (encL 32 B)] ∧ r = .bool (g A B) := by
    intro l r h
    unfold predS2 at h
    split at h
    · next l l' =>
      cases hd : decN 32 l with
      | none => rw [hd] at h; cases h
      | some A =>
        rw [hd] at h
        cases hd' : decN 32 l' with
        | none => rw [hd'] at h; cases h
        | some B =>
          rw [hd'] at h; cases h
          obtain ⟨rfl, hA⟩ := enc_decN hd
          obtain ⟨rfl, hB⟩ := enc_decN hd'
          exact ⟨A, B, hA, hB, rfl, rfl⟩
    · cases h
  refine ⟨fun l r hs => ?_, fun l r hs => ?_⟩ <;> obtain ⟨A, B, hA, hB, rfl, rfl⟩ := main l r hs
  · exact ⟨by show (AV.plain _ && (AV.plain _ && true)) = true; rw [plain_enc, plain_enc]; rfl, rfl⟩
  · exact h A B hA hB
theorem same_wp (A B : Nat) (K : AV → Prop) : (q1 restN (encL 32 A) fun x => q1 restN (encL 32 B) fun y => eqP (pEnv specsQ) 23 x y fun b => ∀ _ : AMem, K (.bool b)) = wpCall cfQ (pEnv specsQ) (owL waysQ) 1000 (.fn 31) [.agg (encL 32 A), .agg (encL 32 B)] ⟨0, .nil⟩ (fun r _ => ∀ _ : AMem, K r) := by kernel_rfl
def sameN (A B : Nat) : Bool := Nat.beq (A % pF) (B % pF)
theorem same_c : PlainC Try.prog 31 (predS2 sameN) := pred2_c fun A B hA hB => by
  have hk : q1 restN (encL 32 A) fun x => q1 restN (encL 32 B) fun y => eqP (pEnv specsQ) 23 x y fun b => ∀ _ : AMem, AV.bool b = .bool (sameN A B) := q1_nat hA (q1_nat hB ⟨_, eq_num (mod_lt32 A) (mod_lt32 B), fun _ => by
    congr 1
    unfold sameN restN
    cases hb : Nat.beq (A % pF) (B % pF) with
    | true => rw [decide_eq_true_iff]; exact Nat.eq_of_beq_eq_true hb
    | false => rw [decide_eq_false_iff_not]; exact Nat.ne_of_beq_eq_false hb⟩)
  obtain ⟨r, m, h, rfl⟩ := run_of pairedQ specsQ_ok (cf := cfQ) pfQ (K := fun r => r = .bool (sameN A B)) (Eq.mp (same_wp A B _) hk)
  exact ⟨_, _, m, okE specsQ specsQ_ok, h⟩

end
end Ev
