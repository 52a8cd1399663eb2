/-
  Small numbers as numbers of 32 bytes; odd ones; same ones. Conditions: those named.
-/
import Derived.Test.YtmbkjhcmbbcphaaR2
namespace Ev
open Go Go.Proofs
noncomputable section

/-! Of -/
def setL : List AV → Nat → AV → List AV
  | [], _, _ => []
  | _ :: l, 0, v => v :: l
  | a :: l, i + 1, v => a :: setL l i v
def ofP : Nat → Nat → Int → List AV → (List AV → Prop) → Prop
  | 0, _, n, l, K => Bool.casesOn (motive := fun _ => Prop) (ltI 0 n) (K l) False
  | k + 1, i, n, l, K => Bool.casesOn (motive := fun _ => Prop) (ltI 0 n) (K l) (ofP k (i + 1) (ushr n 8) (setL l i (byt (w8 n))) K)
set_option maxRecDepth 1000000 in
theorem of_wp (n : Int) (K : AV → Prop) : (ofP 32 0 n (encL 32 0) fun l => ∀ _ : AMem, K (.agg l)) = wpCall cfQ (pEnv specsQ) (owL waysQ) 1000 (.fn 15) [.int .u64 n] ⟨0, .nil⟩ (fun r _ => ∀ _ : AMem, K r) := by kernel_rfl

theorem enc_zero : ∀ n : Nat, encL n 0 = List.replicate n (.int .u8 (.ofNat 0))
  | 0 => rfl
  | n + 1 => by
    show AV.int .u8 (.ofNat (0 % 256)) :: encL n (0 / 256) = _
    rw [List.replicate_succ, show (0 / 256) = 0 from rfl, enc_zero n]
theorem setL_at (v : AV) : ∀ (l l' : List AV) (a : AV), setL (l ++ a :: l') l.length v = l ++ v :: l'
  | [], l', a => rfl
  | b :: l, l', a => by
    show b :: setL (l ++ a :: l') l.length v = _
    rw [setL_at v l l' a]; rfl
theorem enc_len : ∀ n V : Nat, (encL n V).length = n
  | 0, _ => rfl
  | n + 1, V => by show (encL n (V / 256)).length + 1 = _; rw [enc_len n]
theorem enc_snoc : ∀ n V : Nat, encL (n + 1) V = encL n V ++ [.int .u8 (.ofNat (V / 256 ^ n % 256))]
  | 0, V => by simp [encL]
  | n + 1, V => by
    show AV.int .u8 (.ofNat (V % 256)) :: encL (n + 1) (V / 256) = AV.int .u8 (.ofNat (V % 256)) :: (encL n (V / 256) ++ _)
    rw [enc_snoc n (V / 256), Nat.div_div_eq_div_mul, Nat.pow_succ, Nat.mul_comm 256]
theorem enc_small : ∀ (k n V : Nat), V < 256 ^ n → encL (n + k) V = encL n V ++ encL k 0
  | 0, n, V, _ => by simp [encL]
  | k + 1, n, V, h => by
    have h1 : V / 256 ^ n = 0 := Nat.div_eq_of_lt h
    have h2 : V < 256 ^ (n + 1) := Nat.lt_of_lt_of_le h (Nat.pow_le_pow_right (by decide) (by omega))
    rw [show n + (k + 1) = (n + 1) + k by omega, enc_small k (n + 1) V h2, enc_snoc, h1]
    show _ = encL n V ++ (AV.int .u8 (.ofNat (0 % 256)) :: encL k (0 / 256))
    simp
theorem ofP_nat {N : Nat} (hN : N < M64) {K : List AV → Prop} (hk : K (encL 32 N)) : ∀ (k i : Nat), i + k = 32 → ofP k i (.ofNat (N / 256 ^ i)) (encL i N ++ encL k 0) K
  | 0, i, h => by
    have hi : i = 32 := by omega
    subst hi
    have h0 : N / 256 ^ 32 = 0 := Nat.div_eq_of_lt (Nat.lt_trans hN (by decide))
    rw [h0]
    show K (encL 32 N ++ encL 0 0)
    simp only [encL, List.append_nil]
    exact hk
  | k + 1, i, h => by
    unfold ofP
    have hlt : ltI 0 (.ofNat (N / 256 ^ i)) = Nat.blt 0 (N / 256 ^ i) := rfl
    rw [hlt]
    cases hb : Nat.blt 0 (N / 256 ^ i) with
    | false =>
      have h0 : N / 256 ^ i = 0 := by
        have : ¬ 0 < N / 256 ^ i := fun h => by rw [← Nat.blt_eq] at h; rw [h] at hb; cases hb
        exact Nat.eq_zero_of_not_pos this
      have hlt2 : N < 256 ^ i := by
        rcases Nat.lt_or_ge N (256 ^ i) with h | h
        · exact h
        · have := Nat.div_pos h (Nat.pow_pos (by decide : 0 < 256))
          omega
      show K (encL i N ++ encL (k + 1) 0)
      rw [← enc_small (k + 1) i N hlt2, h]
      exact hk
    | true =>
      show ofP k (i + 1) (ushr (.ofNat (N / 256 ^ i)) 8) (setL (encL i N ++ encL (k + 1) 0) i (byt (w8 (.ofNat (N / 256 ^ i))))) K
      have h1 : ushr (.ofNat (N / 256 ^ i)) 8 = .ofNat (N / 256 ^ (i + 1)) := by
        rw [ushr_nat _ 8 (by decide), Nat.div_div_eq_div_mul, show 256 ^ (i + 1) = 256 ^ i * 2 ^ 8 from Nat.pow_succ _ _]
      have h2 : byt (w8 (.ofNat (N / 256 ^ i))) = .int .u8 (.ofNat (N / 256 ^ i % 256)) := by
        show AV.int .u8 (wrapI .u8 _) = _
        rw [wrap8]
      have h3 : setL (encL i N ++ encL (k + 1) 0) i (.int .u8 (.ofNat (N / 256 ^ i % 256))) = encL (i + 1) N ++ encL k 0 := by
        have := setL_at (.int .u8 (.ofNat (N / 256 ^ i % 256))) (encL i N) (encL k (0 / 256)) (.int .u8 (.ofNat (0 % 256)))
        rw [enc_len] at this
        rw [show encL (k + 1) 0 = AV.int .u8 (.ofNat (0 % 256)) :: encL k (0 / 256) from rfl, this, enc_snoc, List.append_assoc]
        rfl
      rw [h1, h2, h3]
      exact ofP_nat hN hk k (i + 1) (by omega)
def ofS : List AV → Option AV
  | [.int .u64 (.ofNat n)] => Bool.casesOn (motive := fun _ => Option AV) (Nat.blt n M64) none (some (.agg (encL 32 n)))
  | _ => none
def ofA : List AV → AMem → KP → Prop
  | [.int .u64 n], m, K => inU n ∧ K (.agg (encL 32 n.toNat)) m
  | _, _, _ => False
theorem ofA_ok {args : List AV} {m : AMem} {K : KP} (h : ofA args m K) : ∃ r, ofS args = some r ∧ K r m := by
  unfold ofA at h
  split at h
  · next n =>
    obtain ⟨hu, hk⟩ := h
    obtain ⟨n, rfl, hn⟩ := inU_nat hu
    refine ⟨_, ?_, hk⟩
    show Bool.casesOn (motive := fun _ => Option AV) (Nat.blt n M64) none (some (.agg (encL 32 n))) = _
    have : Nat.blt n M64 = true := by rw [Nat.blt_eq]; exact hn
    rw [this]; rfl
  · cases h
theorem of_c : PlainC Try.prog 15 ofS := by
  refine ⟨fun l r h => ?_, fun l r h => ?_⟩ <;> unfold ofS at h <;> split at h
  · next n =>
    cases hb : Nat.blt n M64 with
    | false => rw [hb] at h; cases h
    | true => rw [hb] at h; cases h; exact ⟨rfl, plain_enc n⟩
  · cases h
  · next n =>
    cases hb : Nat.blt n M64 with
    | false => rw [hb] at h; cases h
    | true =>
      rw [hb] at h; cases h
      rw [Nat.blt_eq] at hb
      have hk : ofP 32 0 (.ofNat n) (encL 32 0) fun l => ∀ _ : AMem, AV.agg l = .agg (encL 32 n) := by
        have := ofP_nat hb (K := fun l => ∀ _ : AMem, AV.agg l = .agg (encL 32 n)) (fun _ => rfl) 32 0 rfl
        rw [Nat.pow_zero, Nat.div_one] at this
        exact this
      obtain ⟨r, m, h, rfl⟩ := run_of pairedQ specsQ_ok (cf := cfQ) pfQ (K := fun r => r = .agg (encL 32 n)) (Eq.mp (of_wp _ _) hk)
      exact ⟨_, _, m, okE specsQ specsQ_ok, h⟩
  · cases h
end
end Ev
