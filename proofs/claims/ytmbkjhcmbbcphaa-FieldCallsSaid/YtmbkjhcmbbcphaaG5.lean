/-
  A number's bytes to words and back, as functions of plain data. Conditions: bytes below 256, words below 2^63.
-/
import Derived.Test.YtmbkjhcmbbcphaaGg
namespace Ev
open Go Go.Proofs
noncomputable section

/-- the number that n bytes stand for -/
def decN : Nat → List AV → Option Nat
  | 0, [] => some 0
  | n + 1, .int .u8 (.ofNat b) :: l => Bool.casesOn (motive := fun _ => Option Nat) (Nat.blt b 256) none (Option.casesOn (motive := fun _ => Option Nat) (decN n l) none fun V => some (b + 256 * V))
  | _, _ => none
theorem decN_succ {n : Nat} {l : List AV} {V : Nat} (h : decN (n + 1) l = some V) : ∃ b l' V', l = byt (.ofNat b) :: l' ∧ b < 256 ∧ decN n l' = some V' ∧ V = b + 256 * V' := by
  unfold decN at h
  split at h
  · next h0 => cases h0
  · next n' b l' e0 =>
    cases e0
    cases hb : Nat.blt b 256 with
    | false => rw [hb] at h; cases h
    | true =>
      rw [hb] at h
      cases hd : decN n l' with
      | none => rw [hd] at h; cases h
      | some V' =>
        rw [hd] at h
        cases h
        exact ⟨b, l', V', rfl, by rw [Nat.blt_eq] at hb; exact hb, hd, rfl⟩
  · cases h
theorem decN_zero {l : List AV} {V : Nat} (h : decN 0 l = some V) : l = [] ∧ V = 0 := by
  cases l with
  | nil => cases h; exact ⟨rfl, rfl⟩
  | cons a l => cases h
theorem decN_enc : ∀ {n V : Nat}, V < 256 ^ n → decN n (encL n V) = some V
  | 0, V, h => by
    have : V = 0 := by simpa using h
    subst this; rfl
  | n + 1, V, h => by
    have h1 : V / 256 < 256 ^ n := Nat.div_lt_of_lt_mul (by rw [Nat.mul_comm, ← Nat.pow_succ]; exact h)
    show Bool.casesOn (motive := fun _ => Option Nat) (Nat.blt (V % 256) 256) none (Option.casesOn (motive := fun _ => Option Nat) (decN n (encL n (V / 256))) none fun W => some (V % 256 + 256 * W)) = _
    have h2 : Nat.blt (V % 256) 256 = true := by rw [Nat.blt_eq]; omega
    rw [h2, decN_enc h1]
    show some (V % 256 + 256 * (V / 256)) = _
    congr 1
    omega
theorem enc_decN : ∀ {n : Nat} {l : List AV} {V : Nat}, decN n l = some V → l = encL n V ∧ V < 256 ^ n
  | 0, l, V, h => by
    obtain ⟨rfl, rfl⟩ := decN_zero h
    exact ⟨rfl, by decide⟩
  | n + 1, l, V, h => by
    obtain ⟨b, l', V', rfl, hb, hd, rfl⟩ := decN_succ h
    obtain ⟨rfl, hV⟩ := enc_decN hd
    refine ⟨?_, ?_⟩
    · show _ = AV.int .u8 (.ofNat ((b + 256 * V') % 256)) :: encL n ((b + 256 * V') / 256)
      rw [show (b + 256 * V') % 256 = b by omega, show (b + 256 * V') / 256 = V' by omega]
      rfl
    · rw [Nat.pow_succ]; omega
theorem plains_enc : ∀ (n V : Nat), AV.plains (encL n V) = true
  | 0, _ => rfl
  | n + 1, V => plains_enc n (V / 256)

def openV {α : Sort _} (V : Nat) (k : Nat → Nat → Nat → Nat → Nat → α) : α :=
  open4 (V % M64) (V / M64 % M64) (V / (M64 * M64) % M64) (V / (M64 * M64 * M64)) k
def openS : List AV → Option AV
  | [.agg l] => Option.casesOn (motive := fun _ => Option AV) (decN 32 l) none fun V => some (openV V fun c0 c1 c2 c3 c4 => wordsA (.ofNat c0) (.ofNat c1) (.ofNat c2) (.ofNat c3) (.ofNat c4))
  | _ => none
theorem openS_some {l : List AV} {r : AV} (h : openS l = some r) : ∃ l' V, l = [.agg l'] ∧ decN 32 l' = some V ∧ r = openV V fun c0 c1 c2 c3 c4 => wordsA (.ofNat c0) (.ofNat c1) (.ofNat c2) (.ofNat c3) (.ofNat c4) := by
  unfold openS at h
  split at h
  · next l' =>
    cases hd : decN 32 l' with
    | none => rw [hd] at h; cases h
    | some V => rw [hd] at h; cases h; exact ⟨l', V, rfl, hd, rfl⟩
  · cases h

theorem decN_eight {n : Nat} {l : List AV} {V : Nat} (h : decN (n + 8) l = some V) : ∃ b0 b1 b2 b3 b4 b5 b6 b7 l' V', l = byt (.ofNat b0) :: byt (.ofNat b1) :: byt (.ofNat b2) :: byt (.ofNat b3) :: byt (.ofNat b4) :: byt (.ofNat b5) :: byt (.ofNat b6) :: byt (.ofNat b7) :: l' ∧ (b0 < 256 ∧ b1 < 256 ∧ b2 < 256 ∧ b3 < 256 ∧ b4 < 256 ∧ b5 < 256 ∧ b6 < 256 ∧ b7 < 256) ∧ decN n l' = some V' ∧ V = eight b0 b1 b2 b3 b4 b5 b6 b7 + 18446744073709551616 * V' := by
  obtain ⟨b0, l0, V0, e0, h0, d0, v0⟩ := decN_succ h
  obtain ⟨b1, l1, V1, e1, h1, d1, v1⟩ := decN_succ d0
  obtain ⟨b2, l2, V2, e2, h2, d2, v2⟩ := decN_succ d1
  obtain ⟨b3, l3, V3, e3, h3, d3, v3⟩ := decN_succ d2
  obtain ⟨b4, l4, V4, e4, h4, d4, v4⟩ := decN_succ d3
  obtain ⟨b5, l5, V5, e5, h5, d5, v5⟩ := decN_succ d4
  obtain ⟨b6, l6, V6, e6, h6, d6, v6⟩ := decN_succ d5
  obtain ⟨b7, l7, V7, e7, h7, d7, v7⟩ := decN_succ d6
  refine ⟨b0, b1, b2, b3, b4, b5, b6, b7, l7, V7, by rw [e0, e1, e2, e3, e4, e5, e6, e7], ⟨h0, h1, h2, h3, h4, h5, h6, h7⟩, d7, ?_⟩
  unfold eight; omega
set_option maxHeartbeats 1000000 in
theorem open_at {l : List AV} {V : Nat} (hd : decN 32 l = some V) : ansR (evCall (pEnv []) 1000 (.fn 49) [.agg l] ⟨0, .nil⟩) = some (openV V fun c0 c1 c2 c3 c4 => wordsA (.ofNat c0) (.ofNat c1) (.ofNat c2) (.ofNat c3) (.ofNat c4)) := by
  obtain ⟨c0, c1, c2, c3, c4, c5, c6, c7, l0, V0, e0, ⟨h0, h1, h2, h3, h4, h5, h6, h7⟩, d0, v0⟩ := decN_eight (n := 24) hd
  obtain ⟨c8, c9, c10, c11, c12, c13, c14, c15, l1, V1, e1, ⟨h8, h9, h10, h11, h12, h13, h14, h15⟩, d1, v1⟩ := decN_eight (n := 16) d0
  obtain ⟨c16, c17, c18, c19, c20, c21, c22, c23, l2, V2, e2, ⟨h16, h17, h18, h19, h20, h21, h22, h23⟩, d2, v2⟩ := decN_eight (n := 8) d1
  obtain ⟨c24, c25, c26, c27, c28, c29, c30, c31, l3, V3, e3, ⟨h24, h25, h26, h27, h28, h29, h30, h31⟩, d3, v3⟩ := decN_eight (n := 0) d2
  obtain ⟨e4, v4⟩ := decN_zero d3
  rw [e0, e1, e2, e3, e4]
  have hr := open_run (.ofNat c0) (.ofNat c1) (.ofNat c2) (.ofNat c3) (.ofNat c4) (.ofNat c5) (.ofNat c6) (.ofNat c7) (.ofNat c8) (.ofNat c9) (.ofNat c10) (.ofNat c11) (.ofNat c12) (.ofNat c13) (.ofNat c14) (.ofNat c15) (.ofNat c16) (.ofNat c17) (.ofNat c18) (.ofNat c19) (.ofNat c20) (.ofNat c21) (.ofNat c22) (.ofNat c23) (.ofNat c24) (.ofNat c25) (.ofNat c26) (.ofNat c27) (.ofNat c28) (.ofNat c29) (.ofNat c30) (.ofNat c31)
  rw [load8_nat h0 h1 h2 h3 h4 h5 h6 h7, load8_nat h8 h9 h10 h11 h12 h13 h14 h15, load8_nat h16 h17 h18 h19 h20 h21 h22 h23, load8_nat h24 h25 h26 h27 h28 h29 h30 h31] at hr
  rw [openW_nat (eight_lt h0 h1 h2 h3 h4 h5 h6 h7) (eight_lt h8 h9 h10 h11 h12 h13 h14 h15) (eight_lt h16 h17 h18 h19 h20 h21 h22 h23)] at hr
  have j0 := eight_lt h0 h1 h2 h3 h4 h5 h6 h7
  have j1 := eight_lt h8 h9 h10 h11 h12 h13 h14 h15
  have j2 := eight_lt h16 h17 h18 h19 h20 h21 h22 h23
  have j3 := eight_lt h24 h25 h26 h27 h28 h29 h30 h31
  rw [hr]
  refine congrArg some ?_
  unfold openV
  have e : ∀ (p q r s p' q' r' s' : Nat), p = p' → q = q' → r = r' → s = s' → open4 p q r s (fun c0 c1 c2 c3 c4 => wordsA (.ofNat c0) (.ofNat c1) (.ofNat c2) (.ofNat c3) (.ofNat c4)) = open4 p' q' r' s' (fun c0 c1 c2 c3 c4 => wordsA (.ofNat c0) (.ofNat c1) (.ofNat c2) (.ofNat c3) (.ofNat c4)) := by
    rintro p q r s _ _ _ _ rfl rfl rfl rfl; rfl
  clear hr hd d0 d1 d2 d3 e0 e1 e2 e3 e4 h0 h1 h2 h3 h4 h5 h6 h7 h8 h9 h10 h11 h12 h13 h14 h15 h16 h17 h18 h19 h20 h21 h22 h23 h24 h25 h26 h27 h28 h29 h30 h31
  generalize eight c0 c1 c2 c3 c4 c5 c6 c7 = E0 at *
  generalize eight c8 c9 c10 c11 c12 c13 c14 c15 = E1 at *
  generalize eight c16 c17 c18 c19 c20 c21 c22 c23 = E2 at *
  generalize eight c24 c25 c26 c27 c28 c29 c30 c31 = E3 at *
  simp only [M64] at *
  refine e _ _ _ _ _ _ _ _ ?_ ?_ ?_ ?_ <;> omega

theorem open_c : PlainC Try.prog 49 openS := by
  refine ⟨fun l r h => ?_, fun l r h => ?_⟩ <;> obtain ⟨l, V, rfl, hd, rfl⟩ := openS_some h
  · refine ⟨?_, rfl⟩
    rw [(enc_decN hd).1]
    show (AV.plains (encL 32 V) && true) = true
    rw [plains_enc]; rfl
  · obtain ⟨m, hm⟩ := ansR_some (open_at hd)
    exact ⟨_, _, m, okE0, hm⟩

def B63 : Nat := 9223372036854775808
def closeS : List AV → Option AV
  | [.agg [.int .u64 (.ofNat w0), .int .u64 (.ofNat w1), .int .u64 (.ofNat w2), .int .u64 (.ofNat w3), .int .u64 (.ofNat w4)]] =>
    Bool.casesOn (motive := fun _ => Option AV) (Nat.blt w0 B63 && Nat.blt w1 B63 && Nat.blt w2 B63 && Nat.blt w3 B63 && Nat.blt w4 B63) none (some (.agg (encL 32 (val5 w0 w1 w2 w3 w4 % pF))))
  | _ => none
theorem close_c : PlainC Try.prog 50 closeS := by
  refine ⟨fun l r h => ?_, fun l r h => ?_⟩ <;> unfold closeS at h <;> split at h
  · next w0 w1 w2 w3 w4 =>
    cases hb : (Nat.blt w0 B63 && Nat.blt w1 B63 && Nat.blt w2 B63 && Nat.blt w3 B63 && Nat.blt w4 B63) with
    | false => rw [hb] at h; cases h
    | true => rw [hb] at h; cases h; exact ⟨rfl, plains_enc _ _⟩
  · cases h
  · next w0 w1 w2 w3 w4 =>
    cases hb : (Nat.blt w0 B63 && Nat.blt w1 B63 && Nat.blt w2 B63 && Nat.blt w3 B63 && Nat.blt w4 B63) with
    | false => rw [hb] at h; cases h
    | true =>
      rw [hb] at h; cases h
      simp only [Bool.and_eq_true, Nat.blt_eq] at hb
      obtain ⟨⟨⟨⟨h0, h1⟩, h2⟩, h3⟩, h4⟩ := hb
      have hk : closeM (.ofNat w0) (.ofNat w1) (.ofNat w2) (.ofNat w3) (.ofNat w4) fun r => ∀ _ : AMem, r = .agg (encL 32 (val5 w0 w1 w2 w3 w4 % pF)) := close_nat h0 h1 h2 h3 h4 (fun _ => rfl)
      obtain ⟨r, m', h5, rfl⟩ := f1_some (l := []) (K := fun r => r = .agg (encL 32 (val5 w0 w1 w2 w3 w4 % pF))) okE0 (fun _ _ => rfl) (fun _ _ h => by cases h) (Eq.mp (close_wp _ _ _ _ _ (fun r => r = .agg (encL 32 (val5 w0 w1 w2 w3 w4 % pF)))) hk)
      exact ⟨_, _, m', okE0, h5⟩
  · cases h

/-! as conditions -/
def openQ (l : List AV) (K : Int → Int → Int → Int → Int → Prop) : Prop :=
  ∃ V, decN 32 l = some V ∧ ∀ c0 c1 c2 c3 c4 : Int, wordsA c0 c1 c2 c3 c4 = openV V (fun c0 c1 c2 c3 c4 => wordsA (.ofNat c0) (.ofNat c1) (.ofNat c2) (.ofNat c3) (.ofNat c4)) → K c0 c1 c2 c3 c4
def openA : List AV → AMem → KP → Prop
  | [.agg l], m, K => openQ l fun c0 c1 c2 c3 c4 => K (wordsA c0 c1 c2 c3 c4) m
  | _, _, _ => False
def in63 (x : Int) : Prop := 0 ≤ x ∧ x < 9223372036854775808
def closeQ (w0 w1 w2 w3 w4 : Int) (K : AV → Prop) : Prop :=
  (in63 w0 ∧ in63 w1 ∧ in63 w2 ∧ in63 w3 ∧ in63 w4) ∧ K (.agg (encL 32 (val5 w0.toNat w1.toNat w2.toNat w3.toNat w4.toNat % pF)))
def closeA : List AV → AMem → KP → Prop
  | [.agg [.int .u64 w0, .int .u64 w1, .int .u64 w2, .int .u64 w3, .int .u64 w4]], m, K => closeQ w0 w1 w2 w3 w4 fun r => K r m
  | _, _, _ => False
theorem openA_ok {args : List AV} {m : AMem} {K : KP} (h : openA args m K) : ∃ r, openS args = some r ∧ K r m := by
  unfold openA at h
  split at h
  · next l =>
    obtain ⟨V, hd, hk⟩ := h
    refine ⟨_, ?_, hk _ _ _ _ _ rfl⟩
    show Option.casesOn (motive := fun _ => Option AV) (decN 32 l) none _ = _
    rw [hd]; rfl
  · cases h
theorem in63_nat {x : Int} (h : in63 x) : ∃ n : Nat, x = .ofNat n ∧ n < B63 := by
  obtain ⟨X, rfl⟩ := Int.eq_ofNat_of_zero_le h.1
  exact ⟨X, rfl, by have := h.2; simp only [B63]; omega⟩
theorem in63_of {n : Nat} (h : n < B63) : in63 (.ofNat n) := ⟨Int.natCast_nonneg n, by have : n < 9223372036854775808 := h; exact Int.ofNat_lt.2 this⟩
theorem closeA_ok {args : List AV} {m : AMem} {K : KP} (h : closeA args m K) : ∃ r, closeS args = some r ∧ K r m := by
  unfold closeA at h
  split at h
  · next w0 w1 w2 w3 w4 =>
    obtain ⟨⟨h0, h1, h2, h3, h4⟩, hk⟩ := h
    obtain ⟨w0, rfl, g0⟩ := in63_nat h0
    obtain ⟨w1, rfl, g1⟩ := in63_nat h1
    obtain ⟨w2, rfl, g2⟩ := in63_nat h2
    obtain ⟨w3, rfl, g3⟩ := in63_nat h3
    obtain ⟨w4, rfl, g4⟩ := in63_nat h4
    refine ⟨_, ?_, hk⟩
    show Bool.casesOn (motive := fun _ => Option AV) (Nat.blt w0 B63 && Nat.blt w1 B63 && Nat.blt w2 B63 && Nat.blt w3 B63 && Nat.blt w4 B63) none (some _) = _
    have : (Nat.blt w0 B63 && Nat.blt w1 B63 && Nat.blt w2 B63 && Nat.blt w3 B63 && Nat.blt w4 B63) = true := by simp only [Bool.and_eq_true, Nat.blt_eq]; exact ⟨⟨⟨⟨g0, g1⟩, g2⟩, g3⟩, g4⟩
    rw [this]; rfl
  · cases h
end
end Ev
