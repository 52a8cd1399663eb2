/-
  One round of (words).power in Nat: the exponent's high bit moves on, the product follows. Conditions: words below 2^53 and 2^64.
-/
import Derived.Test.YtmbkjhcmbbcphaaU3
namespace Ev
open Go Go.Proofs
noncomputable section

theorem timesQ_both {a0 a1 a2 a3 a4 b0 b1 b2 b3 b4 : Nat} (ha : lt5 a0 a1 a2 a3 a4 = true) (hb : lt5 b0 b1 b2 b3 b4 = true) {K : Int → Int → Int → Int → Int → Prop}
    (hk : ∀ c0 c1 c2 c3 c4 : Nat, lt5 c0 c1 c2 c3 c4 = true → val5 c0 c1 c2 c3 c4 % pF = val5 a0 a1 a2 a3 a4 * val5 b0 b1 b2 b3 b4 % pF → K (.ofNat c0) (.ofNat c1) (.ofNat c2) (.ofNat c3) (.ofNat c4)) :
    timesQ (.ofNat a0) (.ofNat a1) (.ofNat a2) (.ofNat a3) (.ofNat a4) (.ofNat b0) (.ofNat b1) (.ofNat b2) (.ofNat b3) (.ofNat b4) K := by
  refine timesQ_nat (lt5_both ha hb) ?_
  have h1 := @times_lt a0 a1 a2 a3 a4 b0 b1 b2 b3 b4 (lt5_both ha hb) (fun c0 c1 c2 c3 c4 => lt5 c0 c1 c2 c3 c4 = true) (fun c0 c1 c2 c3 c4 h0 h1 h2 h3 h4 _ => lt5_of h0 h1 h2 h3 h4)
  have h2 := @times_val a0 a1 a2 a3 a4 b0 b1 b2 b3 b4 (fun c0 c1 c2 c3 c4 => val5 c0 c1 c2 c3 c4 % pF = val5 a0 a1 a2 a3 a4 * val5 b0 b1 b2 b3 b4 % pF) (fun _ _ _ _ _ h => h)
  simp only [timesN, forceN_eq] at h1 h2 ⊢
  exact hk _ _ _ _ _ h1 h2

def L4 (l0 l1 l2 l3 : Nat) : Nat := l0 * 6277101735386680763835789423207666416102355444464034512896 + l1 * 340282366920938463463374607431768211456 + l2 * 18446744073709551616 + l3
def nx (a b : Nat) : Nat := a * 2 % M64 + b / 9223372036854775808
theorem nx_int {a b : Nat} (hb : b < M64) : uor (ushl (.ofNat a) 1) (ushr (.ofNat b) 63) = .ofNat (nx a b) := by
  rw [ushl_nat _ 1 (by decide), ushr_nat _ 63 (by decide), uor_nat]
  congr 1
  simp only [M64] at hb
  have h1 : a * 2 ^ 1 % M64 % M64 = 2 ^ 1 * (a % 9223372036854775808) := by simp only [M64]; omega
  have h2 : b / 2 ^ 63 % M64 = b / 9223372036854775808 := by simp only [M64]; omega
  rw [h1, h2, ← Nat.two_pow_add_eq_or_of_lt (by omega)]
  unfold nx
  simp only [M64]; omega
theorem sh_int (a : Nat) : ushl (.ofNat a) 1 = .ofNat (a * 2 % M64) := ushl_nat a 1 (by decide)
theorem L4_next {l0 l1 l2 l3 : Nat} (_ : l0 < M64) (h1 : l1 < M64) (h2 : l2 < M64) (h3 : l3 < M64) :
    L4 (nx l0 l1) (nx l1 l2) (nx l2 l3) (l3 * 2 % M64) + l0 / 9223372036854775808 * 115792089237316195423570985008687907853269984665640564039457584007913129639936 = 2 * L4 l0 l1 l2 l3 ∧ nx l0 l1 < M64 ∧ nx l1 l2 < M64 ∧ nx l2 l3 < M64 ∧ l3 * 2 % M64 < M64 := by
  unfold L4 nx
  simp only [M64] at *
  refine ⟨?_, ?_, ?_, ?_, ?_⟩ <;> omega
theorem L4_top {l0 l1 l2 l3 : Nat} (h0 : l0 < M64) (h1 : l1 < M64) (h2 : l2 < M64) (h3 : l3 < M64) : L4 l0 l1 l2 l3 / 57896044618658097711785492504343953926634992332820282019728792003956564819968 = l0 / 9223372036854775808 ∧ l0 / 9223372036854775808 < 2 := by
  unfold L4
  simp only [M64] at *
  refine ⟨?_, ?_⟩ <;> omega

/-- n rounds are left: H is done, R is to come -/
structure InvU (E W n l0 l1 l2 l3 o0 o1 o2 o3 o4 : Nat) : Prop where
  h0 : l0 < M64
  h1 : l1 < M64
  h2 : l2 < M64
  h3 : l3 < M64
  ho : lt5 o0 o1 o2 o3 o4 = true
  ex : ∃ H R, E = H * 2 ^ n + R ∧ R < 2 ^ n ∧ L4 l0 l1 l2 l3 = R * 2 ^ (256 - n) ∧ val5 o0 o1 o2 o3 o4 % pF = W ^ H % pF

theorem two_split {n : Nat} (hn : n < 256) : 2 ^ n * 2 ^ (255 - n) = 57896044618658097711785492504343953926634992332820282019728792003956564819968 := by
  rw [← Nat.pow_add, show n + (255 - n) = 255 by omega]
theorem next_ex {E W n l0 l1 l2 l3 o b X : Nat} (hn : n < 256) (h0 : l0 < M64) (h1 : l1 < M64) (h2 : l2 < M64) (h3 : l3 < M64) (hb : l0 / 9223372036854775808 = b)
    (hex : ∃ H R, E = H * 2 ^ (n + 1) + R ∧ R < 2 ^ (n + 1) ∧ L4 l0 l1 l2 l3 = R * 2 ^ (256 - (n + 1)) ∧ o % pF = W ^ H % pF) (hX : X % pF = o * o * W ^ b % pF) :
    ∃ H R, E = H * 2 ^ n + R ∧ R < 2 ^ n ∧ L4 (nx l0 l1) (nx l1 l2) (nx l2 l3) (l3 * 2 % M64) = R * 2 ^ (256 - n) ∧ X % pF = W ^ H % pF := by
  obtain ⟨H, R, hE, hR, hL, hW⟩ := hex
  have hnext := (L4_next h0 h1 h2 h3).1
  have htop := (L4_top h0 h1 h2 h3)
  rw [hb] at hnext htop
  have hs := two_split hn
  rw [show 256 - (n + 1) = 255 - n by omega] at hL
  have hA : 0 < 2 ^ n := Nat.two_pow_pos n
  have hS : 0 < 2 ^ (255 - n) := Nat.two_pow_pos _
  have e1 : 2 ^ (256 - n) = 2 * 2 ^ (255 - n) := by rw [show 256 - n = (255 - n) + 1 by omega, Nat.pow_succ, Nat.mul_comm]
  rw [e1]
  rw [Nat.pow_succ] at hE hR
  generalize 2 ^ n = A at *
  generalize 2 ^ (255 - n) = S at *
  have hq : R / A = b := by
    have := htop.1
    rw [hL, ← hs, Nat.mul_div_mul_right _ _ hS] at this
    exact this
  have hdm := Nat.div_add_mod R A
  rw [hq] at hdm
  refine ⟨2 * H + b, R % A, ?_, Nat.mod_lt _ hA, ?_, ?_⟩
  · have e5 : (2 * H + b) * A = H * (A * 2) + A * b := by rw [Nat.add_mul, Nat.mul_comm b A, Nat.mul_comm 2 H, Nat.mul_assoc, Nat.mul_comm 2 A]
    rw [hE, e5, Nat.add_assoc, hdm]
  · rw [hL] at hnext
    have e2 : b * 115792089237316195423570985008687907853269984665640564039457584007913129639936 = 2 * (b * (A * S)) := by rw [hs]; omega
    have e3 : R * S = b * (A * S) + R % A * S := by
      conv => lhs; rw [← hdm]
      rw [Nat.add_mul, Nat.mul_comm A b, Nat.mul_assoc]
    rw [e2, e3] at hnext
    have e4 : R % A * (2 * S) = 2 * (R % A * S) := by rw [← Nat.mul_assoc, Nat.mul_comm (R % A) 2, Nat.mul_assoc]
    rw [e4]
    omega
  · rw [hX, Nat.mul_mod, Nat.mul_mod o, hW, ← Nat.mul_mod (W ^ H), ← Nat.mul_mod, ← Nat.pow_add, ← Nat.pow_add]
    congr 2
    omega

theorem eqI_one (a : Nat) : eqI (.ofNat a) 1 = Nat.beq a 1 := rfl
theorem roundU_nat {E i n l0 l1 l2 l3 w0 w1 w2 w3 w4 o0 o1 o2 o3 o4 : Nat} (hi : i + (n + 1) = 256) (hw : lt5 w0 w1 w2 w3 w4 = true) (h : InvU E (val5 w0 w1 w2 w3 w4) (n + 1) l0 l1 l2 l3 o0 o1 o2 o3 o4)
    {PN : Int → Int → Int → Int → Int → Int → Int → Int → Int → Prop} {PX : Prop}
    (hk : ∀ k0 k1 k2 k3 c0 c1 c2 c3 c4 : Nat, InvU E (val5 w0 w1 w2 w3 w4) n k0 k1 k2 k3 c0 c1 c2 c3 c4 → PN (.ofNat k0) (.ofNat k1) (.ofNat k2) (.ofNat k3) (.ofNat c0) (.ofNat c1) (.ofNat c2) (.ofNat c3) (.ofNat c4)) :
    roundU (.ofNat i) (.ofNat l0) (.ofNat l1) (.ofNat l2) (.ofNat l3) (.ofNat w0) (.ofNat w1) (.ofNat w2) (.ofNat w3) (.ofNat w4) (.ofNat o0) (.ofNat o1) (.ofNat o2) (.ofNat o3) (.ofNat o4) PN PX := by
  have hlt : ltI (.ofNat i) 256 = true := by
    show Nat.blt i 256 = true
    rw [Nat.blt_eq]; omega
  obtain ⟨h0, h1, h2, h3, ho, hex⟩ := h
  have hn := L4_next h0 h1 h2 h3
  have htop := (L4_top h0 h1 h2 h3).2
  have fin : ∀ (b c0 c1 c2 c3 c4 : Nat), l0 / 9223372036854775808 = b → lt5 c0 c1 c2 c3 c4 = true → val5 c0 c1 c2 c3 c4 % pF = val5 o0 o1 o2 o3 o4 * val5 o0 o1 o2 o3 o4 * val5 w0 w1 w2 w3 w4 ^ b % pF →
      stepL (.ofNat l0) (.ofNat l1) (.ofNat l2) (.ofNat l3) fun k0 k1 k2 k3 => PN k0 k1 k2 k3 (.ofNat c0) (.ofNat c1) (.ofNat c2) (.ofNat c3) (.ofNat c4) := by
    intro b c0 c1 c2 c3 c4 hb hc hv
    unfold stepL
    rw [nx_int h1, nx_int h2, nx_int h3, sh_int]
    exact hk _ _ _ _ _ _ _ _ _ ⟨hn.2.1, hn.2.2.1, hn.2.2.2.1, hn.2.2.2.2, hc, next_ex (by omega) h0 h1 h2 h3 hb hex hv⟩
  refine ⟨fun _ => ?_, fun hf => by rw [hlt] at hf; cases hf⟩
  refine timesQ_both ho ho fun c0 c1 c2 c3 c4 hc hv => ?_
  rw [ushr_nat _ 63 (by decide), show (2 : Nat) ^ 63 = 9223372036854775808 from rfl, eqI_one]
  refine ⟨fun hb => ?_, fun hb => ?_⟩
  · refine timesQ_both hc hw fun d0 d1 d2 d3 d4 hd hu => ?_
    refine fin 1 _ _ _ _ _ (Nat.eq_of_beq_eq_true hb) hd ?_
    rw [hu, Nat.mul_mod, hv, ← Nat.mul_mod, Nat.pow_one]
  · have hb := Nat.ne_of_beq_eq_false hb
    refine fin 0 _ _ _ _ _ (by omega) hc ?_
    rw [hv, Nat.pow_zero, Nat.mul_one]
end
end Ev
