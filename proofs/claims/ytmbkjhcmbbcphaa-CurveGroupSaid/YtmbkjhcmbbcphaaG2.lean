/-
  A number's bytes and its words, in Nat. Conditions: bytes below 256.
-/
import Derived.Test.YtmbkjhcmbbcphaaG1
namespace Ev
open Go Go.Proofs
noncomputable section

theorem ushl_of {n k : Nat} (hk : k ≤ 64) (h : n * 2 ^ k < M64) : ushl (.ofNat n) k = .ofNat (n * 2 ^ k) := by
  rw [ushl_nat _ _ hk, Nat.mod_eq_of_lt h]
theorem ld_nat {n b : Nat} (hn : n < 72057594037927936) (hb : b < 256) : ld (.ofNat n) (.ofNat b) = .ofNat (n * 256 + b) := by
  unfold ld w64
  rw [wrap64, ushl_nat _ 8 (by decide), uor_nat]
  congr 1
  have h1 : n * 2 ^ 8 % M64 % M64 = 2 ^ 8 * n := by simp only [M64]; omega
  have h2 : b % M64 % M64 = b := by simp only [M64]; omega
  rw [h1, h2, ← Nat.two_pow_add_eq_or_of_lt (by omega)]
  omega
def eight (b0 b1 b2 b3 b4 b5 b6 b7 : Nat) : Nat := b0 + 256 * b1 + 65536 * b2 + 16777216 * b3 + 4294967296 * b4 + 1099511627776 * b5 + 281474976710656 * b6 + 72057594037927936 * b7
theorem load8_nat {b0 b1 b2 b3 b4 b5 b6 b7 : Nat} (h0 : b0 < 256) (h1 : b1 < 256) (h2 : b2 < 256) (h3 : b3 < 256) (h4 : b4 < 256) (h5 : b5 < 256) (h6 : b6 < 256) (h7 : b7 < 256) :
    load8 (.ofNat b0) (.ofNat b1) (.ofNat b2) (.ofNat b3) (.ofNat b4) (.ofNat b5) (.ofNat b6) (.ofNat b7) = .ofNat (eight b0 b1 b2 b3 b4 b5 b6 b7) := by
  unfold load8
  rw [show (0 : Int) = .ofNat 0 from rfl, ld_nat (by omega) h7, ld_nat (by omega) h6, ld_nat (by omega) h5, ld_nat (by omega) h4, ld_nat (by omega) h3, ld_nat (by omega) h2, ld_nat (by omega) h1, ld_nat (by omega) h0]
  congr 1
  unfold eight
  omega
theorem eight_lt {b0 b1 b2 b3 b4 b5 b6 b7 : Nat} (h0 : b0 < 256) (h1 : b1 < 256) (h2 : b2 < 256) (h3 : b3 < 256) (h4 : b4 < 256) (h5 : b5 < 256) (h6 : b6 < 256) (h7 : b7 < 256) : eight b0 b1 b2 b3 b4 b5 b6 b7 < M64 := by
  unfold eight; simp only [M64]; omega

/-- the low part of one word before the high part of the next -/
theorem join_nat {p q k j : Nat} (hp : p < M64) (hj : j ≤ 64) (hk : k ≤ 64) (hkj : 2 ^ k * 2 ^ j = M64) (h51 : 2251799813685248 ∣ 2 ^ j * 2 ^ k) :
    uand (uor (ushr (.ofNat p) k) (ushl (.ofNat q) j)) m51 = .ofNat ((p / 2 ^ k + q * 2 ^ j) % 2251799813685248) := by
  rw [ushr_nat _ _ hk, ushl_nat _ _ hj, uor_nat]
  have hpk : p / 2 ^ k < 2 ^ j := Nat.div_lt_of_lt_mul (by rw [hkj]; exact hp)
  have hj64 : 2 ^ j ≤ M64 := by rw [← hkj]; exact Nat.le_mul_of_pos_left _ (Nat.two_pow_pos k)
  have e1 : p / 2 ^ k % M64 = p / 2 ^ k := Nat.mod_eq_of_lt (Nat.lt_of_lt_of_le hpk hj64)
  have e2 : q * 2 ^ j % M64 % M64 = 2 ^ j * (q % 2 ^ k) := by
    rw [Nat.mod_mod, ← hkj, Nat.mul_mod_mul_right, Nat.mul_comm]
  rw [e1, e2, Nat.or_comm, ← Nat.two_pow_add_eq_or_of_lt hpk]
  have e3 : 2 ^ j * (q % 2 ^ k) + p / 2 ^ k < M64 := by
    have : q % 2 ^ k + 1 ≤ 2 ^ k := Nat.mod_lt _ (Nat.two_pow_pos k)
    have := Nat.mul_le_mul_left (2 ^ j) this
    rw [Nat.mul_add, Nat.mul_one, Nat.mul_comm (2 ^ j) (2 ^ k), hkj] at this
    omega
  rw [and51 e3]
  congr 1
  have e4 : q * 2 ^ j = 2 ^ j * (q % 2 ^ k) + 2 ^ j * 2 ^ k * (q / 2 ^ k) := by
    have := Nat.div_add_mod q (2 ^ k)
    calc q * 2 ^ j = (2 ^ k * (q / 2 ^ k) + q % 2 ^ k) * 2 ^ j := by rw [this]
      _ = 2 ^ j * (q % 2 ^ k) + 2 ^ j * 2 ^ k * (q / 2 ^ k) := by rw [Nat.add_mul, Nat.add_comm, Nat.mul_comm (q % 2 ^ k), Nat.mul_comm _ (2 ^ j), ← Nat.mul_assoc]
  obtain ⟨c, hc⟩ := h51
  rw [e4, ← Nat.add_assoc, Nat.add_comm (p / 2 ^ k), hc, Nat.mul_assoc, Nat.add_mul_mod_self_left]

def val5 (w0 w1 w2 w3 w4 : Nat) : Nat := w0 + 2251799813685248 * w1 + 5070602400912917605986812821504 * w2 + 11417981541647679048466287755595961091061972992 * w3 + 25711008708143844408671393477458601640355247900524685364822016 * w4
def open4 {α : Sort _} (p q r s : Nat) (k : Nat → Nat → Nat → Nat → Nat → α) : α :=
  k (p % 2251799813685248) ((p / 2251799813685248 + q * 8192) % 2251799813685248) ((q / 274877906944 + r * 67108864) % 2251799813685248) ((r / 33554432 + s * 549755813888) % 2251799813685248) (s / 4096)
theorem openW_nat {p q r s : Nat} (hp : p < M64) (hq : q < M64) (hr : r < M64) :
    openW (.ofNat p) (.ofNat q) (.ofNat r) (.ofNat s) = open4 p q r s fun c0 c1 c2 c3 c4 => wordsA (.ofNat c0) (.ofNat c1) (.ofNat c2) (.ofNat c3) (.ofNat c4) := by
  unfold openW open4
  rw [and51 hp, join_nat (k := 51) (j := 13) hp (by decide) (by decide) (by decide) (by decide), join_nat (k := 38) (j := 26) hq (by decide) (by decide) (by decide) (by decide),
    join_nat (k := 25) (j := 39) hr (by decide) (by decide) (by decide) (by decide), ushr_nat s 12 (by decide)]
theorem open4_val {p q r s : Nat} (hp : p < M64) (hq : q < M64) (hr : r < M64) (hs : s < M64) {Q : Nat → Nat → Nat → Nat → Nat → Prop}
    (h : ∀ c0 c1 c2 c3 c4 : Nat, c0 < 2251799813685248 → c1 < 2251799813685248 → c2 < 2251799813685248 → c3 < 2251799813685248 → c4 < 4503599627370496 →
      val5 c0 c1 c2 c3 c4 = p + 18446744073709551616 * q + 340282366920938463463374607431768211456 * r + 6277101735386680763835789423207666416102355444464034512896 * s → Q c0 c1 c2 c3 c4) : open4 p q r s Q := by
  unfold open4
  simp only [M64] at *
  refine h _ _ _ _ _ ?_ ?_ ?_ ?_ ?_ ?_
  · omega
  · omega
  · omega
  · omega
  · omega
  · unfold val5; omega


/-- the number that bytes stand for -/
def val32 (a0 a1 a2 a3 a4 a5 a6 a7 a8 a9 a10 a11 a12 a13 a14 a15 a16 a17 a18 a19 a20 a21 a22 a23 a24 a25 a26 a27 a28 a29 a30 a31 : Nat) : Nat := eight a0 a1 a2 a3 a4 a5 a6 a7 + 18446744073709551616 * eight a8 a9 a10 a11 a12 a13 a14 a15 + 340282366920938463463374607431768211456 * eight a16 a17 a18 a19 a20 a21 a22 a23 + 6277101735386680763835789423207666416102355444464034512896 * eight a24 a25 a26 a27 a28 a29 a30 a31

theorem carM_nat {w0 w1 w2 w3 w4 : Nat} (h0 : w0 < 9223372036854775808) (h1 : w1 < 9223372036854775808) (h2 : w2 < 9223372036854775808) (h3 : w3 < 9223372036854775808) (h4 : w4 < 9223372036854775808) {K : Int → Int → Int → Int → Int → Prop}
    (hk : ∀ c0 c1 c2 c3 c4 o : Nat, c0 < 2251799813685248 + 19 * (o + 1) → c1 < 2251799813685248 → c2 < 2251799813685248 → c3 < 2251799813685248 → c4 < 2251799813685248 → o * 2251799813685248 ≤ w4 + 4097 → o ≤ 4096 →
      val5 c0 c1 c2 c3 c4 + 57896044618658097711785492504343953926634992332820282019728792003956564819949 * o = val5 w0 w1 w2 w3 w4 → K (.ofNat c0) (.ofNat c1) (.ofNat c2) (.ofNat c3) (.ofNat c4)) :
    carM (.ofNat w0) (.ofNat w1) (.ofNat w2) (.ofNat w3) (.ofNat w4) K := by
  unfold carM
  have e64 : M64 = 18446744073709551616 := rfl
  have a0 : uadd (.ofNat w0) 0 = .ofNat w0 := by
    have : uadd (.ofNat w0) (.ofNat 0) = .ofNat w0 := by rw [uadd_nat]; congr 1; rw [e64]; omega
    exact this
  rw [a0]
  have st : ∀ w v : Nat, w < 9223372036854775808 → v ≤ 1000000 → uadd (.ofNat w) (.ofNat v) = .ofNat (w + v) := fun w v hw hv => by rw [uadd_nat]; congr 1; rw [e64]; omega
  simp only [shr51]
  rw [st w1 _ h1 (by omega)]
  simp only [shr51]
  rw [st w2 _ h2 (by omega)]
  simp only [shr51]
  rw [st w3 _ h3 (by omega)]
  simp only [shr51]
  rw [st w4 _ h4 (by omega)]
  simp only [shr51]
  rw [and51 (by rw [e64]; omega), and51 (by rw [e64]; omega), and51 (by rw [e64]; omega), and51 (by rw [e64]; omega), and51 (by rw [e64]; omega)]
  rw [times19 (by omega), st _ _ (by omega) (by omega)]
  refine hk _ _ _ _ _ ((w4 + (w3 + (w2 + (w1 + w0 / 2251799813685248) / 2251799813685248) / 2251799813685248) / 2251799813685248) / 2251799813685248) ?_ ?_ ?_ ?_ ?_ ?_ ?_ ?_
  · omega
  · omega
  · omega
  · omega
  · omega
  · omega
  · omega
  · unfold val5; omega
end
end Ev
