/-
  A number's bytes and its words: what the code computes. Conditions: those named.
-/
import Derived.Test.YtmbkjhcmbbcphaaF5
namespace Ev
open Go Go.Proofs
noncomputable section

def byt (x : Int) : AV := .int .u8 x
def w64 (x : Int) : Int := wrapI .u64 x
def w8 (x : Int) : Int := wrapI .u8 x
def ld (n b : Int) : Int := uor (ushl n 8) (w64 b)
def load8 (b0 b1 b2 b3 b4 b5 b6 b7 : Int) : Int := ld (ld (ld (ld (ld (ld (ld (ld 0 b7) b6) b5) b4) b3) b2) b1) b0
def openW (p q r s : Int) : AV := wordsA (uand p m51) (uand (uor (ushr p 51) (ushl q 13)) m51) (uand (uor (ushr q 38) (ushl r 26)) m51) (uand (uor (ushr r 25) (ushl s 39)) m51) (ushr s 12)

theorem open_run (a0 a1 a2 a3 a4 a5 a6 a7 a8 a9 a10 a11 a12 a13 a14 a15 a16 a17 a18 a19 a20 a21 a22 a23 a24 a25 a26 a27 a28 a29 a30 a31 : Int) : ansR (evCall (pEnv []) 1000 (.fn 49) [.agg [byt a0, byt a1, byt a2, byt a3, byt a4, byt a5, byt a6, byt a7, byt a8, byt a9, byt a10, byt a11, byt a12, byt a13, byt a14, byt a15, byt a16, byt a17, byt a18, byt a19, byt a20, byt a21, byt a22, byt a23, byt a24, byt a25, byt a26, byt a27, byt a28, byt a29, byt a30, byt a31]] ⟨0, .nil⟩) = some (openW (load8 a0 a1 a2 a3 a4 a5 a6 a7) (load8 a8 a9 a10 a11 a12 a13 a14 a15) (load8 a16 a17 a18 a19 a20 a21 a22 a23) (load8 a24 a25 a26 a27 a28 a29 a30 a31)) := by kernel_rfl

def carM (w0 w1 w2 w3 w4 : Int) (K : Int → Int → Int → Int → Int → Prop) : Prop :=
  (fun x0 => (fun x1 => (fun x2 => (fun x3 => (fun x4 => K (uadd (uand x0 m51) (umul (ushr x4 51) 19)) (uand x1 m51) (uand x2 m51) (uand x3 m51) (uand x4 m51)) (uadd w4 (ushr x3 51))) (uadd w3 (ushr x2 51))) (uadd w2 (ushr x1 51))) (uadd w1 (ushr x0 51))) (uadd w0 0)
theorem carry_wp (w0 w1 w2 w3 w4 : Int) (K : AV → Prop) : (carM w0 w1 w2 w3 w4 fun c0 c1 c2 c3 c4 => ∀ _ : AMem, K (wordsA c0 c1 c2 c3 c4)) = wpCall noEx (pEnv []) (fun _ => none) 1000 (.fn 54) [wordsA w0 w1 w2 w3 w4] ⟨0, .nil⟩ (fun r _ => ∀ _ : AMem, K r) := by kernel_rfl
end
end Ev

/-
  A number's bytes and its words, in Nat. Conditions: bytes below 256.
-/
namespace Ev
open Go Go.Proofs
noncomputable section

theorem ushl_of {n k : Nat} (hk : k ≤ 64) (h : n * 2 ^ k < M64) : ushl (.ofNat n) k = .ofNat (n * 2 ^ k) := by
  rw [ushl_nat _ _ hk, Nat.mod_eq_of_lt h]
theorem ld_nat {n b : Nat} (hn : n < 72057594037927936) (hb : b < 256) : ld (.ofNat n) (.ofNat b) = .ofNat (n * 256 + b) := by
  unfold ld w64
  rw [wrap64, ushl_nat _ 8 (by decide), uor_nat]
  congr 1
  have h1 : n * 2 ^ 8 % M64 % M64 = 2 ^ 8 * n := by simp only [M64]; omega
  have h2 : b % M64 % M64 = b := by simp only [M64]; omega
  rw [h1, h2, ← Nat.two_pow_add_eq_or_of_lt (by omega)]
  omega
def eight (b0 b1 b2 b3 b4 b5 b6 b7 : Nat) : Nat := b0 + 256 * b1 + 65536 * b2 + 16777216 * b3 + 4294967296 * b4 + 1099511627776 * b5 + 281474976710656 * b6 + 72057594037927936 * b7
theorem load8_nat {b0 b1 b2 b3 b4 b5 b6 b7 : Nat} (h0 : b0 < 256) (h1 : b1 < 256) (h2 : b2 < 256) (h3 : b3 < 256) (h4 : b4 < 256) (h5 : b5 < 256) (h6 : b6 < 256) (h7 : b7 < 256) :
    load8 (.ofNat b0) (.ofNat b1) (.ofNat b2) (.ofNat b3) (.ofNat b4) (.ofNat b5) (.ofNat b6) (.ofNat b7) = .ofNat (eight b0 b1 b2 b3 b4 b5 b6 b7) := by
  unfold load8
  rw [show (0 : Int) = .ofNat 0 from rfl, ld_nat (by omega) h7, ld_nat (by omega) h6, ld_nat (by omega) h5, ld_nat (by omega) h4, ld_nat (by omega) h3, ld_nat (by omega) h2, ld_nat (by omega) h1, ld_nat (by omega) h0]
  congr 1
  unfold eight
  omega
theorem eight_lt {b0 b1 b2 b3 b4 b5 b6 b7 : Nat} (h0 : b0 < 256) (h1 : b1 < 256) (h2 : b2 < 256) (h3 : b3 < 256) (h4 : b4 < 256) (h5 : b5 < 256) (h6 : b6 < 256) (h7 : b7 < 256) : eight b0 b1 b2 b3 b4 b5 b6 b7 < M64 := by
  unfold eight; simp only [M64]; omega

/-- the low part of one word before the high part of the next -/
theorem join_nat {p q k j : Nat} (hp : p < M64) (hj : j ≤ 64) (hk : k ≤ 64) (hkj : 2 ^ k * 2 ^ j = M64) (h51 : 2251799813685248 ∣ 2 ^ j * 2 ^ k) :
    uand (uor (ushr (.ofNat p) k) (ushl (.ofNat q) j)) m51 = .ofNat ((p / 2 ^ k + q * 2 ^ j) % 2251799813685248) := by
  rw [ushr_nat _ _ hk, ushl_nat _ _ hj, uor_nat]
  have hpk : p / 2 ^ k < 2 ^ j := Nat.div_lt_of_lt_mul (by rw [hkj]; exact hp)
  have hj64 : 2 ^ j ≤ M64 := by rw [← hkj]; exact Nat.le_mul_of_pos_left _ (Nat.two_pow_pos k)
  have e1 : p / 2 ^ k % M64 = p / 2 ^ k := Nat.mod_eq_of_lt (Nat.lt_of_lt_of_le hpk hj64)
  have e2 : q * 2 ^ j % M64 % M64 = 2 ^ j * (q % 2 ^ k) := by
    rw [Nat.mod_mod, ← hkj, Nat.mul_mod_mul_right, Nat.mul_comm]
  rw [e1, e2, Nat.or_comm, ← Nat.two_pow_add_eq_or_of_lt hpk]
  have e3 : 2 ^ j * (q % 2 ^ k) + p / 2 ^ k < M64 := by
    have : q % 2 ^ k + 1 ≤ 2 ^ k := Nat.mod_lt _ (Nat.two_pow_pos k)
    have := Nat.mul_le_mul_left (2 ^ j) this
    rw [Nat.mul_add, Nat.mul_one, Nat.mul_comm (2 ^ j) (2 ^ k), hkj] at this
    omega
  rw [and51 e3]
  congr 1
  have e4 : q * 2 ^ j = 2 ^ j * (q % 2 ^ k) + 2 ^ j * 2 ^ k * (q / 2 ^ k) := by
    have := Nat.div_add_mod q (2 ^ k)
    calc q * 2 ^ j = (2 ^ k * (q / 2 ^ k) + q % 2 ^ k) * 2 ^ j := by rw [this]
      _ = 2 ^ j * (q % 2 ^ k) + 2 ^ j * 2 ^ k * (q / 2 ^ k) := by rw [Nat.add_mul, Nat.add_comm, Nat.mul_comm (q % 2 ^ k), Nat.mul_comm _ (2 ^ j), ← Nat.mul_assoc]
  obtain ⟨c, hc⟩ := h51
  rw [e4, ← Nat.add_assoc, Nat.add_comm (p / 2 ^ k), hc, Nat.mul_assoc, Nat.add_mul_mod_self_left]

def val5 (w0 w1 w2 w3 w4 : Nat) : Nat := w0 + 2251799813685248 * w1 + 5070602400912917605986812821504 * w2 + 11417981541647679048466287755595961091061972992 * w3 + 25711008708143844408671393477458601640355247900524685364822016 * w4
def open4 {α : Sort _} (p q r s : Nat) (k : Nat → Nat → Nat → Nat → Nat → α) : α :=
  k (p % 2251799813685248) ((p / 2251799813685248 + q * 8192) % 2251799813685248) ((q / 274877906944 + r * 67108864) % 2251799813685248) ((r / 33554432 + s * 549755813888) % 2251799813685248) (s / 4096)
theorem openW_nat {p q r s : Nat} (hp : p < M64) (hq : q < M64) (hr : r < M64) :
    openW (.ofNat p) (.ofNat q) (.ofNat r) (.ofNat s) = open4 p q r s fun c0 c1 c2 c3 c4 => wordsA (.ofNat c0) (.ofNat c1) (.ofNat c2) (.ofNat c3) (.ofNat c4) := by
  unfold openW open4
  rw [and51 hp, join_nat (k := 51) (j := 13) hp (by decide) (by decide) (by decide) (by decide), join_nat (k := 38) (j := 26) hq (by decide) (by decide) (by decide) (by decide),
    join_nat (k := 25) (j := 39) hr (by decide) (by decide) (by decide) (by decide), ushr_nat s 12 (by decide)]
theorem open4_val {p q r s : Nat} (hp : p < M64) (hq : q < M64) (hr : r < M64) (hs : s < M64) {Q : Nat → Nat → Nat → Nat → Nat → Prop}
    (h : ∀ c0 c1 c2 c3 c4 : Nat, c0 < 2251799813685248 → c1 < 2251799813685248 → c2 < 2251799813685248 → c3 < 2251799813685248 → c4 < 4503599627370496 →
      val5 c0 c1 c2 c3 c4 = p + 18446744073709551616 * q + 340282366920938463463374607431768211456 * r + 6277101735386680763835789423207666416102355444464034512896 * s → Q c0 c1 c2 c3 c4) : open4 p q r s Q := by
  unfold open4
  simp only [M64] at *
  refine h _ _ _ _ _ ?_ ?_ ?_ ?_ ?_ ?_
  · omega
  · omega
  · omega
  · omega
  · omega
  · unfold val5; omega


/-- the number that bytes stand for -/
def val32 (a0 a1 a2 a3 a4 a5 a6 a7 a8 a9 a10 a11 a12 a13 a14 a15 a16 a17 a18 a19 a20 a21 a22 a23 a24 a25 a26 a27 a28 a29 a30 a31 : Nat) : Nat := eight a0 a1 a2 a3 a4 a5 a6 a7 + 18446744073709551616 * eight a8 a9 a10 a11 a12 a13 a14 a15 + 340282366920938463463374607431768211456 * eight a16 a17 a18 a19 a20 a21 a22 a23 + 6277101735386680763835789423207666416102355444464034512896 * eight a24 a25 a26 a27 a28 a29 a30 a31

theorem carM_nat {w0 w1 w2 w3 w4 : Nat} (h0 : w0 < 9223372036854775808) (h1 : w1 < 9223372036854775808) (h2 : w2 < 9223372036854775808) (h3 : w3 < 9223372036854775808) (h4 : w4 < 9223372036854775808) {K : Int → Int → Int → Int → Int → Prop}
    (hk : ∀ c0 c1 c2 c3 c4 o : Nat, c0 < 2251799813685248 + 19 * (o + 1) → c1 < 2251799813685248 → c2 < 2251799813685248 → c3 < 2251799813685248 → c4 < 2251799813685248 → o * 2251799813685248 ≤ w4 + 4097 → o ≤ 4096 →
      val5 c0 c1 c2 c3 c4 + 57896044618658097711785492504343953926634992332820282019728792003956564819949 * o = val5 w0 w1 w2 w3 w4 → K (.ofNat c0) (.ofNat c1) (.ofNat c2) (.ofNat c3) (.ofNat c4)) :
    carM (.ofNat w0) (.ofNat w1) (.ofNat w2) (.ofNat w3) (.ofNat w4) K := by
  unfold carM
  have e64 : M64 = 18446744073709551616 := rfl
  have a0 : uadd (.ofNat w0) 0 = .ofNat w0 := by
    have : uadd (.ofNat w0) (.ofNat 0) = .ofNat w0 := by rw [uadd_nat]; congr 1; rw [e64]; omega
    exact this
  rw [a0]
  have st : ∀ w v : Nat, w < 9223372036854775808 → v ≤ 1000000 → uadd (.ofNat w) (.ofNat v) = .ofNat (w + v) := fun w v hw hv => by rw [uadd_nat]; congr 1; rw [e64]; omega
  simp only [shr51]
  rw [st w1 _ h1 (by omega)]
  simp only [shr51]
  rw [st w2 _ h2 (by omega)]
  simp only [shr51]
  rw [st w3 _ h3 (by omega)]
  simp only [shr51]
  rw [st w4 _ h4 (by omega)]
  simp only [shr51]
  rw [and51 (by rw [e64]; omega), and51 (by rw [e64]; omega), and51 (by rw [e64]; omega), and51 (by rw [e64]; omega), and51 (by rw [e64]; omega)]
  rw [times19 (by omega), st _ _ (by omega) (by omega)]
  refine hk _ _ _ _ _ ((w4 + (w3 + (w2 + (w1 + w0 / 2251799813685248) / 2251799813685248) / 2251799813685248) / 2251799813685248) / 2251799813685248) ?_ ?_ ?_ ?_ ?_ ?_ ?_ ?_
  · omega
  · omega
  · omega
  · omega
  · omega
  · omega
  · omega
  · unfold val5; omega
end
end Ev

/-
  Back from words to a number's bytes: what the code computes. Conditions: those named.
-/
namespace Ev
open Go Go.Proofs
noncomputable section

def endM (d0 d1 d2 d3 d4 : Int) (K : Int → Int → Int → Int → Int → Prop) : Prop :=
  (fun v0 => (fun v1 => (fun v2 => (fun v3 => (fun v4 =>
    (fun x0 => (fun x1 => (fun x2 => (fun x3 => (fun x4 => K (uand x0 m51) (uand x1 m51) (uand x2 m51) (uand x3 m51) (uand x4 m51))
      (uadd d4 (ushr x3 51))) (uadd d3 (ushr x2 51))) (uadd d2 (ushr x1 51))) (uadd d1 (ushr x0 51))) (uadd d0 (umul v4 19)))
    (ushr (uadd d4 v3) 51)) (ushr (uadd d3 v2) 51)) (ushr (uadd d2 v1) 51)) (ushr (uadd d1 v0) 51)) (ushr (uadd d0 19) 51)
def byteM (l0 l1 l2 l3 : Int) : List AV := [byt (w8 (ushr l0 0)), byt (w8 (ushr l0 8)), byt (w8 (ushr l0 16)), byt (w8 (ushr l0 24)), byt (w8 (ushr l0 32)), byt (w8 (ushr l0 40)), byt (w8 (ushr l0 48)), byt (w8 (ushr l0 56)), byt (w8 (ushr l1 0)), byt (w8 (ushr l1 8)), byt (w8 (ushr l1 16)), byt (w8 (ushr l1 24)), byt (w8 (ushr l1 32)), byt (w8 (ushr l1 40)), byt (w8 (ushr l1 48)), byt (w8 (ushr l1 56)), byt (w8 (ushr l2 0)), byt (w8 (ushr l2 8)), byt (w8 (ushr l2 16)), byt (w8 (ushr l2 24)), byt (w8 (ushr l2 32)), byt (w8 (ushr l2 40)), byt (w8 (ushr l2 48)), byt (w8 (ushr l2 56)), byt (w8 (ushr l3 0)), byt (w8 (ushr l3 8)), byt (w8 (ushr l3 16)), byt (w8 (ushr l3 24)), byt (w8 (ushr l3 32)), byt (w8 (ushr l3 40)), byt (w8 (ushr l3 48)), byt (w8 (ushr l3 56))]
def packM (e0 e1 e2 e3 e4 : Int) : AV := .agg (byteM (uor e0 (ushl e1 51)) (uor (ushr e1 13) (ushl e2 38)) (uor (ushr e2 26) (ushl e3 25)) (uor (ushr e3 39) (ushl e4 12)))
def closeM (w0 w1 w2 w3 w4 : Int) (K : AV → Prop) : Prop :=
  carM w0 w1 w2 w3 w4 fun c0 c1 c2 c3 c4 => carM c0 c1 c2 c3 c4 fun d0 d1 d2 d3 d4 => endM d0 d1 d2 d3 d4 fun e0 e1 e2 e3 e4 => K (packM e0 e1 e2 e3 e4)
theorem close_wp (w0 w1 w2 w3 w4 : Int) (K : AV → Prop) : (closeM w0 w1 w2 w3 w4 fun r => ∀ _ : AMem, K r) = wpCall noEx (pEnv []) (fun _ => none) 1000 (.fn 50) [wordsA w0 w1 w2 w3 w4] ⟨0, .nil⟩ (fun r _ => ∀ _ : AMem, K r) := by kernel_rfl
end
end Ev

/-
  Back from words to a number's bytes, in Nat: the rest by 2^255 - 19. Conditions: words below 2^63.
-/
namespace Ev
open Go Go.Proofs
noncomputable section

def pF : Nat := 57896044618658097711785492504343953926634992332820282019728792003956564819949

def encL : Nat → Nat → List AV
  | 0, _ => []
  | n + 1, V => .int .u8 (.ofNat (V % 256)) :: encL n (V / 256)

theorem end_nat {d0 d1 d2 d3 d4 : Nat} (h0 : d0 < 2251799813685348) (h1 : d1 < 2251799813685248) (h2 : d2 < 2251799813685248) (h3 : d3 < 2251799813685248) (h4 : d4 < 2251799813685248) {K : Int → Int → Int → Int → Int → Prop}
    (hk : ∀ e0 e1 e2 e3 e4 : Nat, e0 < 2251799813685248 → e1 < 2251799813685248 → e2 < 2251799813685248 → e3 < 2251799813685248 → e4 < 2251799813685248 →
      val5 e0 e1 e2 e3 e4 = val5 d0 d1 d2 d3 d4 % pF → K (.ofNat e0) (.ofNat e1) (.ofNat e2) (.ofNat e3) (.ofNat e4)) :
    endM (.ofNat d0) (.ofNat d1) (.ofNat d2) (.ofNat d3) (.ofNat d4) K := by
  unfold endM
  have e64 : M64 = 18446744073709551616 := rfl
  have st : ∀ w v : Nat, w < 9223372036854775808 → v ≤ 1000000 → uadd (.ofNat w) (.ofNat v) = .ofNat (w + v) := fun w v hw hv => by rw [uadd_nat]; congr 1; rw [e64]; omega
  rw [show (19 : Int) = .ofNat 19 from rfl]
  rw [st d0 19 (by omega) (by omega)]
  simp only [shr51]
  rw [st d1 _ (by omega) (by omega)]
  simp only [shr51]
  rw [st d2 _ (by omega) (by omega)]
  simp only [shr51]
  rw [st d3 _ (by omega) (by omega)]
  simp only [shr51]
  rw [st d4 _ (by omega) (by omega)]
  simp only [shr51]
  rw [show Int.ofNat 19 = (19 : Int) from rfl, times19 (by omega)]
  obtain ⟨q, hq⟩ : ∃ q, (d4 + (d3 + (d2 + (d1 + (d0 + 19) / 2251799813685248) / 2251799813685248) / 2251799813685248) / 2251799813685248) / 2251799813685248 = q := ⟨_, rfl⟩
  rw [hq]
  have hq1 : q ≤ 1 := by omega
  have hD : q * 57896044618658097711785492504343953926634992332820282019728792003956564819949 ≤ val5 d0 d1 d2 d3 d4 ∧ val5 d0 d1 d2 d3 d4 < (q + 1) * 57896044618658097711785492504343953926634992332820282019728792003956564819949 := by
    unfold val5
    have : q = 0 ∨ q = 1 := by omega
    rcases this with rfl | rfl <;> omega
  have hm : val5 d0 d1 d2 d3 d4 % pF = val5 d0 d1 d2 d3 d4 - q * 57896044618658097711785492504343953926634992332820282019728792003956564819949 := by
    have : q = 0 ∨ q = 1 := by omega
    simp only [pF]
    rcases this with rfl | rfl <;> omega
  rw [st d0 _ (by omega) (by omega)]
  simp only [shr51]
  rw [st d1 _ (by omega) (by omega)]
  simp only [shr51]
  rw [st d2 _ (by omega) (by omega)]
  simp only [shr51]
  rw [st d3 _ (by omega) (by omega)]
  simp only [shr51]
  rw [st d4 _ (by omega) (by omega)]
  rw [and51 (by rw [e64]; omega), and51 (by rw [e64]; omega), and51 (by rw [e64]; omega), and51 (by rw [e64]; omega), and51 (by rw [e64]; omega)]
  refine hk _ _ _ _ _ (by omega) (by omega) (by omega) (by omega) (by omega) ?_
  rw [hm]
  clear hm
  unfold val5 at *
  have : q = 0 ∨ q = 1 := by omega
  rcases this with rfl | rfl <;> omega


theorem byte_nat {l0 l1 l2 l3 : Nat} (h0 : l0 < M64) (h1 : l1 < M64) (h2 : l2 < M64) :
    byteM (.ofNat l0) (.ofNat l1) (.ofNat l2) (.ofNat l3) = encL 32 (l0 + 18446744073709551616 * l1 + 340282366920938463463374607431768211456 * l2 + 6277101735386680763835789423207666416102355444464034512896 * l3) := by
  have g0 : w8 (ushr (.ofNat l0) 0) = .ofNat (l0 / 1 % 256) := by
    rw [ushr_nat _ 0 (by decide)]; exact wrap8 _
  have g1 : w8 (ushr (.ofNat l0) 8) = .ofNat (l0 / 256 % 256) := by
    rw [ushr_nat _ 8 (by decide)]; exact wrap8 _
  have g2 : w8 (ushr (.ofNat l0) 16) = .ofNat (l0 / 65536 % 256) := by
    rw [ushr_nat _ 16 (by decide)]; exact wrap8 _
  have g3 : w8 (ushr (.ofNat l0) 24) = .ofNat (l0 / 16777216 % 256) := by
    rw [ushr_nat _ 24 (by decide)]; exact wrap8 _
  have g4 : w8 (ushr (.ofNat l0) 32) = .ofNat (l0 / 4294967296 % 256) := by
    rw [ushr_nat _ 32 (by decide)]; exact wrap8 _
  have g5 : w8 (ushr (.ofNat l0) 40) = .ofNat (l0 / 1099511627776 % 256) := by
    rw [ushr_nat _ 40 (by decide)]; exact wrap8 _
  have g6 : w8 (ushr (.ofNat l0) 48) = .ofNat (l0 / 281474976710656 % 256) := by
    rw [ushr_nat _ 48 (by decide)]; exact wrap8 _
  have g7 : w8 (ushr (.ofNat l0) 56) = .ofNat (l0 / 72057594037927936 % 256) := by
    rw [ushr_nat _ 56 (by decide)]; exact wrap8 _
  have g8 : w8 (ushr (.ofNat l1) 0) = .ofNat (l1 / 1 % 256) := by
    rw [ushr_nat _ 0 (by decide)]; exact wrap8 _
  have g9 : w8 (ushr (.ofNat l1) 8) = .ofNat (l1 / 256 % 256) := by
    rw [ushr_nat _ 8 (by decide)]; exact wrap8 _
  have g10 : w8 (ushr (.ofNat l1) 16) = .ofNat (l1 / 65536 % 256) := by
    rw [ushr_nat _ 16 (by decide)]; exact wrap8 _
  have g11 : w8 (ushr (.ofNat l1) 24) = .ofNat (l1 / 16777216 % 256) := by
    rw [ushr_nat _ 24 (by decide)]; exact wrap8 _
  have g12 : w8 (ushr (.ofNat l1) 32) = .ofNat (l1 / 4294967296 % 256) := by
    rw [ushr_nat _ 32 (by decide)]; exact wrap8 _
  have g13 : w8 (ushr (.ofNat l1) 40) = .ofNat (l1 / 1099511627776 % 256) := by
    rw [ushr_nat _ 40 (by decide)]; exact wrap8 _
  have g14 : w8 (ushr (.ofNat l1) 48) = .ofNat (l1 / 281474976710656 % 256) := by
    rw [ushr_nat _ 48 (by decide)]; exact wrap8 _
  have g15 : w8 (ushr (.ofNat l1) 56) = .ofNat (l1 / 72057594037927936 % 256) := by
    rw [ushr_nat _ 56 (by decide)]; exact wrap8 _
  have g16 : w8 (ushr (.ofNat l2) 0) = .ofNat (l2 / 1 % 256) := by
    rw [ushr_nat _ 0 (by decide)]; exact wrap8 _
  have g17 : w8 (ushr (.ofNat l2) 8) = .ofNat (l2 / 256 % 256) := by
    rw [ushr_nat _ 8 (by decide)]; exact wrap8 _
  have g18 : w8 (ushr (.ofNat l2) 16) = .ofNat (l2 / 65536 % 256) := by
    rw [ushr_nat _ 16 (by decide)]; exact wrap8 _
  have g19 : w8 (ushr (.ofNat l2) 24) = .ofNat (l2 / 16777216 % 256) := by
    rw [ushr_nat _ 24 (by decide)]; exact wrap8 _
  have g20 : w8 (ushr (.ofNat l2) 32) = .ofNat (l2 / 4294967296 % 256) := by
    rw [ushr_nat _ 32 (by decide)]; exact wrap8 _
  have g21 : w8 (ushr (.ofNat l2) 40) = .ofNat (l2 / 1099511627776 % 256) := by
    rw [ushr_nat _ 40 (by decide)]; exact wrap8 _
  have g22 : w8 (ushr (.ofNat l2) 48) = .ofNat (l2 / 281474976710656 % 256) := by
    rw [ushr_nat _ 48 (by decide)]; exact wrap8 _
  have g23 : w8 (ushr (.ofNat l2) 56) = .ofNat (l2 / 72057594037927936 % 256) := by
    rw [ushr_nat _ 56 (by decide)]; exact wrap8 _
  have g24 : w8 (ushr (.ofNat l3) 0) = .ofNat (l3 / 1 % 256) := by
    rw [ushr_nat _ 0 (by decide)]; exact wrap8 _
  have g25 : w8 (ushr (.ofNat l3) 8) = .ofNat (l3 / 256 % 256) := by
    rw [ushr_nat _ 8 (by decide)]; exact wrap8 _
  have g26 : w8 (ushr (.ofNat l3) 16) = .ofNat (l3 / 65536 % 256) := by
    rw [ushr_nat _ 16 (by decide)]; exact wrap8 _
  have g27 : w8 (ushr (.ofNat l3) 24) = .ofNat (l3 / 16777216 % 256) := by
    rw [ushr_nat _ 24 (by decide)]; exact wrap8 _
  have g28 : w8 (ushr (.ofNat l3) 32) = .ofNat (l3 / 4294967296 % 256) := by
    rw [ushr_nat _ 32 (by decide)]; exact wrap8 _
  have g29 : w8 (ushr (.ofNat l3) 40) = .ofNat (l3 / 1099511627776 % 256) := by
    rw [ushr_nat _ 40 (by decide)]; exact wrap8 _
  have g30 : w8 (ushr (.ofNat l3) 48) = .ofNat (l3 / 281474976710656 % 256) := by
    rw [ushr_nat _ 48 (by decide)]; exact wrap8 _
  have g31 : w8 (ushr (.ofNat l3) 56) = .ofNat (l3 / 72057594037927936 % 256) := by
    rw [ushr_nat _ 56 (by decide)]; exact wrap8 _
  unfold byteM
  rw [g0, g1, g2, g3, g4, g5, g6, g7, g8, g9, g10, g11, g12, g13, g14, g15, g16, g17, g18, g19, g20, g21, g22, g23, g24, g25, g26, g27, g28, g29, g30, g31]
  simp only [M64] at *
  simp only [encL, byt, Nat.div_div_eq_div_mul, List.cons.injEq, AV.int.injEq, true_and, and_true, Int.ofNat_eq_natCast, Int.natCast_inj, Nat.reduceMul, Nat.div_one]
  refine ⟨?_, ?_, ?_, ?_, ?_, ?_, ?_, ?_, ?_, ?_, ?_, ?_, ?_, ?_, ?_, ?_, ?_, ?_, ?_, ?_, ?_, ?_, ?_, ?_, ?_, ?_, ?_, ?_, ?_, ?_, ?_, ?_⟩ <;> omega


theorem low_nat {a b k j : Nat} (hj : j ≤ 64) (hkj : 2 ^ k * 2 ^ j = M64) (ha : a < 2 ^ j) (K : 2 ^ j ≤ M64) : uor (.ofNat a) (ushl (.ofNat b) j) = .ofNat (a + 2 ^ j * (b % 2 ^ k)) := by
  rw [ushl_nat _ _ hj, uor_nat]
  have e2 : b * 2 ^ j % M64 % M64 = 2 ^ j * (b % 2 ^ k) := by
    rw [Nat.mod_mod, ← hkj, Nat.mul_mod_mul_right, Nat.mul_comm]
  rw [Nat.mod_eq_of_lt (Nat.lt_of_lt_of_le ha K), e2, Nat.or_comm, ← Nat.two_pow_add_eq_or_of_lt ha, Nat.add_comm]
theorem pack_nat {e0 e1 e2 e3 e4 : Nat} (h0 : e0 < 2251799813685248) (h1 : e1 < 2251799813685248) (h2 : e2 < 2251799813685248) (h3 : e3 < 2251799813685248) (h4 : e4 < 2251799813685248) :
    packM (.ofNat e0) (.ofNat e1) (.ofNat e2) (.ofNat e3) (.ofNat e4) = .agg (encL 32 (val5 e0 e1 e2 e3 e4)) := by
  unfold packM
  rw [low_nat (k := 13) (j := 51) (by decide) (by decide) h0 (by decide), ushr_nat e1 13 (by decide), low_nat (k := 26) (j := 38) (by decide) (by decide) (by omega) (by decide), ushr_nat e2 26 (by decide), low_nat (k := 39) (j := 25) (by decide) (by decide) (by omega) (by decide),
    ushr_nat e3 39 (by decide), low_nat (k := 52) (j := 12) (by decide) (by decide) (by omega) (by decide), byte_nat (by simp only [M64]; omega) (by simp only [M64]; omega) (by simp only [M64]; omega)]
  congr 2
  unfold val5
  omega
theorem close_nat {w0 w1 w2 w3 w4 : Nat} (h0 : w0 < 9223372036854775808) (h1 : w1 < 9223372036854775808) (h2 : w2 < 9223372036854775808) (h3 : w3 < 9223372036854775808) (h4 : w4 < 9223372036854775808) {K : AV → Prop}
    (hk : K (.agg (encL 32 (val5 w0 w1 w2 w3 w4 % pF)))) : closeM (.ofNat w0) (.ofNat w1) (.ofNat w2) (.ofNat w3) (.ofNat w4) K := by
  unfold closeM
  refine carM_nat h0 h1 h2 h3 h4 fun c0 c1 c2 c3 c4 o g0 g1 g2 g3 g4 _ go hv => ?_
  refine carM_nat (by omega) (by omega) (by omega) (by omega) (by omega) fun d0 d1 d2 d3 d4 o' k0 k1 k2 k3 k4 go1 _ hv' => ?_
  refine end_nat (by omega) k1 k2 k3 k4 fun e0 e1 e2 e3 e4 m0 m1 m2 m3 m4 hm => ?_
  rw [pack_nat m0 m1 m2 m3 m4, hm]
  have : val5 w0 w1 w2 w3 w4 % pF = val5 d0 d1 d2 d3 d4 % pF := by
    rw [← hv, ← hv', show 57896044618658097711785492504343953926634992332820282019728792003956564819949 = pF from rfl, Nat.add_mul_mod_self_left, Nat.add_mul_mod_self_left]
  rw [← this]; exact hk
end
end Ev
