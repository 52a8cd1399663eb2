/-
  Back from words to a number's bytes, in Nat: the rest by 2^255 - 19. Conditions: words below 2^63.
-/
import Derived.Test.YtmbkjhcmbbcphaaG3
namespace Ev
open Go Go.Proofs
noncomputable section

def pF : Nat := 57896044618658097711785492504343953926634992332820282019728792003956564819949

def encL : Nat → Nat → List AV
  | 0, _ => []
  | n + 1, V => .int .u8 (.ofNat (V % 256)) :: encL n (V / 256)

theorem end_nat {d0 d1 d2 d3 d4 : Nat} (h0 : d0 < 2251799813685348) (h1 : d1 < 2251799813685248) (h2 : d2 < 2251799813685248) (h3 : d3 < 2251799813685248) (h4 : d4 < 2251799813685248) {K : Int → Int → Int → Int → Int → Prop}
    (hk : ∀ e0 e1 e2 e3 e4 : Nat, e0 < 2251799813685248 → e1 < 2251799813685248 → e2 < 2251799813685248 → e3 < 2251799813685248 → e4 < 2251799813685248 →
      val5 e0 e1 e2 e3 e4 = val5 d0 d1 d2 d3 d4 % pF → K (.ofNat e0) (.ofNat e1) (.ofNat e2) (.ofNat e3) (.ofNat e4)) :
    endM (.ofNat d0) (.ofNat d1) (.ofNat d2) (.ofNat d3) (.ofNat d4) K := by
  unfold endM
  have e64 : M64 = 18446744073709551616 := rfl
  have st : ∀ w v : Nat, w < 9223372036854775808 → v ≤ 1000000 → uadd (.ofNat w) (.ofNat v) = .ofNat (w + v) := fun w v hw hv => by rw [uadd_nat]; congr 1; rw [e64]; omega
  rw [show (19 : Int) = .ofNat 19 from rfl]
  rw [st d0 19 (by omega) (by omega)]
  simp only [shr51]
  rw [st d1 _ (by omega) (by omega)]
  simp only [shr51]
  rw [st d2 _ (by omega) (by omega)]
  simp only [shr51]
  rw [st d3 _ (by omega) (by omega)]
  simp only [shr51]
  rw [st d4 _ (by omega) (by omega)]
  simp only [shr51]
  rw [show Int.ofNat 19 = (19 : Int) from rfl, times19 (by omega)]
  obtain ⟨q, hq⟩ : ∃ q, (d4 + (d3 + (d2 + (d1 + (d0 + 19) / 2251799813685248) / 2251799813685248) / 2251799813685248) / 2251799813685248) / 2251799813685248 = q := ⟨_, rfl⟩
  rw [hq]
  have hq1 : q ≤ 1 := by omega
  have hD : q * 57896044618658097711785492504343953926634992332820282019728792003956564819949 ≤ val5 d0 d1 d2 d3 d4 ∧ val5 d0 d1 d2 d3 d4 < (q + 1) * 57896044618658097711785492504343953926634992332820282019728792003956564819949 := by
    unfold val5
    have : q = 0 ∨ q = 1 := by omega
    rcases this with rfl | rfl <;> omega
  have hm : val5 d0 d1 d2 d3 d4 % pF = val5 d0 d1 d2 d3 d4 - q * 57896044618658097711785492504343953926634992332820282019728792003956564819949 := by
    have : q = 0 ∨ q = 1 := by omega
    simp only [pF]
    rcases this with rfl | rfl <;> omega
  rw [st d0 _ (by omega) (by omega)]
  simp only [shr51]
  rw [st d1 _ (by omega) (by omega)]
  simp only [shr51]
  rw [st d2 _ (by omega) (by omega)]
  simp only [shr51]
  rw [st d3 _ (by omega) (by omega)]
  simp only [shr51]
  rw [st d4 _ (by omega) (by omega)]
  rw [and51 (by rw [e64]; omega), and51 (by rw [e64]; omega), and51 (by rw [e64]; omega), and51 (by rw [e64]; omega), and51 (by rw [e64]; omega)]
  refine hk _ _ _ _ _ (by omega) (by omega) (by omega) (by omega) (by omega) ?_
  rw [hm]
  clear hm
  unfold val5 at *
  have : q = 0 ∨ q = 1 := by omega
  rcases this with rfl | rfl <;> omega


theorem byte_nat {l0 l1 l2 l3 : Nat} (h0 : l0 < M64) (h1 : l1 < M64) (h2 : l2 < M64) :
    byteM (.ofNat l0) (.ofNat l1) (.ofNat l2) (.ofNat l3) = encL 32 (l0 + 18446744073709551616 * l1 + 340282366920938463463374607431768211456 * l2 + 6277101735386680763835789423207666416102355444464034512896 * l3) := by
  have g0 : w8 (ushr (.ofNat l0) 0) = .ofNat (l0 / 1 % 256) := by
    rw [ushr_nat _ 0 (by decide)]; exact wrap8 _
  have g1 : w8 (ushr (.ofNat l0) 8) = .ofNat (l0 / 256 % 256) := by
    rw [ushr_nat _ 8 (by decide)]; exact wrap8 _
  have g2 : w8 (ushr (.ofNat l0) 16) = .ofNat (l0 / 65536 % 256) := by
    rw [ushr_nat _ 16 (by decide)]; exact wrap8 _
  have g3 : w8 (ushr (.ofNat l0) 24) = .ofNat (l0 / 16777216 % 256) := by
    rw [ushr_nat _ 24 (by decide)]; exact wrap8 _
  have g4 : w8 (ushr (.ofNat l0) 32) = .ofNat (l0 / 4294967296 % 256) := by
    rw [ushr_nat _ 32 (by decide)]; exact wrap8 _
  have g5 : w8 (ushr (.ofNat l0) 40) = .ofNat (l0 / 1099511627776 % 256) := by
    rw [ushr_nat _ 40 (by decide)]; exact wrap8 _
  have g6 : w8 (ushr (.ofNat l0) 48) = .ofNat (l0 / 281474976710656 % 256) := by
    rw [ushr_nat _ 48 (by decide)]; exact wrap8 _
  have g7 : w8 (ushr (.ofNat l0) 56) = .ofNat (l0 / 72057594037927936 % 256) := by
    rw [ushr_nat _ 56 (by decide)]; exact wrap8 _
  have g8 : w8 (ushr (.ofNat l1) 0) = .ofNat (l1 / 1 % 256) := by
    rw [ushr_nat _ 0 (by decide)]; exact wrap8 _
  have g9 : w8 (ushr (.ofNat l1) 8) = .ofNat (l1 / 256 % 256) := by
    rw [ushr_nat _ 8 (by decide)]; exact wrap8 _
  have g10 : w8 (ushr (.ofNat l1) 16) = .ofNat (l1 / 65536 % 256) := by
    rw [ushr_nat _ 16 (by decide)]; exact wrap8 _
  have g11 : w8 (ushr (.ofNat l1) 24) = .ofNat (l1 / 16777216 % 256) := by
    rw [ushr_nat _ 24 (by decide)]; exact wrap8 _
  have g12 : w8 (ushr (.ofNat l1) 32) = .ofNat (l1 / 4294967296 % 256) := by
    rw [ushr_nat _ 32 (by decide)]; exact wrap8 _
  have g13 : w8 (ushr (.ofNat l1) 40) = .ofNat (l1 / 1099511627776 % 256) := by
    rw [ushr_nat _ 40 (by decide)]; exact wrap8 _
  have g14 : w8 (ushr (.ofNat l1) 48) = .ofNat (l1 / 281474976710656 % 256) := by
    rw [ushr_nat _ 48 (by decide)]; exact wrap8 _
  have g15 : w8 (ushr (.ofNat l1) 56) = .ofNat (l1 / 72057594037927936 % 256) := by
    rw [ushr_nat _ 56 (by decide)]; exact wrap8 _
  have g16 : w8 (ushr (.ofNat l2) 0) = .ofNat (l2 / 1 % 256) := by
    rw [ushr_nat _ 0 (by decide)]; exact wrap8 _
  have g17 : w8 (ushr (.ofNat l2) 8) = .ofNat (l2 / 256 % 256) := by
    rw [ushr_nat _ 8 (by decide)]; exact wrap8 _
  have g18 : w8 (ushr (.ofNat l2) 16) = .ofNat (l2 / 65536 % 256) := by
    rw [ushr_nat _ 16 (by decide)]; exact wrap8 _
  have g19 : w8 (ushr (.ofNat l2) 24) = .ofNat (l2 / 16777216 % 256) := by
    rw [ushr_nat _ 24 (by decide)]; exact wrap8 _
  have g20 : w8 (ushr (.ofNat l2) 32) = .ofNat (l2 / 4294967296 % 256) := by
    rw [ushr_nat _ 32 (by decide)]; exact wrap8 _
  have g21 : w8 (ushr (.ofNat l2) 40) = .ofNat (l2 / 1099511627776 % 256) := by
    rw [ushr_nat _ 40 (by decide)]; exact wrap8 _
  have g22 : w8 (ushr (.ofNat l2) 48) = .ofNat (l2 / 281474976710656 % 256) := by
    rw [ushr_nat _ 48 (by decide)]; exact wrap8 _
  have g23 : w8 (ushr (.ofNat l2) 56) = .ofNat (l2 / 72057594037927936 % 256) := by
    rw [ushr_nat _ 56 (by decide)]; exact wrap8 _
  have g24 : w8 (ushr (.ofNat l3) 0) = .ofNat (l3 / 1 % 256) := by
    rw [ushr_nat _ 0 (by decide)]; exact wrap8 _
  have g25 : w8 (ushr (.ofNat l3) 8) = .ofNat (l3 / 256 % 256) := by
    rw [ushr_nat _ 8 (by decide)]; exact wrap8 _
  have g26 : w8 (ushr (.ofNat l3) 16) = .ofNat (l3 / 65536 % 256) := by
    rw [ushr_nat _ 16 (by decide)]; exact wrap8 _
  have g27 : w8 (ushr (.ofNat l3) 24) = .ofNat (l3 / 16777216 % 256) := by
    rw [ushr_nat _ 24 (by decide)]; exact wrap8 _
  have g28 : w8 (ushr (.ofNat l3) 32) = .ofNat (l3 / 4294967296 % 256) := by
    rw [ushr_nat _ 32 (by decide)]; exact wrap8 _
  have g29 : w8 (ushr (.ofNat l3) 40) = .ofNat (l3 / 1099511627776 % 256) := by
    rw [ushr_nat _ 40 (by decide)]; exact wrap8 _
  have g30 : w8 (ushr (.ofNat l3) 48) = .ofNat (l3 / 281474976710656 % 256) := by
    rw [ushr_nat _ 48 (by decide)]; exact wrap8 _
  have g31 : w8 (ushr (.ofNat l3) 56) = .ofNat (l3 / 72057594037927936 % 256) := by
    rw [ushr_nat _ 56 (by decide)]; exact wrap8 _
  unfold byteM
  rw [g0, g1, g2, g3, g4, g5, g6, g7, g8, g9, g10, g11, g12, g13, g14, g15, g16, g17, g18, g19, g20, g21, g22, g23, g24, g25, g26, g27, g28, g29, g30, g31]
  simp only [M64] at *
  simp only [encL, byt, Nat.div_div_eq_div_mul, List.cons.injEq, AV.int.injEq, true_and, and_true, Int.ofNat_eq_natCast, Int.natCast_inj, Nat.reduceMul, Nat.div_one]
  refine ⟨?_, ?_, ?_, ?_, ?_, ?_, ?_, ?_, ?_, ?_, ?_, ?_, ?_, ?_, ?_, ?_, ?_, ?_, ?_, ?_, ?_, ?_, ?_, ?_, ?_, ?_, ?_, ?_, ?_, ?_, ?_, ?_⟩ <;> omega


theorem low_nat {a b k j : Nat} (hj : j ≤ 64) (hkj : 2 ^ k * 2 ^ j = M64) (ha : a < 2 ^ j) (K : 2 ^ j ≤ M64) : uor (.ofNat a) (ushl (.ofNat b) j) = .ofNat (a + 2 ^ j * (b % 2 ^ k)) := by
  rw [ushl_nat _ _ hj, uor_nat]
  have e2 : b * 2 ^ j % M64 % M64 = 2 ^ j * (b % 2 ^ k) := by
    rw [Nat.mod_mod, ← hkj, Nat.mul_mod_mul_right, Nat.mul_comm]
  rw [Nat.mod_eq_of_lt (Nat.lt_of_lt_of_le ha K), e2, Nat.or_comm, ← Nat.two_pow_add_eq_or_of_lt ha, Nat.add_comm]
theorem pack_nat {e0 e1 e2 e3 e4 : Nat} (h0 : e0 < 2251799813685248) (h1 : e1 < 2251799813685248) (h2 : e2 < 2251799813685248) (h3 : e3 < 2251799813685248) (h4 : e4 < 2251799813685248) :
    packM (.ofNat e0) (.ofNat e1) (.ofNat e2) (.ofNat e3) (.ofNat e4) = .agg (encL 32 (val5 e0 e1 e2 e3 e4)) := by
  unfold packM
  rw [low_nat (k := 13) (j := 51) (by decide) (by decide) h0 (by decide), ushr_nat e1 13 (by decide), low_nat (k := 26) (j := 38) (by decide) (by decide) (by omega) (by decide), ushr_nat e2 26 (by decide), low_nat (k := 39) (j := 25) (by decide) (by decide) (by omega) (by decide),
    ushr_nat e3 39 (by decide), low_nat (k := 52) (j := 12) (by decide) (by decide) (by omega) (by decide), byte_nat (by simp only [M64]; omega) (by simp only [M64]; omega) (by simp only [M64]; omega)]
  congr 2
  unfold val5
  omega
theorem close_nat {w0 w1 w2 w3 w4 : Nat} (h0 : w0 < 9223372036854775808) (h1 : w1 < 9223372036854775808) (h2 : w2 < 9223372036854775808) (h3 : w3 < 9223372036854775808) (h4 : w4 < 9223372036854775808) {K : AV → Prop}
    (hk : K (.agg (encL 32 (val5 w0 w1 w2 w3 w4 % pF)))) : closeM (.ofNat w0) (.ofNat w1) (.ofNat w2) (.ofNat w3) (.ofNat w4) K := by
  unfold closeM
  refine carM_nat h0 h1 h2 h3 h4 fun c0 c1 c2 c3 c4 o g0 g1 g2 g3 g4 _ go hv => ?_
  refine carM_nat (by omega) (by omega) (by omega) (by omega) (by omega) fun d0 d1 d2 d3 d4 o' k0 k1 k2 k3 k4 go1 _ hv' => ?_
  refine end_nat (by omega) k1 k2 k3 k4 fun e0 e1 e2 e3 e4 m0 m1 m2 m3 m4 hm => ?_
  rw [pack_nat m0 m1 m2 m3 m4, hm]
  have : val5 w0 w1 w2 w3 w4 % pF = val5 d0 d1 d2 d3 d4 % pF := by
    rw [← hv, ← hv', show 57896044618658097711785492504343953926634992332820282019728792003956564819949 = pF from rfl, Nat.add_mul_mod_self_left, Nat.add_mul_mod_self_left]
  rw [← this]; exact hk
end
end Ev
