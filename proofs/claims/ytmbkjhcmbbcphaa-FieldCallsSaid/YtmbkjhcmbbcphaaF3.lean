/-
  The product of two numbers of five words, in Nat. Conditions: words below 2^53.
-/
import Derived.Test.YtmbkjhcmbbcphaaF2
namespace Ev
open Go Go.Proofs
noncomputable section

theorem nat_of (n : Nat) : (Int.ofNat n).toNat = n := rfl
theorem inU_of {n : Nat} (h : n < M64) : inU (.ofNat n) := ⟨Int.natCast_nonneg n, by have : n < 18446744073709551616 := h; exact Int.ofNat_lt.2 this⟩
theorem plus_step {V a b : Nat} {K : Int → Int → Prop} (hV : V + a * b < M64 * M64) (ha : a < M64) (hb : b < M64)
    (hk : K (.ofNat ((V + a * b) / M64)) (.ofNat ((V + a * b) % M64))) : plusQ (.ofNat (V / M64)) (.ofNat (V % M64)) (.ofNat a) (.ofNat b) K := by
  have hp : plusV (V / M64) (V % M64) a b = V + a * b := by
    unfold plusV
    have := Nat.div_add_mod V M64
    rw [Nat.mul_comm (V / M64) M64]; omega
  have h1 : V / M64 < M64 := Nat.div_lt_of_lt_mul (by omega)
  refine ⟨⟨inU_of h1, inU_of (Nat.mod_lt _ (by decide)), inU_of ha, inU_of hb⟩, fun s d hs hd => ?_⟩
  rw [nat_of, nat_of, nat_of, nat_of, hp] at hs hd
  have : (V + a * b) / M64 < M64 := Nat.div_lt_of_lt_mul hV
  rw [Nat.mod_eq_of_lt this] at hs
  rw [hs, hd]; exact hk
theorem plus_zero {a b : Nat} {K : Int → Int → Prop} (hV : a * b < M64 * M64) (ha : a < M64) (hb : b < M64)
    (hk : K (.ofNat ((a * b) / M64)) (.ofNat ((a * b) % M64))) : plusQ 0 0 (.ofNat a) (.ofNat b) K := by
  have := plus_step (V := 0) (K := K) (by omega) ha hb (by rw [Nat.zero_add]; exact hk)
  exact this
theorem shr51 (n : Nat) : ushr (.ofNat n) 51 = .ofNat (n / 2251799813685248) := ushr_nat n 51 (by decide)
theorem and51 {n : Nat} (h : n < M64) : uand (.ofNat n) m51 = .ofNat (n % 2251799813685248) := by
  have e : m51 = .ofNat 2251799813685247 := rfl
  rw [e, uand_nat, Nat.mod_eq_of_lt h, show 2251799813685247 % M64 = 2 ^ 51 - 1 by decide, Nat.and_two_pow_sub_one_eq_mod]
theorem over51 {W : Nat} (h : W < 41538374868278621028243970633760768) : uor (ushl (.ofNat (W / M64)) 13) (ushr (.ofNat (W % M64)) 51) = .ofNat (W / 2251799813685248) := by
  rw [ushl_nat _ 13 (by decide), shr51, uor_nat]
  congr 1
  have h1 : W / M64 * 2 ^ 13 % M64 % M64 = 2 ^ 13 * (W / M64) := by simp only [M64]; omega
  have h2 : W % M64 / 2251799813685248 % M64 = W % M64 / 2251799813685248 := by simp only [M64]; omega
  rw [h1, h2, ← Nat.two_pow_add_eq_or_of_lt (by simp only [M64]; omega)]
  simp only [M64]; omega
theorem car_step {V v : Nat} {K : Int → Int → Prop} (hV : V + v < 41538374868278621028243970633760768) (hv : v < M64)
    (hk : K (.ofNat ((V + v) % 2251799813685248)) (.ofNat ((V + v) / 2251799813685248))) : carP (.ofNat (V / M64)) (.ofNat (V % M64)) (.ofNat v) K := by
  refine ⟨⟨Int.natCast_nonneg _, Int.natCast_nonneg _, by decide, by decide⟩, fun s d hs hd => ?_⟩
  rw [nat_of, nat_of, show (0 : Int).toNat = 0 from rfl, Nat.add_zero] at hs hd
  subst hs hd
  have e1 : (V % M64 + v) % M64 = (V + v) % M64 := by simp only [M64]; omega
  have e2 : uadd (.ofNat (V / M64)) (.ofNat ((V % M64 + v) / M64)) = .ofNat ((V + v) / M64) := by
    rw [uadd_nat]; congr 1; simp only [M64] at *; omega
  rw [e1, e2, over51 hV, and51 (Nat.mod_lt _ (by decide))]
  have e3 : (V + v) % M64 % 2251799813685248 = (V + v) % 2251799813685248 := by simp only [M64]; omega
  rw [e3]; exact hk
theorem end_step {v o0 o1 : Nat} {K : Int → Int → Prop} (hv : v < M64) (h0 : o0 < 2251799813685248) (h1 : o1 < 2251799813685248)
    (hk : K (.ofNat ((v * 19 + o0) % 2251799813685248)) (.ofNat (o1 + (v * 19 + o0) / 2251799813685248))) :
    mul64P (.ofNat v) 19 fun h l => add64P l (.ofNat o0) 0 fun l c => K (uand l m51) (uadd (.ofNat o1) (uor (ushl (uadd h c) 13) (ushr l 51))) := by
  refine ⟨⟨inU_of hv, by decide, by decide⟩, fun s d hs hd => ?_⟩
  rw [nat_of, show (19 : Int).toNat = 19 from rfl] at hs hd
  subst hs hd
  refine ⟨⟨Int.natCast_nonneg _, Int.natCast_nonneg _, by decide, by decide⟩, fun s d hs hd => ?_⟩
  rw [nat_of, nat_of, show (0 : Int).toNat = 0 from rfl, Nat.add_zero] at hs hd
  subst hs hd
  have e1 : (v * 19 % M64 + o0) % M64 = (v * 19 + o0) % M64 := by simp only [M64]; omega
  have e2 : uadd (.ofNat (v * 19 / M64)) (.ofNat ((v * 19 % M64 + o0) / M64)) = .ofNat ((v * 19 + o0) / M64) := by
    rw [uadd_nat]; congr 1; simp only [M64] at *; omega
  rw [e1, e2, over51 (by simp only [M64] at *; omega), and51 (Nat.mod_lt _ (by decide)), uadd_nat]
  have e3 : (v * 19 + o0) % M64 % 2251799813685248 = (v * 19 + o0) % 2251799813685248 := by simp only [M64]; omega
  have e4 : (o1 + (v * 19 + o0) / 2251799813685248) % M64 = o1 + (v * 19 + o0) / 2251799813685248 := by simp only [M64] at *; omega
  rw [e3, e4]; exact hk
theorem times19 {a : Nat} (h : a < 9007199254740992) : umul (.ofNat a) 19 = .ofNat (a * 19) := by
  have : umul (.ofNat a) (.ofNat 19) = .ofNat (a * 19) := by rw [umul_nat]; congr 1; simp only [M64]; omega
  exact this

def forceN {α : Sort _} (n : Nat) (k : Nat → α) : α := Nat.casesOn (motive := fun _ => α) n (k 0) fun m => k (Nat.succ m)
theorem forceN_eq {α : Sort _} (n : Nat) (k : Nat → α) : forceN n k = k n := by cases n <;> rfl

def sum0 (a0 a1 a2 a3 a4 b0 b1 b2 b3 b4 : Nat) : Nat := a0 * b0 + a1 * 19 * b4 + a2 * 19 * b3 + a3 * 19 * b2 + a4 * 19 * b1
def sum1 (a0 a1 a2 a3 a4 b0 b1 b2 b3 b4 : Nat) : Nat := a0 * b1 + a1 * b0 + a2 * 19 * b4 + a3 * 19 * b3 + a4 * 19 * b2
def sum2 (a0 a1 a2 a3 a4 b0 b1 b2 b3 b4 : Nat) : Nat := a0 * b2 + a1 * b1 + a2 * b0 + a3 * 19 * b4 + a4 * 19 * b3
def sum3 (a0 a1 a2 a3 a4 b0 b1 b2 b3 b4 : Nat) : Nat := a0 * b3 + a1 * b2 + a2 * b1 + a3 * b0 + a4 * 19 * b4
def sum4 (a0 a1 a2 a3 a4 b0 b1 b2 b3 b4 : Nat) : Nat := a0 * b4 + a1 * b3 + a2 * b2 + a3 * b1 + a4 * b0

/-- the words of the product -/
def timesN {α : Sort _} (a0 a1 a2 a3 a4 b0 b1 b2 b3 b4 : Nat) (k : Nat → Nat → Nat → Nat → Nat → α) : α :=
  forceN (sum0 a0 a1 a2 a3 a4 b0 b1 b2 b3 b4) fun V0 => forceN (sum1 a0 a1 a2 a3 a4 b0 b1 b2 b3 b4 + V0 / 2251799813685248) fun V1 => forceN (sum2 a0 a1 a2 a3 a4 b0 b1 b2 b3 b4 + V1 / 2251799813685248) fun V2 => forceN (sum3 a0 a1 a2 a3 a4 b0 b1 b2 b3 b4 + V2 / 2251799813685248) fun V3 => forceN (sum4 a0 a1 a2 a3 a4 b0 b1 b2 b3 b4 + V3 / 2251799813685248) fun V4 =>
  forceN (V4 / 2251799813685248 * 19 + V0 % 2251799813685248) fun W => forceN (W % 2251799813685248) fun c0 => forceN (V1 % 2251799813685248 + W / 2251799813685248) fun c1 => forceN (V2 % 2251799813685248) fun c2 => forceN (V3 % 2251799813685248) fun c3 => forceN (V4 % 2251799813685248) fun c4 => k c0 c1 c2 c3 c4


set_option maxHeartbeats 1000000 in
theorem times_nat {a0 a1 a2 a3 a4 b0 b1 b2 b3 b4 : Nat} {K : Int → Int → Int → Int → Int → Prop} (ha0 : a0 < 9007199254740992) (ha1 : a1 < 9007199254740992) (ha2 : a2 < 9007199254740992) (ha3 : a3 < 9007199254740992) (ha4 : a4 < 9007199254740992) (hb0 : b0 < 9007199254740992) (hb1 : b1 < 9007199254740992) (hb2 : b2 < 9007199254740992) (hb3 : b3 < 9007199254740992) (hb4 : b4 < 9007199254740992)
    (hk : timesN a0 a1 a2 a3 a4 b0 b1 b2 b3 b4 fun c0 c1 c2 c3 c4 => K (.ofNat c0) (.ofNat c1) (.ofNat c2) (.ofNat c3) (.ofNat c4)) : timesP (.ofNat a0) (.ofNat a1) (.ofNat a2) (.ofNat a3) (.ofNat a4) (.ofNat b0) (.ofNat b1) (.ofNat b2) (.ofNat b3) (.ofNat b4) K := by
  unfold timesP
  rw [times19 ha1]
  rw [times19 ha2]
  rw [times19 ha3]
  rw [times19 ha4]
  have p00 : a0 * b0 ≤ 9007199254740991 * 9007199254740991 := Nat.mul_le_mul (by omega) (by omega)
  have p01 : a0 * b1 ≤ 9007199254740991 * 9007199254740991 := Nat.mul_le_mul (by omega) (by omega)
  have p02 : a0 * b2 ≤ 9007199254740991 * 9007199254740991 := Nat.mul_le_mul (by omega) (by omega)
  have p03 : a0 * b3 ≤ 9007199254740991 * 9007199254740991 := Nat.mul_le_mul (by omega) (by omega)
  have p04 : a0 * b4 ≤ 9007199254740991 * 9007199254740991 := Nat.mul_le_mul (by omega) (by omega)
  have p10 : a1 * b0 ≤ 9007199254740991 * 9007199254740991 := Nat.mul_le_mul (by omega) (by omega)
  have p11 : a1 * b1 ≤ 9007199254740991 * 9007199254740991 := Nat.mul_le_mul (by omega) (by omega)
  have p12 : a1 * b2 ≤ 9007199254740991 * 9007199254740991 := Nat.mul_le_mul (by omega) (by omega)
  have p13 : a1 * b3 ≤ 9007199254740991 * 9007199254740991 := Nat.mul_le_mul (by omega) (by omega)
  have p14 : a1 * 19 * b4 ≤ 171136785840078829 * 9007199254740991 := Nat.mul_le_mul (by omega) (by omega)
  have p20 : a2 * b0 ≤ 9007199254740991 * 9007199254740991 := Nat.mul_le_mul (by omega) (by omega)
  have p21 : a2 * b1 ≤ 9007199254740991 * 9007199254740991 := Nat.mul_le_mul (by omega) (by omega)
  have p22 : a2 * b2 ≤ 9007199254740991 * 9007199254740991 := Nat.mul_le_mul (by omega) (by omega)
  have p23 : a2 * 19 * b3 ≤ 171136785840078829 * 9007199254740991 := Nat.mul_le_mul (by omega) (by omega)
  have p24 : a2 * 19 * b4 ≤ 171136785840078829 * 9007199254740991 := Nat.mul_le_mul (by omega) (by omega)
  have p30 : a3 * b0 ≤ 9007199254740991 * 9007199254740991 := Nat.mul_le_mul (by omega) (by omega)
  have p31 : a3 * b1 ≤ 9007199254740991 * 9007199254740991 := Nat.mul_le_mul (by omega) (by omega)
  have p32 : a3 * 19 * b2 ≤ 171136785840078829 * 9007199254740991 := Nat.mul_le_mul (by omega) (by omega)
  have p33 : a3 * 19 * b3 ≤ 171136785840078829 * 9007199254740991 := Nat.mul_le_mul (by omega) (by omega)
  have p34 : a3 * 19 * b4 ≤ 171136785840078829 * 9007199254740991 := Nat.mul_le_mul (by omega) (by omega)
  have p40 : a4 * b0 ≤ 9007199254740991 * 9007199254740991 := Nat.mul_le_mul (by omega) (by omega)
  have p41 : a4 * 19 * b1 ≤ 171136785840078829 * 9007199254740991 := Nat.mul_le_mul (by omega) (by omega)
  have p42 : a4 * 19 * b2 ≤ 171136785840078829 * 9007199254740991 := Nat.mul_le_mul (by omega) (by omega)
  have p43 : a4 * 19 * b3 ≤ 171136785840078829 * 9007199254740991 := Nat.mul_le_mul (by omega) (by omega)
  have p44 : a4 * 19 * b4 ≤ 171136785840078829 * 9007199254740991 := Nat.mul_le_mul (by omega) (by omega)
  have e64 : M64 = 18446744073709551616 := rfl
  refine plus_zero (by rw [e64]; omega) (by rw [e64]; omega) (by rw [e64]; omega) ?_
  refine plus_zero (by rw [e64]; omega) (by rw [e64]; omega) (by rw [e64]; omega) ?_
  refine plus_zero (by rw [e64]; omega) (by rw [e64]; omega) (by rw [e64]; omega) ?_
  refine plus_zero (by rw [e64]; omega) (by rw [e64]; omega) (by rw [e64]; omega) ?_
  refine plus_zero (by rw [e64]; omega) (by rw [e64]; omega) (by rw [e64]; omega) ?_
  refine plus_step (by rw [e64]; omega) (by rw [e64]; omega) (by rw [e64]; omega) ?_
  refine plus_step (by rw [e64]; omega) (by rw [e64]; omega) (by rw [e64]; omega) ?_
  refine plus_step (by rw [e64]; omega) (by rw [e64]; omega) (by rw [e64]; omega) ?_
  refine plus_step (by rw [e64]; omega) (by rw [e64]; omega) (by rw [e64]; omega) ?_
  refine plus_step (by rw [e64]; omega) (by rw [e64]; omega) (by rw [e64]; omega) ?_
  refine plus_step (by rw [e64]; omega) (by rw [e64]; omega) (by rw [e64]; omega) ?_
  refine plus_step (by rw [e64]; omega) (by rw [e64]; omega) (by rw [e64]; omega) ?_
  refine plus_step (by rw [e64]; omega) (by rw [e64]; omega) (by rw [e64]; omega) ?_
  refine plus_step (by rw [e64]; omega) (by rw [e64]; omega) (by rw [e64]; omega) ?_
  refine plus_step (by rw [e64]; omega) (by rw [e64]; omega) (by rw [e64]; omega) ?_
  refine plus_step (by rw [e64]; omega) (by rw [e64]; omega) (by rw [e64]; omega) ?_
  refine plus_step (by rw [e64]; omega) (by rw [e64]; omega) (by rw [e64]; omega) ?_
  refine plus_step (by rw [e64]; omega) (by rw [e64]; omega) (by rw [e64]; omega) ?_
  refine plus_step (by rw [e64]; omega) (by rw [e64]; omega) (by rw [e64]; omega) ?_
  refine plus_step (by rw [e64]; omega) (by rw [e64]; omega) (by rw [e64]; omega) ?_
  refine plus_step (by rw [e64]; omega) (by rw [e64]; omega) (by rw [e64]; omega) ?_
  refine plus_step (by rw [e64]; omega) (by rw [e64]; omega) (by rw [e64]; omega) ?_
  refine plus_step (by rw [e64]; omega) (by rw [e64]; omega) (by rw [e64]; omega) ?_
  refine plus_step (by rw [e64]; omega) (by rw [e64]; omega) (by rw [e64]; omega) ?_
  refine plus_step (by rw [e64]; omega) (by rw [e64]; omega) (by rw [e64]; omega) ?_
  have q0 : sum0 a0 a1 a2 a3 a4 b0 b1 b2 b3 b4 ≤ 8000000000000000000000000000000000 := by unfold sum0; omega
  have q1 : sum1 a0 a1 a2 a3 a4 b0 b1 b2 b3 b4 ≤ 8000000000000000000000000000000000 := by unfold sum1; omega
  have q2 : sum2 a0 a1 a2 a3 a4 b0 b1 b2 b3 b4 ≤ 8000000000000000000000000000000000 := by unfold sum2; omega
  have q3 : sum3 a0 a1 a2 a3 a4 b0 b1 b2 b3 b4 ≤ 8000000000000000000000000000000000 := by unfold sum3; omega
  have q4 : sum4 a0 a1 a2 a3 a4 b0 b1 b2 b3 b4 ≤ 8000000000000000000000000000000000 := by unfold sum4; omega
  rw [show a0 * b0 + a1 * 19 * b4 + a2 * 19 * b3 + a3 * 19 * b2 + a4 * 19 * b1 = sum0 a0 a1 a2 a3 a4 b0 b1 b2 b3 b4 from rfl]
  rw [show a0 * b1 + a1 * b0 + a2 * 19 * b4 + a3 * 19 * b3 + a4 * 19 * b2 = sum1 a0 a1 a2 a3 a4 b0 b1 b2 b3 b4 from rfl]
  rw [show a0 * b2 + a1 * b1 + a2 * b0 + a3 * 19 * b4 + a4 * 19 * b3 = sum2 a0 a1 a2 a3 a4 b0 b1 b2 b3 b4 from rfl]
  rw [show a0 * b3 + a1 * b2 + a2 * b1 + a3 * b0 + a4 * 19 * b4 = sum3 a0 a1 a2 a3 a4 b0 b1 b2 b3 b4 from rfl]
  rw [show a0 * b4 + a1 * b3 + a2 * b2 + a3 * b1 + a4 * b0 = sum4 a0 a1 a2 a3 a4 b0 b1 b2 b3 b4 from rfl]
  simp only [timesN, forceN_eq] at hk
  generalize sum0 a0 a1 a2 a3 a4 b0 b1 b2 b3 b4 = S0 at *
  generalize sum1 a0 a1 a2 a3 a4 b0 b1 b2 b3 b4 = S1 at *
  generalize sum2 a0 a1 a2 a3 a4 b0 b1 b2 b3 b4 = S2 at *
  generalize sum3 a0 a1 a2 a3 a4 b0 b1 b2 b3 b4 = S3 at *
  generalize sum4 a0 a1 a2 a3 a4 b0 b1 b2 b3 b4 = S4 at *
  clear p00 p01 p02 p03 p04 p10 p11 p12 p13 p14 p20 p21 p22 p23 p24 p30 p31 p32 p33 p34 p40 p41 p42 p43 p44
  rw [show (0 : Int) = .ofNat 0 from rfl]
  refine car_step (by omega) (by rw [e64]; omega) ?_
  rw [Nat.add_zero]
  refine car_step (by omega) (by rw [e64]; omega) ?_
  refine car_step (by omega) (by rw [e64]; omega) ?_
  refine car_step (by omega) (by rw [e64]; omega) ?_
  refine car_step (by omega) (by rw [e64]; omega) ?_
  rw [show Int.ofNat 0 = (0 : Int) from rfl]
  exact end_step (K := fun c0 c1 => K c0 c1 _ _ _) (by rw [e64]; omega) (by omega) (by omega) hk
end
end Ev
