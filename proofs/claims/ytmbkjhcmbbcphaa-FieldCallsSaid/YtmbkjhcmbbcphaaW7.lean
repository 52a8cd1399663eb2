/-
  The reference's Close in Nat: masked words, their bits, the bytes. Conditions: words as they stand behind a carry.
-/
import Derived.Test.YtmbkjhcmbbcphaaW6
namespace Ev
open Go Go.Proofs
noncomputable section

/-- words in their bits -/
structure M10 (n0 n1 n2 n3 n4 n5 n6 n7 n8 n9 : Nat) : Prop where
  b0 : n0 < 67108864
  b1 : n1 < 33554432
  b2 : n2 < 67108864
  b3 : n3 < 33554432
  b4 : n4 < 67108864
  b5 : n5 < 33554432
  b6 : n6 < 67108864
  b7 : n7 < 33554432
  b8 : n8 < 67108864
  b9 : n9 < 33554432
theorem car_mask {w0 w1 w2 w3 w4 w5 w6 w7 w8 w9 v0 v1 v2 v3 v4 v5 v6 v7 v8 v9 c0 c1 c2 c3 c4 c5 c6 c7 c8 c9 : Nat} (hn : N10 w0 w1 w2 w3 w4 w5 w6 w7 w8 w9) (h : Car w0 w1 w2 w3 w4 w5 w6 w7 w8 w9 v0 v1 v2 v3 v4 v5 v6 v7 v8 v9 c0 c1 c2 c3 c4 c5 c6 c7 c8 c9) : M10 v0 v1 v2 v3 v4 v5 v6 v7 v8 v9 := by
  obtain ⟨b0, b1, b2, b3, b4, b5, b6, b7, b8, b9⟩ := hn
  obtain ⟨⟨e0, f0, g0⟩, ⟨e1, f1⟩, ⟨e2, f2⟩, ⟨e3, f3⟩, ⟨e4, f4⟩, ⟨e5, f5⟩, ⟨e6, f6⟩, ⟨e7, f7⟩, ⟨e8, f8⟩, ⟨e9, f9⟩⟩ := h
  exact ⟨by omega, f1, f2, f3, f4, f5, f6, f7, f8, f9⟩
theorem car_same {w0 w1 w2 w3 w4 w5 w6 w7 w8 w9 v0 v1 v2 v3 v4 v5 v6 v7 v8 v9 c0 c1 c2 c3 c4 c5 c6 c7 c8 c9 : Nat} (hn : M10 w0 w1 w2 w3 w4 w5 w6 w7 w8 w9) (h : Car w0 w1 w2 w3 w4 w5 w6 w7 w8 w9 v0 v1 v2 v3 v4 v5 v6 v7 v8 v9 c0 c1 c2 c3 c4 c5 c6 c7 c8 c9) : v0 = w0 ∧ v1 = w1 ∧ v2 = w2 ∧ v3 = w3 ∧ v4 = w4 ∧ v5 = w5 ∧ v6 = w6 ∧ v7 = w7 ∧ v8 = w8 ∧ v9 = w9 := by
  obtain ⟨b0, b1, b2, b3, b4, b5, b6, b7, b8, b9⟩ := hn
  obtain ⟨⟨e0, f0, g0⟩, ⟨e1, f1⟩, ⟨e2, f2⟩, ⟨e3, f3⟩, ⟨e4, f4⟩, ⟨e5, f5⟩, ⟨e6, f6⟩, ⟨e7, f7⟩, ⟨e8, f8⟩, ⟨e9, f9⟩⟩ := h
  have z0 : c0 = 0 := by omega
  have z1 : c1 = 0 := by omega
  have z2 : c2 = 0 := by omega
  have z3 : c3 = 0 := by omega
  have z4 : c4 = 0 := by omega
  have z5 : c5 = 0 := by omega
  have z6 : c6 = 0 := by omega
  have z7 : c7 = 0 := by omega
  have z8 : c8 = 0 := by omega
  have z9 : c9 = 0 := by omega
  subst z0 z1 z2 z3 z4 z5 z6 z7 z8 z9
  refine ⟨?_, ?_, ?_, ?_, ?_, ?_, ?_, ?_, ?_, ?_⟩ <;> omega
theorem car_small {w0 w1 w2 w3 w4 w5 w6 w7 w8 w9 v0 v1 v2 v3 v4 v5 v6 v7 v8 v9 c0 c1 c2 c3 c4 c5 c6 c7 c8 c9 : Nat} (hn : N10 w0 w1 w2 w3 w4 w5 w6 w7 w8 w9) (h : Car w0 w1 w2 w3 w4 w5 w6 w7 w8 w9 v0 v1 v2 v3 v4 v5 v6 v7 v8 v9 c0 c1 c2 c3 c4 c5 c6 c7 c8 c9) : c9 ≤ 1 := by
  obtain ⟨b0, b1, b2, b3, b4, b5, b6, b7, b8, b9⟩ := hn
  obtain ⟨⟨e0, f0, g0⟩, ⟨e1, f1⟩, ⟨e2, f2⟩, ⟨e3, f3⟩, ⟨e4, f4⟩, ⟨e5, f5⟩, ⟨e6, f6⟩, ⟨e7, f7⟩, ⟨e8, f8⟩, ⟨e9, f9⟩⟩ := h
  omega
theorem M10.val {n0 n1 n2 n3 n4 n5 n6 n7 n8 n9 : Nat} (h : M10 n0 n1 n2 n3 n4 n5 n6 n7 n8 n9) : val10 n0 n1 n2 n3 n4 n5 n6 n7 n8 n9 < 57896044618658097711785492504343953926634992332820282019728792003956564819968 := by
  obtain ⟨b0, b1, b2, b3, b4, b5, b6, b7, b8, b9⟩ := h
  unfold val10
  omega
theorem word0 {n0 n1 n2 n3 n4 n5 n6 n7 n8 n9 : Nat} (h : M10 n0 n1 n2 n3 n4 n5 n6 n7 n8 n9) : val10 n0 n1 n2 n3 n4 n5 n6 n7 n8 n9 / 2 ^ 0 % 2 ^ 26 = n0 := by
  obtain ⟨b0, b1, b2, b3, b4, b5, b6, b7, b8, b9⟩ := h
  unfold val10
  rw [show (2 : Nat) ^ 0 = 1 from rfl, show (2 : Nat) ^ 26 = 67108864 from rfl]
  omega
theorem word1 {n0 n1 n2 n3 n4 n5 n6 n7 n8 n9 : Nat} (h : M10 n0 n1 n2 n3 n4 n5 n6 n7 n8 n9) : val10 n0 n1 n2 n3 n4 n5 n6 n7 n8 n9 / 2 ^ 26 % 2 ^ 25 = n1 := by
  obtain ⟨b0, b1, b2, b3, b4, b5, b6, b7, b8, b9⟩ := h
  unfold val10
  rw [show (2 : Nat) ^ 26 = 67108864 from rfl, show (2 : Nat) ^ 25 = 33554432 from rfl]
  omega
theorem word2 {n0 n1 n2 n3 n4 n5 n6 n7 n8 n9 : Nat} (h : M10 n0 n1 n2 n3 n4 n5 n6 n7 n8 n9) : val10 n0 n1 n2 n3 n4 n5 n6 n7 n8 n9 / 2 ^ 51 % 2 ^ 26 = n2 := by
  obtain ⟨b0, b1, b2, b3, b4, b5, b6, b7, b8, b9⟩ := h
  unfold val10
  rw [show (2 : Nat) ^ 51 = 2251799813685248 from rfl, show (2 : Nat) ^ 26 = 67108864 from rfl]
  omega
theorem word3 {n0 n1 n2 n3 n4 n5 n6 n7 n8 n9 : Nat} (h : M10 n0 n1 n2 n3 n4 n5 n6 n7 n8 n9) : val10 n0 n1 n2 n3 n4 n5 n6 n7 n8 n9 / 2 ^ 77 % 2 ^ 25 = n3 := by
  obtain ⟨b0, b1, b2, b3, b4, b5, b6, b7, b8, b9⟩ := h
  unfold val10
  rw [show (2 : Nat) ^ 77 = 151115727451828646838272 from rfl, show (2 : Nat) ^ 25 = 33554432 from rfl]
  omega
theorem word4 {n0 n1 n2 n3 n4 n5 n6 n7 n8 n9 : Nat} (h : M10 n0 n1 n2 n3 n4 n5 n6 n7 n8 n9) : val10 n0 n1 n2 n3 n4 n5 n6 n7 n8 n9 / 2 ^ 102 % 2 ^ 26 = n4 := by
  obtain ⟨b0, b1, b2, b3, b4, b5, b6, b7, b8, b9⟩ := h
  unfold val10
  rw [show (2 : Nat) ^ 102 = 5070602400912917605986812821504 from rfl, show (2 : Nat) ^ 26 = 67108864 from rfl]
  omega
theorem word5 {n0 n1 n2 n3 n4 n5 n6 n7 n8 n9 : Nat} (h : M10 n0 n1 n2 n3 n4 n5 n6 n7 n8 n9) : val10 n0 n1 n2 n3 n4 n5 n6 n7 n8 n9 / 2 ^ 128 % 2 ^ 25 = n5 := by
  obtain ⟨b0, b1, b2, b3, b4, b5, b6, b7, b8, b9⟩ := h
  unfold val10
  rw [show (2 : Nat) ^ 128 = 340282366920938463463374607431768211456 from rfl, show (2 : Nat) ^ 25 = 33554432 from rfl]
  omega
theorem word6 {n0 n1 n2 n3 n4 n5 n6 n7 n8 n9 : Nat} (h : M10 n0 n1 n2 n3 n4 n5 n6 n7 n8 n9) : val10 n0 n1 n2 n3 n4 n5 n6 n7 n8 n9 / 2 ^ 153 % 2 ^ 26 = n6 := by
  obtain ⟨b0, b1, b2, b3, b4, b5, b6, b7, b8, b9⟩ := h
  unfold val10
  rw [show (2 : Nat) ^ 153 = 11417981541647679048466287755595961091061972992 from rfl, show (2 : Nat) ^ 26 = 67108864 from rfl]
  omega
theorem word7 {n0 n1 n2 n3 n4 n5 n6 n7 n8 n9 : Nat} (h : M10 n0 n1 n2 n3 n4 n5 n6 n7 n8 n9) : val10 n0 n1 n2 n3 n4 n5 n6 n7 n8 n9 / 2 ^ 179 % 2 ^ 25 = n7 := by
  obtain ⟨b0, b1, b2, b3, b4, b5, b6, b7, b8, b9⟩ := h
  unfold val10
  rw [show (2 : Nat) ^ 179 = 766247770432944429179173513575154591809369561091801088 from rfl, show (2 : Nat) ^ 25 = 33554432 from rfl]
  omega
theorem word8 {n0 n1 n2 n3 n4 n5 n6 n7 n8 n9 : Nat} (h : M10 n0 n1 n2 n3 n4 n5 n6 n7 n8 n9) : val10 n0 n1 n2 n3 n4 n5 n6 n7 n8 n9 / 2 ^ 204 % 2 ^ 26 = n8 := by
  obtain ⟨b0, b1, b2, b3, b4, b5, b6, b7, b8, b9⟩ := h
  unfold val10
  rw [show (2 : Nat) ^ 204 = 25711008708143844408671393477458601640355247900524685364822016 from rfl, show (2 : Nat) ^ 26 = 67108864 from rfl]
  omega
theorem word9 {n0 n1 n2 n3 n4 n5 n6 n7 n8 n9 : Nat} (h : M10 n0 n1 n2 n3 n4 n5 n6 n7 n8 n9) : val10 n0 n1 n2 n3 n4 n5 n6 n7 n8 n9 / 2 ^ 230 % 2 ^ 25 = n9 := by
  obtain ⟨b0, b1, b2, b3, b4, b5, b6, b7, b8, b9⟩ := h
  unfold val10
  rw [show (2 : Nat) ^ 230 = 1725436586697640946858688965569256363112777243042596638790631055949824 from rfl, show (2 : Nat) ^ 25 = 33554432 from rfl]
  omega
def wNat (n0 n1 n2 n3 n4 n5 n6 n7 n8 n9 : Nat) (j : Nat) : Nat := match j with
  | 0 => n0
  | 1 => n1
  | 2 => n2
  | 3 => n3
  | 4 => n4
  | 5 => n5
  | 6 => n6
  | 7 => n7
  | 8 => n8
  | 9 => n9
  | _ => 0
theorem word_at {n0 n1 n2 n3 n4 n5 n6 n7 n8 n9 : Nat} (h : M10 n0 n1 n2 n3 n4 n5 n6 n7 n8 n9) {i : Nat} (hi : i < 10) : val10 n0 n1 n2 n3 n4 n5 n6 n7 n8 n9 / 2 ^ atO i % 2 ^ nC i = wNat n0 n1 n2 n3 n4 n5 n6 n7 n8 n9 i := by
  have : i = 0 ∨ i = 1 ∨ i = 2 ∨ i = 3 ∨ i = 4 ∨ i = 5 ∨ i = 6 ∨ i = 7 ∨ i = 8 ∨ i = 9 := by omega
  rcases this with rfl | rfl | rfl | rfl | rfl | rfl | rfl | rfl | rfl | rfl
  · exact word0 h
  · exact word1 h
  · exact word2 h
  · exact word3 h
  · exact word4 h
  · exact word5 h
  · exact word6 h
  · exact word7 h
  · exact word8 h
  · exact word9 h
theorem wOf_at (n0 n1 n2 n3 n4 n5 n6 n7 n8 n9 : Nat) {i : Nat} (hi : i < 10) : wOf (.ofNat n0) (.ofNat n1) (.ofNat n2) (.ofNat n3) (.ofNat n4) (.ofNat n5) (.ofNat n6) (.ofNat n7) (.ofNat n8) (.ofNat n9) i = .ofNat (wNat n0 n1 n2 n3 n4 n5 n6 n7 n8 n9 i) := by
  have : i = 0 ∨ i = 1 ∨ i = 2 ∨ i = 3 ∨ i = 4 ∨ i = 5 ∨ i = 6 ∨ i = 7 ∨ i = 8 ∨ i = 9 := by omega
  rcases this with rfl | rfl | rfl | rfl | rfl | rfl | rfl | rfl | rfl | rfl <;> rfl
theorem bitC_nat (n : Nat) {k : Nat} (hk : k < 64) : bitC (.ofNat n) k = decide (n / 2 ^ k % 2 = 1) := by
  unfold bitC
  rw [ishr_nat n (by omega)]
  show Nat.beq (n / 2 ^ k % 2) 1 = _
  cases hb : Nat.beq (n / 2 ^ k % 2) 1 with
  | true => exact (decide_eq_true (Nat.eq_of_beq_eq_true hb)).symm
  | false => exact (decide_eq_false (Nat.ne_of_beq_eq_false hb)).symm
theorem nC_le (i : Nat) : nC i ≤ 26 := by unfold nC; omega
theorem bit_at {n0 n1 n2 n3 n4 n5 n6 n7 n8 n9 : Nat} (h : M10 n0 n1 n2 n3 n4 n5 n6 n7 n8 n9) {i k : Nat} (hi : i < 10) (hk : k < nC i) : bitC (wOf (.ofNat n0) (.ofNat n1) (.ofNat n2) (.ofNat n3) (.ofNat n4) (.ofNat n5) (.ofNat n6) (.ofNat n7) (.ofNat n8) (.ofNat n9) i) k = decide (val10 n0 n1 n2 n3 n4 n5 n6 n7 n8 n9 / 2 ^ (atO i + k) % 2 = 1) := by
  have := nC_le i
  rw [wOf_at n0 n1 n2 n3 n4 n5 n6 n7 n8 n9 hi, bitC_nat _ (by omega), ← word_at h hi, bit_div _ _ _ hk, Nat.div_div_eq_div_mul, ← Nat.pow_add]

theorem enc_set : ∀ (n q r X : Nat), q < n → r < 8 → X < 2 ^ (8 * q + r) → (encL n X).set q (.int .u8 (.ofNat (X / 256 ^ q + 2 ^ r))) = encL n (X + 2 ^ (8 * q + r))
  | 0, _, _, _, h, _, _ => absurd h (Nat.not_lt_zero _)
  | n + 1, 0, r, X, _, hr, hX => by
    have h2 : 2 ^ r ≤ 2 ^ 7 := Nat.pow_le_pow_right (by decide) (by omega)
    rw [show (2 : Nat) ^ 7 = 128 from rfl] at h2
    rw [Nat.mul_zero, Nat.zero_add] at hX ⊢
    show AV.int .u8 (.ofNat (X / 256 ^ 0 + 2 ^ r)) :: encL n (X / 256) = AV.int .u8 (.ofNat ((X + 2 ^ r) % 256)) :: encL n ((X + 2 ^ r) / 256)
    rw [Nat.pow_zero, Nat.div_one, Nat.mod_eq_of_lt (by omega), Nat.div_eq_of_lt (by omega), Nat.div_eq_of_lt (by omega)]
  | n + 1, q + 1, r, X, hq, hr, hX => by
    have e : 2 ^ (8 * (q + 1) + r) = 256 * 2 ^ (8 * q + r) := by
      rw [show 8 * (q + 1) + r = 8 + (8 * q + r) by omega, Nat.pow_add]
    rw [e] at hX ⊢
    have ih := enc_set n q r (X / 256) (by omega) hr (Nat.div_lt_of_lt_mul hX)
    show AV.int .u8 (.ofNat (X % 256)) :: (encL n (X / 256)).set q (.int .u8 (.ofNat (X / 256 ^ (q + 1) + 2 ^ r))) = AV.int .u8 (.ofNat ((X + 256 * 2 ^ (8 * q + r)) % 256)) :: encL n ((X + 256 * 2 ^ (8 * q + r)) / 256)
    rw [Nat.add_mul_mod_self_left, Nat.add_mul_div_left _ _ (by decide), ← ih, Nat.div_div_eq_div_mul, Nat.pow_succ, Nat.mul_comm 256]
theorem byte_at {s X : Nat} (hs : s < 256) (hX : X < 2 ^ s) : uadd8 (nthI (encL 32 X) (s / 8)) (.ofNat (2 ^ (s % 8))) = .ofNat (X / 256 ^ (s / 8) + 2 ^ (s % 8)) := by
  have h2 : 2 ^ (s % 8) ≤ 2 ^ 7 := Nat.pow_le_pow_right (by decide) (by omega)
  rw [show (2 : Nat) ^ 7 = 128 from rfl] at h2
  have h3 : X / 256 ^ (s / 8) < 2 ^ (s % 8) := by
    refine Nat.div_lt_of_lt_mul ?_
    rw [show (256 : Nat) = 2 ^ 8 from rfl, ← Nat.pow_mul, ← Nat.pow_add, Nat.div_add_mod]
    exact hX
  have h4 : nthI (encL 32 X) (s / 8) = .ofNat (X / 256 ^ (s / 8)) := by
    unfold nthI
    rw [enc_nth 32 X (s / 8) (by omega)]
    show Int.ofNat (X / 256 ^ (s / 8) % 256) = _
    rw [Nat.mod_eq_of_lt (by omega)]
  rw [h4]
  show wrapI .u8 (.ofNat (X / 256 ^ (s / 8) + 2 ^ (s % 8))) = _
  rw [wrap8, Nat.mod_eq_of_lt (by omega)]
theorem out_step {s X V : Nat} (hs : s < 256) (hX : X = V % 2 ^ s) (hb : V / 2 ^ s % 2 = 1) : (encL 32 X).set (s / 8) (.int .u8 (uadd8 (nthI (encL 32 X) (s / 8)) (.ofNat (2 ^ (s % 8))))) = encL 32 (V % 2 ^ (s + 1)) := by
  have hlt : X < 2 ^ s := by rw [hX]; exact Nat.mod_lt _ (Nat.two_pow_pos s)
  rw [byte_at hs hlt, enc_set 32 (s / 8) (s % 8) X (by omega) (by omega) (by rw [Nat.div_add_mod]; exact hlt), Nat.div_add_mod, word_step, hb, Nat.mul_one, hX]
theorem out_keep {s V : Nat} (hb : ¬ V / 2 ^ s % 2 = 1) : V % 2 ^ (s + 1) = V % 2 ^ s := by
  rw [word_step, show V / 2 ^ s % 2 = 0 by omega, Nat.mul_zero, Nat.add_zero]

/-! the end -/
theorem enc_ext : ∀ (n X Y : Nat), X < 256 ^ n → Y < 256 ^ n → (∀ j, j < n → X / 256 ^ j % 256 = Y / 256 ^ j % 256) → X = Y
  | 0, X, Y, hX, hY, _ => by rw [Nat.pow_zero] at hX hY; omega
  | n + 1, X, Y, hX, hY, h => by
    have h0 := h 0 (by omega)
    rw [Nat.pow_zero, Nat.div_one, Nat.div_one] at h0
    rw [Nat.pow_succ, Nat.mul_comm] at hX hY
    have ih := enc_ext n (X / 256) (Y / 256) (Nat.div_lt_of_lt_mul hX) (Nat.div_lt_of_lt_mul hY) fun j hj => by
      have := h (j + 1) (by omega)
      rw [Nat.pow_succ, Nat.mul_comm, ← Nat.div_div_eq_div_mul, ← Nat.div_div_eq_div_mul] at this
      exact this
    omega
theorem nth_nat {X j : Nat} (hj : j < 32) : nthI (encL 32 X) j = .ofNat (X / 256 ^ j % 256) := by
  unfold nthI
  rw [enc_nth 32 X j hj]
theorem eqI_nat (a b : Nat) : eqI (.ofNat a) (.ofNat b) = Nat.beq a b := rfl
def topX : Nat := 57896044618658097711785492504343953926634992332820282019728792003956564819712
theorem top_bytes : ∀ j, j < 32 → 1 ≤ j → topX / 256 ^ j % 256 = if j = 31 then 127 else 255 := by decide
theorem chain_nat {X : Nat} {K E : Prop} (hK : (∃ j, 1 ≤ j ∧ j < 31 ∧ X / 256 ^ j % 256 ≠ 255) → K) (hE : (∀ j, 1 ≤ j → j < 31 → X / 256 ^ j % 256 = 255) → E) : ∀ (n i : Nat), i + n = 31 → 1 ≤ i → (∀ j, 1 ≤ j → j < i → X / 256 ^ j % 256 = 255) → chainC X K E n i
  | 0, i, hi, _, h => hE fun j h1 h2 => h j h1 (by omega)
  | n + 1, i, hi, h1, h => by
    unfold chainC
    rw [nth_nat (by omega : i < 32), show (255 : Int) = .ofNat 255 from rfl, eqI_nat]
    refine ⟨fun hb => hK ⟨i, h1, by omega, fun e => ?_⟩, fun hb => chain_nat hK hE n (i + 1) (by omega) (by omega) fun j j1 j2 => ?_⟩
    · rw [e] at hb; cases hb
    · rcases Nat.lt_or_ge j i with hj | hj
      · exact h j j1 hj
      · have : j = i := by omega
        subst this
        cases hx : Nat.beq (X / 256 ^ j % 256) 255 with
        | true => exact Nat.eq_of_beq_eq_true hx
        | false => rw [hx] at hb; cases hb
theorem endC_nat {X : Nat} (hX : X < 57896044618658097711785492504343953926634992332820282019728792003956564819968) {K : List AV → Prop} (hk : K (encL 32 (X % pF))) : endC X K := by
  have small : X < pF → K (encL 32 X) := fun h => by rw [Nat.mod_eq_of_lt h] at hk; exact hk
  have pFv : pF = 57896044618658097711785492504343953926634992332820282019728792003956564819949 := rfl
  have big : ¬ X < pF → X = topX + X % 256 ∧ 237 ≤ X % 256 := fun h => by unfold topX; omega
  have bytes : ¬ X < pF → ∀ j, j < 32 → 1 ≤ j → X / 256 ^ j % 256 = if j = 31 then 127 else 255 := fun h j hj h1 => by
    rw [← top_bytes j hj h1]
    obtain ⟨k, rfl⟩ : ∃ k, j = k + 1 := ⟨j - 1, by omega⟩
    rw [Nat.pow_succ, Nat.mul_comm, ← Nat.div_div_eq_div_mul, ← Nat.div_div_eq_div_mul, show X / 256 = topX / 256 by have := (big h).1; unfold topX at *; omega]
  have rest : X / 256 ^ 31 % 256 = 127 → ¬ X % 256 < 237 → restC X K := fun h31 h0 => by
    refine chain_nat (fun hex => small ?_) (fun hall => ?_) 30 1 rfl (by decide) fun j h1 h2 => by omega
    · obtain ⟨j, h1, h2, h3⟩ := hex
      rcases Nat.lt_or_ge X pF with h | h
      · exact h
      · have := bytes (by omega) j (by omega) h1
        rw [if_neg (by omega)] at this
        exact absurd this h3
    · have hXY : X = topX + X % 256 := by
        refine enc_ext 32 _ _ (Nat.lt_trans hX (by decide)) (by unfold topX; have := Nat.mod_lt X (show 256 > 0 by decide); omega) fun j hj => ?_
        rcases Nat.eq_zero_or_pos j with h | h
        · subst h
          rw [Nat.pow_zero, Nat.div_one, Nat.div_one]; unfold topX; omega
        · have ht := top_bytes j hj h
          obtain ⟨k, rfl⟩ : ∃ k, j = k + 1 := ⟨j - 1, by omega⟩
          have e : (topX + X % 256) / 256 ^ (k + 1) = topX / 256 ^ (k + 1) := by
            rw [Nat.pow_succ, Nat.mul_comm, ← Nat.div_div_eq_div_mul, ← Nat.div_div_eq_div_mul, show (topX + X % 256) / 256 = topX / 256 by unfold topX; omega]
          rw [e, ht]
          by_cases h31' : k + 1 = 31
          · rw [if_pos h31', h31']; exact h31
          · rw [if_neg h31']; exact hall (k + 1) h (by omega)
      have h1 : X % pF = X % 256 - 237 := by rw [pFv]; unfold topX at hXY; omega
      rw [h1] at hk
      have h2 : usub8 (nthI (encL 32 X) 0) 237 = .ofNat (X % 256 - 237) := by
        rw [nth_nat (by decide), Nat.pow_zero, Nat.div_one]
        have h3 : addI (.ofNat (X % 256)) (negI 237) = .ofNat (X % 256 - 237) := by
          show Int.subNatNat (X % 256) 237 = _
          rw [Int.subNatNat_of_le (by omega)]
          rfl
        unfold usub8
        rw [h3, wrap8, Nat.mod_eq_of_lt (by omega)]
      rw [h2]
      have h4 : encL 32 (X % 256 - 237) = .int .u8 (.ofNat (X % 256 - 237)) :: encL 31 0 := by
        show AV.int .u8 (.ofNat ((X % 256 - 237) % 256)) :: encL 31 ((X % 256 - 237) / 256) = _
        rw [Nat.mod_eq_of_lt (by omega), Nat.div_eq_of_lt (by omega)]
      rw [← h4]; exact hk
  unfold endC
  rw [nth_nat (by decide : 0 < 32), nth_nat (by decide : 31 < 32), Nat.pow_zero, Nat.div_one, show (127 : Int) = .ofNat 127 from rfl, eqI_nat]
  have hlt : ltI (.ofNat (X % 256)) 237 = Nat.blt (X % 256) 237 := rfl
  rw [hlt]
  refine ⟨fun h => ⟨fun _ => small ?_, fun h' => by cases h'⟩, fun h => ⟨fun h' => small ?_, fun h' => rest ?_ ?_⟩⟩
  · rw [Nat.blt_eq] at h
    rcases Nat.lt_or_ge X pF with h2 | h2
    · exact h2
    · have := (big (by omega)).2; omega
  · rcases Nat.lt_or_ge X pF with h2 | h2
    · exact h2
    · have := bytes (by omega) 31 (by decide) (by decide)
      rw [if_pos rfl] at this
      rw [this] at h'; cases h'
  · cases hx : Nat.beq (X / 256 ^ 31 % 256) 127 with
    | true => exact Nat.eq_of_beq_eq_true hx
    | false => rw [hx] at h'; cases h'
  · intro h2
    rw [← Nat.blt_eq] at h2
    rw [h2] at h; cases h
end
end Ev
