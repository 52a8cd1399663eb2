/-
  The reference's Open in Nat: ten words that stand for the number. Conditions: numbers of 32 bytes.
-/
import Derived.Test.YtmbkjhcmbbcphaaWv
import Derived.Test.YtmbkjhcmbbcphaaG6
namespace Ev
open Go Go.Proofs
noncomputable section

def val10 (n0 n1 n2 n3 n4 n5 n6 n7 n8 n9 : Nat) : Nat := n0 + 67108864 * n1 + 2251799813685248 * n2 + 151115727451828646838272 * n3 + 5070602400912917605986812821504 * n4 + 340282366920938463463374607431768211456 * n5 + 11417981541647679048466287755595961091061972992 * n6 + 766247770432944429179173513575154591809369561091801088 * n7 + 25711008708143844408671393477458601640355247900524685364822016 * n8 + 1725436586697640946858688965569256363112777243042596638790631055949824 * n9
/-- words as they stand behind a carry -/
structure N10 (n0 n1 n2 n3 n4 n5 n6 n7 n8 n9 : Nat) : Prop where
  b0 : n0 < 67109888
  b1 : n1 < 33554432
  b2 : n2 < 67108864
  b3 : n3 < 33554432
  b4 : n4 < 67108864
  b5 : n5 < 33554432
  b6 : n6 < 67108864
  b7 : n7 < 33554432
  b8 : n8 < 67108864
  b9 : n9 < 33554432
theorem car_val {w0 w1 w2 w3 w4 w5 w6 w7 w8 w9 v0 v1 v2 v3 v4 v5 v6 v7 v8 v9 c0 c1 c2 c3 c4 c5 c6 c7 c8 c9 : Nat} (h : Car w0 w1 w2 w3 w4 w5 w6 w7 w8 w9 v0 v1 v2 v3 v4 v5 v6 v7 v8 v9 c0 c1 c2 c3 c4 c5 c6 c7 c8 c9) : val10 v0 v1 v2 v3 v4 v5 v6 v7 v8 v9 + c9 * pF = val10 w0 w1 w2 w3 w4 w5 w6 w7 w8 w9 := by
  obtain ⟨⟨e0, f0, g0⟩, ⟨e1, f1⟩, ⟨e2, f2⟩, ⟨e3, f3⟩, ⟨e4, f4⟩, ⟨e5, f5⟩, ⟨e6, f6⟩, ⟨e7, f7⟩, ⟨e8, f8⟩, ⟨e9, f9⟩⟩ := h
  unfold val10 pF
  omega
theorem car_b {w0 w1 w2 w3 w4 w5 w6 w7 w8 w9 v0 v1 v2 v3 v4 v5 v6 v7 v8 v9 c0 c1 c2 c3 c4 c5 c6 c7 c8 c9 : Nat} (h : Car w0 w1 w2 w3 w4 w5 w6 w7 w8 w9 v0 v1 v2 v3 v4 v5 v6 v7 v8 v9 c0 c1 c2 c3 c4 c5 c6 c7 c8 c9) (hc : c9 ≤ 53) : N10 v0 v1 v2 v3 v4 v5 v6 v7 v8 v9 := by
  obtain ⟨⟨e0, f0, g0⟩, ⟨e1, f1⟩, ⟨e2, f2⟩, ⟨e3, f3⟩, ⟨e4, f4⟩, ⟨e5, f5⟩, ⟨e6, f6⟩, ⟨e7, f7⟩, ⟨e8, f8⟩, ⟨e9, f9⟩⟩ := h
  exact ⟨by omega, f1, f2, f3, f4, f5, f6, f7, f8, f9⟩
/-- the words of a number -/
theorem words_val {A : Nat} (hA : A < 256 ^ 32) : val10 (A / 2 ^ 0 % 2 ^ 26) (A / 2 ^ 26 % 2 ^ 25) (A / 2 ^ 51 % 2 ^ 26) (A / 2 ^ 77 % 2 ^ 25) (A / 2 ^ 102 % 2 ^ 26) (A / 2 ^ 128 % 2 ^ 25) (A / 2 ^ 153 % 2 ^ 26) (A / 2 ^ 179 % 2 ^ 25) (A / 2 ^ 204 % 2 ^ 26) (A / 2 ^ 230 % 2 ^ 26) = A := by
  have hA : A < 115792089237316195423570985008687907853269984665640564039457584007913129639936 := hA
  obtain ⟨q1, hq1⟩ : ∃ q, q = A / 67108864 := ⟨_, rfl⟩
  have t1 : A / 2 ^ 26 = q1 := by rw [hq1]
  obtain ⟨q2, hq2⟩ : ∃ q, q = q1 / 33554432 := ⟨_, rfl⟩
  have t2 : A / 2 ^ 51 = q2 := by rw [hq2, ← t1, Nat.div_div_eq_div_mul]
  obtain ⟨q3, hq3⟩ : ∃ q, q = q2 / 67108864 := ⟨_, rfl⟩
  have t3 : A / 2 ^ 77 = q3 := by rw [hq3, ← t2, Nat.div_div_eq_div_mul]
  obtain ⟨q4, hq4⟩ : ∃ q, q = q3 / 33554432 := ⟨_, rfl⟩
  have t4 : A / 2 ^ 102 = q4 := by rw [hq4, ← t3, Nat.div_div_eq_div_mul]
  obtain ⟨q5, hq5⟩ : ∃ q, q = q4 / 67108864 := ⟨_, rfl⟩
  have t5 : A / 2 ^ 128 = q5 := by rw [hq5, ← t4, Nat.div_div_eq_div_mul]
  obtain ⟨q6, hq6⟩ : ∃ q, q = q5 / 33554432 := ⟨_, rfl⟩
  have t6 : A / 2 ^ 153 = q6 := by rw [hq6, ← t5, Nat.div_div_eq_div_mul]
  obtain ⟨q7, hq7⟩ : ∃ q, q = q6 / 67108864 := ⟨_, rfl⟩
  have t7 : A / 2 ^ 179 = q7 := by rw [hq7, ← t6, Nat.div_div_eq_div_mul]
  obtain ⟨q8, hq8⟩ : ∃ q, q = q7 / 33554432 := ⟨_, rfl⟩
  have t8 : A / 2 ^ 204 = q8 := by rw [hq8, ← t7, Nat.div_div_eq_div_mul]
  obtain ⟨q9, hq9⟩ : ∃ q, q = q8 / 67108864 := ⟨_, rfl⟩
  have t9 : A / 2 ^ 230 = q9 := by rw [hq9, ← t8, Nat.div_div_eq_div_mul]
  rw [Nat.pow_zero, Nat.div_one, t1, t2, t3, t4, t5, t6, t7, t8, t9, show (2 : Nat) ^ 26 = 67108864 from rfl, show (2 : Nat) ^ 25 = 33554432 from rfl]
  clear t1 t2 t3 t4 t5 t6 t7 t8 t9
  unfold val10
  omega
theorem wN_10 (A : Nat) {j : Nat} (hj : j < 10) : wN A 10 0 j = .ofNat (A / 2 ^ atO j % 2 ^ nO j) := by
  unfold wN wordA cO
  rw [if_pos hj]
/-- ten words that stand for a number -/
def like10 (A : Nat) (v0 v1 v2 v3 v4 v5 v6 v7 v8 v9 : Int) : Prop := ∃ n0 n1 n2 n3 n4 n5 n6 n7 n8 n9 : Nat, (v0 = .ofNat n0 ∧ v1 = .ofNat n1 ∧ v2 = .ofNat n2 ∧ v3 = .ofNat n3 ∧ v4 = .ofNat n4 ∧ v5 = .ofNat n5 ∧ v6 = .ofNat n6 ∧ v7 = .ofNat n7 ∧ v8 = .ofNat n8 ∧ v9 = .ofNat n9) ∧ N10 n0 n1 n2 n3 n4 n5 n6 n7 n8 n9 ∧ val10 n0 n1 n2 n3 n4 n5 n6 n7 n8 n9 % pF = A % pF
theorem open_car {A : Nat} (hA : A < 256 ^ 32) {K : Int → Int → Int → Int → Int → Int → Int → Int → Int → Int → Prop} (hk : ∀ v0 v1 v2 v3 v4 v5 v6 v7 v8 v9 : Int, like10 A v0 v1 v2 v3 v4 v5 v6 v7 v8 v9 → K v0 v1 v2 v3 v4 v5 v6 v7 v8 v9) :
    carQ (wN A 10 0 0) (wN A 10 0 1) (wN A 10 0 2) (wN A 10 0 3) (wN A 10 0 4) (wN A 10 0 5) (wN A 10 0 6) (wN A 10 0 7) (wN A 10 0 8) (wN A 10 0 9) K := by
  intro v0 v1 v2 v3 v4 v5 v6 v7 v8 v9 hv
  have r0 : wN A 10 0 0 = .ofNat (A / 2 ^ 0 % 2 ^ 26) := wN_10 A (by decide)
  have r1 : wN A 10 0 1 = .ofNat (A / 2 ^ 26 % 2 ^ 25) := wN_10 A (by decide)
  have r2 : wN A 10 0 2 = .ofNat (A / 2 ^ 51 % 2 ^ 26) := wN_10 A (by decide)
  have r3 : wN A 10 0 3 = .ofNat (A / 2 ^ 77 % 2 ^ 25) := wN_10 A (by decide)
  have r4 : wN A 10 0 4 = .ofNat (A / 2 ^ 102 % 2 ^ 26) := wN_10 A (by decide)
  have r5 : wN A 10 0 5 = .ofNat (A / 2 ^ 128 % 2 ^ 25) := wN_10 A (by decide)
  have r6 : wN A 10 0 6 = .ofNat (A / 2 ^ 153 % 2 ^ 26) := wN_10 A (by decide)
  have r7 : wN A 10 0 7 = .ofNat (A / 2 ^ 179 % 2 ^ 25) := wN_10 A (by decide)
  have r8 : wN A 10 0 8 = .ofNat (A / 2 ^ 204 % 2 ^ 26) := wN_10 A (by decide)
  have r9 : wN A 10 0 9 = .ofNat (A / 2 ^ 230 % 2 ^ 26) := wN_10 A (by decide)
  rw [r0, r1, r2, r3, r4, r5, r6, r7, r8, r9] at hv
  have hval := words_val hA
  have l0 : A / 2 ^ 0 % 2 ^ 26 < 67108864 := Nat.mod_lt _ (by decide)
  generalize A / 2 ^ 0 % 2 ^ 26 = w0 at *
  have l1 : A / 2 ^ 26 % 2 ^ 25 < 33554432 := Nat.mod_lt _ (by decide)
  generalize A / 2 ^ 26 % 2 ^ 25 = w1 at *
  have l2 : A / 2 ^ 51 % 2 ^ 26 < 67108864 := Nat.mod_lt _ (by decide)
  generalize A / 2 ^ 51 % 2 ^ 26 = w2 at *
  have l3 : A / 2 ^ 77 % 2 ^ 25 < 33554432 := Nat.mod_lt _ (by decide)
  generalize A / 2 ^ 77 % 2 ^ 25 = w3 at *
  have l4 : A / 2 ^ 102 % 2 ^ 26 < 67108864 := Nat.mod_lt _ (by decide)
  generalize A / 2 ^ 102 % 2 ^ 26 = w4 at *
  have l5 : A / 2 ^ 128 % 2 ^ 25 < 33554432 := Nat.mod_lt _ (by decide)
  generalize A / 2 ^ 128 % 2 ^ 25 = w5 at *
  have l6 : A / 2 ^ 153 % 2 ^ 26 < 67108864 := Nat.mod_lt _ (by decide)
  generalize A / 2 ^ 153 % 2 ^ 26 = w6 at *
  have l7 : A / 2 ^ 179 % 2 ^ 25 < 33554432 := Nat.mod_lt _ (by decide)
  generalize A / 2 ^ 179 % 2 ^ 25 = w7 at *
  have l8 : A / 2 ^ 204 % 2 ^ 26 < 67108864 := Nat.mod_lt _ (by decide)
  generalize A / 2 ^ 204 % 2 ^ 26 = w8 at *
  have l9 : A / 2 ^ 230 % 2 ^ 26 < 67108864 := Nat.mod_lt _ (by decide)
  generalize A / 2 ^ 230 % 2 ^ 26 = w9 at *
  have h := @carry10_nat w0 w1 w2 w3 w4 w5 w6 w7 w8 w9 (by omega) (by omega) (by omega) (by omega) (by omega) (by omega) (by omega) (by omega) (by omega) (by omega) (fun x0 x1 x2 x3 x4 x5 x6 x7 x8 x9 => wideA v0 v1 v2 v3 v4 v5 v6 v7 v8 v9 = wideA x0 x1 x2 x3 x4 x5 x6 x7 x8 x9 → K v0 v1 v2 v3 v4 v5 v6 v7 v8 v9) ?_
  · exact (carryM_map (Q := fun v => wideA v0 v1 v2 v3 v4 v5 v6 v7 v8 v9 = v → K v0 v1 v2 v3 v4 v5 v6 v7 v8 v9) (.ofNat w0) (.ofNat w1) (.ofNat w2) (.ofNat w3) (.ofNat w4) (.ofNat w5) (.ofNat w6) (.ofNat w7) (.ofNat w8) (.ofNat w9)).1 h hv
  · intro n0 n1 n2 n3 n4 n5 n6 n7 n8 n9 ⟨c0, c1, c2, c3, c4, c5, c6, c7, c8, c9, hc⟩ he
    obtain ⟨rfl, rfl, rfl, rfl, rfl, rfl, rfl, rfl, rfl, rfl⟩ := wideA_inj he
    refine hk _ _ _ _ _ _ _ _ _ _ ⟨n0, n1, n2, n3, n4, n5, n6, n7, n8, n9, ⟨rfl, rfl, rfl, rfl, rfl, rfl, rfl, rfl, rfl, rfl⟩, car_b hc ?_, ?_⟩
    · obtain ⟨⟨e0, f0, g0⟩, ⟨e1, f1⟩, ⟨e2, f2⟩, ⟨e3, f3⟩, ⟨e4, f4⟩, ⟨e5, f5⟩, ⟨e6, f6⟩, ⟨e7, f7⟩, ⟨e8, f8⟩, ⟨e9, f9⟩⟩ := hc
      omega
    · have := car_val hc
      rw [hval] at this
      rw [← this, Nat.add_mul_mod_self_right]
end
end Ev
