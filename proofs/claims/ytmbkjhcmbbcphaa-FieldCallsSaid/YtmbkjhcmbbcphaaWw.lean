/-
  The reference's carry over ten words: what the code computes, in Nat. Conditions: words below 2^62.
-/
import Derived.Test.YtmbkjhcmbbcphaaC1
import Derived.Test.YtmbkjhcmbbcphaaEvD
namespace Ev
open Go Go.Proofs
noncomputable section

theorem wrapI64 {a : Nat} (h : a < 9223372036854775808) : wrapI .i64 (.ofNat a) = .ofNat a := by
  show Bool.casesOn (motive := fun _ => Int) (Nat.blt a 9223372036854775808) _ (.ofNat a) = _
  have : Nat.blt a 9223372036854775808 = true := by rw [Nat.blt_eq]; exact h
  rw [this]
theorem iadd_nat {a b : Nat} (h : a + b < 9223372036854775808) : iadd (.ofNat a) (.ofNat b) = .ofNat (a + b) := wrapI64 h
theorem imul_nat {a b : Nat} (h : a * b < 9223372036854775808) : imul (.ofNat a) (.ofNat b) = .ofNat (a * b) := wrapI64 h
theorem isub_nat {a b : Nat} (h : b ≤ a) (ha : a < 9223372036854775808) : isub (.ofNat a) (.ofNat b) = .ofNat (a - b) := by
  have h1 : addI (.ofNat a) (negI (.ofNat b)) = .ofNat (a - b) := by
    cases b with
    | zero => rfl
    | succ n =>
      show Int.subNatNat a (n + 1) = _
      rw [Int.subNatNat_of_le h]
      rfl
  unfold isub
  rw [h1, wrapI64 (by omega)]
theorem cnt64 {n : Nat} (h : n ≤ 64) : cnt .i64 n = n := by
  show Bool.casesOn (motive := fun _ => Nat) (Nat.ble n 64) 64 n = n
  have : Nat.ble n 64 = true := by simpa using h
  rw [this]
theorem ishr_nat (a : Nat) {n : Nat} (h : n ≤ 64) : ishr (.ofNat a) n = .ofNat (a / 2 ^ n) := by
  show Int.ofNat (Nat.div a (Nat.pow 2 (cnt .i64 n))) = _
  rw [cnt64 h]; rfl
theorem ishl_nat {a n : Nat} (h : n ≤ 64) (hl : a * 2 ^ n < 9223372036854775808) : ishl (.ofNat a) n = .ofNat (a * 2 ^ n) := by
  show wrapI .i64 (Int.ofNat (Nat.mul a (Nat.pow 2 (cnt .i64 n)))) = _
  rw [cnt64 h]; exact wrapI64 hl

theorem carry10_wp (w0 w1 w2 w3 w4 w5 w6 w7 w8 w9 : Int) (K : AV → Prop) : (carryM w0 w1 w2 w3 w4 w5 w6 w7 w8 w9 fun v0 v1 v2 v3 v4 v5 v6 v7 v8 v9 => ∀ _ : AMem, K (wideA v0 v1 v2 v3 v4 v5 v6 v7 v8 v9)) = wpCall cfBt (pEnv specsBt) (owL waysBt) 1000 (.fn 69) [wideA w0 w1 w2 w3 w4 w5 w6 w7 w8 w9] ⟨0, .nil⟩ (fun r _ => ∀ _ : AMem, K r) := by kernel_rfl

/-- what a carry does: the words, what goes over -/
structure Car (w0 w1 w2 w3 w4 w5 w6 w7 w8 w9 v0 v1 v2 v3 v4 v5 v6 v7 v8 v9 c0 c1 c2 c3 c4 c5 c6 c7 c8 c9 : Nat) : Prop where
  e0 : w0 = (c0 * 67108864 + (v0 - 19 * c9)) ∧ 19 * c9 ≤ v0 ∧ v0 - 19 * c9 < 67108864
  e1 : w1 + c0 = c1 * 33554432 + v1 ∧ v1 < 33554432
  e2 : w2 + c1 = c2 * 67108864 + v2 ∧ v2 < 67108864
  e3 : w3 + c2 = c3 * 33554432 + v3 ∧ v3 < 33554432
  e4 : w4 + c3 = c4 * 67108864 + v4 ∧ v4 < 67108864
  e5 : w5 + c4 = c5 * 33554432 + v5 ∧ v5 < 33554432
  e6 : w6 + c5 = c6 * 67108864 + v6 ∧ v6 < 67108864
  e7 : w7 + c6 = c7 * 33554432 + v7 ∧ v7 < 33554432
  e8 : w8 + c7 = c8 * 67108864 + v8 ∧ v8 < 67108864
  e9 : w9 + c8 = c9 * 33554432 + v9 ∧ v9 < 33554432

theorem carry10_nat {w0 w1 w2 w3 w4 w5 w6 w7 w8 w9 : Nat} (h0 : w0 < 4611686018427387904) (h1 : w1 < 4611686018427387904) (h2 : w2 < 4611686018427387904) (h3 : w3 < 4611686018427387904) (h4 : w4 < 4611686018427387904) (h5 : w5 < 4611686018427387904) (h6 : w6 < 4611686018427387904) (h7 : w7 < 4611686018427387904) (h8 : w8 < 4611686018427387904) (h9 : w9 < 4611686018427387904) {K : Int → Int → Int → Int → Int → Int → Int → Int → Int → Int → Prop}
    (hk : ∀ v0 v1 v2 v3 v4 v5 v6 v7 v8 v9 : Nat, (∃ c0 c1 c2 c3 c4 c5 c6 c7 c8 c9, Car w0 w1 w2 w3 w4 w5 w6 w7 w8 w9 v0 v1 v2 v3 v4 v5 v6 v7 v8 v9 c0 c1 c2 c3 c4 c5 c6 c7 c8 c9) → K (.ofNat v0) (.ofNat v1) (.ofNat v2) (.ofNat v3) (.ofNat v4) (.ofNat v5) (.ofNat v6) (.ofNat v7) (.ofNat v8) (.ofNat v9)) :
    carryM (.ofNat w0) (.ofNat w1) (.ofNat w2) (.ofNat w3) (.ofNat w4) (.ofNat w5) (.ofNat w6) (.ofNat w7) (.ofNat w8) (.ofNat w9) K := by
  rw [← carryF_eq]
  unfold carryF
  obtain ⟨c0, hc0⟩ : ∃ c, c = w0 / 2 ^ 26 := ⟨_, rfl⟩
  rw [ishr_nat w0 (by decide : 26 ≤ 64), ← hc0, forceI_eq]
  rw [show (2 : Nat) ^ 26 = 67108864 from rfl] at hc0
  rw [ishl_nat (by decide : 26 ≤ 64) (by rw [show (2 : Nat) ^ 26 = 67108864 from rfl]; omega), show (2 : Nat) ^ 26 = 67108864 from rfl, isub_nat (by omega : c0 * 67108864 ≤ w0) (by omega), forceI_eq]
  obtain ⟨u1, hu1⟩ : ∃ u, u = w1 + c0 := ⟨_, rfl⟩
  rw [iadd_nat (by omega : w1 + c0 < 9223372036854775808), ← hu1, forceI_eq]
  obtain ⟨c1, hc1⟩ : ∃ c, c = u1 / 2 ^ 25 := ⟨_, rfl⟩
  rw [ishr_nat u1 (by decide : 25 ≤ 64), ← hc1, forceI_eq]
  rw [show (2 : Nat) ^ 25 = 33554432 from rfl] at hc1
  rw [ishl_nat (by decide : 25 ≤ 64) (by rw [show (2 : Nat) ^ 25 = 33554432 from rfl]; omega), show (2 : Nat) ^ 25 = 33554432 from rfl, isub_nat (by omega : c1 * 33554432 ≤ u1) (by omega), forceI_eq]
  obtain ⟨u2, hu2⟩ : ∃ u, u = w2 + c1 := ⟨_, rfl⟩
  rw [iadd_nat (by omega : w2 + c1 < 9223372036854775808), ← hu2, forceI_eq]
  obtain ⟨c2, hc2⟩ : ∃ c, c = u2 / 2 ^ 26 := ⟨_, rfl⟩
  rw [ishr_nat u2 (by decide : 26 ≤ 64), ← hc2, forceI_eq]
  rw [show (2 : Nat) ^ 26 = 67108864 from rfl] at hc2
  rw [ishl_nat (by decide : 26 ≤ 64) (by rw [show (2 : Nat) ^ 26 = 67108864 from rfl]; omega), show (2 : Nat) ^ 26 = 67108864 from rfl, isub_nat (by omega : c2 * 67108864 ≤ u2) (by omega), forceI_eq]
  obtain ⟨u3, hu3⟩ : ∃ u, u = w3 + c2 := ⟨_, rfl⟩
  rw [iadd_nat (by omega : w3 + c2 < 9223372036854775808), ← hu3, forceI_eq]
  obtain ⟨c3, hc3⟩ : ∃ c, c = u3 / 2 ^ 25 := ⟨_, rfl⟩
  rw [ishr_nat u3 (by decide : 25 ≤ 64), ← hc3, forceI_eq]
  rw [show (2 : Nat) ^ 25 = 33554432 from rfl] at hc3
  rw [ishl_nat (by decide : 25 ≤ 64) (by rw [show (2 : Nat) ^ 25 = 33554432 from rfl]; omega), show (2 : Nat) ^ 25 = 33554432 from rfl, isub_nat (by omega : c3 * 33554432 ≤ u3) (by omega), forceI_eq]
  obtain ⟨u4, hu4⟩ : ∃ u, u = w4 + c3 := ⟨_, rfl⟩
  rw [iadd_nat (by omega : w4 + c3 < 9223372036854775808), ← hu4, forceI_eq]
  obtain ⟨c4, hc4⟩ : ∃ c, c = u4 / 2 ^ 26 := ⟨_, rfl⟩
  rw [ishr_nat u4 (by decide : 26 ≤ 64), ← hc4, forceI_eq]
  rw [show (2 : Nat) ^ 26 = 67108864 from rfl] at hc4
  rw [ishl_nat (by decide : 26 ≤ 64) (by rw [show (2 : Nat) ^ 26 = 67108864 from rfl]; omega), show (2 : Nat) ^ 26 = 67108864 from rfl, isub_nat (by omega : c4 * 67108864 ≤ u4) (by omega), forceI_eq]
  obtain ⟨u5, hu5⟩ : ∃ u, u = w5 + c4 := ⟨_, rfl⟩
  rw [iadd_nat (by omega : w5 + c4 < 9223372036854775808), ← hu5, forceI_eq]
  obtain ⟨c5, hc5⟩ : ∃ c, c = u5 / 2 ^ 25 := ⟨_, rfl⟩
  rw [ishr_nat u5 (by decide : 25 ≤ 64), ← hc5, forceI_eq]
  rw [show (2 : Nat) ^ 25 = 33554432 from rfl] at hc5
  rw [ishl_nat (by decide : 25 ≤ 64) (by rw [show (2 : Nat) ^ 25 = 33554432 from rfl]; omega), show (2 : Nat) ^ 25 = 33554432 from rfl, isub_nat (by omega : c5 * 33554432 ≤ u5) (by omega), forceI_eq]
  obtain ⟨u6, hu6⟩ : ∃ u, u = w6 + c5 := ⟨_, rfl⟩
  rw [iadd_nat (by omega : w6 + c5 < 9223372036854775808), ← hu6, forceI_eq]
  obtain ⟨c6, hc6⟩ : ∃ c, c = u6 / 2 ^ 26 := ⟨_, rfl⟩
  rw [ishr_nat u6 (by decide : 26 ≤ 64), ← hc6, forceI_eq]
  rw [show (2 : Nat) ^ 26 = 67108864 from rfl] at hc6
  rw [ishl_nat (by decide : 26 ≤ 64) (by rw [show (2 : Nat) ^ 26 = 67108864 from rfl]; omega), show (2 : Nat) ^ 26 = 67108864 from rfl, isub_nat (by omega : c6 * 67108864 ≤ u6) (by omega), forceI_eq]
  obtain ⟨u7, hu7⟩ : ∃ u, u = w7 + c6 := ⟨_, rfl⟩
  rw [iadd_nat (by omega : w7 + c6 < 9223372036854775808), ← hu7, forceI_eq]
  obtain ⟨c7, hc7⟩ : ∃ c, c = u7 / 2 ^ 25 := ⟨_, rfl⟩
  rw [ishr_nat u7 (by decide : 25 ≤ 64), ← hc7, forceI_eq]
  rw [show (2 : Nat) ^ 25 = 33554432 from rfl] at hc7
  rw [ishl_nat (by decide : 25 ≤ 64) (by rw [show (2 : Nat) ^ 25 = 33554432 from rfl]; omega), show (2 : Nat) ^ 25 = 33554432 from rfl, isub_nat (by omega : c7 * 33554432 ≤ u7) (by omega), forceI_eq]
  obtain ⟨u8, hu8⟩ : ∃ u, u = w8 + c7 := ⟨_, rfl⟩
  rw [iadd_nat (by omega : w8 + c7 < 9223372036854775808), ← hu8, forceI_eq]
  obtain ⟨c8, hc8⟩ : ∃ c, c = u8 / 2 ^ 26 := ⟨_, rfl⟩
  rw [ishr_nat u8 (by decide : 26 ≤ 64), ← hc8, forceI_eq]
  rw [show (2 : Nat) ^ 26 = 67108864 from rfl] at hc8
  rw [ishl_nat (by decide : 26 ≤ 64) (by rw [show (2 : Nat) ^ 26 = 67108864 from rfl]; omega), show (2 : Nat) ^ 26 = 67108864 from rfl, isub_nat (by omega : c8 * 67108864 ≤ u8) (by omega), forceI_eq]
  obtain ⟨u9, hu9⟩ : ∃ u, u = w9 + c8 := ⟨_, rfl⟩
  rw [iadd_nat (by omega : w9 + c8 < 9223372036854775808), ← hu9, forceI_eq]
  obtain ⟨c9, hc9⟩ : ∃ c, c = u9 / 2 ^ 25 := ⟨_, rfl⟩
  rw [ishr_nat u9 (by decide : 25 ≤ 64), ← hc9, forceI_eq]
  rw [show (2 : Nat) ^ 25 = 33554432 from rfl] at hc9
  rw [ishl_nat (by decide : 25 ≤ 64) (by rw [show (2 : Nat) ^ 25 = 33554432 from rfl]; omega), show (2 : Nat) ^ 25 = 33554432 from rfl, isub_nat (by omega : c9 * 33554432 ≤ u9) (by omega), forceI_eq]
  rw [show (19 : Int) = .ofNat 19 from rfl, imul_nat (by omega : 19 * c9 < 9223372036854775808), iadd_nat (by omega), forceI_eq]
  refine hk _ _ _ _ _ _ _ _ _ _ ⟨c0, c1, c2, c3, c4, c5, c6, c7, c8, c9, ?_, ?_, ?_, ?_, ?_, ?_, ?_, ?_, ?_, ?_⟩
  · refine ⟨?_, ?_, ?_⟩ <;> omega
  · refine ⟨?_, ?_⟩ <;> omega
  · refine ⟨?_, ?_⟩ <;> omega
  · refine ⟨?_, ?_⟩ <;> omega
  · refine ⟨?_, ?_⟩ <;> omega
  · refine ⟨?_, ?_⟩ <;> omega
  · refine ⟨?_, ?_⟩ <;> omega
  · refine ⟨?_, ?_⟩ <;> omega
  · refine ⟨?_, ?_⟩ <;> omega
  · refine ⟨?_, ?_⟩ <;> omega
end
end Ev

/-
  The reference's Open: the parts of its code, its rounds as the kernel writes them out. Conditions: none.
-/
namespace Ev
open Go Go.Proofs
noncomputable section

/-! the carry as an oracle -/
def carS : List AV → Option AV
  | [.agg [.int .i64 w0, .int .i64 w1, .int .i64 w2, .int .i64 w3, .int .i64 w4, .int .i64 w5, .int .i64 w6, .int .i64 w7, .int .i64 w8, .int .i64 w9]] => some (carryM w0 w1 w2 w3 w4 w5 w6 w7 w8 w9 wideA)
  | _ => none
theorem carryM_ind {α : Type} {Q : α → Prop} {K : Int → Int → Int → Int → Int → Int → Int → Int → Int → Int → α} (h : ∀ v0 v1 v2 v3 v4 v5 v6 v7 v8 v9, Q (K v0 v1 v2 v3 v4 v5 v6 v7 v8 v9)) (w0 w1 w2 w3 w4 w5 w6 w7 w8 w9 : Int) : Q (carryM w0 w1 w2 w3 w4 w5 w6 w7 w8 w9 K) := by
  rw [← carryF_eq]
  simp only [carryF, forceI_eq]
  exact h _ _ _ _ _ _ _ _ _ _
theorem carryM_map {Q : AV → Prop} (w0 w1 w2 w3 w4 w5 w6 w7 w8 w9 : Int) : (carryM w0 w1 w2 w3 w4 w5 w6 w7 w8 w9 fun v0 v1 v2 v3 v4 v5 v6 v7 v8 v9 => Q (wideA v0 v1 v2 v3 v4 v5 v6 v7 v8 v9)) ↔ Q (carryM w0 w1 w2 w3 w4 w5 w6 w7 w8 w9 wideA) := by
  rw [← carryF_eq, ← carryF_eq]
  simp only [carryF, forceI_eq]
theorem carV_plain (w0 w1 w2 w3 w4 w5 w6 w7 w8 w9 : Int) : AV.plain (carryM w0 w1 w2 w3 w4 w5 w6 w7 w8 w9 wideA) = true := carryM_ind (Q := fun v => AV.plain v = true) (fun _ _ _ _ _ _ _ _ _ _ => rfl) w0 w1 w2 w3 w4 w5 w6 w7 w8 w9
theorem car_c : PlainC Try.prog 69 carS := by
  refine ⟨fun l r h => ?_, fun l r h => ?_⟩ <;> unfold carS at h <;> split at h
  · next w0 w1 w2 w3 w4 w5 w6 w7 w8 w9 => cases h; exact ⟨rfl, carV_plain _ _ _ _ _ _ _ _ _ _⟩
  · cases h
  · next w0 w1 w2 w3 w4 w5 w6 w7 w8 w9 =>
    cases h
    obtain ⟨R, hR⟩ : ∃ R, carryM w0 w1 w2 w3 w4 w5 w6 w7 w8 w9 wideA = R := ⟨_, rfl⟩
    have hk : carryM w0 w1 w2 w3 w4 w5 w6 w7 w8 w9 fun v0 v1 v2 v3 v4 v5 v6 v7 v8 v9 => ∀ _ : AMem, wideA v0 v1 v2 v3 v4 v5 v6 v7 v8 v9 = R := (carryM_map (Q := fun v => ∀ _ : AMem, v = R) w0 w1 w2 w3 w4 w5 w6 w7 w8 w9).2 fun _ => hR
    have g := @run_of _ _ pairedBt specsBt_ok cfBt pfBt 69 1000 [wideA w0 w1 w2 w3 w4 w5 w6 w7 w8 w9] (fun r => r = R)
    rw [← carry10_wp] at g
    obtain ⟨r, m, h, rfl⟩ := g hk
    rw [hR]
    exact ⟨_, _, m, okE specsBt specsBt_ok, h⟩
  · cases h
def carQ (w0 w1 w2 w3 w4 w5 w6 w7 w8 w9 : Int) (K : Int → Int → Int → Int → Int → Int → Int → Int → Int → Int → Prop) : Prop :=
  ∀ v0 v1 v2 v3 v4 v5 v6 v7 v8 v9 : Int, wideA v0 v1 v2 v3 v4 v5 v6 v7 v8 v9 = carryM w0 w1 w2 w3 w4 w5 w6 w7 w8 w9 wideA → K v0 v1 v2 v3 v4 v5 v6 v7 v8 v9
def carA : List AV → AMem → KP → Prop
  | [.agg [.int .i64 w0, .int .i64 w1, .int .i64 w2, .int .i64 w3, .int .i64 w4, .int .i64 w5, .int .i64 w6, .int .i64 w7, .int .i64 w8, .int .i64 w9]], m, K => carQ w0 w1 w2 w3 w4 w5 w6 w7 w8 w9 fun v0 v1 v2 v3 v4 v5 v6 v7 v8 v9 => K (wideA v0 v1 v2 v3 v4 v5 v6 v7 v8 v9) m
  | _, _, _ => False
theorem carA_ok {args : List AV} {m : AMem} {K : KP} (h : carA args m K) : ∃ r, carS args = some r ∧ K r m := by
  unfold carA at h
  split at h
  · exact ⟨_, rfl, h _ _ _ _ _ _ _ _ _ _ rfl⟩
  · cases h
theorem wideA_inj {a0 a1 a2 a3 a4 a5 a6 a7 a8 a9 b0 b1 b2 b3 b4 b5 b6 b7 b8 b9 : Int} (h : wideA a0 a1 a2 a3 a4 a5 a6 a7 a8 a9 = wideA b0 b1 b2 b3 b4 b5 b6 b7 b8 b9) : a0 = b0 ∧ a1 = b1 ∧ a2 = b2 ∧ a3 = b3 ∧ a4 = b4 ∧ a5 = b5 ∧ a6 = b6 ∧ a7 = b7 ∧ a8 = b8 ∧ a9 = b9 := by
  unfold wideA at h
  simpa using h

/-! only the functions named -/
def noW' : List AV → AMem → KP → Prop := fun _ _ _ => False
def owN (l : List (Nat × (List AV → AMem → KP → Prop))) (keep : Nat → Bool) (f : Nat) : Option (List AV → AMem → KP → Prop) :=
  Option.casesOn (motive := fun _ => Option (List AV → AMem → KP → Prop)) (owL l f) (Bool.casesOn (motive := fun _ => Option (List AV → AMem → KP → Prop)) (keep f) (some noW') none) some
def WayMeq (w : List AV → AMem → KP → Prop) : Prop := ∀ args m m' K K', MEq m m' → (∀ v m m', MEq m m' → K v m → K' v m') → w args m K → w args m' K'
theorem owN_none {l : List (Nat × (List AV → AMem → KP → Prop))} {keep : Nat → Bool} {f : Nat} (h : owN l keep f = none) : owL l f = none ∧ keep f = true := by
  unfold owN at h
  cases ho : owL l f with
  | some w => rw [ho] at h; cases h
  | none =>
    rw [ho] at h
    have h : Bool.casesOn (motive := fun _ => Option (List AV → AMem → KP → Prop)) (keep f) (some noW') none = none := h
    cases hk : keep f with
    | false => rw [hk] at h; cases h
    | true => exact ⟨rfl, rfl⟩
theorem owN_some {l : List (Nat × (List AV → AMem → KP → Prop))} {keep : Nat → Bool} {f : Nat} {w : List AV → AMem → KP → Prop} (h : owN l keep f = some w) : owL l f = some w ∨ w = noW' := by
  unfold owN at h
  cases ho : owL l f with
  | some w' => rw [ho] at h; exact .inl h
  | none =>
    rw [ho] at h
    have h : Bool.casesOn (motive := fun _ => Option (List AV → AMem → KP → Prop)) (keep f) (some noW') none = some w := h
    cases hk : keep f with
    | false => rw [hk] at h; cases h; exact .inr rfl
    | true => rw [hk] at h; cases h
theorem owL_mem {l : List (Nat × (List AV → AMem → KP → Prop))} {f : Nat} {w : List AV → AMem → KP → Prop} (h : owL l f = some w) : ∃ p ∈ l, p.2 = w := by
  induction l with
  | nil => cases h
  | cons p l ih =>
    have h : Bool.casesOn (motive := fun _ => Option (List AV → AMem → KP → Prop)) (Nat.beq f p.1) (owL l f) (some p.2) = some w := h
    cases hb : Nat.beq f p.1 with
    | false =>
      rw [hb] at h
      obtain ⟨q, hq, e⟩ := ih h
      exact ⟨q, List.mem_cons_of_mem _ hq, e⟩
    | true => rw [hb] at h; cases h; exact ⟨p, List.mem_cons_self .., rfl⟩
theorem owN_meq {l : List (Nat × (List AV → AMem → KP → Prop))} {keep : Nat → Bool} (hl : ∀ p ∈ l, WayMeq p.2) : ∀ f w, owN l keep f = some w → ∀ args m m' K K', MEq m m' → (∀ v m m', MEq m m' → K v m → K' v m') → w args m K → w args m' K' := by
  intro f w h
  rcases owN_some h with h | rfl
  · obtain ⟨p, hp, rfl⟩ := owL_mem h
    exact hl p hp
  · intro args m m' K K' _ _ h; cases h
theorem runN {l : List (Nat × (List AV → Option AV))} {l' : List (Nat × (List AV → AMem → KP → Prop))} (hp : Paired l l') (hl : ∀ p ∈ l, FnOK Try.prog p.1 (orcS p.2)) {cf : Wcfg} (hpf : ∀ g, cf.pf g = true → ∃ s, lookS l g = some (orcS s)) {keep : Nat → Bool} {f n : Nat} {args : List AV} {K : AV → Prop}
    (h : wpCall cf (pEnv l) (owN l' keep) n (.fn f) args ⟨0, .nil⟩ (fun r _ => ∀ _ : AMem, K r)) : ∃ r m', evCall (pEnv l) n (.fn f) args ⟨0, .nil⟩ = some (r, m') ∧ K r := by
  obtain ⟨r, m', h1, h2⟩ := wpCall_ok (cf := cf) (E := pEnv l) (okE l hl).grows hpf (ow := owN l' keep) (fun f h => paired_none hp f (owN_none h).1) (fun f w h args m K hw => by
    rcases owN_some h with h | rfl
    · exact paired_some hp f w h args m K hw
    · cases hw) n _ _ _ _ h
  exact ⟨r, m', h1, h2 m'⟩
theorem bitsA_meq : WayMeq bitsA := by
  intro args m m' K K' hm hk h
  unfold bitsA at h ⊢
  cases hr : bitsS args with
  | none => rw [hr] at h; cases h
  | some r => rw [hr] at h; exact hk _ _ _ hm h
theorem carA_meq : WayMeq carA := by
  intro args m m' K K' hm hk h
  unfold carA at h ⊢
  split at h
  · exact fun v0 v1 v2 v3 v4 v5 v6 v7 v8 v9 hv => hk _ _ _ hm (h v0 v1 v2 v3 v4 v5 v6 v7 v8 v9 hv)
  · cases h

/-! the parts of Open -/
def qL : Code → Code
  | .seq a _ => a
  | c => c
def qR : Code → Code
  | .seq _ b => b
  | c => c
def qB : Code → Code
  | .block _ c => c
  | c => c
def qO : Code → Code
  | .loop c => c
  | c => c
noncomputable def opBody : Code := Try.f52.body.getD .skip
noncomputable def opOut : Code := qO (qB (qR (qL (qR (qR (qR opBody))))))
noncomputable def opMid : Code := qB (qL (qR opOut))
noncomputable def opIn : Code := qO (qB (qR (qL (qR (qR opMid)))))
noncomputable def opPre0 : Code := .seq (.seq (.seq (qL opBody) (qL (qR opBody))) (qL (qR (qR opBody)))) (qL (qL (qR (qR (qR opBody)))))
noncomputable def opEnd : Code := qR (qR (qR (qR opBody)))
noncomputable def opPre : Code := .seq (.seq (qL opMid) (qL (qR opMid))) (qL (qL (qR (qR opMid))))
theorem opBody_eq : opBody = .seq (qL opBody) (.seq (qL (qR opBody)) (.seq (qL (qR (qR opBody))) (.seq (.seq (qL (qL (qR (qR (qR opBody))))) (.block 0 (.loop opOut))) opEnd))) := by kernel_rfl
theorem opOut_eq : opOut = .seq (qL opOut) (.seq (.block 1 opMid) (qR (qR opOut))) := by kernel_rfl
theorem opMid_eq : opMid = .seq (qL opMid) (.seq (qL (qR opMid)) (.seq (.seq (qL (qL (qR (qR opMid)))) (.block 2 (.loop opIn))) (qR (qR (qR opMid))))) := by kernel_rfl

/-! what is known of a state -/
def specsO : List (Nat × (List AV → Option AV)) := [(70, bitsS), (69, carS)]
theorem specsO_ok : ∀ p ∈ specsO, FnOK Try.prog p.1 (orcS p.2) := by
  intro p hp
  simp only [specsO, List.mem_cons, List.not_mem_nil, or_false] at hp
  rcases hp with rfl | rfl
  · exact plain_ok bits_c
  · exact plain_ok car_c
def waysO : List (Nat × (List AV → AMem → KP → Prop)) := [(70, bitsA), (69, carA)]
theorem pairedO : Paired specsO waysO := .cons (fun _ _ _ h => bitsA_ok h) (.cons (fun _ _ _ h => carA_ok h) .nil)
theorem waysO_meq : ∀ p ∈ waysO, WayMeq p.2 := by
  intro p hp
  simp only [waysO, List.mem_cons, List.not_mem_nil, or_false] at hp
  rcases hp with rfl | rfl
  · exact bitsA_meq
  · exact carA_meq
def pfO (f : Nat) : Bool := Nat.beq f 70 || Nat.beq f 69
theorem pfO_some (g : Nat) (h : pfO g = true) : ∃ s, lookS specsO g = some (orcS s) := by
  simp only [pfO, Bool.or_eq_true] at h
  rcases h with h | h
  all_goals (have := Nat.eq_of_beq_eq_true h; subst this; exact ⟨_, rfl⟩)
def exO (o : Oper) : Bool := match o.op, o.dst with
  | .binOp .eql _ _ _ _, some d => Nat.beq d 41
  | _, _ => false
def cfO : Wcfg := ⟨exO, pfO, fun _ => none⟩
def keepO (f : Nat) : Bool := Nat.beq f 52
noncomputable abbrev cwO : CallW := wpCall cfO (pEnv specsO) (owN waysO keepO) 999

def under' (N : Nat) : Tr AV → Nat → Nat → Bool
  | .nil, _, _ => true
  | .node l v r, a, b => Option.casesOn (motive := fun _ => Bool) v true (fun _ => Nat.blt b N) && (under' N l (Nat.mul 2 a) (Nat.add a b) && under' N r (Nat.mul 2 a) (Nat.add (Nat.mul 2 a) b))
abbrev SeenO := Option AV → Option AV → Option AV → Option AV → AMem → Prop
def lookO (P : SeenO) (s : St) : Prop := under' 58 s.tm 1 0 = true ∧ (s.tm.get 1 = some (.ptr 0 0) ∧ s.tm.get 2 = some (.ptr 1 0) ∧ s.tm.get 3 = some (.ptr 2 0)) ∧ P (s.tm.get 4) (s.tm.get 5) (s.tm.get 6) (s.tm.get 7) s.mem
def lookOX (e0 : Nat) (P PX : SeenO) : KX := fun e s => Ex.casesOn (motive := fun _ => Prop) e (lookO P s) (fun id => id = e0 ∧ lookO PX s) False
def seenO (P : SeenO) (a b c d : AV) (m : AMem) : Prop := true = true ∧ (some (AV.ptr 0 0) = some (.ptr 0 0) ∧ some (AV.ptr 1 0) = some (.ptr 1 0) ∧ some (AV.ptr 2 0) = some (.ptr 2 0)) ∧ P (some a) (some b) (some c) (some d) m
def i64N (n : Nat) : AV := .int .i64 (.ofNat n)
def junkO (j : Nat → AV) : List AV := [j 8, j 9, j 10, j 11, j 12, j 13, j 14, j 15, j 16, j 17, j 18, j 19, j 20, j 21, j 22, j 23, j 24, j 25, j 26, j 27, j 28, j 29, j 30, j 31, j 32, j 33, j 34, j 35, j 36, j 37, j 38, j 39, j 40, j 41, j 42, j 43, j 44, j 45, j 46, j 47, j 48, j 49, j 50, j 51, j 52, j 53, j 54, j 55, j 56, j 57]
def tm1 (j : Nat → AV) (at' i : Nat) : Tr AV := tab (j 0 :: .ptr 0 0 :: .ptr 1 0 :: .ptr 2 0 :: i64N at' :: i64N i :: j 6 :: j 7 :: junkO j)
def tm2 (j : Nat → AV) (at' i n k : Nat) : Tr AV := tab (j 0 :: .ptr 0 0 :: .ptr 1 0 :: .ptr 2 0 :: i64N at' :: i64N i :: i64N n :: i64N k :: junkO j)
def atO (i : Nat) : Nat := i * 25 + (i + 1) / 2
def nO (i : Nat) : Nat := Bool.casesOn (motive := fun _ => Nat) (Nat.beq i 9) (26 - i % 2) 26
def wl (w : Nat → Int) : List AV := (List.range 10).map fun j => .int .i64 (w j)
def memR (A : Nat) (R : ABlk) : AMem := (((⟨0, .nil⟩ : AMem).add (.row 32 (encL 32 A) .nil true)).add (.row 10 (wl fun _ => 0) .nil true)).add R
def memF (A : Nat) (w : Nat → Int) : AMem := memR A (.row 10 (wl w) .nil true)
def memP (A : Nat) (w : Nat → Int) (i : Nat) (v : Int) : AMem := memR A (.row 10 (wl w) (Tr.nil.put i (some (.int .i64 v))) true)
def nthI (l : List AV) (j : Nat) : Int := match nthCell l j with
  | some (.int _ n) => n
  | _ => 0
def shr8 (a : Int) (n : Nat) : Int := Int.casesOn (motive := fun _ => Int) a (fun m => .ofNat (Nat.div m (Nat.pow 2 (cnt .u8 n)))) (fun m => .negSucc (Nat.div m (Nat.pow 2 (cnt .u8 n))))
def bitO (A s : Nat) : Bool := eqI (Int.tmod (shr8 (nthI (encL 32 A) (s / 8)) (s % 8)) 2) 1
def splitO (b : Bool) (T F : Prop) : Prop := (b = true → T) ∧ (b = false → F)

theorem okA : okTM cfO (pEnv specsO) (qL opOut) = true := by kernel_rfl
theorem okB' : okTM cfO (pEnv specsO) opPre = true := by kernel_rfl
theorem okIn : okTM cfO (pEnv specsO) opIn = true := by kernel_rfl
theorem okE' : okTM cfO (pEnv specsO) (qR (qR (qR opMid))) = true := by kernel_rfl
theorem okF' : okTM cfO (pEnv specsO) (qR (qR opOut)) = true := by kernel_rfl
theorem ok0 : okTM cfO (pEnv specsO) opPre0 = true := by kernel_rfl
theorem okEnd : okTM cfO (pEnv specsO) opEnd = true := by kernel_rfl
theorem okBody : okTM cfO (pEnv specsO) opBody = true := by kernel_rfl
theorem preA_all (j : Nat → AV) (m : AMem) (P PX : SeenO) :
    (List.range 10).map (fun i => seenO P (i64N (atO i)) (i64N i) (j 6) (j 7) m) =
    (List.range 10).map (fun i => wpCodeF cfO (qL opOut) (pEnv specsO) cwO 999 ⟨tm1 j (atO i) i, m⟩ (lookOX 0 P PX)) := by kernel_rfl
theorem preA_end (j : Nat → AV) (m : AMem) (P PX : SeenO) :
    (0 = 0 ∧ seenO PX (i64N (atO 10)) (i64N 10) (j 6) (j 7) m) = wpCodeF cfO (qL opOut) (pEnv specsO) cwO 999 ⟨tm1 j (atO 10) 10, m⟩ (lookOX 0 P PX) := by kernel_rfl
theorem preB_all (j : Nat → AV) (m : AMem) (P PX : SeenO) :
    (List.range 10).map (fun i => seenO P (i64N (atO i)) (i64N i) (i64N (nO i)) (i64N 0) m) =
    (List.range 10).map (fun i => wpCodeF cfO opPre (pEnv specsO) cwO 999 ⟨tm1 j (atO i) i, m⟩ (lookOX 0 P PX)) := by kernel_rfl
theorem postE_all (j : Nat → AV) (m : AMem) (P PX : SeenO) :
    (List.range 10).map (fun i => seenO P (i64N (atO (i + 1))) (i64N i) (i64N (nO i)) (i64N (nO i)) m) =
    (List.range 10).map (fun i => wpCodeF cfO (qR (qR (qR opMid))) (pEnv specsO) cwO 999 ⟨tm2 j (atO i) i (nO i) (nO i), m⟩ (lookOX 0 P PX)) := by kernel_rfl
theorem postF_all (j : Nat → AV) (m : AMem) (P PX : SeenO) :
    (List.range 10).map (fun i => seenO P (i64N (atO (i + 1))) (i64N (i + 1)) (j 6) (j 7) m) =
    (List.range 10).map (fun i => wpCodeF cfO (qR (qR opOut)) (pEnv specsO) cwO 999 ⟨tm1 j (atO (i + 1)) i, m⟩ (lookOX 0 P PX)) := by kernel_rfl
theorem in_end (j : Nat → AV) (m : AMem) (P PX : SeenO) :
    (List.range 10).map (fun i => 2 = 2 ∧ seenO PX (i64N (atO i)) (i64N i) (i64N (nO i)) (i64N (nO i)) m) =
    (List.range 10).map (fun i => wpCodeF cfO opIn (pEnv specsO) cwO 999 ⟨tm2 j (atO i) i (nO i) (nO i), m⟩ (lookOX 2 P PX)) := by kernel_rfl
def inM (A : Nat) (w : Nat → Int) (P : SeenO) (i k : Nat) : Prop :=
  splitO (bitO A (atO i + k)) (seenO P (i64N (atO i)) (i64N i) (i64N (nO i)) (i64N (k + 1)) (memP A w i (iadd (w i) (ishl 1 k))))
    (seenO P (i64N (atO i)) (i64N i) (i64N (nO i)) (i64N (k + 1)) (memF A w))
theorem in_all (j : Nat → AV) (A : Nat) (w : Nat → Int) (P PX : SeenO) :
    (List.range 10).map (fun i => (List.range (nO i)).map (fun k => inM A w P i k)) =
    (List.range 10).map (fun i => (List.range (nO i)).map (fun k => wpCodeF cfO opIn (pEnv specsO) cwO 999 ⟨tm2 j (atO i) i (nO i) k, memF A w⟩ (lookOX 2 P PX))) := by kernel_rfl
theorem pre0_wp (A : Nat) (P PX : SeenO) :
    (true = true ∧ (some (AV.ptr 0 0) = some (.ptr 0 0) ∧ some (AV.ptr 1 0) = some (.ptr 1 0) ∧ some (AV.ptr 2 0) = some (.ptr 2 0)) ∧ P (some (i64N 0)) (some (i64N 0)) none none (memF A fun _ => 0)) =
    wpCodeF cfO opPre0 (pEnv specsO) cwO 999 ⟨initTm [.agg (encL 32 A)] 0 .nil, ⟨0, .nil⟩⟩ (lookOX 0 P PX) := by kernel_rfl
end
end Ev
