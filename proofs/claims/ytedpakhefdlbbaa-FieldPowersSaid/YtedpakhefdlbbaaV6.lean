/-
  FieldPowers answers true. Conditions: a number of 32 bytes, two numbers below 2^32.
-/
import Derived.Test.YtedpakhefdlbbaaV3
import Derived.Test.YtedpakhefdlbbaaV5
namespace Ev
open Go Go.Proofs
noncomputable section

theorem w64_of {n : Nat} (h : n < M64) : w64 (.ofNat n) = .ofNat n := by unfold w64; rw [wrap64, Nat.mod_eq_of_lt h]
theorem lt32_64 {n : Nat} (h : n < M64) : n < 256 ^ 32 := Nat.lt_trans h (by decide)
theorem mulK_nat {P : Nat} (hP : P < 256 ^ 32) {K : List AV → Prop} : ∀ (k W : Nat), K (encL 32 (W * P ^ k % pF)) → mulK k (encL 32 (W % pF)) (encL 32 P) K
  | 0, W, hk => by rw [Nat.pow_zero, Nat.mul_one] at hk; exact hk
  | k + 1, W, hk => by
    refine q2_nat (mod_lt32 _) hP ?_
    have e : mulN (W % pF) P = W * P % pF := by unfold mulN; rw [mm1]
    rw [e]
    refine mulK_nat hP k (W * P) ?_
    rw [Nat.mul_assoc, ← Nat.pow_succ']; exact hk
theorem lessF : negN 1 = pF - 1 := by decide
theorem pow_zero_mod {A k : Nat} (h : A % pF = 0) (hk : 0 < k) : powM A k = 0 := by
  unfold powM
  rw [← mm3, h, Nat.zero_pow hk, Nat.zero_mod]
theorem inv_mul {A : Nat} (hA : ¬ pF ∣ A) : mulN (invN A) A = 1 := by
  have : ∀ e, e + 1 = pF - 1 → mulN (powM A e) A = 1 := by
    intro e he
    unfold mulN powM
    rw [mm1, ← Nat.pow_succ]
    show A ^ (e + 1) % pF = 1
    rw [he]
    exact fermat pF_prime hA
  exact this _ (by decide)
theorem inv_inv {A : Nat} (hA : ¬ pF ∣ A) : invN (invN A) = restN A := by
  have : ∀ e, e * e = (pF - 1) * (pF - 3) + 1 → powM (powM A e) e = restN A := by
    intro e he
    unfold powM restN
    rw [mm3, ← Nat.pow_mul, he, pow_red pF_prime hA, Nat.pow_one]
  exact this _ (by decide)
theorem pow_add_mod (A x y : Nat) : mulN (powM A x) (powM A y) = powM A (x + y) := by
  unfold mulN powM
  rw [mm1, mm2, ← Nat.pow_add]
theorem pow_less {A : Nat} (hA : ¬ pF ∣ A) : powM A (negN 1) = 1 := by
  rw [lessF]; exact fermat pF_prime hA
theorem tmod9 (n : Nat) : Int.tmod (.ofNat n) 9 = .ofNat (n % 9) := rfl
theorem intZ_nat {n : Nat} {F : Nat → Prop} (h : ∀ c, c < 9 → F c) : intZ (Int.tmod (.ofNat n) 9) F := by
  rw [tmod9]
  exact ⟨⟨n % 9, Nat.mod_lt _ (by decide), rfl⟩, fun _ => h 0 (by decide), fun _ => h 1 (by decide), fun _ => h 2 (by decide), fun _ => h 3 (by decide), fun _ => h 4 (by decide), fun _ => h 5 (by decide), fun _ => h 6 (by decide), fun _ => h 7 (by decide), fun _ => h 8 (by decide)⟩
theorem inv_lt (A : Nat) : invN A < 256 ^ 32 := lt_pow' A _
theorem rest_lt (A : Nat) : restN A < 256 ^ 32 := mod_lt32 _

theorem powers_true {A m n : Nat} (hA : A < 256 ^ 32) (hm : m < 4294967296) (hn : n < 4294967296) {K : Bool → Prop} (hK : K true) : powersP (encL 32 A) (.ofNat m) (.ofNat n) K := by
  have e64 : M64 = 18446744073709551616 := rfl
  have m64 : m < M64 := by omega
  have n64 : n < M64 := by omega
  have hadd : uadd (.ofNat m) (.ofNat n) = .ofNat (m + n) := by rw [uadd_nat]; congr 1; rw [e64]; omega
  have s64 : m + n < M64 := by omega
  have one : (1 : Nat) < 256 ^ 32 := by decide
  unfold powersP
  rw [w64_of m64, w64_of n64, hadd]
  refine q1_nat hA (q1_nat hA ⟨_, eq_num (rest_lt A) (by decide), ofQ_nat m64 (ofQ_nat n64 (ofQ_nat s64 (ofQ_nat (n := 1) (by decide) (q1_nat one ⟨fun hz => ?_, fun hz => ?_⟩))))⟩)
  · have hz : A % pF = 0 := of_decide_eq_true hz
    refine eqZ_of (inv_lt A) (by decide) (pow_zero_mod hz (by decide)) (q2_nat hA (neg_lt32 1) (eqZ_of (lt_pow' _ _) (by decide) (pow_zero_mod hz ?_) hK))
    rw [lessF]; decide
  · have hz : A % pF ≠ 0 := of_decide_eq_false hz
    obtain ⟨_, _, hnd⟩ := rest_pos hz
    refine intZ_nat fun k hk => q2_nat hA (lt32_64 m64) (ofQ_nat (n := 1) (by decide) ?_)
    have h1 := mulK_nat (lt_pow' A m) (K := fun want => pwTail (encL 32 A) (encL 32 (invN A)) (encL 32 n) (encL 32 (m + n)) (encL 32 (negN 1)) (encL 32 (powM A m)) want k K) k 1
    have e1 : 1 % pF = 1 := by decide
    rw [e1] at h1
    refine h1 ?_
    have hw : 1 * powM A m ^ k % pF < 256 ^ 32 := mod_lt32 _
    refine q2_nat (inv_lt A) hA (ofQ_nat (n := 1) (by decide) (eqZ_of (lt_mul _ _) one (inv_mul hnd) ?_))
    refine q1_nat (inv_lt A) (q1_nat hA (eqZ_of (inv_lt _) (rest_lt A) (inv_inv hnd) ?_))
    refine q2_nat hA (lt32_64 n64) (q2_nat (lt_pow' _ _) (lt_pow' _ _) (q2_nat hA (lt32_64 s64) (eqZ_of (lt_mul _ _) (lt_pow' _ _) (pow_add_mod A m n) ?_)))
    refine ofQ_nat (by omega) (q2_nat (lt_pow' _ _) (lt32_64 (by omega)) (eqZ_of (lt_pow' _ _) hw (by rw [Nat.one_mul]; rfl) ?_))
    exact q2_nat hA (neg_lt32 1) (ofQ_nat (n := 1) (by decide) (eqZ_of (lt_pow' _ _) one (pow_less hnd) hK))
theorem powers_run {A m n : Nat} (hA : A < 256 ^ 32) (hm : m < 4294967296) (hn : n < 4294967296) : ∃ μ, evCall (pEnv specsZ) 1000 (.fn 6) [.agg (encL 32 A), .int .u32 (.ofNat m), .int .u32 (.ofNat n)] ⟨0, .nil⟩ = some (.bool true, μ) := by
  obtain ⟨r, μ, h, rfl⟩ := run_of pairedZ specsZ_ok (cf := cfW) pfZ (K := fun r => r = .bool true) (Eq.mp (powers_wp A _ _ _) (powers_true hA hm hn fun _ => rfl))
  exact ⟨μ, h⟩
end
end Ev
