/-
  Powers, inverses and roots modulo a prime. Conditions: those named.
-/
import Derived.Test.YtmbkjhcmbbcphaaNn
namespace Ev

theorem mm1 (p a b : Nat) : a % p * b % p = a * b % p := by rw [Nat.mul_mod, Nat.mod_mod, ← Nat.mul_mod]
theorem mm2 (p a b : Nat) : a * (b % p) % p = a * b % p := by rw [Nat.mul_mod, Nat.mod_mod, ← Nat.mul_mod]
theorem mm3 (p a k : Nat) : (a % p) ^ k % p = a ^ k % p := (Nat.pow_mod a k p).symm
section
variable {p : Nat} (hp : isPrime p)
include hp
theorem prime_dvd_mul {a b : Nat} (h : p ∣ a * b) : p ∣ a ∨ p ∣ b := by
  by_cases ha : p ∣ a
  · exact .inl ha
  · exact .inr ((prime_coprime hp ha).dvd_of_dvd_mul_left h)
theorem prime_dvd_pow {a k : Nat} (h : p ∣ a ^ k) : p ∣ a := by
  induction k with
  | zero =>
    rw [Nat.pow_zero] at h
    have := Nat.le_of_dvd (by decide) h
    have := hp.1
    omega
  | succ k ih =>
    rw [Nat.pow_succ] at h
    exact (prime_dvd_mul hp h).elim ih id
theorem pow_red {a k j : Nat} (ha : ¬ p ∣ a) : a ^ ((p - 1) * k + j) % p = a ^ j % p := by
  rw [Nat.pow_add, Nat.pow_mul, Nat.mul_mod, Nat.pow_mod, fermat hp ha, Nat.one_pow, ← Nat.mul_mod, Nat.one_mul]
/-- a square that is 1 -/
theorem sq_one {c : Nat} (h : c * c % p = 1) : c % p = 1 ∨ c % p = p - 1 := by
  have h1 := hp.1
  have hc : 1 ≤ c := by
    rcases Nat.eq_zero_or_pos c with h0 | h0
    · rw [h0, Nat.mul_zero, Nat.zero_mod] at h; cases h
    · exact h0
  have hd : p ∣ (c - 1) * (c + 1) := by
    have e : (c - 1) * (c + 1) = c * c - 1 := by
      rw [Nat.mul_comm, ← Nat.mul_self_sub_mul_self_eq]
    rw [e]
    exact (mod_dvd (Nat.mul_pos hc hc)).1 (by rw [h]; exact Nat.mod_eq_of_lt h1)
  rcases prime_dvd_mul hp hd with hd | hd
  · left
    have := (mod_dvd hc).2 hd
    rw [← this]; exact Nat.mod_eq_of_lt h1
  · right
    have h2 := Nat.mod_eq_zero_of_dvd hd
    rw [Nat.add_mod, Nat.mod_eq_of_lt h1] at h2
    have h3 : c % p < p := Nat.mod_lt _ (by omega)
    rcases Nat.lt_or_ge (c % p + 1) p with h4 | h4
    · rw [Nat.mod_eq_of_lt h4] at h2; omega
    · omega
theorem sq_same {x a : Nat} (hx : x < p) (ha0 : 0 < a) (ha : a < p) (h : x * x % p = a * a % p) : x = a ∨ x = p - a := by
  rcases Nat.le_total x a with hl | hl
  · have hd := (mod_dvd (Nat.mul_le_mul hl hl)).1 h
    rw [Nat.mul_self_sub_mul_self_eq] at hd
    rcases prime_dvd_mul hp hd with hd | hd
    · right
      obtain ⟨k, hk⟩ := hd
      match k, hk with
      | 0, hk => omega
      | 1, hk => omega
      | k + 2, hk =>
        have : p * (k + 2) = p * k + p + p := by rw [Nat.mul_add]; omega
        omega
    · left
      rcases Nat.eq_zero_or_pos (a - x) with h0 | h0
      · omega
      · have := Nat.le_of_dvd h0 hd; omega
  · have hd := (mod_dvd (Nat.mul_le_mul hl hl)).1 h.symm
    rw [Nat.mul_self_sub_mul_self_eq] at hd
    rcases prime_dvd_mul hp hd with hd | hd
    · right
      obtain ⟨k, hk⟩ := hd
      match k, hk with
      | 0, hk => omega
      | 1, hk => omega
      | k + 2, hk =>
        have : p * (k + 2) = p * k + p + p := by rw [Nat.mul_add]; omega
        omega
    · left
      rcases Nat.eq_zero_or_pos (x - a) with h0 | h0
      · omega
      · have := Nat.le_of_dvd h0 hd; omega

/-- the half power -/
theorem chi_pm {q a : Nat} (hq : p = 8 * q + 5) (ha : ¬ p ∣ a) : a ^ (4 * q + 2) % p = 1 ∨ a ^ (4 * q + 2) % p = p - 1 := by
  refine sq_one hp ?_
  rw [← Nat.pow_add, show 4 * q + 2 + (4 * q + 2) = p - 1 by omega]
  exact fermat hp ha
theorem chi_of_sq {q a x : Nat} (hq : p = 8 * q + 5) (ha : ¬ p ∣ a) (h : x * x % p = a % p) : a ^ (4 * q + 2) % p = 1 := by
  have hx : ¬ p ∣ x := fun hd => ha (Nat.dvd_of_mod_eq_zero (by rw [← h]; exact Nat.mod_eq_zero_of_dvd (Nat.dvd_trans hd (Nat.dvd_mul_right x x))))
  rw [← mm3, ← h, mm3, ← Nat.pow_two, ← Nat.pow_mul, show 2 * (4 * q + 2) = p - 1 by omega]
  exact fermat hp hx
/-- a root that the half powers tell of -/
theorem root_of_chi {q a : Nat} (hq : p = 8 * q + 5) (h2 : 2 ^ (4 * q + 2) % p = p - 1) (hc : a ^ (4 * q + 2) % p = 1) :
    a ^ (q + 1) * a ^ (q + 1) % p = a % p ∨ (a ^ (q + 1) * 2 ^ (2 * q + 1)) * (a ^ (q + 1) * 2 ^ (2 * q + 1)) % p = a % p := by
  have e1 : a ^ (q + 1) * a ^ (q + 1) = a ^ (2 * q + 1) * a := by
    rw [← Nat.pow_add, ← Nat.pow_succ]; congr 1; omega
  have hsq : a ^ (2 * q + 1) * a ^ (2 * q + 1) % p = 1 := by
    rw [← Nat.pow_add, show 2 * q + 1 + (2 * q + 1) = 4 * q + 2 by omega]; exact hc
  have h22 : 2 ^ (2 * q + 1) * 2 ^ (2 * q + 1) % p = p - 1 := by
    rw [← Nat.pow_add, show 2 * q + 1 + (2 * q + 1) = 4 * q + 2 by omega]; exact h2
  have hm : (p - 1) * (p - 1) % p = 1 := by
    have h1 := hp.1
    have e : (p - 1) * (p - 1) = 1 + p * (p - 2) := by
      obtain ⟨k, rfl⟩ : ∃ k, p = k + 2 := ⟨p - 2, by omega⟩
      show (k + 1) * (k + 1) = 1 + (k + 2) * k
      rw [Nat.add_mul, Nat.mul_add, Nat.add_mul]; omega
    rw [e, Nat.add_mul_mod_self_left]; exact Nat.mod_eq_of_lt h1
  rcases sq_one hp hsq with h | h
  · left
    rw [e1, Nat.mul_mod, h, Nat.one_mul, Nat.mod_mod]
  · right
    have e2 : (a ^ (q + 1) * 2 ^ (2 * q + 1)) * (a ^ (q + 1) * 2 ^ (2 * q + 1)) = (a ^ (2 * q + 1) * (2 ^ (2 * q + 1) * 2 ^ (2 * q + 1))) * a := by
      rw [Nat.mul_mul_mul_comm, e1, Nat.mul_right_comm]
    rw [e2, Nat.mul_mod, Nat.mul_mod (a ^ (2 * q + 1)), h, h22, hm, Nat.one_mul, Nat.mod_mod]
end
end Ev
