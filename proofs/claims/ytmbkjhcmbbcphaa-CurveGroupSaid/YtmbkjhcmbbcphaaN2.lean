/-
  A test for prime numbers: powers that show the order. Conditions: the parts of n - 1 are prime.
-/
import Derived.Test.YtmbkjhcmbbcphaaN1
namespace Ev

theorem has_prime : ∀ n : Nat, 1 < n → ∃ r, isPrime r ∧ r ∣ n := by
  intro n
  induction n using Nat.strongRecOn with
  | ind n ih =>
    intro hn
    by_cases h : ∀ d, d ∣ n → d = 1 ∨ d = n
    · exact ⟨n, ⟨hn, h⟩, Nat.dvd_refl n⟩
    · simp only [Classical.not_forall, not_or] at h
      obtain ⟨d, hd, h1, h2⟩ := h
      have hpos : 0 < d := Nat.pos_of_dvd_of_pos hd (by omega)
      have hle := Nat.le_of_dvd (by omega) hd
      obtain ⟨r, hr, hrd⟩ := ih d (by omega) (by omega)
      exact ⟨r, hr, Nat.dvd_trans hrd hd⟩
theorem pow_one_mul {r a m : Nat} (h : a ^ m % r = 1 % r) (k : Nat) : a ^ (m * k) % r = 1 % r := by
  rw [Nat.pow_mul, Nat.pow_mod, h, ← Nat.pow_mod, Nat.one_pow]
theorem pow_gcd {r a : Nat} (m k : Nat) (hm : a ^ m % r = 1 % r) (hk : a ^ k % r = 1 % r) : a ^ Nat.gcd m k % r = 1 % r := by
  induction m, k using Nat.gcd.induction with
  | H0 k => rw [Nat.gcd_zero_left]; exact hk
  | H1 m k hpos ih =>
    rw [Nat.gcd_rec]
    refine ih ?_ hm
    have h1 : a ^ k = a ^ (m * (k / m)) * a ^ (k % m) := by rw [← Nat.pow_add, Nat.div_add_mod]
    have h2 : a ^ k % r = a ^ (k % m) % r := by
      rw [h1, Nat.mul_mod, pow_one_mul hm, ← Nat.mul_mod, Nat.one_mul]
    rw [← h2]; exact hk
theorem prime_in : ∀ (qs : List Nat) (p : Nat), (∀ q ∈ qs, isPrime q) → isPrime p → p ∣ prodL qs → p ∈ qs
  | [], p, _, hp, h => by
    have : p = 1 := Nat.dvd_one.1 h
    have := hp.1
    omega
  | q :: qs, p, hq, hp, h => by
    by_cases hd : p ∣ q
    · rcases (hq q (List.mem_cons_self ..)).2 p hd with h1 | h1
      · have := hp.1; omega
      · rw [h1]; exact List.mem_cons_self ..
    · exact List.mem_cons_of_mem _ (prime_in qs p (fun x hx => hq x (List.mem_cons_of_mem _ hx)) hp ((prime_coprime hp hd).dvd_of_dvd_mul_left h))

theorem lucas {n a : Nat} (qs : List Nat) (hn : 1 < n) (hq : ∀ q ∈ qs, isPrime q) (hN : prodL qs = n - 1) (h1 : a ^ (n - 1) % n = 1) (hg : ∀ q ∈ qs, Nat.gcd (a ^ ((n - 1) / q) % n + (n - 1)) n = 1) : isPrime n := by
  obtain ⟨r, hr, hrn⟩ := has_prime n hn
  have hr1 := hr.1
  have hle := Nat.le_of_dvd (by omega) hrn
  have ha : ¬ r ∣ a := by
    intro h
    have h2 : r ∣ a ^ (n - 1) := Nat.dvd_trans h (by
      rw [show n - 1 = (n - 2) + 1 by omega, Nat.pow_succ]
      exact Nat.dvd_mul_left _ _)
    have h3 : a ^ (n - 1) % r = 1 % r := by
      rw [← Nat.mod_mod_of_dvd _ hrn, h1]
    rw [Nat.mod_eq_zero_of_dvd h2, Nat.mod_eq_of_lt hr1] at h3
    omega
  have hA : a ^ (n - 1) % r = 1 % r := by rw [← Nat.mod_mod_of_dvd _ hrn, h1]
  have hB : a ^ (r - 1) % r = 1 % r := by rw [fermat hr ha, Nat.mod_eq_of_lt hr1]
  have hG := pow_gcd (n - 1) (r - 1) hA hB
  by_cases hd : Nat.gcd (n - 1) (r - 1) = n - 1
  · have h2 : n - 1 ∣ r - 1 := hd ▸ Nat.gcd_dvd_right (n - 1) (r - 1)
    have h3 := Nat.le_of_dvd (by omega) h2
    have : r = n := by omega
    exact this ▸ hr
  · exfalso
    obtain ⟨c, hc⟩ := Nat.gcd_dvd_left (n - 1) (r - 1)
    have hc1 : 1 < c := by
      rcases Nat.lt_or_ge 1 c with h | h
      · exact h
      · have : c = 0 ∨ c = 1 := by omega
        rcases this with rfl | rfl
        · simp at hc; omega
        · rw [Nat.mul_one] at hc; exact absurd hc.symm hd
    obtain ⟨p, hp, hpc⟩ := has_prime c hc1
    have hpn : p ∣ n - 1 := Nat.dvd_trans hpc ⟨_, by rw [Nat.mul_comm]; exact hc⟩
    have hpq := prime_in qs p hq hp (hN ▸ hpn)
    obtain ⟨e, he⟩ := hpc
    have hdiv : (n - 1) / p = Nat.gcd (n - 1) (r - 1) * e := by
      have hp0 : 0 < p := by have := hp.1; omega
      refine Nat.div_eq_of_eq_mul_right hp0 ?_
      rw [Nat.mul_left_comm, ← he]; exact hc
    have h4 : a ^ ((n - 1) / p) % r = 1 % r := by rw [hdiv]; exact pow_one_mul hG e
    have h5 : (a ^ ((n - 1) / p) % n + (n - 1)) % r = 0 := by
      rw [Nat.add_mod, Nat.mod_mod_of_dvd _ hrn, h4, ← Nat.add_mod, show 1 + (n - 1) = n by omega]
      exact Nat.mod_eq_zero_of_dvd hrn
    have h6 : r ∣ Nat.gcd (a ^ ((n - 1) / p) % n + (n - 1)) n := Nat.dvd_gcd (Nat.dvd_of_mod_eq_zero h5) hrn
    rw [hg p hpq] at h6
    have := Nat.dvd_one.1 h6
    omega
end Ev
