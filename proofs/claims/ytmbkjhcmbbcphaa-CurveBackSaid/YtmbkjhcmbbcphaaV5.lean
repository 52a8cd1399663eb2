/-
  Roots modulo 2^255 - 19. Conditions: numbers of 32 bytes.
-/
import Derived.Test.YtmbkjhcmbbcphaaV1
import Derived.Test.YtmbkjhcmbbcphaaV4
import Derived.Test.YtmbkjhcmbbcphaaR2
namespace Ev
open Go Go.Proofs
noncomputable section

theorem pF_prime : isPrime pF := prime_57896044618658097711785492504343953926634992332820282019728792003956564819949
theorem same_iff (X Y : Nat) : sameN X Y = true ↔ X % pF = Y % pF := by
  unfold sameN
  exact ⟨Nat.eq_of_beq_eq_true, fun h => by rw [h]; exact Nat.beq_refl _⟩
theorem odd_iff (X : Nat) : oddN X = true ↔ X % pF % 2 = 1 := by
  unfold oddN
  exact ⟨Nat.eq_of_beq_eq_true, fun h => by rw [h]; rfl⟩

section
variable {q : Nat} (hq : pF = 8 * q + 5) (h2 : 2 ^ (4 * q + 2) % pF = pF - 1)
theorem same1 (e A : Nat) : sameN (mulN (root1G e A) (root1G e A)) A = true ↔ A ^ e * A ^ e % pF = A % pF := by
  rw [same_iff]
  unfold mulN root1G powM
  rw [Nat.mod_mod, mm1, mm2]
theorem same2 (e f A : Nat) : sameN (mulN (root2G e f A) (root2G e f A)) A = true ↔ (A ^ e * 2 ^ f) * (A ^ e * 2 ^ f) % pF = A % pF := by
  rw [same_iff]
  have h : root2G e f A = A ^ e * 2 ^ f % pF := by
    unfold root2G root1G mulN powM
    rw [mm1, mm2]
  rw [h]
  unfold mulN
  rw [Nat.mod_mod, mm1, mm2]
include hq in
theorem rootB_chi {A : Nat} (hA : ¬ pF ∣ A) {e f : Nat} (h : rootBG e f A = true) : A ^ (4 * q + 2) % pF = 1 := by
  unfold rootBG at h
  rw [Bool.or_eq_true, same1, same2] at h
  rcases h with h | h
  · exact chi_of_sq pF_prime hq hA h
  · exact chi_of_sq pF_prime hq hA h
include hq h2 in
theorem chi_rootB {A : Nat} (h : A ^ (4 * q + 2) % pF = 1) : rootBG (q + 1) (2 * q + 1) A = true := by
  unfold rootBG
  rw [Bool.or_eq_true, same1, same2]
  exact root_of_chi pF_prime hq h2 h
theorem rootR_false {A e f : Nat} (h : rootBG e f A = false) : rootRG e f A = 0 := by
  unfold rootBG at h
  rw [Bool.or_eq_false_iff] at h
  unfold rootRG
  rw [h.1, h.2]
theorem rootR_true {A e f : Nat} (h : rootBG e f A = true) : ∃ x, x < pF ∧ x * x % pF = A % pF ∧ rootRG e f A = evenN x := by
  have hp := pF_prime.1
  cases h1 : sameN (mulN (root1G e A) (root1G e A)) A with
  | true =>
    refine ⟨root1G e A, Nat.mod_lt _ (by omega), ?_, by unfold rootRG; rw [h1]⟩
    have := (same_iff _ _).1 h1
    unfold mulN at this
    rw [Nat.mod_mod] at this; exact this
  | false =>
    have h2 : sameN (mulN (root2G e f A) (root2G e f A)) A = true := by
      unfold rootBG at h
      rw [h1, Bool.false_or] at h; exact h
    refine ⟨root2G e f A, Nat.mod_lt _ (by omega), ?_, by unfold rootRG; rw [h1, h2]⟩
    have := (same_iff _ _).1 h2
    unfold mulN at this
    rw [Nat.mod_mod] at this; exact this
theorem neg_lt {x : Nat} (h0 : 0 < x) (hx : x < pF) : negN x = pF - x := by
  unfold negN subN
  rw [Nat.zero_mod, Nat.mod_eq_of_lt hx, Nat.zero_add]
  exact Nat.mod_eq_of_lt (by omega)
theorem neg_mod (A : Nat) : negN A = negN (A % pF) := by
  unfold negN subN
  rw [Nat.mod_mod]
theorem odd_mod (A : Nat) : oddN A = oddN (A % pF) := by
  unfold oddN
  rw [Nat.mod_mod]
include hq in
theorem odd_neg {a : Nat} (h0 : 0 < a) (ha : a < pF) : oddN (pF - a) = !oddN a := by
  have hlt : pF - a < pF := by omega
  cases h : oddN a with
  | true =>
    have h := (odd_iff _).1 h
    rw [Nat.mod_eq_of_lt ha] at h
    cases h' : oddN (pF - a) with
    | false => rfl
    | true =>
      have h' := (odd_iff _).1 h'
      rw [Nat.mod_eq_of_lt hlt] at h'
      omega
  | false =>
    have h : ¬ a % pF % 2 = 1 := fun e => by rw [(odd_iff _).2 e] at h; cases h
    rw [Nat.mod_eq_of_lt ha] at h
    show oddN (pF - a) = true
    rw [odd_iff, Nat.mod_eq_of_lt hlt]
    omega
include hq in
theorem even_same {x a : Nat} (ha0 : 0 < a) (ha : a < pF) (h : x = a ∨ x = pF - a) : evenN x = evenN a := by
  rcases h with rfl | rfl
  · rfl
  · unfold evenN
    rw [odd_neg hq ha0 ha, neg_lt (by omega) (by omega), neg_lt ha0 ha]
    cases oddN a with
    | true => rfl
    | false => show pF - (pF - a) = a; omega
end

theorem qF : pF = 8 * (2 ^ 252 - 3) + 5 := by decide
theorem chi_at {e r : Nat} (he : e < 2 ^ 256) (h : powm pF 2 256 e = r) : 2 ^ e % pF = r := by
  rw [← h, powm_eq pF 2 256 e he]
theorem chi2 {e : Nat} (he : e = 4 * (2 ^ 252 - 3) + 2) : 2 ^ e % pF = pF - 1 := chi_at (by rw [he]; decide) (by rw [he]; decide +kernel)
theorem exps : ∃ q, pF = 8 * q + 5 ∧ 2 ^ (4 * q + 2) % pF = pF - 1 ∧ (∀ A, rootB A = rootBG (q + 1) (2 * q + 1) A) ∧ ∀ A, rootR A = rootRG (q + 1) (2 * q + 1) A := by
  obtain ⟨q, hq⟩ : ∃ q, q = 2 ^ 252 - 3 := ⟨_, rfl⟩
  have e1 : 2 ^ 252 - 2 = q + 1 := by rw [hq]
  have e2 : 2 ^ 253 - 5 = 2 * q + 1 := by rw [hq]
  refine ⟨q, by rw [hq]; exact qF, chi2 (by rw [hq]), fun A => ?_, fun A => ?_⟩
  · unfold rootB; rw [e1, e2]
  · unfold rootR; rw [e1, e2]

theorem rest_pos {A : Nat} (h : A % pF ≠ 0) : 0 < A % pF ∧ A % pF < pF ∧ ¬ pF ∣ A :=
  ⟨Nat.pos_of_ne_zero h, Nat.mod_lt _ (by decide), fun hd => h (Nat.mod_eq_zero_of_dvd hd)⟩
theorem chi_mod (A k : Nat) : (A % pF) ^ k % pF = A ^ k % pF := mm3 pF A k
def evenA (A : Nat) : Nat := Bool.casesOn (motive := fun _ => Nat) (oddN A) (restN A) (negN A)
theorem evenA_eq (A : Nat) : evenA A = evenN (A % pF) := by
  unfold evenA evenN
  rw [← odd_mod, ← neg_mod]; rfl
/-- the root of a square -/
theorem root_sq {A : Nat} (hA : A % pF ≠ 0) : rootB (mulN A A) = true ∧ rootR (mulN A A) = evenA A := by
  obtain ⟨q, hq, h2, hB, hR⟩ := exps
  obtain ⟨h0, hlt, hnd⟩ := rest_pos hA
  have hchi : mulN A A ^ (4 * q + 2) % pF = 1 := by
    unfold mulN
    rw [chi_mod, ← Nat.pow_two, ← Nat.pow_mul, show 2 * (4 * q + 2) = pF - 1 by omega]
    exact fermat pF_prime hnd
  have hb : rootBG (q + 1) (2 * q + 1) (mulN A A) = true := chi_rootB hq h2 hchi
  refine ⟨by rw [hB]; exact hb, ?_⟩
  obtain ⟨x, hx, hxx, hr⟩ := rootR_true hb
  rw [hR, hr, evenA_eq]
  refine even_same hq h0 hlt (sq_same pF_prime hx h0 hlt ?_)
  rw [hxx]
  unfold mulN
  rw [Nat.mod_mod, mm1, mm2]
theorem root_two {A : Nat} (hA : A % pF ≠ 0) : rootB (mulN 2 (mulN A A)) = false ∧ rootR (mulN 2 (mulN A A)) = 0 := by
  obtain ⟨q, hq, h2, hB, hR⟩ := exps
  obtain ⟨h0, hlt, hnd⟩ := rest_pos hA
  have hp := pF_prime.1
  have hchi : mulN 2 (mulN A A) ^ (4 * q + 2) % pF = pF - 1 := by
    unfold mulN
    rw [mm2, chi_mod, Nat.mul_pow, Nat.mul_mod, h2, ← Nat.pow_two, ← Nat.pow_mul, show 2 * (4 * q + 2) = pF - 1 by omega, fermat pF_prime hnd, Nat.mul_one]
    exact Nat.mod_eq_of_lt (by omega)
  have hnd2 : ¬ pF ∣ mulN 2 (mulN A A) := fun hd => by
    have h1 := Nat.mod_eq_zero_of_dvd (Nat.dvd_trans hd (Nat.dvd_mul_right _ (mulN 2 (mulN A A) ^ (4 * q + 1))))
    rw [Nat.mul_comm, ← Nat.pow_succ, hchi] at h1
    omega
  have hb : rootBG (q + 1) (2 * q + 1) (mulN 2 (mulN A A)) = false := by
    cases h : rootBG (q + 1) (2 * q + 1) (mulN 2 (mulN A A)) with
    | false => rfl
    | true =>
      have := rootB_chi hq hnd2 h
      rw [hchi] at this
      omega
  exact ⟨by rw [hB]; exact hb, by rw [hR]; exact rootR_false hb⟩
theorem rootB_iff {q : Nat} (hq : pF = 8 * q + 5) (h2 : 2 ^ (4 * q + 2) % pF = pF - 1) {A : Nat} (hA : ¬ pF ∣ A) : rootBG (q + 1) (2 * q + 1) A = decide (A ^ (4 * q + 2) % pF = 1) := by
  cases h : rootBG (q + 1) (2 * q + 1) A with
  | true => exact (decide_eq_true (rootB_chi hq hA h)).symm
  | false =>
    refine (decide_eq_false fun hc => ?_).symm
    rw [chi_rootB hq h2 hc] at h; cases h
theorem root_prod {A B : Nat} (hA : A % pF ≠ 0) (hB : B % pF ≠ 0) : eqBool (rootB (mulN A B)) (eqBool (rootB A) (rootB B)) = true := by
  obtain ⟨q, hq, h2, hbb, _⟩ := exps
  obtain ⟨_, _, hnA⟩ := rest_pos hA
  obtain ⟨_, _, hnB⟩ := rest_pos hB
  have hp := pF_prime.1
  have hnAB : ¬ pF ∣ mulN A B := fun hd => by
    have h1 := Nat.mod_eq_zero_of_dvd hd
    unfold mulN at h1
    rw [Nat.mod_mod] at h1
    exact (prime_dvd_mul pF_prime (Nat.dvd_of_mod_eq_zero h1)).elim hnA hnB
  have hchi : mulN A B ^ (4 * q + 2) % pF = (A ^ (4 * q + 2) % pF) * (B ^ (4 * q + 2) % pF) % pF := by
    unfold mulN
    rw [chi_mod, Nat.mul_pow, Nat.mul_mod]
  have hm : (pF - 1) * (pF - 1) % pF = 1 := by
    have e : (pF - 1) * (pF - 1) = 1 + pF * (pF - 2) := by decide
    rw [e, Nat.add_mul_mod_self_left]; exact Nat.mod_eq_of_lt hp
  rw [hbb, hbb, hbb, rootB_iff hq h2 hnA, rootB_iff hq h2 hnB, rootB_iff hq h2 hnAB, hchi]
  have hne : pF - 1 ≠ 1 := by decide
  rcases chi_pm pF_prime hq hnA with h | h <;> rcases chi_pm pF_prime hq hnB with h' | h' <;> rw [h, h']
  · rw [Nat.mul_one, Nat.mod_eq_of_lt hp]; rfl
  · rw [Nat.one_mul, Nat.mod_eq_of_lt (by omega : pF - 1 < pF), decide_eq_false hne]; rfl
  · rw [Nat.mul_one, Nat.mod_eq_of_lt (by omega : pF - 1 < pF), decide_eq_false hne]; rfl
  · rw [hm, decide_eq_false hne]; rfl
theorem odd_other {A : Nat} (hA : A % pF ≠ 0) : oddN (negN A) = !oddN A := by
  obtain ⟨q, hq, _⟩ := exps
  obtain ⟨h0, hlt, _⟩ := rest_pos hA
  rw [neg_mod, neg_lt h0 hlt, odd_neg hq h0 hlt, ← odd_mod]

end
end Ev
