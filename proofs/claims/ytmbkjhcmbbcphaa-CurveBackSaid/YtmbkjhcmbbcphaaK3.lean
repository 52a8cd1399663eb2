/-
  2^255 - 19 and the curve's number: what the sums ask of them. Conditions: none.
-/
import Derived.Test.YtmbkjhcmbbcphaaV5
import Derived.Test.YtmbkjhcmbbcphaaKk
namespace Ev
open Go Go.Proofs
noncomputable section

def curveD : Nat := 37095705934669439343138083508754565189542113879843219016388785533085940283555
def pI : Int := (pF : Int)
def dI : Int := (curveD : Int)
def Mo (a b : Int) : Prop := pI ∣ a - b
theorem Mo.refl (a : Int) : Mo a a := by unfold Mo; rw [Int.sub_self]; exact Int.dvd_zero _
theorem Mo.of {a b : Int} (h : a = b) : Mo a b := h ▸ Mo.refl a
theorem Mo.symm {a b : Int} (h : Mo a b) : Mo b a := by
  unfold Mo at *
  have : b - a = -(a - b) := by omega
  rw [this]; exact Int.dvd_neg.2 h
theorem Mo.trans {a b c : Int} (h : Mo a b) (h' : Mo b c) : Mo a c := by
  unfold Mo at *
  have : a - c = (a - b) + (b - c) := by omega
  rw [this]; exact Int.dvd_add h h'
theorem Mo.add {a b a' b' : Int} (h : Mo a b) (h' : Mo a' b') : Mo (a + a') (b + b') := by
  unfold Mo at *
  have : a + a' - (b + b') = (a - b) + (a' - b') := by omega
  rw [this]; exact Int.dvd_add h h'
theorem Mo.sub {a b a' b' : Int} (h : Mo a b) (h' : Mo a' b') : Mo (a - a') (b - b') := by
  unfold Mo at *
  have : a - a' - (b - b') = (a - b) - (a' - b') := by omega
  rw [this]; exact Int.dvd_sub h h'
theorem Mo.mul {a b a' b' : Int} (h : Mo a b) (h' : Mo a' b') : Mo (a * a') (b * b') := by
  unfold Mo at *
  have : a * a' - b * b' = (a - b) * a' + (a' - b') * b := by grind
  rw [this]; exact Int.dvd_add (dvd_l h _) (dvd_l h' _)

theorem nat_dvd {n : Nat} : pI ∣ (n : Int) ↔ pF ∣ n := Int.natCast_dvd_natCast
theorem mo_mod (n : Nat) : Mo ((n % pF : Nat) : Int) (n : Int) := by
  have h : (n : Int) = pI * ((n / pF : Nat) : Int) + ((n % pF : Nat) : Int) := by
    unfold pI
    rw [← Int.natCast_mul, ← Int.natCast_add, Nat.div_add_mod]
  refine Mo.symm ⟨((n / pF : Nat) : Int), ?_⟩
  omega
theorem mo_mul (a b : Nat) : Mo ((mulN a b : Nat) : Int) (a * b) := (mo_mod _).trans (Mo.of (Int.natCast_mul a b))
theorem mo_add (a b : Nat) : Mo ((addN a b : Nat) : Int) (a + b) := (mo_mod _).trans (Mo.of (Int.natCast_add a b))
theorem mo_sub (a b : Nat) : Mo ((subN a b : Nat) : Int) (a - b) := by
  refine (mo_mod _).trans ?_
  have hb : b % pF ≤ pF := Nat.le_of_lt (Nat.mod_lt _ (by decide))
  rw [Int.natCast_add, Int.ofNat_sub hb]
  have h1 := (mo_mod a).add (Mo.sub (Mo.refl (pF : Int)) (mo_mod b))
  refine h1.trans ?_
  have : Mo (pF : Int) 0 := by
    unfold Mo
    rw [Int.sub_zero]; exact Int.dvd_refl _
  have h2 := (Mo.refl (a : Int)).add (Mo.sub this (Mo.refl (b : Int)))
  exact h2.trans (Mo.of (by omega))
theorem mo_neg (a : Nat) : Mo ((negN a : Nat) : Int) (-a) := (mo_sub 0 a).trans (Mo.of (by omega))
/-- equal rests -/
theorem mo_eq {a b : Nat} (ha : a < pF) (hb : b < pF) (h : Mo (a : Int) (b : Int)) : a = b := by
  have go : ∀ {a b : Nat}, a ≤ b → b < pF → Mo (b : Int) (a : Int) → a = b := by
    intro a b hab hb h
    unfold Mo at h
    rw [← Int.ofNat_sub hab, nat_dvd] at h
    rcases Nat.eq_zero_or_pos (b - a) with h0 | h0
    · omega
    · have := Nat.le_of_dvd h0 h; omega
  rcases Nat.le_total a b with h' | h'
  · exact go h' hb h.symm
  · exact (go h' ha h).symm

theorem dvd_abs (a : Int) : pI ∣ a ↔ pF ∣ a.natAbs := by
  unfold pI
  rw [← Int.natAbs_dvd_natAbs, Int.natAbs_natCast]
theorem primeI : ∀ a b : Int, pI ∣ a * b → pI ∣ a ∨ pI ∣ b := by
  intro a b h
  rw [dvd_abs, Int.natAbs_mul] at h
  rw [dvd_abs, dvd_abs]
  exact prime_dvd_mul pF_prime h
theorem zero_pow_mod {p u k : Nat} (hu : u % p = 0) (hk : 0 < k) : u ^ k % p = 0 := by
  rw [← mm3, hu, Nat.zero_pow hk, Nat.zero_mod]
theorem curveD_chi {e : Nat} (he : e = 4 * (2 ^ 252 - 3) + 2) : curveD ^ e % pF = pF - 1 := by
  rw [← powm_eq pF curveD 256 e (by rw [he]; decide), he]
  decide +kernel
theorem nonsq {u v : Nat} (h : u * u % pF = curveD * (v * v) % pF) : pF ∣ v := by
  obtain ⟨q, hq⟩ : ∃ q, q = 2 ^ 252 - 3 := ⟨_, rfl⟩
  have hp : pF = 8 * q + 5 := by rw [hq]; exact qF
  have hd : curveD ^ (4 * q + 2) % pF = pF - 1 := curveD_chi (by rw [hq])
  have h1 := pF_prime.1
  rcases Nat.decEq (v % pF) 0 with hv | hv
  · exfalso
    obtain ⟨_, _, hnv⟩ := rest_pos hv
    have e1 : (u * u) ^ (4 * q + 2) % pF = pF - 1 := by
      rw [← mm3, h, mm3, Nat.mul_pow, Nat.mul_mod, hd, ← Nat.pow_two, ← Nat.pow_mul, show 2 * (4 * q + 2) = pF - 1 by omega, fermat pF_prime hnv, Nat.mul_one]
      exact Nat.mod_eq_of_lt (by omega)
    rw [← Nat.pow_two, ← Nat.pow_mul, show 2 * (4 * q + 2) = pF - 1 by omega] at e1
    have e2 : 2 < pF := by omega
    rcases Nat.decEq (u % pF) 0 with hu | hu
    · obtain ⟨_, _, hnu⟩ := rest_pos hu
      rw [fermat pF_prime hnu] at e1
      omega
    · have e3 := zero_pow_mod (k := pF - 1) hu (by omega)
      rw [e3] at e1
      omega
  · exact Nat.dvd_of_mod_eq_zero hv
theorem toNat_mo (u : Int) : Mo ((u % pI).toNat : Int) u := by
  have h0 : 0 ≤ u % pI := Int.emod_nonneg _ (by unfold pI; decide)
  rw [Int.toNat_of_nonneg h0]
  refine Mo.symm ⟨u / pI, ?_⟩
  have := Int.mul_ediv_add_emod u pI
  omega
theorem mo_nat {a b : Nat} (h : Mo (a : Int) (b : Int)) : a % pF = b % pF :=
  mo_eq (Nat.mod_lt _ (by decide)) (Nat.mod_lt _ (by decide)) (((mo_mod a).trans h).trans (mo_mod b).symm)
theorem rootI : ∃ s : Nat, pF ∣ s * s + 1 := by
  obtain ⟨q, hq, h2, _⟩ := exps
  refine ⟨2 ^ (2 * q + 1), Nat.dvd_of_mod_eq_zero ?_⟩
  rw [Nat.add_mod, ← Nat.pow_add, show 2 * q + 1 + (2 * q + 1) = 4 * q + 2 by omega, h2]
  have h1 := pF_prime.1
  rw [Nat.mod_eq_of_lt h1, show pF - 1 + 1 = pF by omega, Nat.mod_self]
theorem curve_ok : ∃ s : Int, Curve pI dI s := by
  obtain ⟨s, hs⟩ := rootI
  refine ⟨(s : Int), primeI, fun h => ?_, fun h => ?_, ?_, fun u v h => ?_⟩
  · have := (nat_dvd (n := 1)).1 h
    exact absurd (Nat.le_of_dvd (by decide) this) (by decide)
  · have := (nat_dvd (n := 2)).1 h
    exact absurd (Nat.le_of_dvd (by decide) this) (by decide)
  · exact (nat_dvd (n := s * s + 1)).2 hs
  · have hU := toNat_mo u
    have hV := toNat_mo v
    have h1 : Mo (u * u) (dI * (v * v)) := h
    have h2 := (hU.mul hU).trans (h1.trans ((Mo.refl dI).mul (hV.mul hV)).symm)
    have h3 : Mo (((u % pI).toNat * (u % pI).toNat : Nat) : Int) ((curveD * ((v % pI).toNat * (v % pI).toNat) : Nat) : Int) := by
      refine (Mo.of (Int.natCast_mul _ _)).trans (h2.trans (Mo.of ?_))
      rw [Int.natCast_mul, Int.natCast_mul]; rfl
    have h4 := nonsq (mo_nat h3)
    have h5 := nat_dvd.2 h4
    have h6 : Mo v 0 := hV.symm.trans (by unfold Mo; rw [Int.sub_zero]; exact h5)
    unfold Mo at h6
    rw [Int.sub_zero] at h6; exact h6
end
end Ev
