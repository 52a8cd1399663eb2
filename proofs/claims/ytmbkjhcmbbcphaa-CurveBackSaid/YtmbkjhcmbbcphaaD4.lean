/-
  Points of the curve are a group under the code's sum. Conditions: points that Check takes.
-/
import Derived.Test.YtmbkjhcmbbcphaaD3
namespace Ev
open Go Go.Proofs
noncomputable section

abbrev Pt := Nat × Nat
def sumP (P Q : Pt) : Pt := wsumN P.1 P.2 1 (mulN P.1 P.2) Q.1 Q.2 1 (mulN Q.1 Q.2) fun X Y Z _ => (mulN X (invN Z), mulN Y (invN Z))
def chk (P : Pt) : Bool := checkN P.1 P.2
def addPt (P Q : Pt) : Pt := Bool.casesOn (motive := fun _ => Pt) (chk P && chk Q) (0, 1) (sumP P Q)
def negPt (P : Pt) : Pt := Bool.casesOn (motive := fun _ => Pt) (chk P) (0, 1) (negN P.1, P.2)

/-! on the curve -/
structure On (P : Pt) : Prop where
  hx : P.1 < pF
  hy : P.2 < pF
  on : pI ∣ offC dI P.1 P.2
theorem lt_modF (n : Nat) : n % pF < pF := Nat.mod_lt _ (by decide)
theorem chk_on (P : Pt) : chk P = true ↔ On P := by
  have hl : Mo ((onL P.1 P.2 : Nat) : Int) (P.2 * P.2 - P.1 * P.1) := (mo_sub _ _).trans (Mo.sub (mo_mul _ _) (mo_mul _ _))
  have hr : Mo ((onR P.1 P.2 : Nat) : Int) (1 + dI * ((P.1 * P.1) * (P.2 * P.2))) :=
    (mo_add _ _).trans ((Mo.refl _).add ((mo_mul _ _).trans ((Mo.refl _).mul ((mo_mul _ _).trans ((mo_mul _ _).mul (mo_mul _ _))))))
  have hoff : offC dI P.1 P.2 = (P.2 * P.2 - P.1 * P.1) - (1 + dI * ((P.1 * P.1) * (P.2 * P.2))) := by unfold offC; grind
  have key : onL P.1 P.2 = onR P.1 P.2 ↔ pI ∣ offC dI P.1 P.2 := by
    rw [hoff]
    constructor
    · intro h
      have h2 : Mo (P.2 * P.2 - P.1 * P.1) (1 + dI * ((P.1 * P.1) * (P.2 * P.2))) := hl.symm.trans (h ▸ hr)
      exact h2
    · intro h
      exact mo_eq (lt_modF _) (lt_modF _) (hl.trans (Mo.trans h hr.symm))
  have hc : ∀ a, canonN a = true ↔ a < pF := fun a => by unfold canonN; rw [Nat.blt_eq]
  unfold chk checkN
  rw [Bool.and_eq_true, Bool.and_eq_true, decide_eq_true_iff, hc, hc, key]
  exact ⟨fun ⟨a, b, c⟩ => ⟨a, b, c⟩, fun ⟨a, b, c⟩ => ⟨a, b, c⟩⟩

theorem inv_mul {A : Nat} (hA : ¬ pF ∣ A) : mulN (invN A) A = 1 := by
  have : ∀ e, e + 1 = pF - 1 → mulN (powM A e) A = 1 := by
    intro e he
    unfold mulN powM
    rw [mm1, ← Nat.pow_succ]
    show A ^ (e + 1) % pF = 1
    rw [he]
    exact fermat pF_prime hA
  exact this _ (by decide)
theorem fin1 {X e f g i : Int} (mX : Mo X (2 * e * (2 * f) * i)) (mI : Mo (i * (2 * f * (2 * g))) 1) : Mo (X * g) e :=
  (mX.mul (Mo.refl g)).trans ((Mo.of (by grind : 2 * e * (2 * f) * i * g = e * (i * (2 * f * (2 * g))))).trans (((Mo.refl e).mul mI).trans (Mo.of (Int.mul_one e))))
theorem fin2 {Y h f g i : Int} (mY : Mo Y (2 * g * (2 * h) * i)) (mI : Mo (i * (2 * f * (2 * g))) 1) : Mo (Y * f) h :=
  (mY.mul (Mo.refl f)).trans ((Mo.of (by grind : 2 * g * (2 * h) * i * f = h * (i * (2 * f * (2 * g))))).trans (((Mo.refl h).mul mI).trans (Mo.of (Int.mul_one h))))
theorem mo_inv {A : Nat} (hA : ¬ pF ∣ A) : Mo ((invN A : Nat) * (A : Int)) 1 := by
  have h := inv_mul hA
  have h2 := mo_mul (invN A) A
  rw [h] at h2
  exact h2.symm
theorem mo_ne {a b : Int} (h : Mo a b) (hb : ¬ pI ∣ b) : ¬ pI ∣ a := fun ha => hb (by
  have : b = a - (a - b) := by omega
  rw [this]; exact Int.dvd_sub ha h)
/-- the code's sum is the sum -/
theorem sumP_ok {P Q : Pt} (hP : On P) (hQ : On Q) : SumC pI dI P.1 P.2 Q.1 Q.2 (sumP P Q).1 (sumP P Q).2 ∧ (sumP P Q).1 < pF ∧ (sumP P Q).2 < pF := by
  obtain ⟨s, C⟩ := curve_ok
  obtain ⟨x1, y1⟩ := P
  obtain ⟨x2, y2⟩ := Q
  have hf := f_ne C hP.on hQ.on
  have hg := g_ne C hP.on hQ.on
  simp only at hf hg
  have mA : Mo ((mulN (subN y1 x1) (subN y2 x2) : Nat) : Int) ((y1 - x1) * (y2 - x2)) := (mo_mul _ _).trans ((mo_sub _ _).mul (mo_sub _ _))
  have mB : Mo ((mulN (addN y1 x1) (addN y2 x2) : Nat) : Int) ((y1 + x1) * (y2 + x2)) := (mo_mul _ _).trans ((mo_add _ _).mul (mo_add _ _))
  have mC0 : Mo ((mulN (mulN (mulN x1 y1) curveD) (mulN x2 y2) : Nat) : Int) (x1 * y1 * dI * (x2 * y2)) := (mo_mul _ _).trans (((mo_mul _ _).trans ((mo_mul _ _).mul (Mo.refl _))).mul (mo_mul _ _))
  have mC : Mo ((addN (mulN (mulN (mulN x1 y1) curveD) (mulN x2 y2)) (mulN (mulN (mulN x1 y1) curveD) (mulN x2 y2)) : Nat) : Int) (x1 * y1 * dI * (x2 * y2) + x1 * y1 * dI * (x2 * y2)) := (mo_add _ _).trans (mC0.add mC0)
  have mZ0 : Mo ((mulN 1 1 : Nat) : Int) (1 * 1) := mo_mul 1 1
  have mZ : Mo ((addN (mulN 1 1) (mulN 1 1) : Nat) : Int) (1 * 1 + 1 * 1) := (mo_add _ _).trans (mZ0.add mZ0)
  generalize ha : mulN (subN y1 x1) (subN y2 x2) = a at *
  generalize hb : mulN (addN y1 x1) (addN y2 x2) = b at *
  generalize hc : addN (mulN (mulN (mulN x1 y1) curveD) (mulN x2 y2)) (mulN (mulN (mulN x1 y1) curveD) (mulN x2 y2)) = c at *
  generalize hz : addN (mulN 1 1) (mulN 1 1) = z at *
  have mE : Mo ((subN b a : Nat) : Int) (2 * eS x1 y1 x2 y2) := ((mo_sub _ _).trans (mB.sub mA)).trans (Mo.of (by unfold eS; grind))
  have mH : Mo ((addN b a : Nat) : Int) (2 * hS x1 y1 x2 y2) := ((mo_add _ _).trans (mB.add mA)).trans (Mo.of (by unfold hS; grind))
  have mF : Mo ((subN z c : Nat) : Int) (2 * fS dI x1 y1 x2 y2) := ((mo_sub _ _).trans (mZ.sub mC)).trans (Mo.of (by unfold fS; grind))
  have mG : Mo ((addN z c : Nat) : Int) (2 * gS dI x1 y1 x2 y2) := ((mo_add _ _).trans (mZ.add mC)).trans (Mo.of (by unfold gS; grind))
  have hsum : sumP (x1, y1) (x2, y2) = (mulN (mulN (subN b a) (subN z c)) (invN (mulN (subN z c) (addN z c))), mulN (mulN (addN z c) (addN b a)) (invN (mulN (subN z c) (addN z c)))) := by
    simp only [sumP, wsumN, forceN_eq, ha, hb, hc, hz]
  generalize subN b a = e' at *
  generalize addN b a = h' at *
  generalize subN z c = f' at *
  generalize addN z c = g' at *
  rw [hsum]
  have hs1 : (((x1, y1) : Pt).1 : Int) = x1 := rfl
  refine ⟨?_, lt_modF _, lt_modF _⟩
  show SumC pI dI x1 y1 x2 y2 ((mulN (mulN e' f') (invN (mulN f' g')) : Nat) : Int) ((mulN (mulN g' h') (invN (mulN f' g')) : Nat) : Int)
  have mZZ : Mo ((mulN f' g' : Nat) : Int) (2 * fS dI x1 y1 x2 y2 * (2 * gS dI x1 y1 x2 y2)) := (mo_mul _ _).trans (mF.mul mG)
  have h2f : ¬ pI ∣ 2 * fS dI x1 y1 x2 y2 := mul_ne C C.h2 hf
  have h2g : ¬ pI ∣ 2 * gS dI x1 y1 x2 y2 := mul_ne C C.h2 hg
  have hZ : ¬ pF ∣ mulN f' g' := fun h => mo_ne mZZ (mul_ne C h2f h2g) (nat_dvd.2 h)
  have mI := mo_inv hZ
  have mX : Mo ((mulN (mulN e' f') (invN (mulN f' g')) : Nat) : Int) (2 * eS x1 y1 x2 y2 * (2 * fS dI x1 y1 x2 y2) * (invN (mulN f' g') : Nat)) := (mo_mul _ _).trans (((mo_mul _ _).trans (mE.mul mF)).mul (Mo.refl _))
  have mY : Mo ((mulN (mulN g' h') (invN (mulN f' g')) : Nat) : Int) (2 * gS dI x1 y1 x2 y2 * (2 * hS x1 y1 x2 y2) * (invN (mulN f' g') : Nat)) := (mo_mul _ _).trans (((mo_mul _ _).trans (mG.mul mH)).mul (Mo.refl _))
  have mI2 : Mo (((invN (mulN f' g') : Nat) : Int) * (2 * fS dI x1 y1 x2 y2 * (2 * gS dI x1 y1 x2 y2))) 1 := ((Mo.refl _).mul mZZ.symm).trans mI
  exact ⟨fin1 mX mI2, fin2 mY mI2⟩
theorem sum_on {P Q : Pt} (hP : On P) (hQ : On Q) : On (sumP P Q) := by
  obtain ⟨s, C⟩ := curve_ok
  obtain ⟨h, hx, hy⟩ := sumP_ok hP hQ
  exact ⟨hx, hy, closed C hP.on hQ.on h⟩
theorem sum_is {P Q R : Pt} (hP : On P) (hQ : On Q) (hx : R.1 < pF) (hy : R.2 < pF) (h : SumC pI dI P.1 P.2 Q.1 Q.2 R.1 R.2) : sumP P Q = R := by
  obtain ⟨s, C⟩ := curve_ok
  obtain ⟨h', hx', hy'⟩ := sumP_ok hP hQ
  obtain ⟨e1, e2⟩ := sum_one C hP.on hQ.on h' h
  exact Prod.ext (mo_eq hx' hx e1) (mo_eq hy' hy e2)
theorem sum_comm {P Q : Pt} (hP : On P) (hQ : On Q) : sumP P Q = sumP Q P := by
  obtain ⟨h, hx, hy⟩ := sumP_ok hQ hP
  exact sum_is hP hQ hx hy h.comm
theorem sum_assoc {P Q R : Pt} (hP : On P) (hQ : On Q) (hR : On R) : sumP (sumP P Q) R = sumP P (sumP Q R) := by
  obtain ⟨s, C⟩ := curve_ok
  obtain ⟨h1, _⟩ := sumP_ok hP hQ
  obtain ⟨h2, hx2, hy2⟩ := sumP_ok (sum_on hP hQ) hR
  obtain ⟨h3, _⟩ := sumP_ok hQ hR
  obtain ⟨h4, hx4, hy4⟩ := sumP_ok hP (sum_on hQ hR)
  obtain ⟨e1, e2⟩ := assoc C hP.on hQ.on hR.on h1 h2 h3 h4
  exact Prod.ext (mo_eq hx2 hx4 e1) (mo_eq hy2 hy4 e2)
theorem zero_on : On (0, 1) := ⟨by decide, by decide, by
  have : offC dI ((0 : Nat) : Int) ((1 : Nat) : Int) = 0 := by unfold offC; grind
  rw [this]; exact Int.dvd_zero _⟩
theorem sum_zero {P : Pt} (hP : On P) : sumP P (0, 1) = P := by
  refine sum_is hP zero_on hP.hx hP.hy ⟨?_, ?_⟩
  · have : (P.1 : Int) * gS dI P.1 P.2 ((0 : Nat) : Int) ((1 : Nat) : Int) - eS P.1 P.2 ((0 : Nat) : Int) ((1 : Nat) : Int) = 0 := by unfold gS eS; grind
    rw [this]; exact Int.dvd_zero _
  · have : (P.2 : Int) * fS dI P.1 P.2 ((0 : Nat) : Int) ((1 : Nat) : Int) - hS P.1 P.2 ((0 : Nat) : Int) ((1 : Nat) : Int) = 0 := by unfold fS hS; grind
    rw [this]; exact Int.dvd_zero _
theorem neg_on {P : Pt} (hP : On P) : On (negN P.1, P.2) := by
  refine ⟨lt_modF _, hP.hy, ?_⟩
  have h := mo_neg P.1
  have h2 : Mo (offC dI (negN P.1 : Nat) P.2) (offC dI P.1 P.2) := by
    have e : ∀ x : Int, offC dI x P.2 = (P.2 * P.2 - 1) - (x * x) * (1 + dI * (P.2 * P.2)) := fun x => by unfold offC; grind
    rw [e, e]
    exact (Mo.refl _).sub (((h.mul h).trans (Mo.of (by grind))).mul (Mo.refl _))
  unfold Mo at h2
  have : offC dI (negN P.1 : Nat) P.2 = (offC dI (negN P.1 : Nat) P.2 - offC dI P.1 P.2) + offC dI P.1 P.2 := by omega
  show pI ∣ offC dI (negN P.1 : Nat) P.2
  rw [this]; exact Int.dvd_add h2 hP.on
theorem sum_neg {P : Pt} (hP : On P) : sumP P (negN P.1, P.2) = (0, 1) := by
  refine sum_is hP (neg_on hP) (by decide) (by decide) ⟨?_, ?_⟩
  · show pI ∣ ((0 : Nat) : Int) * gS dI P.1 P.2 (negN P.1 : Nat) P.2 - eS P.1 P.2 (negN P.1 : Nat) P.2
    have h := mo_neg P.1
    generalize ((negN P.1 : Nat) : Int) = n at *
    have : ((0 : Nat) : Int) * gS dI P.1 P.2 n P.2 - eS P.1 P.2 n P.2 = (n - -(P.1 : Int)) * (-(P.2 : Int)) := by unfold eS; grind
    rw [this]; exact dvd_l h _
  · show pI ∣ ((1 : Nat) : Int) * fS dI P.1 P.2 (negN P.1 : Nat) P.2 - hS P.1 P.2 (negN P.1 : Nat) P.2
    have h := mo_neg P.1
    have ho := hP.on
    generalize ((negN P.1 : Nat) : Int) = n at *
    have : ((1 : Nat) : Int) * fS dI P.1 P.2 n P.2 - hS P.1 P.2 n P.2 = (n - -(P.1 : Int)) * (-(P.1 : Int) - dI * P.1 * P.2 * P.2) - offC dI P.1 P.2 := by unfold fS hS offC; grind
    rw [this]; exact Int.dvd_sub (dvd_l h _) ho
end
end Ev
