/-
  CurveBack answers true. Conditions: a point of 64 bytes, 32 bytes.
-/
import Derived.Test.YtmbkjhcmbbcphaaX3
namespace Ev
open Go Go.Proofs
noncomputable section

/-! the number under the root -/
theorem mo_dn (y : Nat) : Mo ((dnN curveD y : Nat) : Int) (dI * (y * y) + 1) := (mo_add _ _).trans (((mo_mul _ _).trans ((Mo.refl _).mul (mo_mul _ _))).add (Mo.refl _))
theorem dn_ne (y : Nat) : ¬ pF ∣ dnN curveD y := fun h => by
  obtain ⟨s, C⟩ := curve_ok
  have h1 : pI ∣ dI * (y * y) + 1 := by
    have h2 := nat_dvd.2 h
    have h3 := mo_dn y
    have e : dI * (y * y) + 1 = ((dnN curveD y : Nat) : Int) - (((dnN curveD y : Nat) : Int) - (dI * (y * y) + 1)) := by omega
    rw [e]; exact Int.dvd_sub h2 h3
  have h4 : pI ∣ (y : Int) := C.hd s y (by
    have e : s * s - dI * ((y : Int) * y) = (s * s + 1) - (dI * (y * y) + 1) := by omega
    rw [e]; exact Int.dvd_sub C.hs h1)
  have h5 : pI ∣ dI * ((y : Int) * y) := dvd_r (dvd_l h4 _) _
  have e : (1 : Int) = (dI * (y * y) + 1) - dI * ((y : Int) * y) := by omega
  exact C.h1 (by rw [e]; exact Int.dvd_sub h1 h5)
theorem uy_dn (y : Nat) : Mo ((uyN curveD y : Nat) * (dI * (y * y) + 1)) (y * y - 1) := by
  have h1 : Mo ((uyN curveD y : Nat) : Int) ((y * y - 1) * (invN (dnN curveD y) : Nat)) := (mo_mul _ _).trans (((mo_sub _ _).trans ((mo_mul _ _).sub (Mo.refl _))).mul (Mo.refl _))
  have h2 := mo_inv (dn_ne y)
  have h3 : Mo ((invN (dnN curveD y) : Nat) * (dI * (y * y) + 1)) 1 := ((Mo.refl _).mul (mo_dn y).symm).trans h2
  have h4 := h1.mul (Mo.refl (dI * (y * y) + 1))
  refine h4.trans ((Mo.of (by grind : ((y : Int) * y - 1) * (invN (dnN curveD y) : Nat) * (dI * (y * y) + 1) = (y * y - 1) * ((invN (dnN curveD y) : Nat) * (dI * (y * y) + 1)))).trans (((Mo.refl _).mul h3).trans (Mo.of (Int.mul_one _))))
theorem on_iff (x y : Nat) : pI ∣ offC dI x y ↔ Mo ((x : Int) * x) (uyN curveD y : Nat) := by
  have hu := uy_dn y
  have e : offC dI x y = (y * y - 1) - x * x * (dI * (y * y) + 1) := by unfold offC; grind
  rw [e]
  generalize ((uyN curveD y : Nat) : Int) = u at *
  constructor
  · intro h
    have h1 : Mo (x * x * (dI * (y * y) + 1)) (u * (dI * (y * y) + 1)) := (show Mo ((y : Int) * y - 1) (x * x * (dI * (y * y) + 1)) from h).symm.trans hu.symm
    have h2 : pI ∣ ((x : Int) * x - u) * (dI * (y * y) + 1) := by
      have e2 : ((x : Int) * x - u) * (dI * (y * y) + 1) = x * x * (dI * (y * y) + 1) - u * (dI * (y * y) + 1) := by grind
      rw [e2]; exact h1
    rcases primeI _ _ h2 with h3 | h3
    · exact h3
    · exact absurd (nat_dvd.1 (by
        have h4 := mo_dn y
        have e3 : ((dnN curveD y : Nat) : Int) = (((dnN curveD y : Nat) : Int) - (dI * (y * y) + 1)) + (dI * (y * y) + 1) := by omega
        rw [e3]; exact Int.dvd_add h4 h3)) (dn_ne y)
  · intro h
    exact hu.symm.trans ((h.mul (Mo.refl (dI * (y * y) + 1))).symm)

/-! roots -/
theorem odd_lt {x : Nat} (hx : x < pF) : oddN x = decide (x % 2 = 1) := by
  cases h : oddN x with
  | true =>
    have := (odd_iff x).1 h
    rw [Nat.mod_eq_of_lt hx] at this
    exact (decide_eq_true this).symm
  | false =>
    refine (decide_eq_false fun e => ?_).symm
    rw [(odd_iff x).2 (by rw [Nat.mod_eq_of_lt hx]; exact e)] at h; cases h
theorem pF_odd : pF % 2 = 1 := by decide
theorem even_props {x : Nat} (hx : x < pF) : evenN x < pF ∧ oddN (evenN x) = false ∧ Mo ((evenN x : Nat) * (evenN x : Nat)) (x * x) ∧ (evenN x = 0 ↔ x = 0) := by
  have ho := odd_lt hx
  have hp := pF_odd
  unfold evenN
  cases h : oddN x with
  | false => exact ⟨hx, h, Mo.refl _, Iff.rfl⟩
  | true =>
    rw [h] at ho
    have h1 : x % 2 = 1 := of_decide_eq_true ho.symm
    have hn := neg_lt (by omega : 0 < x) hx
    show negN x < pF ∧ oddN (negN x) = false ∧ Mo ((negN x : Nat) * (negN x : Nat)) (x * x) ∧ (negN x = 0 ↔ x = 0)
    refine ⟨by omega, ?_, ?_, by omega⟩
    · rw [odd_lt (by omega), hn]; exact decide_eq_false (by omega)
    · exact ((mo_neg x).mul (mo_neg x)).trans (Mo.of (by grind))
theorem root_ok {A : Nat} (h : rootB A = true) : rootR A < pF ∧ oddN (rootR A) = false ∧ Mo ((rootR A : Nat) * (rootR A : Nat)) (A : Nat) := by
  obtain ⟨q, _, _, hB, hR⟩ := exps
  rw [hB] at h
  obtain ⟨x, hx, hxx, hr⟩ := rootR_true h
  rw [hR, hr]
  obtain ⟨e1, e2, e3, _⟩ := even_props hx
  refine ⟨e1, e2, e3.trans ?_⟩
  have h1 : Mo ((x * x : Nat) : Int) ((A : Nat) : Int) := (mo_mod (x * x)).symm.trans ((Mo.of (congrArg Int.ofNat hxx)).trans (mo_mod A))
  exact (Mo.of (Int.natCast_mul x x)).symm.trans h1
theorem root_zero : rootB 0 = true ∧ rootR 0 = 0 := by
  obtain ⟨q, _, _, hB, hR⟩ := exps
  have hp := pF_prime.1
  have r0 : root1G (q + 1) 0 = 0 := by
    unfold root1G powM
    rw [Nat.zero_pow (by omega), Nat.zero_mod]
  have hs : sameN (mulN (root1G (q + 1) 0) (root1G (q + 1) 0)) 0 = true := by
    rw [r0, same_iff]; rfl
  refine ⟨?_, ?_⟩
  · rw [hB]; unfold rootBG; rw [hs]; rfl
  · rw [hR]; unfold rootRG; rw [hs, r0]; rfl
theorem root_self {x : Nat} (hx : x < pF) : rootB (mulN x x) = true ∧ rootR (mulN x x) = evenN x := by
  rcases Nat.eq_zero_or_pos x with h | h
  · subst h
    have e : mulN 0 0 = 0 := rfl
    rw [e]
    exact ⟨root_zero.1, root_zero.2⟩
  · have hne : x % pF ≠ 0 := by rw [Nat.mod_eq_of_lt hx]; omega
    obtain ⟨h1, h2⟩ := root_sq hne
    exact ⟨h1, by rw [h2, evenA_eq, Nat.mod_eq_of_lt hx]⟩
theorem uy_of_on {x y : Nat} (h : On (x, y)) : uyN curveD y = mulN x x :=
  mo_eq (lt_modF _) (lt_modF _) (((on_iff x y).1 h.on).symm.trans (mo_mul x x).symm)

/-! bytes -/
def wrap (y : Nat) (o : Bool) : Nat := Bool.casesOn (motive := fun _ => Nat) o y (y + 2 ^ 255)
theorem wrap_lt {y : Nat} (hy : y < pF) (o : Bool) : wrap y o < 256 ^ 32 := by
  have := Nat.lt_trans hy pF_top
  rw [top_eq] at this
  unfold wrap
  rw [e32]
  cases o with
  | true => show y + 2 ^ 255 < _; rw [top_eq]; omega
  | false => show y < _; omega
theorem wrap_rd {y : Nat} (hy : y < pF) (o : Bool) : rdY (wrap y o) = y ∧ rdO (wrap y o) = o := by
  have h := Nat.lt_trans hy pF_top
  unfold rdY rdO wrap
  cases o with
  | true =>
    show (y + 2 ^ 255) % 2 ^ 255 = y ∧ (!Nat.blt (y + 2 ^ 255) (2 ^ 255)) = true
    refine ⟨by rw [Nat.add_mod_right]; exact Nat.mod_eq_of_lt h, ?_⟩
    cases hb : Nat.blt (y + 2 ^ 255) (2 ^ 255) with
    | false => rfl
    | true => rw [Nat.blt_eq] at hb; omega
  | false =>
    show y % 2 ^ 255 = y ∧ (!Nat.blt y (2 ^ 255)) = false
    refine ⟨Nat.mod_eq_of_lt h, ?_⟩
    have : Nat.blt y (2 ^ 255) = true := by rw [Nat.blt_eq]; exact h
    rw [this]; rfl
theorem bytesV_on {P : Pt} (h : On P) : bytesV P = wrap P.2 (oddN P.1) := by
  unfold bytesV wrap
  rw [(chk_on P).2 h]
theorem bytesE_on {P : Pt} (h : On P) : bytesE P = 0 := by
  unfold bytesE
  rw [(chk_on P).2 h]; rfl
/-- what Read says of a Y and a sign -/
theorem read_wrap {x y : Nat} (h : On (x, y)) (o : Bool) : readPt (wrap y o) = coreP y o (evenN x) true ∧ readE (wrap y o) = coreE y o (evenN x) true := by
  obtain ⟨h1, h2⟩ := wrap_rd h.hy o
  obtain ⟨h3, h4⟩ := root_self h.hx
  unfold readPt readE
  rw [h1, h2, uy_of_on h, h3, h4]
  exact ⟨rfl, rfl⟩
theorem canon_lt {y : Nat} : canonN y = true ↔ y < pF := by unfold canonN; rw [Nat.blt_eq]
theorem neg_neg' {x : Nat} (h0 : 0 < x) (hx : x < pF) : negN (pF - x) = x := by
  rw [neg_lt (by omega) (by omega)]; omega
theorem read_back {x y : Nat} (h : On (x, y)) : readPt (wrap y (oddN x)) = (x, y) ∧ readE (wrap y (oddN x)) = 0 := by
  obtain ⟨h1, h2⟩ := read_wrap h (oddN x)
  have hx : x < pF := h.hx
  have hc : canonN y = true := canon_lt.2 h.hy
  have ho := odd_lt hx
  rw [h1, h2]
  unfold coreP coreE coreOK
  rw [hc]
  cases hb : oddN x with
  | false =>
    have : evenN x = x := by unfold evenN; rw [hb]
    rw [this]; exact ⟨rfl, rfl⟩
  | true =>
    rw [hb] at ho
    have h1 : x % 2 = 1 := of_decide_eq_true ho.symm
    have : evenN x = pF - x := by unfold evenN; rw [hb]; exact neg_lt (by omega) hx
    rw [this, decide_eq_false (by omega : ¬ pF - x = 0), neg_neg' (by omega) hx]
    exact ⟨rfl, rfl⟩
theorem read_flip {x y : Nat} (h : On (x, y)) : (x = 0 → readE (wrap y (!oddN x)) = 4) ∧ (x ≠ 0 → readPt (wrap y (!oddN x)) = negPt (x, y) ∧ readE (wrap y (!oddN x)) = 0) := by
  obtain ⟨h1, h2⟩ := read_wrap h (!oddN x)
  have hx : x < pF := h.hx
  have hc : canonN y = true := canon_lt.2 h.hy
  have ho := odd_lt hx
  rw [h1, h2]
  unfold coreP coreE coreOK
  rw [hc]
  refine ⟨fun h0 => ?_, fun h0 => ?_⟩
  · subst h0
    have e1 : oddN 0 = false := by rw [ho]; rfl
    have e2 : evenN 0 = 0 := by unfold evenN; rw [e1]
    rw [e1, e2]; rfl
  · have hn : negPt (x, y) = (negN x, y) := on_neg h
    rw [hn]
    have hnx := neg_lt (by omega : 0 < x) hx
    cases hb : oddN x with
    | false =>
      have : evenN x = x := by unfold evenN; rw [hb]
      rw [this, decide_eq_false h0]; exact ⟨rfl, rfl⟩
    | true =>
      have : evenN x = negN x := by unfold evenN; rw [hb]
      rw [this]; exact ⟨rfl, rfl⟩
/-- what is read is a point with these bytes -/
theorem read_on {B : Nat} (hB : B < 256 ^ 32) (h : readE B = 0) : On (readPt B) ∧ bytesV (readPt B) = B := by
  have hE : readE B = coreE (rdY B) (rdO B) (rootR (uyN curveD (rdY B))) (rootB (uyN curveD (rdY B))) := rfl
  have hP : readPt B = coreP (rdY B) (rdO B) (rootR (uyN curveD (rdY B))) (rootB (uyN curveD (rdY B))) := rfl
  have hro := @root_ok (uyN curveD (rdY B))
  have hoi := fun x => on_iff x (rdY B)
  rw [hE] at h
  rw [hP]
  generalize hXX : rootR (uyN curveD (rdY B)) = X at *
  generalize hRR : rootB (uyN curveD (rdY B)) = r at *
  generalize uyN curveD (rdY B) = u at *
  unfold coreE at h
  unfold coreP
  cases hok : coreOK (rdY B) (rdO B) X r with
  | false => rw [hok] at h; cases h
  | true =>
    unfold coreOK at hok
    simp only [Bool.and_eq_true] at hok
    obtain ⟨hc, hr, hz⟩ := hok
    have hy := canon_lt.1 hc
    obtain ⟨hX, hodd, hsq⟩ := hro hr
    have hxo := odd_lt hX
    rw [hodd] at hxo
    have hev : ¬ X % 2 = 1 := of_decide_eq_false hxo.symm
    have hp := pF_odd
    have key : ∀ (x : Nat), x < pF → oddN x = rdO B → Mo ((x : Int) * x) (X * X) → On (x, rdY B) ∧ bytesV (x, rdY B) = B := by
      intro x hx hox hm
      have hon : On (x, rdY B) := ⟨hx, hy, (hoi x).2 (hm.trans hsq)⟩
      refine ⟨hon, ?_⟩
      rw [bytesV_on hon]
      show wrap (rdY B) (oddN x) = B
      rw [hox]
      unfold wrap rdO rdY
      rw [e32] at hB
      cases hb : Nat.blt B (2 ^ 255) with
      | true =>
        rw [Nat.blt_eq] at hb
        show B % 2 ^ 255 = B
        exact Nat.mod_eq_of_lt hb
      | false =>
        have hb2 : ¬ B < 2 ^ 255 := fun hlt => by rw [← Nat.blt_eq] at hlt; rw [hlt] at hb; cases hb
        show B % 2 ^ 255 + 2 ^ 255 = B
        rw [top_eq] at *
        omega
    cases ho : rdO B with
    | false =>
      have := key X hX (by rw [hodd, ho]) (Mo.refl _)
      exact this
    | true =>
      rw [ho] at hz
      have hX0 : X ≠ 0 := by
        intro e
        rw [e] at hz; cases hz
      have hn := neg_lt (by omega : 0 < X) hX
      have := key (negN X) (by omega) (by rw [ho, odd_lt (by omega), hn]; exact decide_eq_true (by omega)) (((mo_neg X).mul (mo_neg X)).trans (Mo.of (by grind)))
      exact this
theorem eqAgg22 (l : List (Nat × (List AV → Option AV))) (a b : List AV) : eqAgg (pEnv l) 22 a b = eqCells (List.replicate 32 .int) a b := by kernel_rfl
theorem eqB22 {X Y : Nat} (hX : X < 256 ^ 32) (hY : Y < 256 ^ 32) (h : X = Y) {K : Prop} (hk : K) : eqB 22 (encL 32 X) (encL 32 Y) K :=
  ⟨by rw [eqAgg22, eqCells_enc, Nat.mod_eq_of_lt hX, Nat.mod_eq_of_lt hY, decide_eq_true h], hk⟩
theorem eqB35 {P Q : Pt} (hP : P.1 < 256 ^ 32 ∧ P.2 < 256 ^ 32) (h : P = Q) {K : Prop} (hk : K) : eqB 35 (pt P.1 P.2) (pt Q.1 Q.2) K := by
  subst h
  exact ⟨by rw [eq_pt hP.1 hP.2 hP.1 hP.2, decide_eq_true rfl], hk⟩
theorem flip_bytes {y : Nat} (hy : y < pF) (o : Bool) : (encL 32 (wrap y o)).set 31 (.int .u8 (uxor8 (nthI (encL 32 (wrap y o)) 31) 128)) = encL 32 (wrap y (!o)) := by
  have hlt := wrap_lt hy o
  obtain ⟨h1, h2⟩ := nth31 hlt
  rw [h1]
  have h4 : uxor8 (.ofNat (wrap y o / 256 ^ 31)) 128 = .ofNat ((wrap y o / 256 ^ 31 + 128) % 256) := by
    unfold uxor8
    rw [toU8 h2, show toU .u8 128 = 128 from rfl, xor128 _ h2, restU8 (by omega)]
  rw [h4]
  have ht := Nat.lt_trans hy pF_top
  rw [top_eq] at ht
  refine set_top (wrap_lt hy (!o)) ?_ ?_ <;> unfold wrap <;> rw [e31] <;> cases o
  · show y % _ = (y + 2 ^ 255) % _; rw [top_eq]; omega
  · show (y + 2 ^ 255) % _ = y % _; rw [top_eq]; omega
  · show (y + 2 ^ 255) / _ = (y / _ + 128) % 256; rw [top_eq]; omega
  · show y / _ = ((y + 2 ^ 255) / _ + 128) % 256; rw [top_eq]; omega
end
end Ev
