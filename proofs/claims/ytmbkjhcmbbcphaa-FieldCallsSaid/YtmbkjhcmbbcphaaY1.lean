/-
  The reference's product in Nat. Conditions: words as they stand behind a carry.
-/
import Derived.Test.YtmbkjhcmbbcphaaW9
namespace Ev
open Go Go.Proofs
noncomputable section

theorem imul2 {b : Nat} (h : 2 * b < 9223372036854775808) : imul 2 (.ofNat b) = .ofNat (2 * b) := imul_nat (a := 2) h
theorem imul19 {b : Nat} (h : 19 * b < 9223372036854775808) : imul 19 (.ofNat b) = .ofNat (19 * b) := imul_nat (a := 19) h
theorem iadd0 {b : Nat} (h : b < 9223372036854775808) : iadd 0 (.ofNat b) = .ofNat b := (iadd_nat (a := 0) (b := b) (by omega)).trans (by rw [Nat.zero_add])

theorem out0_nat {x0 x1 x2 x3 x4 x5 x6 x7 x8 x9 y0 y1 y2 y3 y4 y5 y6 y7 y8 y9 : Nat} (hx : N10 x0 x1 x2 x3 x4 x5 x6 x7 x8 x9) (hy : N10 y0 y1 y2 y3 y4 y5 y6 y7 y8 y9) : out0 (.ofNat x0) (.ofNat x1) (.ofNat x2) (.ofNat x3) (.ofNat x4) (.ofNat x5) (.ofNat x6) (.ofNat x7) (.ofNat x8) (.ofNat x9) (.ofNat y0) (.ofNat y1) (.ofNat y2) (.ofNat y3) (.ofNat y4) (.ofNat y5) (.ofNat y6) (.ofNat y7) (.ofNat y8) (.ofNat y9) = .ofNat (1 * (x0 * y0) + 38 * (x1 * y9) + 19 * (x2 * y8) + 38 * (x3 * y7) + 19 * (x4 * y6) + 38 * (x5 * y5) + 19 * (x6 * y4) + 38 * (x7 * y3) + 19 * (x8 * y2) + 38 * (x9 * y1)) ∧ 1 * (x0 * y0) + 38 * (x1 * y9) + 19 * (x2 * y8) + 38 * (x3 * y7) + 19 * (x4 * y6) + 38 * (x5 * y5) + 19 * (x6 * y4) + 38 * (x7 * y3) + 19 * (x8 * y2) + 38 * (x9 * y1) < 4611686018427387904 := by
  obtain ⟨a0, a1, a2, a3, a4, a5, a6, a7, a8, a9⟩ := hx
  obtain ⟨b0, b1, b2, b3, b4, b5, b6, b7, b8, b9⟩ := hy
  unfold out0
  have q00 : x0 * y0 ≤ 4503737067372544 := Nat.le_trans (Nat.mul_le_mul (Nat.le_of_lt a0) (Nat.le_of_lt b0)) (by decide)
  rw [imul_nat (a := x0) (b := y0) (by omega)]
  have q19 : x1 * y9 ≤ 1125899906842624 := Nat.le_trans (Nat.mul_le_mul (Nat.le_of_lt a1) (Nat.le_of_lt b9)) (by decide)
  rw [imul_nat (a := x1) (b := y9) (by omega)]
  have q28 : x2 * y8 ≤ 4503599627370496 := Nat.le_trans (Nat.mul_le_mul (Nat.le_of_lt a2) (Nat.le_of_lt b8)) (by decide)
  rw [imul_nat (a := x2) (b := y8) (by omega)]
  have q37 : x3 * y7 ≤ 1125899906842624 := Nat.le_trans (Nat.mul_le_mul (Nat.le_of_lt a3) (Nat.le_of_lt b7)) (by decide)
  rw [imul_nat (a := x3) (b := y7) (by omega)]
  have q46 : x4 * y6 ≤ 4503599627370496 := Nat.le_trans (Nat.mul_le_mul (Nat.le_of_lt a4) (Nat.le_of_lt b6)) (by decide)
  rw [imul_nat (a := x4) (b := y6) (by omega)]
  have q55 : x5 * y5 ≤ 1125899906842624 := Nat.le_trans (Nat.mul_le_mul (Nat.le_of_lt a5) (Nat.le_of_lt b5)) (by decide)
  rw [imul_nat (a := x5) (b := y5) (by omega)]
  have q64 : x6 * y4 ≤ 4503599627370496 := Nat.le_trans (Nat.mul_le_mul (Nat.le_of_lt a6) (Nat.le_of_lt b4)) (by decide)
  rw [imul_nat (a := x6) (b := y4) (by omega)]
  have q73 : x7 * y3 ≤ 1125899906842624 := Nat.le_trans (Nat.mul_le_mul (Nat.le_of_lt a7) (Nat.le_of_lt b3)) (by decide)
  rw [imul_nat (a := x7) (b := y3) (by omega)]
  have q82 : x8 * y2 ≤ 4503599627370496 := Nat.le_trans (Nat.mul_le_mul (Nat.le_of_lt a8) (Nat.le_of_lt b2)) (by decide)
  rw [imul_nat (a := x8) (b := y2) (by omega)]
  have q91 : x9 * y1 ≤ 1125899906842624 := Nat.le_trans (Nat.mul_le_mul (Nat.le_of_lt a9) (Nat.le_of_lt b1)) (by decide)
  rw [imul_nat (a := x9) (b := y1) (by omega)]
  generalize x0 * y0 = m00 at *
  generalize x1 * y9 = m19 at *
  generalize x2 * y8 = m28 at *
  generalize x3 * y7 = m37 at *
  generalize x4 * y6 = m46 at *
  generalize x5 * y5 = m55 at *
  generalize x6 * y4 = m64 at *
  generalize x7 * y3 = m73 at *
  generalize x8 * y2 = m82 at *
  generalize x9 * y1 = m91 at *
  rw [imul2 (b := m19) (by omega)]
  rw [imul19 (b := (2 * m19)) (by omega)]
  rw [imul19 (b := m28) (by omega)]
  rw [imul2 (b := m37) (by omega)]
  rw [imul19 (b := (2 * m37)) (by omega)]
  rw [imul19 (b := m46) (by omega)]
  rw [imul2 (b := m55) (by omega)]
  rw [imul19 (b := (2 * m55)) (by omega)]
  rw [imul19 (b := m64) (by omega)]
  rw [imul2 (b := m73) (by omega)]
  rw [imul19 (b := (2 * m73)) (by omega)]
  rw [imul19 (b := m82) (by omega)]
  rw [imul2 (b := m91) (by omega)]
  rw [imul19 (b := (2 * m91)) (by omega)]
  rw [iadd0 (b := m00) (by omega)]
  rw [iadd_nat (a := m00) (b := (19 * (2 * m19))) (by omega)]
  rw [iadd_nat (a := (m00 + (19 * (2 * m19)))) (b := (19 * m28)) (by omega)]
  rw [iadd_nat (a := ((m00 + (19 * (2 * m19))) + (19 * m28))) (b := (19 * (2 * m37))) (by omega)]
  rw [iadd_nat (a := (((m00 + (19 * (2 * m19))) + (19 * m28)) + (19 * (2 * m37)))) (b := (19 * m46)) (by omega)]
  rw [iadd_nat (a := ((((m00 + (19 * (2 * m19))) + (19 * m28)) + (19 * (2 * m37))) + (19 * m46))) (b := (19 * (2 * m55))) (by omega)]
  rw [iadd_nat (a := (((((m00 + (19 * (2 * m19))) + (19 * m28)) + (19 * (2 * m37))) + (19 * m46)) + (19 * (2 * m55)))) (b := (19 * m64)) (by omega)]
  rw [iadd_nat (a := ((((((m00 + (19 * (2 * m19))) + (19 * m28)) + (19 * (2 * m37))) + (19 * m46)) + (19 * (2 * m55))) + (19 * m64))) (b := (19 * (2 * m73))) (by omega)]
  rw [iadd_nat (a := (((((((m00 + (19 * (2 * m19))) + (19 * m28)) + (19 * (2 * m37))) + (19 * m46)) + (19 * (2 * m55))) + (19 * m64)) + (19 * (2 * m73)))) (b := (19 * m82)) (by omega)]
  rw [iadd_nat (a := ((((((((m00 + (19 * (2 * m19))) + (19 * m28)) + (19 * (2 * m37))) + (19 * m46)) + (19 * (2 * m55))) + (19 * m64)) + (19 * (2 * m73))) + (19 * m82))) (b := (19 * (2 * m91))) (by omega)]
  refine ⟨?_, by omega⟩
  congr 1
  omega
theorem out1_nat {x0 x1 x2 x3 x4 x5 x6 x7 x8 x9 y0 y1 y2 y3 y4 y5 y6 y7 y8 y9 : Nat} (hx : N10 x0 x1 x2 x3 x4 x5 x6 x7 x8 x9) (hy : N10 y0 y1 y2 y3 y4 y5 y6 y7 y8 y9) : out1 (.ofNat x0) (.ofNat x1) (.ofNat x2) (.ofNat x3) (.ofNat x4) (.ofNat x5) (.ofNat x6) (.ofNat x7) (.ofNat x8) (.ofNat x9) (.ofNat y0) (.ofNat y1) (.ofNat y2) (.ofNat y3) (.ofNat y4) (.ofNat y5) (.ofNat y6) (.ofNat y7) (.ofNat y8) (.ofNat y9) = .ofNat (1 * (x0 * y1) + 1 * (x1 * y0) + 19 * (x2 * y9) + 19 * (x3 * y8) + 19 * (x4 * y7) + 19 * (x5 * y6) + 19 * (x6 * y5) + 19 * (x7 * y4) + 19 * (x8 * y3) + 19 * (x9 * y2)) ∧ 1 * (x0 * y1) + 1 * (x1 * y0) + 19 * (x2 * y9) + 19 * (x3 * y8) + 19 * (x4 * y7) + 19 * (x5 * y6) + 19 * (x6 * y5) + 19 * (x7 * y4) + 19 * (x8 * y3) + 19 * (x9 * y2) < 4611686018427387904 := by
  obtain ⟨a0, a1, a2, a3, a4, a5, a6, a7, a8, a9⟩ := hx
  obtain ⟨b0, b1, b2, b3, b4, b5, b6, b7, b8, b9⟩ := hy
  unfold out1
  have q01 : x0 * y1 ≤ 2251834173423616 := Nat.le_trans (Nat.mul_le_mul (Nat.le_of_lt a0) (Nat.le_of_lt b1)) (by decide)
  rw [imul_nat (a := x0) (b := y1) (by omega)]
  have q10 : x1 * y0 ≤ 2251834173423616 := Nat.le_trans (Nat.mul_le_mul (Nat.le_of_lt a1) (Nat.le_of_lt b0)) (by decide)
  rw [imul_nat (a := x1) (b := y0) (by omega)]
  have q29 : x2 * y9 ≤ 2251799813685248 := Nat.le_trans (Nat.mul_le_mul (Nat.le_of_lt a2) (Nat.le_of_lt b9)) (by decide)
  rw [imul_nat (a := x2) (b := y9) (by omega)]
  have q38 : x3 * y8 ≤ 2251799813685248 := Nat.le_trans (Nat.mul_le_mul (Nat.le_of_lt a3) (Nat.le_of_lt b8)) (by decide)
  rw [imul_nat (a := x3) (b := y8) (by omega)]
  have q47 : x4 * y7 ≤ 2251799813685248 := Nat.le_trans (Nat.mul_le_mul (Nat.le_of_lt a4) (Nat.le_of_lt b7)) (by decide)
  rw [imul_nat (a := x4) (b := y7) (by omega)]
  have q56 : x5 * y6 ≤ 2251799813685248 := Nat.le_trans (Nat.mul_le_mul (Nat.le_of_lt a5) (Nat.le_of_lt b6)) (by decide)
  rw [imul_nat (a := x5) (b := y6) (by omega)]
  have q65 : x6 * y5 ≤ 2251799813685248 := Nat.le_trans (Nat.mul_le_mul (Nat.le_of_lt a6) (Nat.le_of_lt b5)) (by decide)
  rw [imul_nat (a := x6) (b := y5) (by omega)]
  have q74 : x7 * y4 ≤ 2251799813685248 := Nat.le_trans (Nat.mul_le_mul (Nat.le_of_lt a7) (Nat.le_of_lt b4)) (by decide)
  rw [imul_nat (a := x7) (b := y4) (by omega)]
  have q83 : x8 * y3 ≤ 2251799813685248 := Nat.le_trans (Nat.mul_le_mul (Nat.le_of_lt a8) (Nat.le_of_lt b3)) (by decide)
  rw [imul_nat (a := x8) (b := y3) (by omega)]
  have q92 : x9 * y2 ≤ 2251799813685248 := Nat.le_trans (Nat.mul_le_mul (Nat.le_of_lt a9) (Nat.le_of_lt b2)) (by decide)
  rw [imul_nat (a := x9) (b := y2) (by omega)]
  generalize x0 * y1 = m01 at *
  generalize x1 * y0 = m10 at *
  generalize x2 * y9 = m29 at *
  generalize x3 * y8 = m38 at *
  generalize x4 * y7 = m47 at *
  generalize x5 * y6 = m56 at *
  generalize x6 * y5 = m65 at *
  generalize x7 * y4 = m74 at *
  generalize x8 * y3 = m83 at *
  generalize x9 * y2 = m92 at *
  rw [imul19 (b := m29) (by omega)]
  rw [imul19 (b := m38) (by omega)]
  rw [imul19 (b := m47) (by omega)]
  rw [imul19 (b := m56) (by omega)]
  rw [imul19 (b := m65) (by omega)]
  rw [imul19 (b := m74) (by omega)]
  rw [imul19 (b := m83) (by omega)]
  rw [imul19 (b := m92) (by omega)]
  rw [iadd0 (b := m01) (by omega)]
  rw [iadd_nat (a := m01) (b := m10) (by omega)]
  rw [iadd_nat (a := (m01 + m10)) (b := (19 * m29)) (by omega)]
  rw [iadd_nat (a := ((m01 + m10) + (19 * m29))) (b := (19 * m38)) (by omega)]
  rw [iadd_nat (a := (((m01 + m10) + (19 * m29)) + (19 * m38))) (b := (19 * m47)) (by omega)]
  rw [iadd_nat (a := ((((m01 + m10) + (19 * m29)) + (19 * m38)) + (19 * m47))) (b := (19 * m56)) (by omega)]
  rw [iadd_nat (a := (((((m01 + m10) + (19 * m29)) + (19 * m38)) + (19 * m47)) + (19 * m56))) (b := (19 * m65)) (by omega)]
  rw [iadd_nat (a := ((((((m01 + m10) + (19 * m29)) + (19 * m38)) + (19 * m47)) + (19 * m56)) + (19 * m65))) (b := (19 * m74)) (by omega)]
  rw [iadd_nat (a := (((((((m01 + m10) + (19 * m29)) + (19 * m38)) + (19 * m47)) + (19 * m56)) + (19 * m65)) + (19 * m74))) (b := (19 * m83)) (by omega)]
  rw [iadd_nat (a := ((((((((m01 + m10) + (19 * m29)) + (19 * m38)) + (19 * m47)) + (19 * m56)) + (19 * m65)) + (19 * m74)) + (19 * m83))) (b := (19 * m92)) (by omega)]
  refine ⟨?_, by omega⟩
  congr 1
  omega
theorem out2_nat {x0 x1 x2 x3 x4 x5 x6 x7 x8 x9 y0 y1 y2 y3 y4 y5 y6 y7 y8 y9 : Nat} (hx : N10 x0 x1 x2 x3 x4 x5 x6 x7 x8 x9) (hy : N10 y0 y1 y2 y3 y4 y5 y6 y7 y8 y9) : out2 (.ofNat x0) (.ofNat x1) (.ofNat x2) (.ofNat x3) (.ofNat x4) (.ofNat x5) (.ofNat x6) (.ofNat x7) (.ofNat x8) (.ofNat x9) (.ofNat y0) (.ofNat y1) (.ofNat y2) (.ofNat y3) (.ofNat y4) (.ofNat y5) (.ofNat y6) (.ofNat y7) (.ofNat y8) (.ofNat y9) = .ofNat (1 * (x0 * y2) + 2 * (x1 * y1) + 1 * (x2 * y0) + 38 * (x3 * y9) + 19 * (x4 * y8) + 38 * (x5 * y7) + 19 * (x6 * y6) + 38 * (x7 * y5) + 19 * (x8 * y4) + 38 * (x9 * y3)) ∧ 1 * (x0 * y2) + 2 * (x1 * y1) + 1 * (x2 * y0) + 38 * (x3 * y9) + 19 * (x4 * y8) + 38 * (x5 * y7) + 19 * (x6 * y6) + 38 * (x7 * y5) + 19 * (x8 * y4) + 38 * (x9 * y3) < 4611686018427387904 := by
  obtain ⟨a0, a1, a2, a3, a4, a5, a6, a7, a8, a9⟩ := hx
  obtain ⟨b0, b1, b2, b3, b4, b5, b6, b7, b8, b9⟩ := hy
  unfold out2
  have q02 : x0 * y2 ≤ 4503668346847232 := Nat.le_trans (Nat.mul_le_mul (Nat.le_of_lt a0) (Nat.le_of_lt b2)) (by decide)
  rw [imul_nat (a := x0) (b := y2) (by omega)]
  have q11 : x1 * y1 ≤ 1125899906842624 := Nat.le_trans (Nat.mul_le_mul (Nat.le_of_lt a1) (Nat.le_of_lt b1)) (by decide)
  rw [imul_nat (a := x1) (b := y1) (by omega)]
  have q20 : x2 * y0 ≤ 4503668346847232 := Nat.le_trans (Nat.mul_le_mul (Nat.le_of_lt a2) (Nat.le_of_lt b0)) (by decide)
  rw [imul_nat (a := x2) (b := y0) (by omega)]
  have q39 : x3 * y9 ≤ 1125899906842624 := Nat.le_trans (Nat.mul_le_mul (Nat.le_of_lt a3) (Nat.le_of_lt b9)) (by decide)
  rw [imul_nat (a := x3) (b := y9) (by omega)]
  have q48 : x4 * y8 ≤ 4503599627370496 := Nat.le_trans (Nat.mul_le_mul (Nat.le_of_lt a4) (Nat.le_of_lt b8)) (by decide)
  rw [imul_nat (a := x4) (b := y8) (by omega)]
  have q57 : x5 * y7 ≤ 1125899906842624 := Nat.le_trans (Nat.mul_le_mul (Nat.le_of_lt a5) (Nat.le_of_lt b7)) (by decide)
  rw [imul_nat (a := x5) (b := y7) (by omega)]
  have q66 : x6 * y6 ≤ 4503599627370496 := Nat.le_trans (Nat.mul_le_mul (Nat.le_of_lt a6) (Nat.le_of_lt b6)) (by decide)
  rw [imul_nat (a := x6) (b := y6) (by omega)]
  have q75 : x7 * y5 ≤ 1125899906842624 := Nat.le_trans (Nat.mul_le_mul (Nat.le_of_lt a7) (Nat.le_of_lt b5)) (by decide)
  rw [imul_nat (a := x7) (b := y5) (by omega)]
  have q84 : x8 * y4 ≤ 4503599627370496 := Nat.le_trans (Nat.mul_le_mul (Nat.le_of_lt a8) (Nat.le_of_lt b4)) (by decide)
  rw [imul_nat (a := x8) (b := y4) (by omega)]
  have q93 : x9 * y3 ≤ 1125899906842624 := Nat.le_trans (Nat.mul_le_mul (Nat.le_of_lt a9) (Nat.le_of_lt b3)) (by decide)
  rw [imul_nat (a := x9) (b := y3) (by omega)]
  generalize x0 * y2 = m02 at *
  generalize x1 * y1 = m11 at *
  generalize x2 * y0 = m20 at *
  generalize x3 * y9 = m39 at *
  generalize x4 * y8 = m48 at *
  generalize x5 * y7 = m57 at *
  generalize x6 * y6 = m66 at *
  generalize x7 * y5 = m75 at *
  generalize x8 * y4 = m84 at *
  generalize x9 * y3 = m93 at *
  rw [imul2 (b := m11) (by omega)]
  rw [imul2 (b := m39) (by omega)]
  rw [imul19 (b := (2 * m39)) (by omega)]
  rw [imul19 (b := m48) (by omega)]
  rw [imul2 (b := m57) (by omega)]
  rw [imul19 (b := (2 * m57)) (by omega)]
  rw [imul19 (b := m66) (by omega)]
  rw [imul2 (b := m75) (by omega)]
  rw [imul19 (b := (2 * m75)) (by omega)]
  rw [imul19 (b := m84) (by omega)]
  rw [imul2 (b := m93) (by omega)]
  rw [imul19 (b := (2 * m93)) (by omega)]
  rw [iadd0 (b := m02) (by omega)]
  rw [iadd_nat (a := m02) (b := (2 * m11)) (by omega)]
  rw [iadd_nat (a := (m02 + (2 * m11))) (b := m20) (by omega)]
  rw [iadd_nat (a := ((m02 + (2 * m11)) + m20)) (b := (19 * (2 * m39))) (by omega)]
  rw [iadd_nat (a := (((m02 + (2 * m11)) + m20) + (19 * (2 * m39)))) (b := (19 * m48)) (by omega)]
  rw [iadd_nat (a := ((((m02 + (2 * m11)) + m20) + (19 * (2 * m39))) + (19 * m48))) (b := (19 * (2 * m57))) (by omega)]
  rw [iadd_nat (a := (((((m02 + (2 * m11)) + m20) + (19 * (2 * m39))) + (19 * m48)) + (19 * (2 * m57)))) (b := (19 * m66)) (by omega)]
  rw [iadd_nat (a := ((((((m02 + (2 * m11)) + m20) + (19 * (2 * m39))) + (19 * m48)) + (19 * (2 * m57))) + (19 * m66))) (b := (19 * (2 * m75))) (by omega)]
  rw [iadd_nat (a := (((((((m02 + (2 * m11)) + m20) + (19 * (2 * m39))) + (19 * m48)) + (19 * (2 * m57))) + (19 * m66)) + (19 * (2 * m75)))) (b := (19 * m84)) (by omega)]
  rw [iadd_nat (a := ((((((((m02 + (2 * m11)) + m20) + (19 * (2 * m39))) + (19 * m48)) + (19 * (2 * m57))) + (19 * m66)) + (19 * (2 * m75))) + (19 * m84))) (b := (19 * (2 * m93))) (by omega)]
  refine ⟨?_, by omega⟩
  congr 1
  omega
theorem out3_nat {x0 x1 x2 x3 x4 x5 x6 x7 x8 x9 y0 y1 y2 y3 y4 y5 y6 y7 y8 y9 : Nat} (hx : N10 x0 x1 x2 x3 x4 x5 x6 x7 x8 x9) (hy : N10 y0 y1 y2 y3 y4 y5 y6 y7 y8 y9) : out3 (.ofNat x0) (.ofNat x1) (.ofNat x2) (.ofNat x3) (.ofNat x4) (.ofNat x5) (.ofNat x6) (.ofNat x7) (.ofNat x8) (.ofNat x9) (.ofNat y0) (.ofNat y1) (.ofNat y2) (.ofNat y3) (.ofNat y4) (.ofNat y5) (.ofNat y6) (.ofNat y7) (.ofNat y8) (.ofNat y9) = .ofNat (1 * (x0 * y3) + 1 * (x1 * y2) + 1 * (x2 * y1) + 1 * (x3 * y0) + 19 * (x4 * y9) + 19 * (x5 * y8) + 19 * (x6 * y7) + 19 * (x7 * y6) + 19 * (x8 * y5) + 19 * (x9 * y4)) ∧ 1 * (x0 * y3) + 1 * (x1 * y2) + 1 * (x2 * y1) + 1 * (x3 * y0) + 19 * (x4 * y9) + 19 * (x5 * y8) + 19 * (x6 * y7) + 19 * (x7 * y6) + 19 * (x8 * y5) + 19 * (x9 * y4) < 4611686018427387904 := by
  obtain ⟨a0, a1, a2, a3, a4, a5, a6, a7, a8, a9⟩ := hx
  obtain ⟨b0, b1, b2, b3, b4, b5, b6, b7, b8, b9⟩ := hy
  unfold out3
  have q03 : x0 * y3 ≤ 2251834173423616 := Nat.le_trans (Nat.mul_le_mul (Nat.le_of_lt a0) (Nat.le_of_lt b3)) (by decide)
  rw [imul_nat (a := x0) (b := y3) (by omega)]
  have q12 : x1 * y2 ≤ 2251799813685248 := Nat.le_trans (Nat.mul_le_mul (Nat.le_of_lt a1) (Nat.le_of_lt b2)) (by decide)
  rw [imul_nat (a := x1) (b := y2) (by omega)]
  have q21 : x2 * y1 ≤ 2251799813685248 := Nat.le_trans (Nat.mul_le_mul (Nat.le_of_lt a2) (Nat.le_of_lt b1)) (by decide)
  rw [imul_nat (a := x2) (b := y1) (by omega)]
  have q30 : x3 * y0 ≤ 2251834173423616 := Nat.le_trans (Nat.mul_le_mul (Nat.le_of_lt a3) (Nat.le_of_lt b0)) (by decide)
  rw [imul_nat (a := x3) (b := y0) (by omega)]
  have q49 : x4 * y9 ≤ 2251799813685248 := Nat.le_trans (Nat.mul_le_mul (Nat.le_of_lt a4) (Nat.le_of_lt b9)) (by decide)
  rw [imul_nat (a := x4) (b := y9) (by omega)]
  have q58 : x5 * y8 ≤ 2251799813685248 := Nat.le_trans (Nat.mul_le_mul (Nat.le_of_lt a5) (Nat.le_of_lt b8)) (by decide)
  rw [imul_nat (a := x5) (b := y8) (by omega)]
  have q67 : x6 * y7 ≤ 2251799813685248 := Nat.le_trans (Nat.mul_le_mul (Nat.le_of_lt a6) (Nat.le_of_lt b7)) (by decide)
  rw [imul_nat (a := x6) (b := y7) (by omega)]
  have q76 : x7 * y6 ≤ 2251799813685248 := Nat.le_trans (Nat.mul_le_mul (Nat.le_of_lt a7) (Nat.le_of_lt b6)) (by decide)
  rw [imul_nat (a := x7) (b := y6) (by omega)]
  have q85 : x8 * y5 ≤ 2251799813685248 := Nat.le_trans (Nat.mul_le_mul (Nat.le_of_lt a8) (Nat.le_of_lt b5)) (by decide)
  rw [imul_nat (a := x8) (b := y5) (by omega)]
  have q94 : x9 * y4 ≤ 2251799813685248 := Nat.le_trans (Nat.mul_le_mul (Nat.le_of_lt a9) (Nat.le_of_lt b4)) (by decide)
  rw [imul_nat (a := x9) (b := y4) (by omega)]
  generalize x0 * y3 = m03 at *
  generalize x1 * y2 = m12 at *
  generalize x2 * y1 = m21 at *
  generalize x3 * y0 = m30 at *
  generalize x4 * y9 = m49 at *
  generalize x5 * y8 = m58 at *
  generalize x6 * y7 = m67 at *
  generalize x7 * y6 = m76 at *
  generalize x8 * y5 = m85 at *
  generalize x9 * y4 = m94 at *
  rw [imul19 (b := m49) (by omega)]
  rw [imul19 (b := m58) (by omega)]
  rw [imul19 (b := m67) (by omega)]
  rw [imul19 (b := m76) (by omega)]
  rw [imul19 (b := m85) (by omega)]
  rw [imul19 (b := m94) (by omega)]
  rw [iadd0 (b := m03) (by omega)]
  rw [iadd_nat (a := m03) (b := m12) (by omega)]
  rw [iadd_nat (a := (m03 + m12)) (b := m21) (by omega)]
  rw [iadd_nat (a := ((m03 + m12) + m21)) (b := m30) (by omega)]
  rw [iadd_nat (a := (((m03 + m12) + m21) + m30)) (b := (19 * m49)) (by omega)]
  rw [iadd_nat (a := ((((m03 + m12) + m21) + m30) + (19 * m49))) (b := (19 * m58)) (by omega)]
  rw [iadd_nat (a := (((((m03 + m12) + m21) + m30) + (19 * m49)) + (19 * m58))) (b := (19 * m67)) (by omega)]
  rw [iadd_nat (a := ((((((m03 + m12) + m21) + m30) + (19 * m49)) + (19 * m58)) + (19 * m67))) (b := (19 * m76)) (by omega)]
  rw [iadd_nat (a := (((((((m03 + m12) + m21) + m30) + (19 * m49)) + (19 * m58)) + (19 * m67)) + (19 * m76))) (b := (19 * m85)) (by omega)]
  rw [iadd_nat (a := ((((((((m03 + m12) + m21) + m30) + (19 * m49)) + (19 * m58)) + (19 * m67)) + (19 * m76)) + (19 * m85))) (b := (19 * m94)) (by omega)]
  refine ⟨?_, by omega⟩
  congr 1
  omega
theorem out4_nat {x0 x1 x2 x3 x4 x5 x6 x7 x8 x9 y0 y1 y2 y3 y4 y5 y6 y7 y8 y9 : Nat} (hx : N10 x0 x1 x2 x3 x4 x5 x6 x7 x8 x9) (hy : N10 y0 y1 y2 y3 y4 y5 y6 y7 y8 y9) : out4 (.ofNat x0) (.ofNat x1) (.ofNat x2) (.ofNat x3) (.ofNat x4) (.ofNat x5) (.ofNat x6) (.ofNat x7) (.ofNat x8) (.ofNat x9) (.ofNat y0) (.ofNat y1) (.ofNat y2) (.ofNat y3) (.ofNat y4) (.ofNat y5) (.ofNat y6) (.ofNat y7) (.ofNat y8) (.ofNat y9) = .ofNat (1 * (x0 * y4) + 2 * (x1 * y3) + 1 * (x2 * y2) + 2 * (x3 * y1) + 1 * (x4 * y0) + 38 * (x5 * y9) + 19 * (x6 * y8) + 38 * (x7 * y7) + 19 * (x8 * y6) + 38 * (x9 * y5)) ∧ 1 * (x0 * y4) + 2 * (x1 * y3) + 1 * (x2 * y2) + 2 * (x3 * y1) + 1 * (x4 * y0) + 38 * (x5 * y9) + 19 * (x6 * y8) + 38 * (x7 * y7) + 19 * (x8 * y6) + 38 * (x9 * y5) < 4611686018427387904 := by
  obtain ⟨a0, a1, a2, a3, a4, a5, a6, a7, a8, a9⟩ := hx
  obtain ⟨b0, b1, b2, b3, b4, b5, b6, b7, b8, b9⟩ := hy
  unfold out4
  have q04 : x0 * y4 ≤ 4503668346847232 := Nat.le_trans (Nat.mul_le_mul (Nat.le_of_lt a0) (Nat.le_of_lt b4)) (by decide)
  rw [imul_nat (a := x0) (b := y4) (by omega)]
  have q13 : x1 * y3 ≤ 1125899906842624 := Nat.le_trans (Nat.mul_le_mul (Nat.le_of_lt a1) (Nat.le_of_lt b3)) (by decide)
  rw [imul_nat (a := x1) (b := y3) (by omega)]
  have q22 : x2 * y2 ≤ 4503599627370496 := Nat.le_trans (Nat.mul_le_mul (Nat.le_of_lt a2) (Nat.le_of_lt b2)) (by decide)
  rw [imul_nat (a := x2) (b := y2) (by omega)]
  have q31 : x3 * y1 ≤ 1125899906842624 := Nat.le_trans (Nat.mul_le_mul (Nat.le_of_lt a3) (Nat.le_of_lt b1)) (by decide)
  rw [imul_nat (a := x3) (b := y1) (by omega)]
  have q40 : x4 * y0 ≤ 4503668346847232 := Nat.le_trans (Nat.mul_le_mul (Nat.le_of_lt a4) (Nat.le_of_lt b0)) (by decide)
  rw [imul_nat (a := x4) (b := y0) (by omega)]
  have q59 : x5 * y9 ≤ 1125899906842624 := Nat.le_trans (Nat.mul_le_mul (Nat.le_of_lt a5) (Nat.le_of_lt b9)) (by decide)
  rw [imul_nat (a := x5) (b := y9) (by omega)]
  have q68 : x6 * y8 ≤ 4503599627370496 := Nat.le_trans (Nat.mul_le_mul (Nat.le_of_lt a6) (Nat.le_of_lt b8)) (by decide)
  rw [imul_nat (a := x6) (b := y8) (by omega)]
  have q77 : x7 * y7 ≤ 1125899906842624 := Nat.le_trans (Nat.mul_le_mul (Nat.le_of_lt a7) (Nat.le_of_lt b7)) (by decide)
  rw [imul_nat (a := x7) (b := y7) (by omega)]
  have q86 : x8 * y6 ≤ 4503599627370496 := Nat.le_trans (Nat.mul_le_mul (Nat.le_of_lt a8) (Nat.le_of_lt b6)) (by decide)
  rw [imul_nat (a := x8) (b := y6) (by omega)]
  have q95 : x9 * y5 ≤ 1125899906842624 := Nat.le_trans (Nat.mul_le_mul (Nat.le_of_lt a9) (Nat.le_of_lt b5)) (by decide)
  rw [imul_nat (a := x9) (b := y5) (by omega)]
  generalize x0 * y4 = m04 at *
  generalize x1 * y3 = m13 at *
  generalize x2 * y2 = m22 at *
  generalize x3 * y1 = m31 at *
  generalize x4 * y0 = m40 at *
  generalize x5 * y9 = m59 at *
  generalize x6 * y8 = m68 at *
  generalize x7 * y7 = m77 at *
  generalize x8 * y6 = m86 at *
  generalize x9 * y5 = m95 at *
  rw [imul2 (b := m13) (by omega)]
  rw [imul2 (b := m31) (by omega)]
  rw [imul2 (b := m59) (by omega)]
  rw [imul19 (b := (2 * m59)) (by omega)]
  rw [imul19 (b := m68) (by omega)]
  rw [imul2 (b := m77) (by omega)]
  rw [imul19 (b := (2 * m77)) (by omega)]
  rw [imul19 (b := m86) (by omega)]
  rw [imul2 (b := m95) (by omega)]
  rw [imul19 (b := (2 * m95)) (by omega)]
  rw [iadd0 (b := m04) (by omega)]
  rw [iadd_nat (a := m04) (b := (2 * m13)) (by omega)]
  rw [iadd_nat (a := (m04 + (2 * m13))) (b := m22) (by omega)]
  rw [iadd_nat (a := ((m04 + (2 * m13)) + m22)) (b := (2 * m31)) (by omega)]
  rw [iadd_nat (a := (((m04 + (2 * m13)) + m22) + (2 * m31))) (b := m40) (by omega)]
  rw [iadd_nat (a := ((((m04 + (2 * m13)) + m22) + (2 * m31)) + m40)) (b := (19 * (2 * m59))) (by omega)]
  rw [iadd_nat (a := (((((m04 + (2 * m13)) + m22) + (2 * m31)) + m40) + (19 * (2 * m59)))) (b := (19 * m68)) (by omega)]
  rw [iadd_nat (a := ((((((m04 + (2 * m13)) + m22) + (2 * m31)) + m40) + (19 * (2 * m59))) + (19 * m68))) (b := (19 * (2 * m77))) (by omega)]
  rw [iadd_nat (a := (((((((m04 + (2 * m13)) + m22) + (2 * m31)) + m40) + (19 * (2 * m59))) + (19 * m68)) + (19 * (2 * m77)))) (b := (19 * m86)) (by omega)]
  rw [iadd_nat (a := ((((((((m04 + (2 * m13)) + m22) + (2 * m31)) + m40) + (19 * (2 * m59))) + (19 * m68)) + (19 * (2 * m77))) + (19 * m86))) (b := (19 * (2 * m95))) (by omega)]
  refine ⟨?_, by omega⟩
  congr 1
  omega
theorem out5_nat {x0 x1 x2 x3 x4 x5 x6 x7 x8 x9 y0 y1 y2 y3 y4 y5 y6 y7 y8 y9 : Nat} (hx : N10 x0 x1 x2 x3 x4 x5 x6 x7 x8 x9) (hy : N10 y0 y1 y2 y3 y4 y5 y6 y7 y8 y9) : out5 (.ofNat x0) (.ofNat x1) (.ofNat x2) (.ofNat x3) (.ofNat x4) (.ofNat x5) (.ofNat x6) (.ofNat x7) (.ofNat x8) (.ofNat x9) (.ofNat y0) (.ofNat y1) (.ofNat y2) (.ofNat y3) (.ofNat y4) (.ofNat y5) (.ofNat y6) (.ofNat y7) (.ofNat y8) (.ofNat y9) = .ofNat (1 * (x0 * y5) + 1 * (x1 * y4) + 1 * (x2 * y3) + 1 * (x3 * y2) + 1 * (x4 * y1) + 1 * (x5 * y0) + 19 * (x6 * y9) + 19 * (x7 * y8) + 19 * (x8 * y7) + 19 * (x9 * y6)) ∧ 1 * (x0 * y5) + 1 * (x1 * y4) + 1 * (x2 * y3) + 1 * (x3 * y2) + 1 * (x4 * y1) + 1 * (x5 * y0) + 19 * (x6 * y9) + 19 * (x7 * y8) + 19 * (x8 * y7) + 19 * (x9 * y6) < 4611686018427387904 := by
  obtain ⟨a0, a1, a2, a3, a4, a5, a6, a7, a8, a9⟩ := hx
  obtain ⟨b0, b1, b2, b3, b4, b5, b6, b7, b8, b9⟩ := hy
  unfold out5
  have q05 : x0 * y5 ≤ 2251834173423616 := Nat.le_trans (Nat.mul_le_mul (Nat.le_of_lt a0) (Nat.le_of_lt b5)) (by decide)
  rw [imul_nat (a := x0) (b := y5) (by omega)]
  have q14 : x1 * y4 ≤ 2251799813685248 := Nat.le_trans (Nat.mul_le_mul (Nat.le_of_lt a1) (Nat.le_of_lt b4)) (by decide)
  rw [imul_nat (a := x1) (b := y4) (by omega)]
  have q23 : x2 * y3 ≤ 2251799813685248 := Nat.le_trans (Nat.mul_le_mul (Nat.le_of_lt a2) (Nat.le_of_lt b3)) (by decide)
  rw [imul_nat (a := x2) (b := y3) (by omega)]
  have q32 : x3 * y2 ≤ 2251799813685248 := Nat.le_trans (Nat.mul_le_mul (Nat.le_of_lt a3) (Nat.le_of_lt b2)) (by decide)
  rw [imul_nat (a := x3) (b := y2) (by omega)]
  have q41 : x4 * y1 ≤ 2251799813685248 := Nat.le_trans (Nat.mul_le_mul (Nat.le_of_lt a4) (Nat.le_of_lt b1)) (by decide)
  rw [imul_nat (a := x4) (b := y1) (by omega)]
  have q50 : x5 * y0 ≤ 2251834173423616 := Nat.le_trans (Nat.mul_le_mul (Nat.le_of_lt a5) (Nat.le_of_lt b0)) (by decide)
  rw [imul_nat (a := x5) (b := y0) (by omega)]
  have q69 : x6 * y9 ≤ 2251799813685248 := Nat.le_trans (Nat.mul_le_mul (Nat.le_of_lt a6) (Nat.le_of_lt b9)) (by decide)
  rw [imul_nat (a := x6) (b := y9) (by omega)]
  have q78 : x7 * y8 ≤ 2251799813685248 := Nat.le_trans (Nat.mul_le_mul (Nat.le_of_lt a7) (Nat.le_of_lt b8)) (by decide)
  rw [imul_nat (a := x7) (b := y8) (by omega)]
  have q87 : x8 * y7 ≤ 2251799813685248 := Nat.le_trans (Nat.mul_le_mul (Nat.le_of_lt a8) (Nat.le_of_lt b7)) (by decide)
  rw [imul_nat (a := x8) (b := y7) (by omega)]
  have q96 : x9 * y6 ≤ 2251799813685248 := Nat.le_trans (Nat.mul_le_mul (Nat.le_of_lt a9) (Nat.le_of_lt b6)) (by decide)
  rw [imul_nat (a := x9) (b := y6) (by omega)]
  generalize x0 * y5 = m05 at *
  generalize x1 * y4 = m14 at *
  generalize x2 * y3 = m23 at *
  generalize x3 * y2 = m32 at *
  generalize x4 * y1 = m41 at *
  generalize x5 * y0 = m50 at *
  generalize x6 * y9 = m69 at *
  generalize x7 * y8 = m78 at *
  generalize x8 * y7 = m87 at *
  generalize x9 * y6 = m96 at *
  rw [imul19 (b := m69) (by omega)]
  rw [imul19 (b := m78) (by omega)]
  rw [imul19 (b := m87) (by omega)]
  rw [imul19 (b := m96) (by omega)]
  rw [iadd0 (b := m05) (by omega)]
  rw [iadd_nat (a := m05) (b := m14) (by omega)]
  rw [iadd_nat (a := (m05 + m14)) (b := m23) (by omega)]
  rw [iadd_nat (a := ((m05 + m14) + m23)) (b := m32) (by omega)]
  rw [iadd_nat (a := (((m05 + m14) + m23) + m32)) (b := m41) (by omega)]
  rw [iadd_nat (a := ((((m05 + m14) + m23) + m32) + m41)) (b := m50) (by omega)]
  rw [iadd_nat (a := (((((m05 + m14) + m23) + m32) + m41) + m50)) (b := (19 * m69)) (by omega)]
  rw [iadd_nat (a := ((((((m05 + m14) + m23) + m32) + m41) + m50) + (19 * m69))) (b := (19 * m78)) (by omega)]
  rw [iadd_nat (a := (((((((m05 + m14) + m23) + m32) + m41) + m50) + (19 * m69)) + (19 * m78))) (b := (19 * m87)) (by omega)]
  rw [iadd_nat (a := ((((((((m05 + m14) + m23) + m32) + m41) + m50) + (19 * m69)) + (19 * m78)) + (19 * m87))) (b := (19 * m96)) (by omega)]
  refine ⟨?_, by omega⟩
  congr 1
  omega
theorem out6_nat {x0 x1 x2 x3 x4 x5 x6 x7 x8 x9 y0 y1 y2 y3 y4 y5 y6 y7 y8 y9 : Nat} (hx : N10 x0 x1 x2 x3 x4 x5 x6 x7 x8 x9) (hy : N10 y0 y1 y2 y3 y4 y5 y6 y7 y8 y9) : out6 (.ofNat x0) (.ofNat x1) (.ofNat x2) (.ofNat x3) (.ofNat x4) (.ofNat x5) (.ofNat x6) (.ofNat x7) (.ofNat x8) (.ofNat x9) (.ofNat y0) (.ofNat y1) (.ofNat y2) (.ofNat y3) (.ofNat y4) (.ofNat y5) (.ofNat y6) (.ofNat y7) (.ofNat y8) (.ofNat y9) = .ofNat (1 * (x0 * y6) + 2 * (x1 * y5) + 1 * (x2 * y4) + 2 * (x3 * y3) + 1 * (x4 * y2) + 2 * (x5 * y1) + 1 * (x6 * y0) + 38 * (x7 * y9) + 19 * (x8 * y8) + 38 * (x9 * y7)) ∧ 1 * (x0 * y6) + 2 * (x1 * y5) + 1 * (x2 * y4) + 2 * (x3 * y3) + 1 * (x4 * y2) + 2 * (x5 * y1) + 1 * (x6 * y0) + 38 * (x7 * y9) + 19 * (x8 * y8) + 38 * (x9 * y7) < 4611686018427387904 := by
  obtain ⟨a0, a1, a2, a3, a4, a5, a6, a7, a8, a9⟩ := hx
  obtain ⟨b0, b1, b2, b3, b4, b5, b6, b7, b8, b9⟩ := hy
  unfold out6
  have q06 : x0 * y6 ≤ 4503668346847232 := Nat.le_trans (Nat.mul_le_mul (Nat.le_of_lt a0) (Nat.le_of_lt b6)) (by decide)
  rw [imul_nat (a := x0) (b := y6) (by omega)]
  have q15 : x1 * y5 ≤ 1125899906842624 := Nat.le_trans (Nat.mul_le_mul (Nat.le_of_lt a1) (Nat.le_of_lt b5)) (by decide)
  rw [imul_nat (a := x1) (b := y5) (by omega)]
  have q24 : x2 * y4 ≤ 4503599627370496 := Nat.le_trans (Nat.mul_le_mul (Nat.le_of_lt a2) (Nat.le_of_lt b4)) (by decide)
  rw [imul_nat (a := x2) (b := y4) (by omega)]
  have q33 : x3 * y3 ≤ 1125899906842624 := Nat.le_trans (Nat.mul_le_mul (Nat.le_of_lt a3) (Nat.le_of_lt b3)) (by decide)
  rw [imul_nat (a := x3) (b := y3) (by omega)]
  have q42 : x4 * y2 ≤ 4503599627370496 := Nat.le_trans (Nat.mul_le_mul (Nat.le_of_lt a4) (Nat.le_of_lt b2)) (by decide)
  rw [imul_nat (a := x4) (b := y2) (by omega)]
  have q51 : x5 * y1 ≤ 1125899906842624 := Nat.le_trans (Nat.mul_le_mul (Nat.le_of_lt a5) (Nat.le_of_lt b1)) (by decide)
  rw [imul_nat (a := x5) (b := y1) (by omega)]
  have q60 : x6 * y0 ≤ 4503668346847232 := Nat.le_trans (Nat.mul_le_mul (Nat.le_of_lt a6) (Nat.le_of_lt b0)) (by decide)
  rw [imul_nat (a := x6) (b := y0) (by omega)]
  have q79 : x7 * y9 ≤ 1125899906842624 := Nat.le_trans (Nat.mul_le_mul (Nat.le_of_lt a7) (Nat.le_of_lt b9)) (by decide)
  rw [imul_nat (a := x7) (b := y9) (by omega)]
  have q88 : x8 * y8 ≤ 4503599627370496 := Nat.le_trans (Nat.mul_le_mul (Nat.le_of_lt a8) (Nat.le_of_lt b8)) (by decide)
  rw [imul_nat (a := x8) (b := y8) (by omega)]
  have q97 : x9 * y7 ≤ 1125899906842624 := Nat.le_trans (Nat.mul_le_mul (Nat.le_of_lt a9) (Nat.le_of_lt b7)) (by decide)
  rw [imul_nat (a := x9) (b := y7) (by omega)]
  generalize x0 * y6 = m06 at *
  generalize x1 * y5 = m15 at *
  generalize x2 * y4 = m24 at *
  generalize x3 * y3 = m33 at *
  generalize x4 * y2 = m42 at *
  generalize x5 * y1 = m51 at *
  generalize x6 * y0 = m60 at *
  generalize x7 * y9 = m79 at *
  generalize x8 * y8 = m88 at *
  generalize x9 * y7 = m97 at *
  rw [imul2 (b := m15) (by omega)]
  rw [imul2 (b := m33) (by omega)]
  rw [imul2 (b := m51) (by omega)]
  rw [imul2 (b := m79) (by omega)]
  rw [imul19 (b := (2 * m79)) (by omega)]
  rw [imul19 (b := m88) (by omega)]
  rw [imul2 (b := m97) (by omega)]
  rw [imul19 (b := (2 * m97)) (by omega)]
  rw [iadd0 (b := m06) (by omega)]
  rw [iadd_nat (a := m06) (b := (2 * m15)) (by omega)]
  rw [iadd_nat (a := (m06 + (2 * m15))) (b := m24) (by omega)]
  rw [iadd_nat (a := ((m06 + (2 * m15)) + m24)) (b := (2 * m33)) (by omega)]
  rw [iadd_nat (a := (((m06 + (2 * m15)) + m24) + (2 * m33))) (b := m42) (by omega)]
  rw [iadd_nat (a := ((((m06 + (2 * m15)) + m24) + (2 * m33)) + m42)) (b := (2 * m51)) (by omega)]
  rw [iadd_nat (a := (((((m06 + (2 * m15)) + m24) + (2 * m33)) + m42) + (2 * m51))) (b := m60) (by omega)]
  rw [iadd_nat (a := ((((((m06 + (2 * m15)) + m24) + (2 * m33)) + m42) + (2 * m51)) + m60)) (b := (19 * (2 * m79))) (by omega)]
  rw [iadd_nat (a := (((((((m06 + (2 * m15)) + m24) + (2 * m33)) + m42) + (2 * m51)) + m60) + (19 * (2 * m79)))) (b := (19 * m88)) (by omega)]
  rw [iadd_nat (a := ((((((((m06 + (2 * m15)) + m24) + (2 * m33)) + m42) + (2 * m51)) + m60) + (19 * (2 * m79))) + (19 * m88))) (b := (19 * (2 * m97))) (by omega)]
  refine ⟨?_, by omega⟩
  congr 1
  omega
theorem out7_nat {x0 x1 x2 x3 x4 x5 x6 x7 x8 x9 y0 y1 y2 y3 y4 y5 y6 y7 y8 y9 : Nat} (hx : N10 x0 x1 x2 x3 x4 x5 x6 x7 x8 x9) (hy : N10 y0 y1 y2 y3 y4 y5 y6 y7 y8 y9) : out7 (.ofNat x0) (.ofNat x1) (.ofNat x2) (.ofNat x3) (.ofNat x4) (.ofNat x5) (.ofNat x6) (.ofNat x7) (.ofNat x8) (.ofNat x9) (.ofNat y0) (.ofNat y1) (.ofNat y2) (.ofNat y3) (.ofNat y4) (.ofNat y5) (.ofNat y6) (.ofNat y7) (.ofNat y8) (.ofNat y9) = .ofNat (1 * (x0 * y7) + 1 * (x1 * y6) + 1 * (x2 * y5) + 1 * (x3 * y4) + 1 * (x4 * y3) + 1 * (x5 * y2) + 1 * (x6 * y1) + 1 * (x7 * y0) + 19 * (x8 * y9) + 19 * (x9 * y8)) ∧ 1 * (x0 * y7) + 1 * (x1 * y6) + 1 * (x2 * y5) + 1 * (x3 * y4) + 1 * (x4 * y3) + 1 * (x5 * y2) + 1 * (x6 * y1) + 1 * (x7 * y0) + 19 * (x8 * y9) + 19 * (x9 * y8) < 4611686018427387904 := by
  obtain ⟨a0, a1, a2, a3, a4, a5, a6, a7, a8, a9⟩ := hx
  obtain ⟨b0, b1, b2, b3, b4, b5, b6, b7, b8, b9⟩ := hy
  unfold out7
  have q07 : x0 * y7 ≤ 2251834173423616 := Nat.le_trans (Nat.mul_le_mul (Nat.le_of_lt a0) (Nat.le_of_lt b7)) (by decide)
  rw [imul_nat (a := x0) (b := y7) (by omega)]
  have q16 : x1 * y6 ≤ 2251799813685248 := Nat.le_trans (Nat.mul_le_mul (Nat.le_of_lt a1) (Nat.le_of_lt b6)) (by decide)
  rw [imul_nat (a := x1) (b := y6) (by omega)]
  have q25 : x2 * y5 ≤ 2251799813685248 := Nat.le_trans (Nat.mul_le_mul (Nat.le_of_lt a2) (Nat.le_of_lt b5)) (by decide)
  rw [imul_nat (a := x2) (b := y5) (by omega)]
  have q34 : x3 * y4 ≤ 2251799813685248 := Nat.le_trans (Nat.mul_le_mul (Nat.le_of_lt a3) (Nat.le_of_lt b4)) (by decide)
  rw [imul_nat (a := x3) (b := y4) (by omega)]
  have q43 : x4 * y3 ≤ 2251799813685248 := Nat.le_trans (Nat.mul_le_mul (Nat.le_of_lt a4) (Nat.le_of_lt b3)) (by decide)
  rw [imul_nat (a := x4) (b := y3) (by omega)]
  have q52 : x5 * y2 ≤ 2251799813685248 := Nat.le_trans (Nat.mul_le_mul (Nat.le_of_lt a5) (Nat.le_of_lt b2)) (by decide)
  rw [imul_nat (a := x5) (b := y2) (by omega)]
  have q61 : x6 * y1 ≤ 2251799813685248 := Nat.le_trans (Nat.mul_le_mul (Nat.le_of_lt a6) (Nat.le_of_lt b1)) (by decide)
  rw [imul_nat (a := x6) (b := y1) (by omega)]
  have q70 : x7 * y0 ≤ 2251834173423616 := Nat.le_trans (Nat.mul_le_mul (Nat.le_of_lt a7) (Nat.le_of_lt b0)) (by decide)
  rw [imul_nat (a := x7) (b := y0) (by omega)]
  have q89 : x8 * y9 ≤ 2251799813685248 := Nat.le_trans (Nat.mul_le_mul (Nat.le_of_lt a8) (Nat.le_of_lt b9)) (by decide)
  rw [imul_nat (a := x8) (b := y9) (by omega)]
  have q98 : x9 * y8 ≤ 2251799813685248 := Nat.le_trans (Nat.mul_le_mul (Nat.le_of_lt a9) (Nat.le_of_lt b8)) (by decide)
  rw [imul_nat (a := x9) (b := y8) (by omega)]
  generalize x0 * y7 = m07 at *
  generalize x1 * y6 = m16 at *
  generalize x2 * y5 = m25 at *
  generalize x3 * y4 = m34 at *
  generalize x4 * y3 = m43 at *
  generalize x5 * y2 = m52 at *
  generalize x6 * y1 = m61 at *
  generalize x7 * y0 = m70 at *
  generalize x8 * y9 = m89 at *
  generalize x9 * y8 = m98 at *
  rw [imul19 (b := m89) (by omega)]
  rw [imul19 (b := m98) (by omega)]
  rw [iadd0 (b := m07) (by omega)]
  rw [iadd_nat (a := m07) (b := m16) (by omega)]
  rw [iadd_nat (a := (m07 + m16)) (b := m25) (by omega)]
  rw [iadd_nat (a := ((m07 + m16) + m25)) (b := m34) (by omega)]
  rw [iadd_nat (a := (((m07 + m16) + m25) + m34)) (b := m43) (by omega)]
  rw [iadd_nat (a := ((((m07 + m16) + m25) + m34) + m43)) (b := m52) (by omega)]
  rw [iadd_nat (a := (((((m07 + m16) + m25) + m34) + m43) + m52)) (b := m61) (by omega)]
  rw [iadd_nat (a := ((((((m07 + m16) + m25) + m34) + m43) + m52) + m61)) (b := m70) (by omega)]
  rw [iadd_nat (a := (((((((m07 + m16) + m25) + m34) + m43) + m52) + m61) + m70)) (b := (19 * m89)) (by omega)]
  rw [iadd_nat (a := ((((((((m07 + m16) + m25) + m34) + m43) + m52) + m61) + m70) + (19 * m89))) (b := (19 * m98)) (by omega)]
  refine ⟨?_, by omega⟩
  congr 1
  omega
theorem out8_nat {x0 x1 x2 x3 x4 x5 x6 x7 x8 x9 y0 y1 y2 y3 y4 y5 y6 y7 y8 y9 : Nat} (hx : N10 x0 x1 x2 x3 x4 x5 x6 x7 x8 x9) (hy : N10 y0 y1 y2 y3 y4 y5 y6 y7 y8 y9) : out8 (.ofNat x0) (.ofNat x1) (.ofNat x2) (.ofNat x3) (.ofNat x4) (.ofNat x5) (.ofNat x6) (.ofNat x7) (.ofNat x8) (.ofNat x9) (.ofNat y0) (.ofNat y1) (.ofNat y2) (.ofNat y3) (.ofNat y4) (.ofNat y5) (.ofNat y6) (.ofNat y7) (.ofNat y8) (.ofNat y9) = .ofNat (1 * (x0 * y8) + 2 * (x1 * y7) + 1 * (x2 * y6) + 2 * (x3 * y5) + 1 * (x4 * y4) + 2 * (x5 * y3) + 1 * (x6 * y2) + 2 * (x7 * y1) + 1 * (x8 * y0) + 38 * (x9 * y9)) ∧ 1 * (x0 * y8) + 2 * (x1 * y7) + 1 * (x2 * y6) + 2 * (x3 * y5) + 1 * (x4 * y4) + 2 * (x5 * y3) + 1 * (x6 * y2) + 2 * (x7 * y1) + 1 * (x8 * y0) + 38 * (x9 * y9) < 4611686018427387904 := by
  obtain ⟨a0, a1, a2, a3, a4, a5, a6, a7, a8, a9⟩ := hx
  obtain ⟨b0, b1, b2, b3, b4, b5, b6, b7, b8, b9⟩ := hy
  unfold out8
  have q08 : x0 * y8 ≤ 4503668346847232 := Nat.le_trans (Nat.mul_le_mul (Nat.le_of_lt a0) (Nat.le_of_lt b8)) (by decide)
  rw [imul_nat (a := x0) (b := y8) (by omega)]
  have q17 : x1 * y7 ≤ 1125899906842624 := Nat.le_trans (Nat.mul_le_mul (Nat.le_of_lt a1) (Nat.le_of_lt b7)) (by decide)
  rw [imul_nat (a := x1) (b := y7) (by omega)]
  have q26 : x2 * y6 ≤ 4503599627370496 := Nat.le_trans (Nat.mul_le_mul (Nat.le_of_lt a2) (Nat.le_of_lt b6)) (by decide)
  rw [imul_nat (a := x2) (b := y6) (by omega)]
  have q35 : x3 * y5 ≤ 1125899906842624 := Nat.le_trans (Nat.mul_le_mul (Nat.le_of_lt a3) (Nat.le_of_lt b5)) (by decide)
  rw [imul_nat (a := x3) (b := y5) (by omega)]
  have q44 : x4 * y4 ≤ 4503599627370496 := Nat.le_trans (Nat.mul_le_mul (Nat.le_of_lt a4) (Nat.le_of_lt b4)) (by decide)
  rw [imul_nat (a := x4) (b := y4) (by omega)]
  have q53 : x5 * y3 ≤ 1125899906842624 := Nat.le_trans (Nat.mul_le_mul (Nat.le_of_lt a5) (Nat.le_of_lt b3)) (by decide)
  rw [imul_nat (a := x5) (b := y3) (by omega)]
  have q62 : x6 * y2 ≤ 4503599627370496 := Nat.le_trans (Nat.mul_le_mul (Nat.le_of_lt a6) (Nat.le_of_lt b2)) (by decide)
  rw [imul_nat (a := x6) (b := y2) (by omega)]
  have q71 : x7 * y1 ≤ 1125899906842624 := Nat.le_trans (Nat.mul_le_mul (Nat.le_of_lt a7) (Nat.le_of_lt b1)) (by decide)
  rw [imul_nat (a := x7) (b := y1) (by omega)]
  have q80 : x8 * y0 ≤ 4503668346847232 := Nat.le_trans (Nat.mul_le_mul (Nat.le_of_lt a8) (Nat.le_of_lt b0)) (by decide)
  rw [imul_nat (a := x8) (b := y0) (by omega)]
  have q99 : x9 * y9 ≤ 1125899906842624 := Nat.le_trans (Nat.mul_le_mul (Nat.le_of_lt a9) (Nat.le_of_lt b9)) (by decide)
  rw [imul_nat (a := x9) (b := y9) (by omega)]
  generalize x0 * y8 = m08 at *
  generalize x1 * y7 = m17 at *
  generalize x2 * y6 = m26 at *
  generalize x3 * y5 = m35 at *
  generalize x4 * y4 = m44 at *
  generalize x5 * y3 = m53 at *
  generalize x6 * y2 = m62 at *
  generalize x7 * y1 = m71 at *
  generalize x8 * y0 = m80 at *
  generalize x9 * y9 = m99 at *
  rw [imul2 (b := m17) (by omega)]
  rw [imul2 (b := m35) (by omega)]
  rw [imul2 (b := m53) (by omega)]
  rw [imul2 (b := m71) (by omega)]
  rw [imul2 (b := m99) (by omega)]
  rw [imul19 (b := (2 * m99)) (by omega)]
  rw [iadd0 (b := m08) (by omega)]
  rw [iadd_nat (a := m08) (b := (2 * m17)) (by omega)]
  rw [iadd_nat (a := (m08 + (2 * m17))) (b := m26) (by omega)]
  rw [iadd_nat (a := ((m08 + (2 * m17)) + m26)) (b := (2 * m35)) (by omega)]
  rw [iadd_nat (a := (((m08 + (2 * m17)) + m26) + (2 * m35))) (b := m44) (by omega)]
  rw [iadd_nat (a := ((((m08 + (2 * m17)) + m26) + (2 * m35)) + m44)) (b := (2 * m53)) (by omega)]
  rw [iadd_nat (a := (((((m08 + (2 * m17)) + m26) + (2 * m35)) + m44) + (2 * m53))) (b := m62) (by omega)]
  rw [iadd_nat (a := ((((((m08 + (2 * m17)) + m26) + (2 * m35)) + m44) + (2 * m53)) + m62)) (b := (2 * m71)) (by omega)]
  rw [iadd_nat (a := (((((((m08 + (2 * m17)) + m26) + (2 * m35)) + m44) + (2 * m53)) + m62) + (2 * m71))) (b := m80) (by omega)]
  rw [iadd_nat (a := ((((((((m08 + (2 * m17)) + m26) + (2 * m35)) + m44) + (2 * m53)) + m62) + (2 * m71)) + m80)) (b := (19 * (2 * m99))) (by omega)]
  refine ⟨?_, by omega⟩
  congr 1
  omega
theorem out9_nat {x0 x1 x2 x3 x4 x5 x6 x7 x8 x9 y0 y1 y2 y3 y4 y5 y6 y7 y8 y9 : Nat} (hx : N10 x0 x1 x2 x3 x4 x5 x6 x7 x8 x9) (hy : N10 y0 y1 y2 y3 y4 y5 y6 y7 y8 y9) : out9 (.ofNat x0) (.ofNat x1) (.ofNat x2) (.ofNat x3) (.ofNat x4) (.ofNat x5) (.ofNat x6) (.ofNat x7) (.ofNat x8) (.ofNat x9) (.ofNat y0) (.ofNat y1) (.ofNat y2) (.ofNat y3) (.ofNat y4) (.ofNat y5) (.ofNat y6) (.ofNat y7) (.ofNat y8) (.ofNat y9) = .ofNat (1 * (x0 * y9) + 1 * (x1 * y8) + 1 * (x2 * y7) + 1 * (x3 * y6) + 1 * (x4 * y5) + 1 * (x5 * y4) + 1 * (x6 * y3) + 1 * (x7 * y2) + 1 * (x8 * y1) + 1 * (x9 * y0)) ∧ 1 * (x0 * y9) + 1 * (x1 * y8) + 1 * (x2 * y7) + 1 * (x3 * y6) + 1 * (x4 * y5) + 1 * (x5 * y4) + 1 * (x6 * y3) + 1 * (x7 * y2) + 1 * (x8 * y1) + 1 * (x9 * y0) < 4611686018427387904 := by
  obtain ⟨a0, a1, a2, a3, a4, a5, a6, a7, a8, a9⟩ := hx
  obtain ⟨b0, b1, b2, b3, b4, b5, b6, b7, b8, b9⟩ := hy
  unfold out9
  have q09 : x0 * y9 ≤ 2251834173423616 := Nat.le_trans (Nat.mul_le_mul (Nat.le_of_lt a0) (Nat.le_of_lt b9)) (by decide)
  rw [imul_nat (a := x0) (b := y9) (by omega)]
  have q18 : x1 * y8 ≤ 2251799813685248 := Nat.le_trans (Nat.mul_le_mul (Nat.le_of_lt a1) (Nat.le_of_lt b8)) (by decide)
  rw [imul_nat (a := x1) (b := y8) (by omega)]
  have q27 : x2 * y7 ≤ 2251799813685248 := Nat.le_trans (Nat.mul_le_mul (Nat.le_of_lt a2) (Nat.le_of_lt b7)) (by decide)
  rw [imul_nat (a := x2) (b := y7) (by omega)]
  have q36 : x3 * y6 ≤ 2251799813685248 := Nat.le_trans (Nat.mul_le_mul (Nat.le_of_lt a3) (Nat.le_of_lt b6)) (by decide)
  rw [imul_nat (a := x3) (b := y6) (by omega)]
  have q45 : x4 * y5 ≤ 2251799813685248 := Nat.le_trans (Nat.mul_le_mul (Nat.le_of_lt a4) (Nat.le_of_lt b5)) (by decide)
  rw [imul_nat (a := x4) (b := y5) (by omega)]
  have q54 : x5 * y4 ≤ 2251799813685248 := Nat.le_trans (Nat.mul_le_mul (Nat.le_of_lt a5) (Nat.le_of_lt b4)) (by decide)
  rw [imul_nat (a := x5) (b := y4) (by omega)]
  have q63 : x6 * y3 ≤ 2251799813685248 := Nat.le_trans (Nat.mul_le_mul (Nat.le_of_lt a6) (Nat.le_of_lt b3)) (by decide)
  rw [imul_nat (a := x6) (b := y3) (by omega)]
  have q72 : x7 * y2 ≤ 2251799813685248 := Nat.le_trans (Nat.mul_le_mul (Nat.le_of_lt a7) (Nat.le_of_lt b2)) (by decide)
  rw [imul_nat (a := x7) (b := y2) (by omega)]
  have q81 : x8 * y1 ≤ 2251799813685248 := Nat.le_trans (Nat.mul_le_mul (Nat.le_of_lt a8) (Nat.le_of_lt b1)) (by decide)
  rw [imul_nat (a := x8) (b := y1) (by omega)]
  have q90 : x9 * y0 ≤ 2251834173423616 := Nat.le_trans (Nat.mul_le_mul (Nat.le_of_lt a9) (Nat.le_of_lt b0)) (by decide)
  rw [imul_nat (a := x9) (b := y0) (by omega)]
  generalize x0 * y9 = m09 at *
  generalize x1 * y8 = m18 at *
  generalize x2 * y7 = m27 at *
  generalize x3 * y6 = m36 at *
  generalize x4 * y5 = m45 at *
  generalize x5 * y4 = m54 at *
  generalize x6 * y3 = m63 at *
  generalize x7 * y2 = m72 at *
  generalize x8 * y1 = m81 at *
  generalize x9 * y0 = m90 at *
  rw [iadd0 (b := m09) (by omega)]
  rw [iadd_nat (a := m09) (b := m18) (by omega)]
  rw [iadd_nat (a := (m09 + m18)) (b := m27) (by omega)]
  rw [iadd_nat (a := ((m09 + m18) + m27)) (b := m36) (by omega)]
  rw [iadd_nat (a := (((m09 + m18) + m27) + m36)) (b := m45) (by omega)]
  rw [iadd_nat (a := ((((m09 + m18) + m27) + m36) + m45)) (b := m54) (by omega)]
  rw [iadd_nat (a := (((((m09 + m18) + m27) + m36) + m45) + m54)) (b := m63) (by omega)]
  rw [iadd_nat (a := ((((((m09 + m18) + m27) + m36) + m45) + m54) + m63)) (b := m72) (by omega)]
  rw [iadd_nat (a := (((((((m09 + m18) + m27) + m36) + m45) + m54) + m63) + m72)) (b := m81) (by omega)]
  rw [iadd_nat (a := ((((((((m09 + m18) + m27) + m36) + m45) + m54) + m63) + m72) + m81)) (b := m90) (by omega)]
  refine ⟨?_, by omega⟩
  congr 1
  omega
theorem prod_val (x0 x1 x2 x3 x4 x5 x6 x7 x8 x9 y0 y1 y2 y3 y4 y5 y6 y7 y8 y9 : Nat) : val10 x0 x1 x2 x3 x4 x5 x6 x7 x8 x9 * val10 y0 y1 y2 y3 y4 y5 y6 y7 y8 y9 = val10 (1 * (x0 * y0) + 38 * (x1 * y9) + 19 * (x2 * y8) + 38 * (x3 * y7) + 19 * (x4 * y6) + 38 * (x5 * y5) + 19 * (x6 * y4) + 38 * (x7 * y3) + 19 * (x8 * y2) + 38 * (x9 * y1)) (1 * (x0 * y1) + 1 * (x1 * y0) + 19 * (x2 * y9) + 19 * (x3 * y8) + 19 * (x4 * y7) + 19 * (x5 * y6) + 19 * (x6 * y5) + 19 * (x7 * y4) + 19 * (x8 * y3) + 19 * (x9 * y2)) (1 * (x0 * y2) + 2 * (x1 * y1) + 1 * (x2 * y0) + 38 * (x3 * y9) + 19 * (x4 * y8) + 38 * (x5 * y7) + 19 * (x6 * y6) + 38 * (x7 * y5) + 19 * (x8 * y4) + 38 * (x9 * y3)) (1 * (x0 * y3) + 1 * (x1 * y2) + 1 * (x2 * y1) + 1 * (x3 * y0) + 19 * (x4 * y9) + 19 * (x5 * y8) + 19 * (x6 * y7) + 19 * (x7 * y6) + 19 * (x8 * y5) + 19 * (x9 * y4)) (1 * (x0 * y4) + 2 * (x1 * y3) + 1 * (x2 * y2) + 2 * (x3 * y1) + 1 * (x4 * y0) + 38 * (x5 * y9) + 19 * (x6 * y8) + 38 * (x7 * y7) + 19 * (x8 * y6) + 38 * (x9 * y5)) (1 * (x0 * y5) + 1 * (x1 * y4) + 1 * (x2 * y3) + 1 * (x3 * y2) + 1 * (x4 * y1) + 1 * (x5 * y0) + 19 * (x6 * y9) + 19 * (x7 * y8) + 19 * (x8 * y7) + 19 * (x9 * y6)) (1 * (x0 * y6) + 2 * (x1 * y5) + 1 * (x2 * y4) + 2 * (x3 * y3) + 1 * (x4 * y2) + 2 * (x5 * y1) + 1 * (x6 * y0) + 38 * (x7 * y9) + 19 * (x8 * y8) + 38 * (x9 * y7)) (1 * (x0 * y7) + 1 * (x1 * y6) + 1 * (x2 * y5) + 1 * (x3 * y4) + 1 * (x4 * y3) + 1 * (x5 * y2) + 1 * (x6 * y1) + 1 * (x7 * y0) + 19 * (x8 * y9) + 19 * (x9 * y8)) (1 * (x0 * y8) + 2 * (x1 * y7) + 1 * (x2 * y6) + 2 * (x3 * y5) + 1 * (x4 * y4) + 2 * (x5 * y3) + 1 * (x6 * y2) + 2 * (x7 * y1) + 1 * (x8 * y0) + 38 * (x9 * y9)) (1 * (x0 * y9) + 1 * (x1 * y8) + 1 * (x2 * y7) + 1 * (x3 * y6) + 1 * (x4 * y5) + 1 * (x5 * y4) + 1 * (x6 * y3) + 1 * (x7 * y2) + 1 * (x8 * y1) + 1 * (x9 * y0)) + pF * (2 * (x1 * y9) + 1 * (x2 * y8) + 2 * (x3 * y7) + 1 * (x4 * y6) + 2 * (x5 * y5) + 1 * (x6 * y4) + 2 * (x7 * y3) + 1 * (x8 * y2) + 2 * (x9 * y1) + 67108864 * (x2 * y9) + 67108864 * (x3 * y8) + 67108864 * (x4 * y7) + 67108864 * (x5 * y6) + 67108864 * (x6 * y5) + 67108864 * (x7 * y4) + 67108864 * (x8 * y3) + 67108864 * (x9 * y2) + 4503599627370496 * (x3 * y9) + 2251799813685248 * (x4 * y8) + 4503599627370496 * (x5 * y7) + 2251799813685248 * (x6 * y6) + 4503599627370496 * (x7 * y5) + 2251799813685248 * (x8 * y4) + 4503599627370496 * (x9 * y3) + 151115727451828646838272 * (x4 * y9) + 151115727451828646838272 * (x5 * y8) + 151115727451828646838272 * (x6 * y7) + 151115727451828646838272 * (x7 * y6) + 151115727451828646838272 * (x8 * y5) + 151115727451828646838272 * (x9 * y4) + 10141204801825835211973625643008 * (x5 * y9) + 5070602400912917605986812821504 * (x6 * y8) + 10141204801825835211973625643008 * (x7 * y7) + 5070602400912917605986812821504 * (x8 * y6) + 10141204801825835211973625643008 * (x9 * y5) + 340282366920938463463374607431768211456 * (x6 * y9) + 340282366920938463463374607431768211456 * (x7 * y8) + 340282366920938463463374607431768211456 * (x8 * y7) + 340282366920938463463374607431768211456 * (x9 * y6) + 22835963083295358096932575511191922182123945984 * (x7 * y9) + 11417981541647679048466287755595961091061972992 * (x8 * y8) + 22835963083295358096932575511191922182123945984 * (x9 * y7) + 766247770432944429179173513575154591809369561091801088 * (x8 * y9) + 766247770432944429179173513575154591809369561091801088 * (x9 * y8) + 51422017416287688817342786954917203280710495801049370729644032 * (x9 * y9)) := by
  unfold val10 pF
  grind
end
end Ev
