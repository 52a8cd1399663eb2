/-
  The operators on numbers, strings, bools.
-/
import Derived.Test.YtfbcfmgmcldogaaGreatEv3
namespace Ev
open Go

theorem bsel {α : Sort _} (b : Bool) (x y : α) : (Bool.casesOn (motive := fun _ => α) b x y) = if b = true then y else x := by cases b <;> rfl
theorem bselR {α : Sort _} (b : Bool) (x y : α) : (Bool.rec (motive := fun _ => α) x y b) = if b = true then y else x := by cases b <;> rfl
theorem blt_iff (a b : Nat) : (Nat.blt a b = true) = (a < b) := by
  rw [Nat.blt_eq]
theorem selLt {α : Sort _} (a b : Nat) (x y : α) : (Bool.casesOn (motive := fun _ => α) (Nat.blt a b) x y) = if a < b then y else x := by
  by_cases h : a < b
  · rw [if_pos h, show Nat.blt a b = true from by rw [blt_iff]; exact h]
  · rw [if_neg h, show Nat.blt a b = false from by rw [← Bool.not_eq_true, blt_iff]; exact h]

theorem wrap_def (k : IntKind) (n : Int) : k.wrap n = if k.signed = true ∧ (2 ^ (k.bits - 1) : Int) ≤ n % (2 ^ k.bits : Int) then n % (2 ^ k.bits : Int) - (2 ^ k.bits : Int) else n % (2 ^ k.bits : Int) := by
  unfold IntKind.wrap
  by_cases h : k.signed = true ∧ (2 ^ (k.bits - 1) : Int) ≤ n % (2 ^ k.bits : Int)
  · rw [if_pos h, if_pos]; simp only [Bool.and_eq_true, decide_eq_true_eq]; exact h
  · rw [if_neg h, if_neg]; simp only [Bool.and_eq_true, decide_eq_true_eq]; exact h

theorem restK_eq (k : IntKind) (r : Nat) (h : r < modK k) : restK k r = k.wrap (r : Int) := by
  unfold restK
  rw [selLt, wrap_def]
  cases k <;> simp only [modK, topK] at h ⊢ <;> simp only [IntKind.bits, IntKind.signed, true_and, false_and, Bool.false_eq_true, if_false, Int.reducePow, Nat.reduceSub, Int.subNatNat_eq_coe, Int.ofNat_eq_natCast] <;>
    (split <;> (try split) <;> omega)

theorem wrapI_eq (k : IntKind) (n : Int) : wrapI k n = k.wrap n := by
  cases n with
  | ofNat m =>
    show (Bool.casesOn (motive := fun _ => Int) (Nat.blt m (topK k)) (restK k (Nat.mod m (modK k))) (.ofNat m)) = _
    rw [selLt]
    split
    · rename_i h
      rw [wrap_def]
      cases k <;> simp only [topK] at h <;> simp only [IntKind.bits, IntKind.signed, true_and, false_and, Bool.false_eq_true, if_false, Int.reducePow, Nat.reduceSub, Int.ofNat_eq_natCast] <;>
        (try split) <;> omega
    · have hm : ∀ a b, Nat.mod a b = a % b := fun _ _ => rfl
      have h0 : 0 < modK k := by cases k <;> decide
      rw [hm, restK_eq _ _ (Nat.mod_lt _ h0)]
      have h1 : ((2 : Int) ^ k.bits) = (modK k : Nat) := by cases k <;> rfl
      have key : ((m % modK k : Nat) : Int) % (2 ^ k.bits : Int) = (Int.ofNat m) % (2 ^ k.bits : Int) := by
        rw [h1]; simp
      rw [wrap_def, wrap_def, key]
  | negSucc m =>
    show (Bool.casesOn (motive := fun _ => Int) (Nat.blt m (lowK k)) (restK k (Nat.sub (Nat.sub (modK k) 1) (Nat.mod m (modK k)))) (.negSucc m)) = _
    rw [selLt]
    split
    · rename_i h
      rw [wrap_def]
      cases k <;> simp only [lowK] at h <;> simp only [IntKind.bits, IntKind.signed, true_and, false_and, Bool.false_eq_true, if_false, Int.reducePow, Nat.reduceSub, Int.negSucc_eq] <;>
        (try split) <;> omega
    · have hm : ∀ a b, Nat.mod a b = a % b := fun _ _ => rfl
      have hsb : ∀ a b, Nat.sub a b = a - b := fun _ _ => rfl
      have h0 : 0 < modK k := by cases k <;> decide
      have hlt : m % modK k < modK k := Nat.mod_lt _ h0
      rw [hm, hsb, hsb, restK_eq _ _ (by omega)]
      have key : ((modK k - 1 - m % modK k : Nat) : Int) % (2 ^ k.bits : Int) = (Int.negSucc m) % (2 ^ k.bits : Int) := by
        have h1 : ((2 : Int) ^ k.bits) = (modK k : Nat) := by cases k <;> rfl
        rw [h1]
        have h2 : ((modK k - 1 - m % modK k : Nat) : Int) = (modK k : Int) - 1 - (m : Int) % (modK k : Int) := by
          omega
        rw [h2, Int.negSucc_eq]
        have h3 : (m : Int) = (modK k : Int) * ((m : Int) / (modK k : Int)) + (m : Int) % (modK k : Int) := (Int.mul_ediv_add_emod _ _).symm
        have h4 : -((m : Int) + 1) = ((modK k : Int) - 1 - (m : Int) % (modK k : Int)) + (modK k : Int) * (-((m : Int) / (modK k : Int)) - 1) := by
          have : (modK k : Int) * (-((m : Int) / (modK k : Int)) - 1) = -((modK k : Int) * ((m : Int) / (modK k : Int))) - modK k := by
            rw [Int.mul_sub, Int.mul_neg, Int.mul_one]
          rw [this]
          omega
        rw [h4, Int.add_mul_emod_self_left]
      rw [wrap_def, wrap_def, key]

theorem addI_eq (a b : Int) : addI a b = a + b := by cases a <;> cases b <;> rfl
theorem negI_eq (a : Int) : negI a = -a := by cases a <;> rfl
theorem ltI_eq (a b : Int) : ltI a b = decide (a < b) := by
  rw [Bool.eq_iff_iff, decide_eq_true_iff]
  cases a <;> cases b
  · show Nat.blt _ _ = true ↔ _; rw [blt_iff]; simp
  · show false = true ↔ _; simp; omega
  · show true = true ↔ _; simp; omega
  · show Nat.blt _ _ = true ↔ _; rw [blt_iff]; omega
theorem eqI_eq (a b : Int) : eqI a b = (a == b) := by
  rw [Bool.eq_iff_iff, beq_iff_eq]
  cases a <;> cases b
  · show Nat.beq _ _ = true ↔ _; rw [Nat.beq_eq]; constructor
    · intro h; rw [h]
    · intro h; exact Int.ofNat.inj h
  · show false = true ↔ _; simp
  · show false = true ↔ _; simp
  · show Nat.beq _ _ = true ↔ _; rw [Nat.beq_eq]; simp

theorem modK_bits (k : IntKind) : modK k = 2 ^ k.bits := by cases k <;> rfl
theorem toU_eq (k : IntKind) (n : Int) : toU k n = (BitVec.ofInt k.bits n).toNat := by
  have h1 : ((2 : Int) ^ k.bits) = (modK k : Nat) := by cases k <;> rfl
  rw [BitVec.toNat_ofInt]
  cases n with
  | ofNat m =>
    show m % modK k = _
    rw [← modK_bits]
    simp only [Int.ofNat_eq_natCast]
    norm_cast
  | negSucc m =>
    show modK k - 1 - m % modK k = _
    rw [← modK_bits, Int.negSucc_emod]
    · have h0 : 0 < modK k := by cases k <;> decide
      have : m % modK k < modK k := Nat.mod_lt _ h0
      have e : ((m % modK k : Nat) : Int) = (m : Int) % (modK k : Int) := by norm_cast
      omega
    · have h0 : 0 < modK k := by cases k <;> decide
      omega
theorem toU_lt (k : IntKind) (n : Int) : toU k n < modK k := by
  rw [toU_eq, modK_bits]; exact BitVec.isLt _

section
variable {P : Program} {w : World}
theorem evBits_run {op : BinOp} {k : IntKind} {a b : Int} {r : AV} (h : evBits op k (toU k a) (toU k b) = some r) (hop : op = .and ∨ op = .or ∨ op = .xor ∨ op = .andNot) :
    ∃ n, r = .int k n ∧ (Op.intBits op k a b).run P w = .ok (.int k n) w := by
  have hA := toU_eq k a
  have hB := toU_eq k b
  have hla := toU_lt k a
  have hlb := toU_lt k b
  have h2 := modK_bits k
  rcases hop with rfl | rfl | rfl | rfl <;> simp only [evBits, mkInt, Option.some.injEq, show ∀ a b, Nat.land a b = a &&& b from fun _ _ => rfl, show ∀ a b, Nat.lor a b = a ||| b from fun _ _ => rfl, show ∀ a b, Nat.xor a b = a ^^^ b from fun _ _ => rfl, show ∀ a b, Nat.sub a b = a - b from fun _ _ => rfl] at h <;> refine ⟨_, h.symm, ?_⟩ <;> simp only [Op.intBits, Sem.run_pure]
  · rw [restK_eq _ _ (Nat.lt_of_le_of_lt Nat.and_le_left hla)]
    simp only [BitVec.toNat_and, ← hA, ← hB]
  · rw [restK_eq _ _ (by rw [h2] at hla hlb ⊢; exact Nat.or_lt_two_pow hla hlb)]
    simp only [BitVec.toNat_or, ← hA, ← hB]
  · rw [restK_eq _ _ (by rw [h2] at hla hlb ⊢; exact Nat.xor_lt_two_pow hla hlb)]
    simp only [BitVec.toNat_xor, ← hA, ← hB]
  · rw [restK_eq _ _ (Nat.lt_of_le_of_lt Nat.and_le_left hla)]
    have hn : (toU k b) ^^^ (modK k - 1) = (~~~ BitVec.ofInt k.bits b).toNat := by
      rw [← BitVec.xor_allOnes, BitVec.toNat_xor, BitVec.toNat_allOnes, ← hB, h2]
    simp only [BitVec.toNat_and, ← hA, ← hn]

theorem bits_eq (k : IntKind) : bitsK k = k.bits := by cases k <;> rfl
theorem cnt_eq (k : IntKind) (n : Nat) : cnt k n = min n k.bits := by
  unfold cnt
  rw [bsel, bits_eq]
  have : (Nat.ble n k.bits = true) = (n ≤ k.bits) := by rw [Nat.ble_eq]
  simp only [this]
  split <;> omega

theorem evInt_run {op : BinOp} {k j : IntKind} {a b : Int} {r : AV} {t : Nat} (h : evBinI op k a j b = some r) :
    ∃ v, (binOp op t (.int k a) (.int j b)).run P w = .ok v w ∧ ∀ μ, VRel μ r v := by
  unfold evBinI at h
  rw [bsel] at h
  split at h
  · rename_i hk
    by_cases hsh : isShift op = true
    · cases op <;> simp [isShift] at hsh
      · -- shl
        simp only [evInt, iShl] at h
        cases b with
        | negSucc n => cases h
        | ofNat n =>
          simp only [shlN, mkInt, Option.some.injEq] at h
          refine ⟨_, ?_, fun μ => by subst h; rfl⟩
          have hneg : ¬ (Int.ofNat n < 0) := by simp
          simp only [binOp, Op.shift, if_neg hneg, Sem.run_pure]
          congr 2
          rw [wrapI_eq, cnt_eq]
          congr 1
          cases a with
          | ofNat m => simp
          | negSucc m =>
            show Int.negSucc m * 2 ^ (min n k.bits) = Int.negSucc (Nat.succ m * 2 ^ (min n k.bits) - 1)
            have hp : 0 < (m + 1) * 2 ^ (min n k.bits) := Nat.mul_pos (by omega) (Nat.pow_pos (by omega))
            rw [Int.negSucc_eq, Int.negSucc_eq]
            have : ((Nat.succ m * 2 ^ (min n k.bits) - 1 : Nat) : Int) + 1 = ((m : Int) + 1) * 2 ^ (min n k.bits) := by
              have e : (((m + 1) * 2 ^ (min n k.bits) : Nat) : Int) = ((m : Int) + 1) * 2 ^ (min n k.bits) := by simp
              rw [← e]; simp only [Nat.succ_eq_add_one]; omega
            rw [this, Int.neg_mul]
      · -- shr
        simp only [evInt, iShr] at h
        cases b with
        | negSucc n => cases h
        | ofNat n =>
          simp only [shrN, mkInt, Option.some.injEq] at h
          refine ⟨_, ?_, fun μ => by subst h; rfl⟩
          have hneg : ¬ (Int.ofNat n < 0) := by simp
          simp only [binOp, Op.shift, if_neg hneg, Sem.run_pure]
          congr 2
          rw [cnt_eq]
          rw [Int.fdiv_eq_ediv_of_nonneg _ (by exact Int.le_of_lt (Int.pow_pos (by decide)))]
          cases a with
          | ofNat m =>
            show (Int.ofNat m) / 2 ^ (min n k.bits) = Int.ofNat (m / 2 ^ (min n k.bits))
            simp
          | negSucc m =>
            show (Int.negSucc m) / 2 ^ (min n k.bits) = Int.negSucc (m / 2 ^ (min n k.bits))
            have hp : (0 : Int) < 2 ^ (min n k.bits) := Int.pow_pos (by decide)
            rw [Int.negSucc_ediv _ hp, Int.negSucc_eq]
            simp
            rfl
    · have hkj : k = j := by
        simp only [Bool.or_eq_true, hsh, Bool.false_eq_true, false_or, eqK, decide_eq_true_eq] at hk
        exact hk
      subst hkj
      have hbits : ∀ o, (o = BinOp.and ∨ o = .or ∨ o = .xor ∨ o = .andNot) → evBits o k (toU k a) (toU k b) = some r → ∃ v, (Op.intBits o k a b).run P w = .ok v w ∧ ∀ μ, VRel μ r v := by
        intro o ho hh
        obtain ⟨n, hr, hn⟩ := evBits_run (P := P) (w := w) hh ho
        exact ⟨_, hn, fun μ => by subst hr; rfl⟩
      cases op <;> simp [isShift] at hsh <;> simp only [evInt, iAdd, iSub, iMul, iQuo, iRem, iAnd, iOr, iXor, iAndNot, iEql, iNeq, iLss, iLeq, iGtr, iGeq, mkInt, mkBool, Option.some.injEq] at h <;>
        simp only [binOp, ne_eq, not_true_eq_false, if_false]
      case add => exact ⟨_, rfl, fun μ => by subst h; simp [VRel, wrapI_eq, addI_eq]⟩
      case sub => exact ⟨_, rfl, fun μ => by subst h; simp [VRel, wrapI_eq, addI_eq, negI_eq, Int.sub_eq_add_neg]⟩
      case mul => exact ⟨_, rfl, fun μ => by subst h; simp [VRel, wrapI_eq]⟩
      case quo =>
        rw [bselR, eqI_eq] at h
        split at h
        · cases h
        · rename_i hb
          have hb' : ¬ b = 0 := by simpa using hb
          refine ⟨.int k (k.wrap (a.tdiv b)), by simp [Op.intDiv, hb'], fun μ => ?_⟩
          cases h; simp [VRel, wrapI_eq]
      case rem =>
        rw [bselR, eqI_eq] at h
        split at h
        · cases h
        · rename_i hb
          have hb' : ¬ b = 0 := by simpa using hb
          refine ⟨.int k (a.tmod b), by simp [Op.intDiv, hb'], fun μ => ?_⟩
          cases h; simp [VRel]
      case and => exact hbits _ (by simp) h
      case or => exact hbits _ (by simp) h
      case xor => exact hbits _ (by simp) h
      case andNot => exact hbits _ (by simp) h
      case eql => exact ⟨_, rfl, fun μ => by subst h; simp [VRel, eqI_eq]⟩
      case neq => exact ⟨_, rfl, fun μ => by subst h; simp [VRel, eqI_eq, bne]⟩
      case lss => exact ⟨_, rfl, fun μ => by subst h; simp [VRel, ltI_eq]⟩
      case leq => exact ⟨_, rfl, fun μ => by subst h; simp [VRel, ltI_eq, ← Int.not_lt]⟩
      case gtr => exact ⟨_, rfl, fun μ => by subst h; simp [VRel, ltI_eq]⟩
      case geq => exact ⟨_, rfl, fun μ => by subst h; simp [VRel, ltI_eq, ← Int.not_lt]⟩
  · cases h
end
end Ev
