/-
  The law FieldSmall over two numbers below 2^32 answers true. Conditions: those named.
-/
import Derived.Test.YtedpakhefdlbbaaS4
namespace Ev
open Go Go.Proofs
noncomputable section

theorem eqS_of {X Y : Nat} (hX : X < 256 ^ 32) (hY : Y < 256 ^ 32) (h : X = Y) {K : Prop} (hk : K) : eqS (encL 32 X) (encL 32 Y) K := ⟨by rw [eq_num hX hY, decide_eq_true h], hk⟩
theorem split_t {b : Bool} (h : b = true) {T F : Prop} (hk : T) : splitB b T F := ⟨fun _ => hk, fun h' => by rw [h] at h'; cases h'⟩
theorem ofQ_nat {n : Nat} (h : n < M64) {K : List AV → Prop} (hk : K (encL 32 n)) : ofQ (.ofNat n) K := ⟨inU_of h, hk⟩
theorem lt64_32 {n : Nat} (h : n < M64) : n < 256 ^ 32 := Nat.lt_trans h (by decide)
theorem powQ_nat {A E : Nat} (hA : A < 256 ^ 32) (hE : E < 256 ^ 32) (h : isE E = true) {K : List AV → Prop} (hk : K (encL 32 (A ^ E % pF))) : powQ (encL 32 A) (encL 32 E) K := ⟨A, E, ⟨decN_enc hA, decN_enc hE⟩, h, hk⟩
theorem predQ2_of {g : Nat → Nat → Bool} {A B : Nat} (hA : A < 256 ^ 32) (hB : B < 256 ^ 32) {T F : Prop} (ht : g A B = true → T) (hf : g A B = false → F) : predQ2 g (encL 32 A) (encL 32 B) T F := ⟨A, B, ⟨decN_enc hA, decN_enc hB⟩, ht, hf⟩
theorem w64_nat {n : Nat} (h : n < M64) : w64 (.ofNat n) = .ofNat n := by unfold w64; rw [wrap64, Nat.mod_eq_of_lt h]
theorem sub32_nat {a b : Nat} (h : b ≤ a) (ha : a < 4294967296) : usub32 (.ofNat a) (.ofNat b) = .ofNat (a - b) := by
  have h1 : addI (.ofNat a) (negI (.ofNat b)) = .ofNat (a - b) := by
    cases b with
    | zero => rfl
    | succ n =>
      show Int.subNatNat a (n + 1) = _
      rw [Int.subNatNat_of_le h]
      rfl
  unfold usub32
  rw [h1]
  show Bool.casesOn (motive := fun _ => Int) (Nat.blt (a - b) 4294967296) _ (.ofNat (a - b)) = _
  have : Nat.blt (a - b) 4294967296 = true := by rw [Nat.blt_eq]; omega
  rw [this]

theorem small_true {α β : Nat} (hα : α < 4294967296) (hβ : β < 4294967296) : smallP (.ofNat α) (.ofNat β) fun b => ∀ _ : AMem, AV.bool b = .bool true := by
  have e64 : M64 = 18446744073709551616 := rfl
  have a64 : α < M64 := by omega
  have b64 : β < M64 := by omega
  have a32 := lt64_32 a64
  have b32 := lt64_32 b64
  have hprod : α * β ≤ 4294967295 * 4294967295 := Nat.mul_le_mul (by omega) (by omega)
  have hsq : α * α ≤ 4294967295 * 4294967295 := Nat.mul_le_mul (by omega) (by omega)
  have hsum : uadd (.ofNat α) (.ofNat β) = .ofNat (α + β) := by rw [uadd_nat]; congr 1; rw [e64]; omega
  have hmul : umul (.ofNat α) (.ofNat β) = .ofNat (α * β) := by rw [umul_nat]; congr 1; rw [e64]; omega
  have hmul2 : umul (.ofNat α) (.ofNat α) = .ofNat (α * α) := by rw [umul_nat]; congr 1; rw [e64]; omega
  have hcan : α % pF = α := Nat.mod_eq_of_lt (by simp only [pF]; omega)
  have hend : endS (.ofNat α) (encL 32 α) fun b => ∀ _ : AMem, AV.bool b = .bool true := by
    unfold endS
    refine ofQ_nat (n := 2) (by decide) (powQ_nat a32 (by decide) rfl ?_)
    rw [w64_nat a64, hmul2]
    refine ofQ_nat (by omega) (eqS_of (mod_lt32 _) (lt64_32 (by omega)) ?_ ?_)
    · rw [Nat.pow_two]; exact Nat.mod_eq_of_lt (by simp only [pF]; omega)
    refine ofQ_nat (n := 1) (by decide) (powQ_nat a32 (by decide) rfl ?_)
    refine eqS_of (mod_lt32 _) a32 (by rw [Nat.pow_one]; exact hcan) ?_
    refine predQ_t a32 ?_ (fun _ => rfl)
    unfold canonN; rw [Nat.blt_eq]; simp only [pF]; omega
  have hsame : sameN α β = Nat.beq α β := by unfold sameN; rw [hcan, Nat.mod_eq_of_lt (show β < pF by simp only [pF]; omega)]
  have hs : sameS (.ofNat α) (.ofNat β) (encL 32 α) (encL 32 β) fun b => ∀ _ : AMem, AV.bool b = .bool true := by
    unfold sameS
    refine predQ2_of a32 b32 (fun h => split_t ?_ hend) (fun h => split_t ?_ hend)
    · rw [hsame] at h
      show eqBool true (Nat.beq α β) = true
      rw [h]; rfl
    · rw [hsame] at h
      show eqBool false (Nat.beq α β) = true
      rw [h]; rfl
  have hodd : oddN α = Nat.beq (α % 2) 1 := by unfold oddN; rw [hcan]
  have hr : restS (.ofNat α) (.ofNat β) (encL 32 α) (encL 32 β) fun b => ∀ _ : AMem, AV.bool b = .bool true := by
    unfold restS
    rw [w64_nat a64, w64_nat b64, hsum, hmul]
    refine q2_nat a32 b32 (ofQ_nat (by omega) (eqS_of (lt_add _ _) (lt64_32 (by omega)) ?_ ?_))
    · unfold addN; exact Nat.mod_eq_of_lt (by simp only [pF]; omega)
    refine q2_nat a32 b32 (ofQ_nat (by omega) (eqS_of (lt_mul _ _) (lt64_32 (by omega)) ?_ ?_))
    · unfold mulN; exact Nat.mod_eq_of_lt (by simp only [pF]; omega)
    refine ⟨α, decN_enc a32, fun h => split_t ?_ hs, fun h => split_t ?_ hs⟩
    · rw [hodd] at h
      show eqBool true (Nat.beq (α % 2) 1) = true
      rw [h]; rfl
    · rw [hodd] at h
      show eqBool false (Nat.beq (α % 2) 1) = true
      rw [h]; rfl
  have hm : midS (.ofNat α) (.ofNat β) (encL 32 (subN α β)) (encL 32 α) (encL 32 β) fun b => ∀ _ : AMem, AV.bool b = .bool true := by
    unfold midS
    refine ⟨fun h => ?_, fun _ => hr⟩
    have h : Nat.blt α β = true := h
    rw [Nat.blt_eq] at h
    rw [sub32_nat (by omega) hβ, w64_nat (by omega)]
    refine ofQ_nat (by omega) (q1_nat (lt64_32 (by omega)) (eqS_of (lt_sub _ _) (lt_neg _) ?_ hr))
    unfold negN subN
    simp only [pF]
    omega
  unfold smallP
  rw [w64_nat a64, w64_nat b64]
  refine ofQ_nat a64 (ofQ_nat b64 (q2_nat a32 b32 ⟨fun h => ?_, fun _ => hm⟩))
  have h : (!Nat.blt α β) = true := h
  have hle : β ≤ α := by
    rcases Nat.lt_or_ge α β with h' | h'
    · rw [← Nat.blt_eq] at h'; rw [h'] at h; cases h
    · exact h'
  rw [sub32_nat hle hα, w64_nat (by omega)]
  refine ofQ_nat (by omega) (eqS_of (lt_sub _ _) (lt64_32 (by omega)) ?_ hm)
  unfold subN
  simp only [pF]
  omega

theorem small_run {α β : Nat} (hα : α < 4294967296) (hβ : β < 4294967296) : ∃ m, evCall (pEnv specsS) 1000 (.fn 5) [.int .u32 (.ofNat α), .int .u32 (.ofNat β)] ⟨0, .nil⟩ = some (.bool true, m) := by
  obtain ⟨r, m, h, rfl⟩ := run_of pairedS specsS_ok (cf := cfS) pfS (K := fun r => r = .bool true) (Eq.mp (small_wp _ _ _) (small_true hα hβ))
  exact ⟨m, h⟩
theorem okS : EnvOK (pEnv specsS) Try.prog := okE specsS specsS_ok
end
end Ev
