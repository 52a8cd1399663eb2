/-
  The laws of a ring, for rests by 2^255 - 19; with them the law FieldRing answers true. Conditions: numbers of 32 bytes.
-/
import Derived.Test.YtedpakhefdlbbaaR1
namespace Ev
open Go Go.Proofs
noncomputable section

theorem mul_l (X C : Nat) : X % pF * C % pF = X * C % pF := by rw [Nat.mul_mod, Nat.mod_mod, ← Nat.mul_mod]
theorem mul_r (X C : Nat) : C * (X % pF) % pF = C * X % pF := by rw [Nat.mul_mod, Nat.mod_mod, ← Nat.mul_mod]
theorem add_comm' (A B : Nat) : addN A B = addN B A := by unfold addN; rw [Nat.add_comm]
theorem mul_comm' (A B : Nat) : mulN A B = mulN B A := by unfold mulN; rw [Nat.mul_comm]
theorem add_assoc' (A B C : Nat) : addN (addN A B) C = addN A (addN B C) := by unfold addN; simp only [pF]; omega
theorem mul_assoc' (A B C : Nat) : mulN (mulN A B) C = mulN A (mulN B C) := by unfold mulN; rw [mul_l, mul_r, Nat.mul_assoc]
theorem distr' (A B C : Nat) : mulN (addN A B) C = addN (mulN A C) (mulN B C) := by
  unfold mulN addN; rw [mul_l, Nat.add_mul]; simp only [pF]; omega
theorem sub_add' (A B : Nat) : subN (addN A B) B = restN A := by unfold subN addN restN; simp only [pF]; omega
theorem add_sub' (A B : Nat) : addN (subN A B) B = restN A := by unfold subN addN restN; simp only [pF]; omega
theorem add_neg' (A : Nat) : addN A (negN A) = 0 := by unfold addN negN subN; simp only [pF]; omega
theorem neg_mul' (A B : Nat) : mulN (negN A) B = negN (mulN A B) := by
  obtain ⟨n, hn⟩ : ∃ n, negN A = n := ⟨_, rfl⟩
  have h1 : ∃ e, n + A % pF = pF * e := by
    rw [← hn]; unfold negN subN; simp only [pF]
    refine ⟨if A % 57896044618658097711785492504343953926634992332820282019728792003956564819949 = 0 then 0 else 1, ?_⟩
    split <;> omega
  obtain ⟨e, he⟩ := h1
  have h2 : n * B + A % pF * B = pF * (e * B) := by rw [← Nat.add_mul, he, Nat.mul_assoc]
  have h3 := mul_l A B
  rw [hn]
  unfold negN subN mulN
  rw [← h3]
  generalize A % pF * B = u at *
  generalize n * B = v at *
  generalize e * B = w at *
  clear h3 he
  simp only [pF] at *
  omega
theorem rest_rest (A : Nat) : restN (restN A) = restN A := by unfold restN; rw [Nat.mod_mod]
theorem add_rest (A B : Nat) : addN (restN A) (restN B) = addN A B := by unfold addN restN; rw [← Nat.add_mod]
theorem mul_rest (A B : Nat) : mulN (restN A) (restN B) = mulN A B := by unfold mulN restN; rw [← Nat.mul_mod]
theorem mul_one' (A : Nat) : mulN A 1 = restN A := by unfold mulN restN; rw [Nat.mul_one]
theorem add_zero' (A : Nat) : addN A 0 = restN A := rfl
theorem lt_rest (A : Nat) : restN A < 256 ^ 32 := mod_lt32 A
theorem lt_add (A B : Nat) : addN A B < 256 ^ 32 := mod_lt32 _
theorem lt_mul (A B : Nat) : mulN A B < 256 ^ 32 := mod_lt32 _
theorem lt_sub (A B : Nat) : subN A B < 256 ^ 32 := mod_lt32 _
theorem lt_neg (A : Nat) : negN A < 256 ^ 32 := mod_lt32 _
theorem canon_mod (X : Nat) : canonN (X % pF) = true := by
  unfold canonN; rw [Nat.blt_eq]; exact Nat.mod_lt _ (by decide)
theorem eqT_of {X Y : Nat} (hX : X < 256 ^ 32) (hY : Y < 256 ^ 32) (h : X = Y) {K : Prop} (hk : K) : eqT (encL 32 X) (encL 32 Y) K := ⟨by rw [eq_num hX hY, decide_eq_true h], hk⟩
theorem predQ_t {g : Nat → Bool} {A : Nat} (hA : A < 256 ^ 32) (h : g A = true) {T F : Prop} (hk : T) : predQ g (encL 32 A) T F := ⟨A, decN_enc hA, fun _ => hk, fun h' => by rw [h] at h'; cases h'⟩

theorem ring_true {A B C : Nat} (hA : A < 256 ^ 32) (hB : B < 256 ^ 32) (hC : C < 256 ^ 32) : ringP (encL 32 A) (encL 32 B) (encL 32 C) fun b => ∀ _ : AMem, AV.bool b = .bool true := by
  unfold ringP
  refine q2_nat hA hB (q2_nat hA hB (q2_nat hB hA (eqT_of (lt_add _ _) (lt_add _ _) (add_comm' A B) ?_)))
  refine q2_nat hB hA (eqT_of (lt_mul _ _) (lt_mul _ _) (mul_comm' A B) ?_)
  refine q2_nat (lt_add _ _) hC (q2_nat hB hC (q2_nat hA (lt_add _ _) (eqT_of (lt_add _ _) (lt_add _ _) (add_assoc' A B C) ?_)))
  refine q2_nat (lt_mul _ _) hC (q2_nat hB hC (q2_nat hA (lt_mul _ _) (eqT_of (lt_mul _ _) (lt_mul _ _) (mul_assoc' A B C) ?_)))
  refine q2_nat (lt_add _ _) hC (q2_nat hA hC (q2_nat hB hC (q2_nat (lt_mul _ _) (lt_mul _ _) (eqT_of (lt_mul _ _) (lt_add _ _) (distr' A B C) ?_))))
  refine q2_nat (lt_add _ _) hB (q1_nat hA (eqT_of (lt_sub _ _) (lt_rest _) (sub_add' A B) ?_))
  refine q2_nat hA hB (q2_nat (lt_sub _ _) hB (q1_nat hA (eqT_of (lt_add _ _) (lt_rest _) (add_sub' A B) ?_)))
  refine q1_nat hA (q2_nat (by decide) hA (eqT_of (lt_neg _) (lt_sub _ _) rfl ?_))
  refine q1_nat hA (q2_nat hA (lt_neg _) (eqT_of (lt_add _ _) (by decide) (add_neg' A) ?_))
  refine q1_nat hA (q2_nat (lt_neg _) hB (q1_nat (lt_mul _ _) (eqT_of (lt_mul _ _) (lt_neg _) (neg_mul' A B) ?_)))
  refine q1_nat hA (predQ_t (lt_add _ _) (canon_mod _) (predQ_t (lt_mul _ _) (canon_mod _) (predQ_t (lt_rest _) (canon_mod _) ?_)))
  refine q1_nat (lt_rest _) (eqT_of (lt_rest _) (lt_rest _) (rest_rest A) ?_)
  refine q1_nat hB (q2_nat (lt_rest _) (lt_rest _) (eqT_of (lt_add _ _) (lt_add _ _) (add_rest A B) ?_))
  refine q1_nat hB (q2_nat (lt_rest _) (lt_rest _) (eqT_of (lt_mul _ _) (lt_mul _ _) (mul_rest A B) ?_))
  refine ⟨rfl, q2_nat hA (by decide) (eqT_of (lt_mul _ _) (lt_rest _) (mul_one' A) ?_)⟩
  refine q2_nat hA (by decide) (eqT_of (lt_add _ _) (lt_rest _) (add_zero' A) ?_)
  refine ⟨A, decN_enc hA, fun h => ⟨_, eq_num (lt_rest A) hA, fun _ => ?_⟩, fun h => ⟨_, eq_num (lt_rest A) hA, fun _ => ?_⟩⟩
  · unfold canonN at h
    rw [Nat.blt_eq] at h
    rw [decide_eq_true (show restN A = A from Nat.mod_eq_of_lt h)]
    rfl
  · have hn : ¬ A < pF := fun h' => by unfold canonN at h; rw [← Nat.blt_eq] at h'; rw [h'] at h; cases h
    have : restN A ≠ A := fun h' => by
      have := Nat.mod_lt A (show pF > 0 by decide)
      unfold restN at h'
      omega
    rw [decide_eq_false this]
    rfl

theorem ring_run {A B C : Nat} (hA : A < 256 ^ 32) (hB : B < 256 ^ 32) (hC : C < 256 ^ 32) :
    ∃ m, evCall (pEnv specsR) 1000 (.fn 4) [.agg (encL 32 A), .agg (encL 32 B), .agg (encL 32 C)] ⟨0, .nil⟩ = some (.bool true, m) := by
  obtain ⟨r, m, h, rfl⟩ := run_of pairedR specsR_ok (cf := cfR) pfR (K := fun r => r = .bool true) (Eq.mp (ring_wp A B C _) (ring_true hA hB hC))
  exact ⟨m, h⟩
theorem okR : EnvOK (pEnv specsR) Try.prog := okE specsR specsR_ok
end
end Ev
