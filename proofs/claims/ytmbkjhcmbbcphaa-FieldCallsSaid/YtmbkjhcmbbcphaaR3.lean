/-
  Values of 32 bytes as numbers. Conditions: those named.
-/
import Derived.Test.YtmbkjhcmbbcphaaR2
import Derived.Test.YtmbkjhcmbbcphaaEvD
namespace Ev
open Go Go.Proofs
noncomputable section

theorem bytes_val {μ : Mu} : ∀ (n : Nat) (cs : List Value), cs.length = n → (∀ (i : Nat) (c : Value), cs[i]? = some c → ∃ m : Int, c = .int .u8 m ∧ 0 ≤ m ∧ m < 256) → ∃ V, V < 256 ^ n ∧ VsRel μ (encL n V) cs
  | 0, cs, h, _ => by
    have : cs = [] := List.length_eq_zero_iff.1 h
    subst this
    exact ⟨0, by decide, rfl⟩
  | n + 1, [], h, _ => by simp at h
  | n + 1, c :: cs, h, hc => by
    obtain ⟨V, hV, hr⟩ := bytes_val (μ := μ) n cs (by simpa using h) (fun i c hi => hc (i + 1) c (by simpa using hi))
    obtain ⟨m, rfl, h0, h1⟩ := hc 0 c rfl
    obtain ⟨b, rfl⟩ := Int.eq_ofNat_of_zero_le h0
    have hb : b < 256 := by omega
    refine ⟨b + 256 * V, by rw [Nat.pow_succ]; omega, ?_⟩
    show VsRel μ (AV.int .u8 (.ofNat ((b + 256 * V) % 256)) :: encL n ((b + 256 * V) / 256)) (Value.int .u8 (b : Int) :: cs)
    rw [show (b + 256 * V) % 256 = b by omega, show (b + 256 * V) / 256 = V by omega]
    exact .cons rfl hr
theorem scalar_enc : ∀ (n V : Nat), (encL n V).all AV.scalar = true
  | 0, _ => rfl
  | n + 1, V => by
    show (AV.scalar (.int .u8 (.ofNat (V % 256))) && (encL n (V / 256)).all AV.scalar) = true
    rw [scalar_enc n]; rfl
theorem num_rel {μ : Mu} {cs : List Value} (h : cs.length = 32) (hc : ∀ (i : Nat) (c : Value), cs[i]? = some c → ∃ m : Int, c = .int .u8 m ∧ 0 ≤ m ∧ m < 256) : ∃ V, V < 256 ^ 32 ∧ VRel μ (.agg (encL 32 V)) (.agg ⟨cs⟩) := by
  obtain ⟨V, hV, hr⟩ := bytes_val (μ := μ) 32 cs h hc
  exact ⟨V, hV, cs, rfl, hr, scalar_enc 32 V⟩
theorem cells5 : Try.prog.cellsOf 5 = 1 := by kernel_rfl
theorem cells23 : Try.prog.cellsOf 23 = 32 := by kernel_rfl
theorem num_trod {H : Type} {enc : TypeId × Value → H} {w : World} {base : Nat} {sp : Nat → Bool} {held : Bool} {v : Value} {d : DataW H} {ps : List MemPlace} (h : DataW.Trod enc Try.prog w base sp held 23 v d ps) :
    ps = [] ∧ Alone enc Try.prog 23 v d ∧ ∃ V, V < 256 ^ 32 ∧ VRel (fun _ => none) (.agg (encL 32 V)) v := by
  obtain ⟨h1, h2, cs, rfl, h3, h4⟩ := bytes_trod Try.underlying23 Try.underlying5 cells5 cells23 (by decide) h
  exact ⟨h1, h2, num_rel h3 h4⟩
end
end Ev
