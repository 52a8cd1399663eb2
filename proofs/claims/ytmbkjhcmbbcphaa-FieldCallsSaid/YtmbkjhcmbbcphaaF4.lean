/-
  The product of two numbers of five words, as an oracle. Conditions: words below 2^53.
-/
import Derived.Test.YtmbkjhcmbbcphaaF3
namespace Ev
open Go Go.Proofs
noncomputable section

def B53 : Nat := 9007199254740992
def timesR (a0 a1 a2 a3 a4 b0 b1 b2 b3 b4 : Nat) : AV := timesN a0 a1 a2 a3 a4 b0 b1 b2 b3 b4 fun c0 c1 c2 c3 c4 => wordsA (.ofNat c0) (.ofNat c1) (.ofNat c2) (.ofNat c3) (.ofNat c4)
def timesB (a0 a1 a2 a3 a4 b0 b1 b2 b3 b4 : Nat) : Bool := Nat.blt a0 B53 && Nat.blt a1 B53 && Nat.blt a2 B53 && Nat.blt a3 B53 && Nat.blt a4 B53 && Nat.blt b0 B53 && Nat.blt b1 B53 && Nat.blt b2 B53 && Nat.blt b3 B53 && Nat.blt b4 B53
def timesS : List AV → Option AV
  | [.agg [.int .u64 (.ofNat a0), .int .u64 (.ofNat a1), .int .u64 (.ofNat a2), .int .u64 (.ofNat a3), .int .u64 (.ofNat a4)], .agg [.int .u64 (.ofNat b0), .int .u64 (.ofNat b1), .int .u64 (.ofNat b2), .int .u64 (.ofNat b3), .int .u64 (.ofNat b4)]] =>
    Bool.casesOn (motive := fun _ => Option AV) (timesB a0 a1 a2 a3 a4 b0 b1 b2 b3 b4) none (timesN a0 a1 a2 a3 a4 b0 b1 b2 b3 b4 fun c0 c1 c2 c3 c4 => some (wordsA (.ofNat c0) (.ofNat c1) (.ofNat c2) (.ofNat c3) (.ofNat c4)))
  | _ => none
theorem timesS_some {l : List AV} {r : AV} (h : timesS l = some r) : ∃ a0 a1 a2 a3 a4 b0 b1 b2 b3 b4 : Nat, l = [wordsA (.ofNat a0) (.ofNat a1) (.ofNat a2) (.ofNat a3) (.ofNat a4), wordsA (.ofNat b0) (.ofNat b1) (.ofNat b2) (.ofNat b3) (.ofNat b4)] ∧ timesB a0 a1 a2 a3 a4 b0 b1 b2 b3 b4 = true ∧ r = timesR a0 a1 a2 a3 a4 b0 b1 b2 b3 b4 := by
  unfold timesS at h
  split at h
  · next a0 a1 a2 a3 a4 b0 b1 b2 b3 b4 =>
    cases hb : timesB a0 a1 a2 a3 a4 b0 b1 b2 b3 b4 with
    | false => rw [hb] at h; cases h
    | true =>
      rw [hb] at h
      refine ⟨a0, a1, a2, a3, a4, b0, b1, b2, b3, b4, rfl, hb, ?_⟩
      have h : timesN a0 a1 a2 a3 a4 b0 b1 b2 b3 b4 (fun c0 c1 c2 c3 c4 => some (wordsA (.ofNat c0) (.ofNat c1) (.ofNat c2) (.ofNat c3) (.ofNat c4))) = some r := h
      simp only [timesN, forceN_eq, Option.some.injEq] at h
      rw [← h]
      simp only [timesR, timesN, forceN_eq]
  · cases h
theorem times_c : PlainC Try.prog 56 timesS := by
  refine ⟨fun l r h => ?_, fun l r h => ?_⟩ <;> obtain ⟨a0, a1, a2, a3, a4, b0, b1, b2, b3, b4, rfl, hb, rfl⟩ := timesS_some h
  · refine ⟨rfl, ?_⟩
    simp only [timesR, timesN, forceN_eq]
    rfl
  · simp only [timesB, Bool.and_eq_true, Nat.blt_eq] at hb
    obtain ⟨⟨⟨⟨⟨⟨⟨⟨⟨h0, h1⟩, h2⟩, h3⟩, h4⟩, h5⟩, h6⟩, h7⟩, h8⟩, h9⟩ := hb
    have hk : timesP (.ofNat a0) (.ofNat a1) (.ofNat a2) (.ofNat a3) (.ofNat a4) (.ofNat b0) (.ofNat b1) (.ofNat b2) (.ofNat b3) (.ofNat b4) fun c0 c1 c2 c3 c4 => ∀ _ : AMem, wordsA c0 c1 c2 c3 c4 = timesR a0 a1 a2 a3 a4 b0 b1 b2 b3 b4 :=
      times_nat h0 h1 h2 h3 h4 h5 h6 h7 h8 h9 (by simp only [timesR, timesN, forceN_eq]; exact fun _ => trivial)
    have h2 := f1_some (K := fun r => r = timesR a0 a1 a2 a3 a4 b0 b1 b2 b3 b4) (okE specs2 specs2_ok) ow2_none ow2_some (Eq.mp (times_wp (.ofNat a0) (.ofNat a1) (.ofNat a2) (.ofNat a3) (.ofNat a4) (.ofNat b0) (.ofNat b1) (.ofNat b2) (.ofNat b3) (.ofNat b4) (fun r => r = timesR a0 a1 a2 a3 a4 b0 b1 b2 b3 b4)) hk)
    obtain ⟨r, m', h3, rfl⟩ := h2
    exact ⟨_, _, m', okE specs2 specs2_ok, h3⟩

def specs3 : List (Nat × (List AV → Option AV)) := [(56, timesS)]
theorem specs3_ok : ∀ p ∈ specs3, FnOK Try.prog p.1 (orcS p.2) := by
  intro p hp
  simp only [specs3, List.mem_cons, List.not_mem_nil, or_false] at hp
  rcases hp with rfl
  exact plain_ok times_c
end
end Ev
