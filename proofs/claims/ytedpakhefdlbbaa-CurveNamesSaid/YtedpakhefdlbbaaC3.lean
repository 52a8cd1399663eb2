/-
  The curve's constant, as the reference has it: one run, with the two before it. Conditions: none.
-/
import Derived.Test.YtedpakhefdlbbaaC3a
import Derived.Test.YtedpakhefdlbbaaC3b
namespace Ev
open Go Go.Proofs
noncomputable section
/-- one answer, kept -/
def memo1 (A0 : Nat) (r : AV) : List AV → Option AV
  | [.agg l] => Option.casesOn (motive := fun _ => Option AV) (decN 32 l) none fun A => Bool.casesOn (motive := fun _ => Option AV) (Nat.beq A A0) none (some r)
  | _ => none
theorem memo1_c {f A0 : Nat} {r : AV} (hr : r.plain = true) (hex : ∃ E n m, EnvOK E Try.prog ∧ evCall E n (.fn f) [.agg (encL 32 A0)] ⟨0, .nil⟩ = some (r, m)) : PlainC Try.prog f (memo1 A0 r) := by
  have main : ∀ l r', memo1 A0 r l = some r' → l = [.agg (encL 32 A0)] ∧ r' = r := by
    intro l r' h
    unfold memo1 at h
    split at h
    · next l =>
      cases hd : decN 32 l with
      | none => rw [hd] at h; cases h
      | some A =>
        rw [hd] at h
        cases hb : Nat.beq A A0 with
        | false => simp only [hb] at h; cases h
        | true =>
          simp only [hb] at h
          have hA := Nat.eq_of_beq_eq_true hb
          obtain ⟨rfl, _⟩ := enc_decN hd
          rw [hA]
          exact ⟨rfl, (Option.some.inj h).symm⟩
    · cases h
  refine ⟨fun l r' hs => ?_, fun l r' hs => ?_⟩ <;> obtain ⟨rfl, rfl⟩ := main l r' hs
  · exact ⟨by show (AV.plain _ && true) = true; rw [plain_enc]; rfl, hr⟩
  · exact hex
theorem memo1_run {l : List (Nat × (List AV → Option AV))} (hl : ∀ p ∈ l, FnOK Try.prog p.1 (orcS p.2)) {n f A0 V : Nat} (h : ansR (evCall (pEnv l) n (.fn f) [.agg (encL 32 A0)] ⟨0, .nil⟩) = some (.agg (encL 32 V))) : PlainC Try.prog f (memo1 A0 (.agg (encL 32 V))) :=
  memo1_c (plain_enc V) (by
    obtain ⟨m, hm⟩ := ansR_some h
    exact ⟨_, _, m, okE l hl, hm⟩)
def specsU : List (Nat × (List AV → Option AV)) := [(55, timesRS), (61, bitsS), (48, memo1 121666 (.agg (encL 32 refInv))), (46, memo1 121665 (.agg (encL 32 refNeg)))]
theorem specsU_ok : ∀ p ∈ specsU, FnOK Try.prog p.1 (orcS p.2) := by
  intro p hp
  simp only [specsU, List.mem_cons, List.not_mem_nil, or_false] at hp
  rcases hp with rfl | rfl | rfl | rfl
  · exact plain_ok timesR_c
  · exact plain_ok bits_c
  · exact plain_ok (memo1_run specsT_ok refInv_run)
  · exact plain_ok (memo1_run specsT_ok refNeg_run)
def curveD : Nat := 37095705934669439343138083508754565189542113879843219016388785533085940283555
theorem refD_run : ansR (evCall (pEnv specsU) 100000 (.fn 33) [] ⟨0, .nil⟩) = some (.agg (encL 32 curveD)) := by kernel_rfl
end
end Ev
