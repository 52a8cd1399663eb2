/-
  The field's examples hold: one run. Conditions: none.
-/
import Derived.Test.YtmbkjhcmbbcphaaF6
namespace Ev
open Go Go.Proofs
noncomputable section
theorem lives_run : ansR (evCall (pEnv specs4) 10000 (.fn 8) [] ⟨0, .nil⟩) = some (.bool true) := by kernel_rfl
def liveS : List AV → Option AV
  | [] => some (.bool true)
  | _ => none
theorem lives_c : PlainC Try.prog 8 liveS := by
  refine ⟨fun l r h => ?_, fun l r h => ?_⟩ <;> unfold liveS at h <;> split at h
  · cases h; exact ⟨rfl, rfl⟩
  · cases h
  · cases h
    obtain ⟨m, hm⟩ := ansR_some lives_run
    exact ⟨_, _, m, okE4, hm⟩
  · cases h
def specs5 : List (Nat × (List AV → Option AV)) := [(56, timesS), (58, powerS), (8, liveS)]
theorem specs5_ok : ∀ p ∈ specs5, FnOK Try.prog p.1 (orcS p.2) := by
  intro p hp
  simp only [specs5, List.mem_cons, List.not_mem_nil, or_false] at hp
  rcases hp with rfl | rfl | rfl
  · exact plain_ok times_c
  · exact plain_ok power_c
  · exact plain_ok lives_c
theorem okE5 : EnvOK (pEnv specs5) Try.prog := okE specs5 specs5_ok
end
end Ev
