/-
  The environment under the multiples of points. Conditions: none.
-/
import Derived.Test.YtedpakhefdlbbaaC8
namespace Ev
open Go Go.Proofs
noncomputable section

def orcW (f : Nat) : Option (List AV → AMem → R) := Bool.casesOn (motive := fun _ => Option (List AV → AMem → R)) (Nat.beq f 43) (lookS specsM f) (some addO)
theorem orcW_some {f : Nat} {o : List AV → AMem → R} (h : orcW f = some o) : (f = 43 ∧ o = addO) ∨ lookS specsM f = some o := by
  unfold orcW at h
  cases hb : Nat.beq f 43 with
  | false => rw [hb] at h; exact .inr h
  | true => rw [hb] at h; exact .inl ⟨Nat.eq_of_beq_eq_true hb, (Option.some.inj h).symm⟩
theorem orcW_ok : OrcOK Try.prog orcW := by
  have hl := orc_list (P := Try.prog) specsM_ok
  refine ⟨fun f o h => ?_, fun f o h args m r m' hr => ?_, fun f o h args m r m' l hr hlp => ?_⟩
  · rcases orcW_some h with ⟨rfl, rfl⟩ | h
    · exact addO_fn
    · exact hl.ok f o h
  · rcases orcW_some h with ⟨rfl, rfl⟩ | h
    · obtain ⟨ids, m0, m0', args0, hs⟩ := addO_shown args m r m' hr
      rw [hs.next]; exact Nat.le_refl _
    · exact hl.grows f o h args m r m' hr
  · rcases orcW_some h with ⟨rfl, rfl⟩ | h
    · obtain ⟨ids, m0, m0', args0, hs⟩ := addO_shown args m r m' hr
      exact shown_loop hs hlp
    · exact hl.keeps f o h args m r m' l hr hlp
def wEnv : Env := envOf Try.prog (tab Try.prog.types.toList) (tab Try.prog.funcs.toList) orcW
theorem okW : EnvOK wEnv Try.prog := env_ok okP mixP orcW_ok
theorem pfM (g : Nat) (h : pfOf specsM g = true) : ∃ s, wEnv.orc g = some (orcS s) := by
  obtain ⟨s, hs⟩ := pfOf_some h
  refine ⟨s, ?_⟩
  show orcW g = _
  unfold orcW
  cases hb : Nat.beq g 43 with
  | false => exact hs
  | true =>
    have := Nat.eq_of_beq_eq_true hb
    subst this
    cases h
theorem runW {n f : Nat} {args : List AV} {m : AMem} {r : AV} (h : ansR (evCall2 wEnv (pfOf specsM) n (.fn f) args m) = some r) : ∃ m', evCall wEnv n (.fn f) args m = some (r, m') := by
  obtain ⟨m', hm⟩ := ansR_some h
  exact ⟨m', evCall2_from okW.grows pfM n _ _ _ _ hm⟩
end
end Ev
