/-
  The law FieldRoots answers true for any two numbers and leaves everything that was there as it was. Conditions: those of the given row.
-/
import Derived.Test.YtedpakhefdlbbaaRows
import Derived.Test.YtedpakhefdlbbaaV5
import Derived.Test.YtedpakhefdlbbaaR3
import Derived.ProofKit
namespace Go.Proofs.Ytedpakhefdlbbaa.fieldRoots
open Go.ChangeShapes Go.WideShapes Go.ChangeAt Go.RowKit

theorem own : ownKnob Try.prog.godebug = none := by kernel_rfl

theorem ent : ∃ fn c, Try.prog.funcs[7]? = some fn ∧ fn.body = some c ∧ fn.name ≠ "runtime.NumGoroutine" :=
  ⟨Try.f7, _, Try.func7, rfl, fun h => by
    have h0 : (Try.f7.name == "runtime.NumGoroutine") = false := by kernel_rfl
    rw [h] at h0; simp at h0⟩

set_option maxRecDepth 100000 in
theorem lifted (os : Os) (started : os.Started) (H : Type) (enc : TypeId × Value → H) :
    ReturnsInHanded {} Try.checked os 7 .any (Rows.fieldRootsSpec.pre6 enc Try.prog Try.f7 Rows.fieldRootsRow.domain false) (Rows.fieldRootsSpec.post enc Try.prog Try.f7 false true false false) := by
  refine returnsInHanded_of_change (C := Try.checked) own started (by kernel_rfl) Try.func7
    (ChangeSpec.witness6 (enc := enc) (C := Try.checked) false ⟨#[], #[.agg (Array.replicate 32 (.int .u8 0)), .agg (Array.replicate 32 (.int .u8 0))], []⟩ 8 (by kernel_rfl) (by kernel_rfl) (by kernel_rfl) (by kernel_rfl)) ?_
  intro W base args ds gs before hval0 hW hcnd _
  have hW' := hW
  obtain ⟨p, q, hA0, hV, rfl, hfz, hnd⟩ := hW
  have hA : DataW.TrodAll enc Try.prog W 0 (fun _ => true) true Try.f7.params.toList args.toList ds p := hA0
  rw [Try.params7] at hA
  obtain ⟨v1, v2, d1, d2, p1, p2, rfl, rfl, rfl, t1, t2⟩ := trodAll_two hA
  obtain ⟨rfl, rfl⟩ := trodVars_none hV
  obtain ⟨rfl, a1, A, hA1, r1⟩ := Ev.num_trod t1
  obtain ⟨rfl, a2, B, hB1, r2⟩ := Ev.num_trod t2
  clear hA0 hval0
  simp only [List.append_nil] at hW'
  obtain ⟨m, hm⟩ := Ev.roots_run hA1 hB1
  refine (Ev.calls_plain Ev.okZ (vs := [v1, v2]) (.cons r1 (.cons r2 .nil)) hm W ent).mono fun e W' ⟨he, hb⟩ => ?_
  subst he
  exact ⟨_, rfl, Ev.post_beside hW' (fun _ _ _ => trodAll_mk1 (shut_bool Try.underlying4 true)) (fun sp => by
    show DataW.TrodAll enc Try.prog W' 0 sp true Try.f7.params.toList [v1, v2] [d1, d2] []
    rw [Try.params7]
    exact trodAll_mk2 (a1 W' 0 sp true) (a2 W' 0 sp true)) (fun _ => rfl) hb (ok_one (by kernel_rfl) rfl (okWide_bool_mk Try.underlying4 true))⟩

theorem holds : Rows.FieldRootsSaid :=
  OpenClaim.holds_of_wide 7 Try.f7 rfl rfl rfl rfl rfl rfl rfl ⟨rfl, rfl, rfl, rfl, rfl⟩ rfl rfl rfl rfl rfl (by kernel_rfl) Try.func7 (by kernel_rfl)
    (of_decide_eq_true (by kernel_rfl)) (by unfold Func.isWrapper; first | (rw [if_pos (by decide +kernel)]; kernel_rfl) | (rw [if_neg (by decide +kernel)]; exact ⟨rfl, rfl⟩))
    (fun os started H enc _ => lifted os started H enc)
#print axioms holds
end Go.Proofs.Ytedpakhefdlbbaa.fieldRoots
