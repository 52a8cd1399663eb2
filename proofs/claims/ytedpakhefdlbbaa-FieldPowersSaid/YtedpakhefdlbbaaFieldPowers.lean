/-
  The law FieldPowers answers true for any number and any two numbers below 2^32 and leaves everything that was there as it was. Conditions: those of the given row.
-/
import Derived.Test.YtedpakhefdlbbaaRows
import Derived.Test.YtedpakhefdlbbaaV6
import Derived.Test.YtedpakhefdlbbaaR3
import Derived.ProofKit
namespace Go.Proofs.Ytedpakhefdlbbaa.fieldPowers
open Go.ChangeShapes Go.WideShapes Go.ChangeAt Go.RowKit

theorem own : ownKnob Try.prog.godebug = none := by kernel_rfl

theorem ent : ∃ fn c, Try.prog.funcs[6]? = some fn ∧ fn.body = some c ∧ fn.name ≠ "runtime.NumGoroutine" :=
  ⟨Try.f6, _, Try.func6, rfl, fun h => by
    have h0 : (Try.f6.name == "runtime.NumGoroutine") = false := by kernel_rfl
    rw [h] at h0; simp at h0⟩

set_option maxRecDepth 100000 in
theorem lifted (os : Os) (started : os.Started) (H : Type) (enc : TypeId × Value → H) :
    ReturnsInHanded {} Try.checked os 6 .any (Rows.fieldPowersSpec.pre6 enc Try.prog Try.f6 Rows.fieldPowersRow.domain false) (Rows.fieldPowersSpec.post enc Try.prog Try.f6 false true false false) := by
  refine returnsInHanded_of_change (C := Try.checked) own started (by kernel_rfl) Try.func6
    (ChangeSpec.witness6 (enc := enc) (C := Try.checked) false ⟨#[], #[.agg (Array.replicate 32 (.int .u8 0)), .int .u32 0, .int .u32 0], []⟩ 8 (by kernel_rfl) (by kernel_rfl) (by kernel_rfl) (by kernel_rfl)) ?_
  intro W base args ds gs before hval0 hW hcnd _
  have hW' := hW
  obtain ⟨p, q, hA0, hV, rfl, hfz, hnd⟩ := hW
  have hA : DataW.TrodAll enc Try.prog W 0 (fun _ => true) true Try.f6.params.toList args.toList ds p := hA0
  rw [Try.params6] at hA
  have hval : ∀ (j : Nat) t v, Try.f6.params[j]? = some t → args[j]? = some v → Value.okWide Try.prog W .any base t v := hval0
  rw [Try.params6] at hval
  obtain ⟨v1, v2, v3, d1, d2, d3, p1, p2, p3, rfl, rfl, rfl, t1, t2, t3⟩ := trodAll_three hA
  obtain ⟨rfl, rfl⟩ := trodVars_none hV
  obtain ⟨rfl, a1, A, hA1, r1⟩ := Ev.num_trod t1
  obtain ⟨a, rfl, rfl, rfl, wa⟩ := open_int Try.underlying34 (hval 1 34 v2 rfl rfl) t2
  obtain ⟨b, rfl, rfl, rfl, wb⟩ := open_int Try.underlying34 (hval 2 34 v3 rfl rfl) t3
  clear hA0 hval0
  simp only [List.append_nil] at hW'
  have ra : ∀ n : Int, (Lit.int .u32 n).wf = true → ∃ α : Nat, n = .ofNat α ∧ α < 4294967296 := by
    intro n hw
    simp [Lit.wf, IntKind.min, IntKind.max, IntKind.signed, IntKind.bits] at hw
    obtain ⟨α, rfl⟩ := Int.eq_ofNat_of_zero_le hw.1
    exact ⟨α, rfl, by omega⟩
  obtain ⟨α, rfl, hα⟩ := ra a wa
  obtain ⟨β, rfl, hβ⟩ := ra b wb
  obtain ⟨m, hm⟩ := Ev.powers_run hA1 hα hβ
  refine (Ev.calls_plain Ev.okZ (args := [.agg (Ev.encL 32 A), .int .u32 (.ofNat α), .int .u32 (.ofNat β)]) (vs := [v1, .int .u32 (.ofNat α), .int .u32 (.ofNat β)]) (.cons r1 (.cons rfl (.cons rfl .nil))) hm W ent).mono fun e W' ⟨he, hb⟩ => ?_
  subst he
  exact ⟨_, rfl, Ev.post_beside hW' (fun _ _ _ => trodAll_mk1 (shut_bool Try.underlying4 true)) (fun sp => by
    show DataW.TrodAll enc Try.prog W' 0 sp true Try.f6.params.toList [v1, .int .u32 (.ofNat α), .int .u32 (.ofNat β)] [d1, .lit (.int .u32 (.ofNat α)), .lit (.int .u32 (.ofNat β))] []
    rw [Try.params6]
    exact trodAll_mk3 (a1 W' 0 sp true) (shut_int Try.underlying34 wa) (shut_int Try.underlying34 wb)) (fun _ => rfl) hb (ok_one (by kernel_rfl) rfl (okWide_bool_mk Try.underlying4 true))⟩

theorem holds : Rows.FieldPowersSaid :=
  OpenClaim.holds_of_wide 6 Try.f6 rfl rfl rfl rfl rfl rfl rfl ⟨rfl, rfl, rfl, rfl, rfl⟩ rfl rfl rfl rfl rfl (by kernel_rfl) Try.func6 (by kernel_rfl)
    (of_decide_eq_true (by kernel_rfl)) (by unfold Func.isWrapper; first | (rw [if_pos (by decide +kernel)]; kernel_rfl) | (rw [if_neg (by decide +kernel)]; exact ⟨rfl, rfl⟩))
    (fun os started H enc _ => lifted os started H enc)
#print axioms holds
end Go.Proofs.Ytedpakhefdlbbaa.fieldPowers
