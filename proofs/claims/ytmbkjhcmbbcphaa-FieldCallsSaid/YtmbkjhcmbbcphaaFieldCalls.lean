/-
  The law FieldCalls answers true for any two numbers, any exponent and any number below 2^64, and leaves everything that was there as it was. Conditions: those of the given row.
-/
import Derived.Test.YtmbkjhcmbbcphaaRows
import Derived.Test.YtmbkjhcmbbcphaaY6
import Derived.ProofKit
namespace Go.Proofs.Ytmbkjhcmbbcphaa.fieldCalls
open Go.ChangeShapes Go.WideShapes Go.ChangeAt Go.RowKit

theorem own : ownKnob Try.prog.godebug = none := by kernel_rfl

theorem ent : ∃ fn c, Try.prog.funcs[3]? = some fn ∧ fn.body = some c ∧ fn.name ≠ "runtime.NumGoroutine" :=
  ⟨Try.f3, _, Try.func3, rfl, fun h => by
    have h0 : (Try.f3.name == "runtime.NumGoroutine") = false := by kernel_rfl
    rw [h] at h0; simp at h0⟩

set_option maxRecDepth 100000 in
theorem lifted (os : Os) (started : os.Started) (H : Type) (enc : TypeId × Value → H) :
    ReturnsInHanded {} Try.checked os 3 .any (Rows.fieldCallsSpec.pre6 enc Try.prog Try.f3 Rows.fieldCallsRow.domain false) (Rows.fieldCallsSpec.post enc Try.prog Try.f3 false true false false) := by
  refine returnsInHanded_of_change (C := Try.checked) own started (by kernel_rfl) Try.func3
    (ChangeSpec.witness6 (enc := enc) (C := Try.checked) false ⟨#[], #[.agg (Array.replicate 32 (.int .u8 0)), .agg (Array.replicate 32 (.int .u8 0)), .agg (Array.replicate 32 (.int .u8 0)), .int .u64 0], []⟩ 8 (by kernel_rfl) (by kernel_rfl) (by kernel_rfl) (by kernel_rfl)) ?_
  intro W base args ds gs before hval0 hW hcnd _
  have hW' := hW
  obtain ⟨p, q, hA0, hV, rfl, hfz, hnd⟩ := hW
  have hA : DataW.TrodAll enc Try.prog W 0 (fun _ => true) true Try.f3.params.toList args.toList ds p := hA0
  rw [Try.params3] at hA
  have hval : ∀ (j : Nat) t v, Try.f3.params[j]? = some t → args[j]? = some v → Value.okWide Try.prog W .any base t v := hval0
  rw [Try.params3] at hval
  obtain ⟨v1, v2, v3, v4, d1, d2, d3, d4, p1, p2, p3, p4, rfl, rfl, rfl, t1, t2, t3, t4⟩ := trodAll_four hA
  obtain ⟨rfl, rfl⟩ := trodVars_none hV
  obtain ⟨rfl, a1, A, hA1, r1⟩ := Ev.num_trod t1
  obtain ⟨rfl, a2, B, hB1, r2⟩ := Ev.num_trod t2
  obtain ⟨rfl, a3, E, hE1, r3⟩ := Ev.num_trod t3
  obtain ⟨a, rfl, rfl, rfl, wa⟩ := open_int Try.underlying24 (hval 3 24 v4 rfl rfl) t4
  clear hA0 hval0
  simp only [List.append_nil] at hW'
  have ra : ∀ n : Int, (Lit.int .u64 n).wf = true → ∃ α : Nat, n = .ofNat α ∧ α < Ev.M64 := by
    intro n hw
    simp [Lit.wf, IntKind.min, IntKind.max, IntKind.signed, IntKind.bits] at hw
    obtain ⟨α, rfl⟩ := Int.eq_ofNat_of_zero_le hw.1
    exact ⟨α, rfl, by simp only [Ev.M64]; omega⟩
  obtain ⟨α, rfl, hα⟩ := ra a wa
  obtain ⟨m, hm⟩ := Ev.calls_run hA1 hB1 hE1 hα
  refine (Ev.calls_plain Ev.okFC (args := [.agg (Ev.encL 32 A), .agg (Ev.encL 32 B), .agg (Ev.encL 32 E), .int .u64 (.ofNat α)]) (vs := [v1, v2, v3, .int .u64 (.ofNat α)]) (.cons r1 (.cons r2 (.cons r3 (.cons rfl .nil)))) hm W ent).mono fun e W' ⟨he, hb⟩ => ?_
  subst he
  exact ⟨_, rfl, Ev.post_beside hW' (fun _ _ _ => trodAll_mk1 (shut_bool Try.underlying4 true)) (fun sp => by
    show DataW.TrodAll enc Try.prog W' 0 sp true Try.f3.params.toList [v1, v2, v3, .int .u64 (.ofNat α)] [d1, d2, d3, .lit (.int .u64 (.ofNat α))] []
    rw [Try.params3]
    exact trodAll_mk4 (a1 W' 0 sp true) (a2 W' 0 sp true) (a3 W' 0 sp true) (shut_int Try.underlying24 wa)) (fun _ => rfl) hb (ok_one (by kernel_rfl) rfl (okWide_bool_mk Try.underlying4 true))⟩

theorem holds : Rows.FieldCallsSaid :=
  OpenClaim.holds_of_wide 3 Try.f3 rfl rfl rfl rfl rfl rfl rfl ⟨rfl, rfl, rfl, rfl, rfl⟩ rfl rfl rfl rfl rfl (by kernel_rfl) Try.func3 (by kernel_rfl)
    (of_decide_eq_true (by kernel_rfl)) (by unfold Func.isWrapper; first | (rw [if_pos (by decide +kernel)]; kernel_rfl) | (rw [if_neg (by decide +kernel)]; exact ⟨rfl, rfl⟩))
    (fun os started H enc _ => lifted os started H enc)
#print axioms holds
end Go.Proofs.Ytmbkjhcmbbcphaa.fieldCalls
