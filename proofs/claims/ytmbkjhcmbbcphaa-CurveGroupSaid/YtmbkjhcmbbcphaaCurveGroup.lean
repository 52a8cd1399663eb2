/-
  The law CurveGroup answers true for any three points and leaves everything that was there as it was. Conditions: those of the given row.
-/
import Derived.Test.YtmbkjhcmbbcphaaRows
import Derived.Test.YtmbkjhcmbbcphaaD8
import Derived.ProofKit
namespace Go.Proofs.Ytmbkjhcmbbcphaa.curveGroup
open Go.ChangeShapes Go.WideShapes Go.ChangeAt Go.RowKit

theorem own : ownKnob Try.prog.godebug = none := by kernel_rfl

theorem ent : ∃ fn c, Try.prog.funcs[5]? = some fn ∧ fn.body = some c ∧ fn.name ≠ "runtime.NumGoroutine" :=
  ⟨Try.f5, _, Try.func5, rfl, fun h => by
    have h0 : (Try.f5.name == "runtime.NumGoroutine") = false := by kernel_rfl
    rw [h] at h0; simp at h0⟩

set_option maxRecDepth 100000 in
theorem lifted (os : Os) (started : os.Started) (H : Type) (enc : TypeId × Value → H) :
    ReturnsInHanded {} Try.checked os 5 .any (Rows.curveGroupSpec.pre6 enc Try.prog Try.f5 Rows.curveGroupRow.domain false) (Rows.curveGroupSpec.post enc Try.prog Try.f5 false true false false) := by
  refine returnsInHanded_of_change (C := Try.checked) own started (by kernel_rfl) Try.func5
    (ChangeSpec.witness6 (enc := enc) (C := Try.checked) false ⟨#[], #[.agg (Array.replicate 64 (.int .u8 0)), .agg (Array.replicate 64 (.int .u8 0)), .agg (Array.replicate 64 (.int .u8 0))], []⟩ 8 (by kernel_rfl) (by kernel_rfl) (by kernel_rfl) (by kernel_rfl)) ?_
  intro W base args ds gs before hval0 hW hcnd _
  have hW' := hW
  obtain ⟨p, q, hA0, hV, rfl, hfz, hnd⟩ := hW
  have hA : DataW.TrodAll enc Try.prog W 0 (fun _ => true) true Try.f5.params.toList args.toList ds p := hA0
  rw [Try.params5] at hA
  obtain ⟨v1, v2, v3, d1, d2, d3, p1, p2, p3, rfl, rfl, rfl, t1, t2, t3⟩ := trodAll_three hA
  obtain ⟨rfl, rfl⟩ := trodVars_none hV
  obtain ⟨rfl, a1, x1, y1, hx1, hy1, r1⟩ := Ev.point_trod t1
  obtain ⟨rfl, a2, x2, y2, hx2, hy2, r2⟩ := Ev.point_trod t2
  obtain ⟨rfl, a3, x3, y3, hx3, hy3, r3⟩ := Ev.point_trod t3
  clear hA0 hval0
  simp only [List.append_nil] at hW'
  obtain ⟨m, hm⟩ := Ev.group_run hx1 hy1 hx2 hy2 hx3 hy3
  refine (Ev.calls_plain Ev.okE5 (vs := [v1, v2, v3]) (.cons r1 (.cons r2 (.cons r3 .nil))) hm W ent).mono fun e W' ⟨he, hb⟩ => ?_
  subst he
  exact ⟨_, rfl, Ev.post_beside hW' (fun _ _ _ => trodAll_mk1 (shut_bool Try.underlying4 true)) (fun sp => by
    show DataW.TrodAll enc Try.prog W' 0 sp true Try.f5.params.toList [v1, v2, v3] [d1, d2, d3] []
    rw [Try.params5]
    exact trodAll_mk3 (a1 W' 0 sp true) (a2 W' 0 sp true) (a3 W' 0 sp true)) (fun _ => rfl) hb (ok_one (by kernel_rfl) rfl (okWide_bool_mk Try.underlying4 true))⟩

theorem holds : Rows.CurveGroupSaid :=
  OpenClaim.holds_of_wide 5 Try.f5 rfl rfl rfl rfl rfl rfl rfl ⟨rfl, rfl, rfl, rfl, rfl⟩ rfl rfl rfl rfl rfl (by kernel_rfl) Try.func5 (by kernel_rfl)
    (of_decide_eq_true (by kernel_rfl)) (by unfold Func.isWrapper; first | (rw [if_pos (by decide +kernel)]; kernel_rfl) | (rw [if_neg (by decide +kernel)]; exact ⟨rfl, rfl⟩))
    (fun os started H enc _ => lifted os started H enc)
#print axioms holds
end Go.Proofs.Ytmbkjhcmbbcphaa.curveGroup
