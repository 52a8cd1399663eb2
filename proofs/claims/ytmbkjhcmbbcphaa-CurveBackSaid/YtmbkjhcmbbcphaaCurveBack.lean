/-
  The law CurveBack answers true for any point and any 32 bytes and leaves everything that was there as it was. Conditions: those of the given row.
-/
import Derived.Test.YtmbkjhcmbbcphaaRows
import Derived.Test.YtmbkjhcmbbcphaaX5
import Derived.ProofKit
namespace Go.Proofs.Ytmbkjhcmbbcphaa.curveBack
open Go.ChangeShapes Go.WideShapes Go.ChangeAt Go.RowKit

theorem own : ownKnob Try.prog.godebug = none := by kernel_rfl

theorem ent : ∃ fn c, Try.prog.funcs[4]? = some fn ∧ fn.body = some c ∧ fn.name ≠ "runtime.NumGoroutine" :=
  ⟨Try.f4, _, Try.func4, rfl, fun h => by
    have h0 : (Try.f4.name == "runtime.NumGoroutine") = false := by kernel_rfl
    rw [h] at h0; simp at h0⟩

set_option maxRecDepth 100000 in
theorem lifted (os : Os) (started : os.Started) (H : Type) (enc : TypeId × Value → H) :
    ReturnsInHanded {} Try.checked os 4 .any (Rows.curveBackSpec.pre6 enc Try.prog Try.f4 Rows.curveBackRow.domain false) (Rows.curveBackSpec.post enc Try.prog Try.f4 false true false false) := by
  refine returnsInHanded_of_change (C := Try.checked) own started (by kernel_rfl) Try.func4
    (ChangeSpec.witness6 (enc := enc) (C := Try.checked) false ⟨#[], #[.agg (Array.replicate 64 (.int .u8 0)), .agg (Array.replicate 32 (.int .u8 0))], []⟩ 8 (by kernel_rfl) (by kernel_rfl) (by kernel_rfl) (by kernel_rfl)) ?_
  intro W base args ds gs before hval0 hW hcnd _
  have hW' := hW
  obtain ⟨p, q, hA0, hV, rfl, hfz, hnd⟩ := hW
  have hA : DataW.TrodAll enc Try.prog W 0 (fun _ => true) true Try.f4.params.toList args.toList ds p := hA0
  rw [Try.params4] at hA
  obtain ⟨v1, v2, d1, d2, p1, p2, rfl, rfl, rfl, t1, t2⟩ := trodAll_two hA
  obtain ⟨rfl, rfl⟩ := trodVars_none hV
  obtain ⟨rfl, a1, x1, y1, hx1, hy1, r1⟩ := Ev.point_trod t1
  obtain ⟨rfl, a2, B, hB, r2⟩ := Ev.raw_trod t2
  clear hA0 hval0
  simp only [List.append_nil] at hW'
  obtain ⟨m, hm⟩ := Ev.back_run hx1 hy1 hB
  refine (Ev.calls_plain Ev.okBk (vs := [v1, v2]) (.cons r1 (.cons r2 .nil)) hm W ent).mono fun e W' ⟨he, hb⟩ => ?_
  subst he
  exact ⟨_, rfl, Ev.post_beside hW' (fun _ _ _ => trodAll_mk1 (shut_bool Try.underlying4 true)) (fun sp => by
    show DataW.TrodAll enc Try.prog W' 0 sp true Try.f4.params.toList [v1, v2] [d1, d2] []
    rw [Try.params4]
    exact trodAll_mk2 (a1 W' 0 sp true) (a2 W' 0 sp true)) (fun _ => rfl) hb (ok_one (by kernel_rfl) rfl (okWide_bool_mk Try.underlying4 true))⟩

theorem holds : Rows.CurveBackSaid :=
  OpenClaim.holds_of_wide 4 Try.f4 rfl rfl rfl rfl rfl rfl rfl ⟨rfl, rfl, rfl, rfl, rfl⟩ rfl rfl rfl rfl rfl (by kernel_rfl) Try.func4 (by kernel_rfl)
    (of_decide_eq_true (by kernel_rfl)) (by unfold Func.isWrapper; first | (rw [if_pos (by decide +kernel)]; kernel_rfl) | (rw [if_neg (by decide +kernel)]; exact ⟨rfl, rfl⟩))
    (fun os started H enc _ => lifted os started H enc)
#print axioms holds
end Go.Proofs.Ytmbkjhcmbbcphaa.curveBack
