/-
  The law VersionNames (it takes nothing) answers true and leaves everything that was there as it was. Conditions: those of the given row.
-/
import Derived.Test.YtfbcfmgmcldogaaGreatRows
import Derived.Test.YtfbcfmgmcldogaaGreatMinL
import Derived.ProofKit
namespace Go.Proofs.YtfbcfmgmcldogaaGreat
open Go.ChangeShapes Go.WideShapes Go.ChangeAt Go.RowKit

theorem own : ownKnob Tryz.prog.godebug = none := by kernel_rfl

noncomputable def env0 : Ev.Env := Ev.envOf Tryz.prog (Ev.tab Tryz.prog.types.toList) (Ev.tab Tryz.prog.funcs.toList) fun _ => none

theorem okP : Ev.okFuncs Tryz.prog = true := by kernel_rfl
theorem mixP : Tryz.prog.follows .mixedOrders = true := by kernel_rfl
theorem okEnv0 : Ev.EnvOK env0 Tryz.prog := Ev.env_ok okP mixP Ev.noOrc

noncomputable def orc : Nat → Option (List Ev.AV → Ev.AMem → Ev.R) := fun f => if f = 33 then some Ev.minOrc else none

theorem minAt (x : Option Ev.TyI) (u : TypeDesc) (h : x.map (·.u) = some u) : ∃ i, x = some i ∧ i.u = u := by
  cases x with
  | none => cases h
  | some i => exact ⟨i, rfl, Option.some.inj h⟩

theorem min33 {args : List Ev.AV} {m m' : Ev.AMem} {r : Ev.AV} (h : Ev.minOrc args m = some (r, m')) : ∃ n, Ev.evCall env0 n (.fn 33) args m = some (r, m') := by
  obtain ⟨i22, t22, u22⟩ := minAt (env0.ty 22) (.slice 3) (by kernel_rfl)
  obtain ⟨i3, t3, u3⟩ := minAt (env0.ty 3) (.int .i64) (by kernel_rfl)
  have s3 : i3.size = 1 := by
    have h : (env0.ty 3).map (·.size) = some 1 := by kernel_rfl
    rw [t3] at h
    exact Option.some.inj h
  exact Ev.minCall t22 u22 t3 u3 s3 rfl (by kernel_rfl) h

theorem minM {args : List Ev.AV} {m m' : Ev.AMem} {r : Ev.AV} (h : Ev.minOrc args m = some (r, m')) : m' = m := by
  unfold Ev.minOrc at h
  split at h
  · unfold Ev.minOf at h
    split at h
    · split at h
      · split at h
        · split at h
          · next cs _ _ =>
            unfold Ev.vm at h
            cases hc : Ev.minInt cs with
            | none => rw [hc] at h; cases h
            | some v => rw [hc] at h; exact (Prod.mk.inj (Option.some.inj h)).2.symm
          · cases h
        · cases h
      · cases h
    · cases h
  · cases h

theorem okOrc : Ev.OrcOK Tryz.prog orc := by
  have hf : ∀ f o, orc f = some o → f = 33 ∧ o = Ev.minOrc := fun f o h => by
    unfold orc at h
    split at h
    · exact ⟨by assumption, (Option.some.inj h).symm⟩
    · cases h
  refine ⟨fun f o h => ?_, fun f o h args m r m' hr => ?_, fun f o h args m r m' l hr hl => ?_⟩
  · obtain ⟨rfl, rfl⟩ := hf f o h
    intro args m r m' hr
    obtain ⟨n, hn⟩ := min33 hr
    exact (Ev.evCall_ok okEnv0 n).fn 33 args m r m' hn
  · obtain ⟨rfl, rfl⟩ := hf f o h
    rw [minM hr]; exact Nat.le_refl _
  · obtain ⟨rfl, rfl⟩ := hf f o h
    rw [minM hr]; exact hl

noncomputable def env : Ev.Env := Ev.envOf Tryz.prog (Ev.tab Tryz.prog.types.toList) (Ev.tab Tryz.prog.funcs.toList) fun f => Bool.casesOn (motive := fun _ => Option (List Ev.AV → Ev.AMem → Ev.R)) (Nat.beq f 33) none (some Ev.minOrc)

theorem okEnv : Ev.EnvOK env Tryz.prog := Ev.env_ok okP mixP (by
  have : (fun f => Bool.casesOn (motive := fun _ => Option (List Ev.AV → Ev.AMem → Ev.R)) (Nat.beq f 33) none (some Ev.minOrc)) = orc := by
    funext f
    unfold orc
    by_cases h : f = 33
    · subst h; rfl
    · have hb : Nat.beq f 33 = false := Bool.eq_false_iff.2 fun hb => h (Nat.eq_of_beq_eq_true hb)
      rw [if_neg h, hb]
  rw [this]; exact okOrc)

theorem ran : Ev.isTrue (Ev.evCall env 100000 (.fn 3) [] ⟨0, .nil⟩) = true := by kernel_rfl

theorem walk (w : World) : Calls Tryz.prog 3 #[] w fun e w' => e = .returned (.bool true) ∧ Ev.Beside w w' :=
  Ev.calls_true okEnv ran w ⟨Tryz.f3, _, Tryz.func3, rfl, fun h => by
    have h0 : (Tryz.f3.name == "runtime.NumGoroutine") = false := by kernel_rfl
    rw [h] at h0; simp at h0⟩

set_option maxRecDepth 100000 in
theorem lifted (os : Os) (started : os.Started) (H : Type) (enc : TypeId × Value → H) :
    ReturnsInHanded {} Tryz.checked os 3 .any (Rows.versionNamesSpec.pre6 enc Tryz.prog Tryz.f3 Rows.versionNamesRow.domain false) (Rows.versionNamesSpec.post enc Tryz.prog Tryz.f3 false true false false) := by
  refine returnsInHanded_of_change (C := Tryz.checked) own started (by kernel_rfl) Tryz.func3
    (ChangeSpec.witness6 (enc := enc) (C := Tryz.checked) false ⟨#[], #[], []⟩ 8 (by kernel_rfl) (by kernel_rfl) (by kernel_rfl) (by kernel_rfl)) ?_
  intro W base args ds gs before hval0 hW hcnd _
  have hW' := hW
  obtain ⟨p, q, hA0, hV, rfl, hfz, hnd⟩ := hW
  have hA : DataW.TrodAll enc Tryz.prog W 0 (fun _ => true) true Tryz.f3.params.toList args.toList ds p := hA0
  rw [Tryz.params3] at hA
  obtain ⟨rfl, rfl, rfl⟩ := trodAll_none hA
  obtain ⟨rfl, rfl⟩ := trodVars_none hV
  clear hA0 hval0
  simp only [List.append_nil] at hW'
  refine (walk W).mono fun e W' ⟨he, hb⟩ => ?_
  subst he
  exact ⟨_, rfl, Ev.post_beside hW' (fun _ _ _ => trodAll_mk1 (shut_bool Tryz.underlying4 true)) (fun sp => trodAll_mk0) (fun _ => rfl) hb (ok_one (by kernel_rfl) rfl (okWide_bool_mk Tryz.underlying4 true))⟩

theorem holds : Rows.VersionNamesSaid :=
  OpenClaim.holds_of_wide 3 Tryz.f3 rfl rfl rfl rfl rfl rfl rfl ⟨rfl, rfl, rfl, rfl, rfl⟩ rfl rfl rfl rfl rfl (by kernel_rfl) Tryz.func3 (by kernel_rfl)
    (of_decide_eq_true (by kernel_rfl)) (by unfold Func.isWrapper; first | (rw [if_pos (by decide +kernel)]; kernel_rfl) | (rw [if_neg (by decide +kernel)]; exact ⟨rfl, rfl⟩))
    (fun os started H enc _ => lifted os started H enc)
#print axioms holds
end Go.Proofs.YtfbcfmgmcldogaaGreat
