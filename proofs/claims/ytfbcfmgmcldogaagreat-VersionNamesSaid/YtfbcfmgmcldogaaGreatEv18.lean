/-
  Every operation, whatever it is.
-/
import Derived.Test.YtfbcfmgmcldogaaGreatEv17
namespace Ev
open Go

section
variable {E : Env} {P : Program} {μ : Mu} {m m' : AMem} {w : World}

theorem Fresh.one (h : Fresh μ m.next m'.next) (hlt : m.next < m'.next) : μ m.next = none := h _ (Nat.le_refl _) hlt

theorem arr_map {α β : Type} (f : α → β) (l : Array α) : l.map f = ⟨l.toList.map f⟩ := by apply Array.ext'; simp

theorem evAlloc_next {t : Nat} {r : AV} (h : evAlloc E t m = some (r, m')) : m.next < m'.next := by
  unfold evAlloc at h
  repeat' split at h
  all_goals first | (cases h; done) | (cases h; simp [newRowC])
theorem evBox_next {a r : AV} (h : evBox a m = some (r, m')) : m.next < m'.next := by
  unfold evBox at h
  repeat' split at h
  all_goals first | (cases h; done) | (cases h; simp [newRowC])
theorem evMakeSlice_next {t : Nat} {a b r : AV} (h : evMakeSlice E t a b m = some (r, m')) : m.next < m'.next := by
  unfold evMakeSlice at h
  repeat' split at h
  all_goals first | (cases h; done) | (cases h; simp)
theorem evBuildSlice_next {t len : Nat} {ps : List (Nat × AV)} {r : AV} (h : evBuildSlice E t len ps m = some (r, m')) : m.next < m'.next := by
  unfold evBuildSlice at h
  repeat' split at h
  all_goals first | (cases h; done) | (cases h; simp [newRowC])

theorem typeAssert_run (hE : TyOK E P) {a r : AV} {t s : Nat} {ok : Bool} {x : Value} (h : evTypeAssert E a t ok = some r) (hx : VRel μ a x) : ∃ v, (Instr.typeAssert x s t ok).run P w = .ok v w ∧ VRel μ r v := by
  unfold evTypeAssert at h
  split at h
  · rename_i i hi
    have hU := run_und (w := w) hE hi
    split at h
    · cases h
    · rename_i hnd
      have hfail : ∀ {p q s'}, ok = true → (match i.zero with | some z => some (AV.tup [z, .bool false]) | none => none) = some r →
          ∃ v, ((do if ok then pure (.tuple #[← zeroValue t, .bool false]) else runtimePanic (.typeAssertion p q t s')) : Sem Value).run P w = .ok v w ∧ VRel μ r v := by
        intro p q s' hok hz
        split at hz
        · rename_i z hz'
          cases hz
          obtain ⟨zv, g1, g2⟩ := run_zeroT (w := w) hE hi hz'
          exact ⟨.tuple #[zv, .bool false], by simp only [hok, if_true, Sem.run_bind, g1, Result.andThen_ok, Sem.run_pure], ⟨_, rfl, .cons (g2 μ) (.cons rfl rfl)⟩⟩
        · cases hz
      split at h
      · rename_i d y
        obtain ⟨x, rfl, hx⟩ := hx
        split at h
        · rename_i hd
          have hd : d = t := Nat.eq_of_beq_eq_true hd
          subst hd
          cases h
          refine ⟨if ok then .tuple #[x, .bool true] else x, ?_, ?_⟩
          · simp only [Instr.typeAssert, Sem.run_bind, hU, Result.andThen_ok]
            cases hu : i.u <;> first | exact absurd hu (hnd _) | (simp only [if_true]; done) | (simp only [if_true]; rfl)
          · unfold okPair
            cases ok with
            | true => exact ⟨_, rfl, .cons hx (.cons rfl rfl)⟩
            | false => exact hx
        · rename_i hd
          have hd : ¬ d = t := fun e => hd (by subst e; exact Nat.beq_refl _)
          split at h
          · rename_i hok
            obtain ⟨v, h1, h2⟩ := hfail (p := some s) (q := some d) (s' := "") hok h
            refine ⟨v, ?_, h2⟩
            rw [← h1]
            simp only [Instr.typeAssert, Sem.run_bind, hU, Result.andThen_ok]
            cases hu : i.u <;> first | exact absurd hu (hnd _) | (simp only [if_neg hd]; done) | (simp only [if_neg hd]; rfl)
          · cases h
      · cases hx
        split at h
        · rename_i hok
          obtain ⟨v, h1, h2⟩ := hfail (p := some s) (q := none) (s' := "") hok h
          refine ⟨v, ?_, h2⟩
          rw [← h1]
          simp only [Instr.typeAssert, Sem.run_bind, hU, Result.andThen_ok]
        · cases h
      · cases h
  · cases h

theorem isIf_run (hE : TyOK E P) {t : Nat} (h : isIf E t = false) (x : Value) : (Instr.makeInterface t x).run P w = .ok (.iface t x) w := by
  unfold isIf at h
  split at h
  · rename_i i hi
    have hU := run_und (w := w) hE hi
    split at h
    · cases h
    · rename_i hnd
      simp only [Instr.makeInterface, Sem.run_bind, hU, Result.andThen_ok]
      cases hu : i.u <;> first | exact absurd hu (hnd _) | rfl
  · cases h

theorem builtin_good (hE : TyOK E P) (hr : Rep μ m w) {b : Builtin} {ts : Array TypeId} {ty : Nat} {cs : Array Bool} {args : List AV} {vs : List Value} {r : AV} (h : evBuiltin E b ts.toList args m = some (r, m')) (hv : VsRel μ args vs)
    (hf : Fresh μ m.next m'.next) : ∃ v w', (builtin b ts ty cs ⟨vs⟩).run P w = .ok (.value v) w' ∧ Good μ m w r m' v w' := by
  obtain ⟨ts⟩ := ts
  have fin : ∀ {s : Sem Value} {v : Value} {w' : World}, s.run P w = .ok v w' → (do pure (Next.value (← s)) : Sem Next).run P w = .ok (.value v) w' := by
    intro s v w' h; simp only [Sem.run_bind, h, Result.andThen_ok, Sem.run_pure]
  unfold evBuiltin at h
  split at h
  · rename_i x t rest hts
    subst hts
    obtain ⟨v, _, rfl, h1, rfl⟩ := hv
    obtain ⟨rfl, v', g1, g2⟩ := len_run (ty := ty) (rest := rest) hE hr h h1
    exact ⟨v', w, fin g1, μ, g2, Step.refl hr⟩
  · rename_i x t rest hts
    subst hts
    obtain ⟨v, _, rfl, h1, rfl⟩ := hv
    obtain ⟨rfl, v', g1, g2⟩ := cap_run (w := w) (ty := ty) (rest := rest) hE h h1
    exact ⟨v', w, fin g1, μ, g2, Step.refl hr⟩
  · rename_i x y
    obtain ⟨v, _, rfl, h1, u, _, rfl, h2, rfl⟩ := hv
    obtain ⟨v', w', μ', g1, g2, g3⟩ := appendOp_good (ts := ⟨ts⟩) (ty := ty) hE hr h h1 h2 (fun hlt => hf.one hlt)
    exact ⟨v', w', fin g1, μ', g2, g3⟩
  · rename_i d s t rest hts
    subst hts
    obtain ⟨v, _, rfl, h1, u, _, rfl, h2, rfl⟩ := hv
    split at h
    · rename_i i hi
      have hU : ∀ w : World, (underlying t).run P w = .ok i.u w := fun _ => run_und hE hi
      split at h
      · rename_i e hu
        rw [hu] at hU
        split at h
        · rename_i ie hie
          obtain ⟨v', w', g1, g2, g3⟩ := copy_good (ty := ty) (_u := 0) hr hU (fun w => run_sizeOfT hE hie) h h1 h2 rest
          exact ⟨v', w', fin g1, μ, g2, g3⟩
        · cases h
      · cases h
    · cases h
  · obtain ⟨hv', rfl⟩ := vm_some h
    obtain ⟨v, g1, g2⟩ := min_run (P := P) (w := w) (ts := ⟨ts⟩) (ty := ty) hv' hv
    exact ⟨v, w, fin g1, μ, g2, Step.refl hr⟩
  · obtain ⟨hv', rfl⟩ := vm_some h
    obtain ⟨v, g1, g2⟩ := max_run (P := P) (w := w) (ts := ⟨ts⟩) (ty := ty) hv' hv
    exact ⟨v, w, fin g1, μ, g2, Step.refl hr⟩
  · rename_i x k t rest hts
    subst hts
    obtain ⟨v, _, rfl, h1, u, _, rfl, h2, rfl⟩ := hv
    obtain ⟨v', w', g1, g2, g3⟩ := delete_good (rest := rest) (ty := ty) hE hr h h1 h2
    exact ⟨v', w', fin g1, μ, g2, g3⟩
  · rename_i x t rest hts
    subst hts
    obtain ⟨v, _, rfl, h1, rfl⟩ := hv
    obtain ⟨v', w', g1, g2, g3⟩ := clear_good (rest := rest) (ty := ty) hE hr h h1
    exact ⟨v', w', fin g1, μ, g2, g3⟩
  · cases h
end
end Ev
