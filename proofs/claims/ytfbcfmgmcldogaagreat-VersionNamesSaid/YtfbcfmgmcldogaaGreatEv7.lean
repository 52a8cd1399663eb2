/-
  The operations that read no memory.
-/
import Derived.Test.YtfbcfmgmcldogaaGreatEv6
namespace Ev
open Go

section
variable {E : Env} {P : Program} {μ : Mu} {m m' : AMem} {w : World}

theorem guard_pure (op : BinOp) (t : Nat) (ox oy : Operand) (a b : Value) (h1 : ∀ x y, ¬ (a = .agg x ∧ b = .agg y)) (h2 : ¬ (a = .nilIface ∧ b = .nilIface)) : (eqGuard op t ox oy a b).run P w = .ok () w := by
  unfold eqGuard
  split
  all_goals simp only [Bool.not_true, Bool.not_false, Bool.false_eq_true, if_false, if_true]
  all_goals first
    | rfl
    | (split
       · exact absurd ⟨rfl, rfl⟩ h2
       · rename_i x y; exact absurd ⟨rfl, rfl⟩ (h1 x y)
       · rfl)

theorem eq_agg_run (hE : TyOK E P) {t : Nat} {a b : List AV} {xs ys : List Value} {r : Bool} (h : eqAgg E t a b = some r) (hx : VsRel μ a xs) (hy : VsRel μ b ys) (D : Nat) (hD : 20 ≤ D) :
    (Op.equalIn D t (.agg ⟨xs⟩) (.agg ⟨ys⟩)).run P w = .ok r w ∧ P.eqGuardType P.depth t = false := by
  unfold eqAgg at h
  split at h
  · rename_i i hi
    split at h
    · rename_i hagg
      split at h
      · rename_i ks hk
        have hv := eqCells_vals h hx hy
        have := equalIn_flat hE 20 t ks i hk hi D hD xs ys r hv w
        simp only [valOf, hagg, if_true] at this
        exact ⟨this, guard_flat hE 20 t ks hk _ hE.depth⟩
      · cases h
    · cases h
  · cases h

theorem eqNil_run {t : Nat} {u : TypeDesc} (hu : P.underlying t = some u) {a b : AV} {x y : Value} {r : Bool} (h : eqNil u a b = some r) (hx : VRel μ a x) (hy : VRel μ b y) (D : Nat) :
    (Op.equalIn (D + 1) t x y).run P w = .ok r w ∧ (∀ p q, ¬ (x = .agg p ∧ y = .agg q)) ∧ ¬ (x = .nilIface ∧ y = .nilIface) ∧ (∀ k p, x ≠ .int k p) ∧ (∀ s, x ≠ .string s) ∧ (∀ k p, x ≠ .float k p) ∧ (∀ k p q, x ≠ .complex k p q) := by
  unfold eqNil at h
  split at h <;> (try cases h)
  all_goals simp only [VRel] at hx hy
  case h_1 p q =>
    subst hx; subst hy
    refine ⟨?_, by simp, by simp, by simp, by simp, by simp, by simp⟩
    simp [Op.equalIn, run_underlying hu]
    cases p <;> cases q <;> rfl
  all_goals (first
    | (subst hx; subst hy)
    | (subst hx; obtain ⟨L, hL, rfl⟩ := hy)
    | (subst hy; obtain ⟨L, hL, rfl⟩ := hx)
    | (subst hx; obtain ⟨L, o, hL, rfl, _⟩ := hy)
    | (subst hy; obtain ⟨L, o, hL, rfl, _⟩ := hx)
    | (subst hx; obtain ⟨L, o, c, hL, rfl, _⟩ := hy)
    | (subst hy; obtain ⟨L, o, c, hL, rfl, _⟩ := hx)
    | (subst hx; obtain ⟨L, o, rfl, _⟩ := hy)
    | (subst hy; obtain ⟨L, o, rfl, _⟩ := hx)
    | (subst hx; obtain ⟨L, rfl, _⟩ := hy)
    | (subst hy; obtain ⟨L, rfl, _⟩ := hx))
  all_goals (refine ⟨?_, by simp, by simp, by simp, by simp, by simp, by simp⟩; simp [Op.equalIn, run_underlying hu])

theorem eq_run (hE : TyOK E P) {t : Nat} {a b : AV} {x y : Value} {r : Bool} (h : evEq E t a b = some r) (hx : VRel μ a x) (hy : VRel μ b y) (D : Nat) (hD : 20 ≤ D) (op : BinOp) (ox oy : Operand) :
    (Op.equalIn D t x y).run P w = .ok r w ∧ (eqGuard op t ox oy x y).run P w = .ok () w ∧
      (∀ k p, x ≠ .int k p) ∧ (∀ s, x ≠ .string s) ∧ (∀ k p, x ≠ .float k p) ∧ (∀ k p q, x ≠ .complex k p q) := by
  unfold evEq at h
  split at h
  · rename_i l1 l2 e1 e2
    have := asAgg_eq e1; subst this
    have := asAgg_eq e2; subst this
    obtain ⟨xs, rfl, hxs, _⟩ := hx
    obtain ⟨ys, rfl, hys, _⟩ := hy
    obtain ⟨h1, h2⟩ := eq_agg_run (w := w) hE h hxs hys D hD
    refine ⟨h1, ?_, by simp, by simp, by simp, by simp⟩
    unfold eqGuard
    split <;> simp [h2]
  · split at h
    · rename_i i hi
      obtain ⟨info, _, hu, _⟩ := hE.ty t i hi
      obtain ⟨D, rfl⟩ : ∃ D', D = D' + 1 := ⟨D - 1, by omega⟩
      obtain ⟨h1, h2, h3, h4⟩ := eqNil_run (w := w) hu h hx hy D
      exact ⟨h1, guard_pure op t ox oy x y h2 h3, h4⟩
    · cases h

theorem binOp_eq {t : Nat} {x y : Value} {r : Bool} (h : (Op.equalIn Op.maxDepth t x y).run P w = .ok r w) (h1 : ∀ k p, x ≠ .int k p) (h2 : ∀ s, x ≠ .string s) (h3 : ∀ k p, x ≠ .float k p) (h4 : ∀ k p q, x ≠ .complex k p q) :
    (binOp .eql t x y).run P w = .ok (.bool r) w ∧ (binOp .neq t x y).run P w = .ok (.bool (!r)) w := by
  have e1 : binOp .eql t x y = (do pure (.bool (← Op.equal t x y))) := by
    unfold binOp; split <;> first | rfl | (exfalso; first | exact h1 _ _ rfl | exact h2 _ rfl | exact h3 _ _ rfl | exact h4 _ _ _ rfl) | (rename_i hh; cases hh) | simp_all
  have e2 : binOp .neq t x y = (do pure (.bool (!(← Op.equal t x y)))) := by
    unfold binOp; split <;> first | rfl | (exfalso; first | exact h1 _ _ rfl | exact h2 _ rfl | exact h3 _ _ rfl | exact h4 _ _ _ rfl) | (rename_i hh; cases hh) | simp_all
  rw [e1, e2]
  simp [Op.equal, h]

theorem bin_run (hE : TyOK E P) {op : BinOp} {t : Nat} {a b r : AV} {x y : Value} (h : evBin E op t a b = some r) (hx : VRel μ a x) (hy : VRel μ b y) (ox oy : Operand) :
    ∃ v, (do eqGuard op t ox oy x y; binOp op t x y : Sem Value).run P w = .ok v w ∧ VRel μ r v := by
  unfold evBin at h
  cases hai : a.asInt with
  | some p =>
    rw [hai] at h
    cases hbi : b.asInt with
    | none => rw [hbi] at h; cases h
    | some q =>
      rw [hbi] at h
      have e1 := asInt_eq hai; have e2 := asInt_eq hbi
      subst e1; subst e2
      cases hx; cases hy
      obtain ⟨v, h1, h2⟩ := evInt_run (P := P) (w := w) (t := t) h
      refine ⟨v, ?_, h2 μ⟩
      rw [Sem.run_bind, guard_pure op t ox oy _ _ (by simp) (by simp)]
      exact h1
  | none =>
    rw [hai] at h
    simp only [evBinR] at h
    split at h
    · rename_i l1 l2 e1 e2
      have := asStr_eq e1; subst this
      have := asStr_eq e2; subst this
      obtain ⟨rfl, h1⟩ := hx
      obtain ⟨rfl, h2⟩ := hy
      obtain ⟨v, h3, h4⟩ := str_run (P := P) (w := w) (t := t) h h1 h2
      refine ⟨v, ?_, h4 μ⟩
      rw [Sem.run_bind, guard_pure op t ox oy _ _ (by simp) (by simp)]
      exact h3
    · split at h
      · split at h
        · rename_i c hc
          cases h
          obtain ⟨g1, g2, g3, g4, g5, g6⟩ := eq_run (w := w) hE hc hx hy Op.maxDepth (by decide) .eql ox oy
          exact ⟨_, by rw [Sem.run_bind, g2]; exact (binOp_eq g1 g3 g4 g5 g6).1, rfl⟩
        · cases h
      · split at h
        · rename_i c hc
          cases h
          obtain ⟨g1, g2, g3, g4, g5, g6⟩ := eq_run (w := w) hE hc hx hy Op.maxDepth (by decide) .neq ox oy
          exact ⟨_, by rw [Sem.run_bind, g2]; exact (binOp_eq g1 g3 g4 g5 g6).2, rfl⟩
        · cases h
      · cases h

theorem un_run {op : UnOp} {a r : AV} {x : Value} (h : evUn op a = some r) (hx : VRel μ a x) : ∃ v, (Op.unary op x).run P w = .ok v w ∧ VRel μ r v := by
  unfold evUn at h
  split at h
  · cases h; cases hx
    exact ⟨_, rfl, by simp [VRel, wrapI_eq, negI_eq, IntKind.wrap]⟩
  · rename_i k n
    cases hx
    have hk : toU k (if k.signed then -1 else k.max) = Nat.sub (modK k) 1 := by cases k <;> rfl
    rw [← hk] at h
    obtain ⟨n', rfl, hn⟩ := evBits_run (P := P) (w := w) h (by simp)
    exact ⟨_, hn, rfl⟩
  · cases h; cases hx
    exact ⟨_, rfl, rfl⟩
  · cases h
end
end Ev
