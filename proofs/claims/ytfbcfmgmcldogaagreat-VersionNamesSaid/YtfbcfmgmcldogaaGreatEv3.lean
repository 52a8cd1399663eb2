/-
  The operations: what the evaluator answers, the model's operation answers.
-/
import Derived.Test.YtfbcfmgmcldogaaGreatEv2
namespace Ev
open Go

section
variable {E : Env} {P : Program} {μ : Mu} {m m' : AMem} {w : World}

/-! ### Types' runs -/
theorem run_und (hE : TyOK E P) {t : Nat} {i : TyI} (h : E.ty t = some i) : (underlying t).run P w = .ok i.u w := by
  obtain ⟨info, h1, h2, _⟩ := hE.ty t i h
  simp [underlying, h2]
theorem run_isAggT (hE : TyOK E P) {t : Nat} {i : TyI} (h : E.ty t = some i) : (isAgg t).run P w = .ok (isAggD i.u) w := by
  simp only [isAgg, Sem.run_bind, run_und hE h, Result.andThen_ok]
  cases i.u <;> rfl
theorem run_sizeOfT (hE : TyOK E P) {t : Nat} {i : TyI} (h : E.ty t = some i) : (Go.sizeOf t).run P w = .ok i.size w := by
  obtain ⟨info, h1, h2, h3, _⟩ := hE.ty t i h
  simp [Go.sizeOf, typeInfo, h1, h3]
theorem run_sizeT (hE : TyOK E P) {t : Nat} (h : sizeT E t ≠ 0) : (Go.sizeOf t).run P w = .ok (sizeT E t) w := by
  unfold sizeT at h ⊢
  cases hi : E.ty t with
  | none => rw [hi] at h; exact absurd rfl h
  | some i => exact run_sizeOfT hE hi
theorem run_bytesT (hE : TyOK E P) {t : Nat} {i : TyI} (h : E.ty t = some i) : ∃ info, (typeInfo t).run P w = .ok info w ∧ info.bytes = i.bytes ∧ info.size = i.size := by
  obtain ⟨info, h1, h2, h3, h4, _⟩ := hE.ty t i h
  exact ⟨info, by simp [typeInfo, h1], h4, h3⟩
theorem run_zeroT (hE : TyOK E P) {t : Nat} {i : TyI} {z : AV} (h : E.ty t = some i) (hz : i.zero = some z) : ∃ zv, (zeroValue t).run P w = .ok zv w ∧ ∀ μ, VRel μ z zv := by
  obtain ⟨info, h1, h2, h3, h4, h5, _⟩ := hE.ty t i h
  obtain ⟨zv, e1, e2⟩ := h5 z hz
  exact ⟨zv, by simp [zeroValue, typeInfo, h1, e1], fun μ => ofVal_rel μ e2⟩

/-! ### Loads and stores -/
theorem load_good (hE : TyOK E P) (hr : Rep μ m w) {t : Nat} {a r : AV} {x : Value} (h : evLoad E t a m = some (r, m')) (hx : VRel μ a x) :
    m' = m ∧ ∃ v, (Instr.loadAt t x).run P w = .ok v w ∧ VRel μ r v := by
  unfold evLoad at h
  cases hi : E.ty t with
  | none => rw [hi] at h; cases h
  | some i =>
    rw [hi] at h
    cases hp : a.asPtr with
    | none => rw [hp] at h; cases h
    | some p =>
      rw [hp] at h
      have ha := asPtr_eq hp
      subst ha
      obtain ⟨L, hL, rfl⟩ := hx
      simp only [evLoadAt] at h
      simp only [Instr.loadAt, Instr.sureAddr, Sem.run_bind, Sem.run_pure, Result.andThen_ok, loadVar, run_isAggT hE hi]
      cases hagg : isAggD i.u with
      | false =>
        rw [hagg] at h
        simp only [vm] at h
        cases ho : oneCell m p.1 p.2 with
        | none => rw [ho] at h; cases h
        | some c =>
          rw [ho] at h
          obtain ⟨rfl, rfl⟩ := Prod.mk.inj (Option.some.inj h)
          obtain ⟨v, h1, h2⟩ := run_load_one P hr ho hL
          exact ⟨rfl, v, by simpa using h1, h2⟩
      | true =>
        rw [hagg] at h
        simp only [aggR] at h
        cases ho : takeCells m p.1 p.2 i.size with
        | none => rw [ho] at h; cases h
        | some l =>
          rw [ho] at h
          obtain ⟨rfl, rfl⟩ := Prod.mk.inj (Option.some.inj h)
          obtain ⟨vs, h1, h2, h3, h4⟩ := run_load_cells P hr ho hL
          refine ⟨rfl, .agg ⟨vs⟩, ?_, vs, rfl, h2, h4⟩
          simp only [if_true, Sem.run_bind, run_sizeOfT hE hi, Result.andThen_ok, h1 w rfl, Sem.run_pure]

theorem store_good (hE : TyOK E P) (hr : Rep μ m w) {t : Nat} {a b r : AV} {x y : Value} (h : evStore E t a b m = some (r, m')) (hx : VRel μ a x) (hy : VRel μ b y) :
    r = .undef ∧ ∃ w', (Instr.storeAt t x y).run P w = .ok () w' ∧ Step μ m w μ m' w' := by
  unfold evStore at h
  cases hi : E.ty t with
  | none => rw [hi] at h; cases h
  | some i =>
    rw [hi] at h
    cases hp : a.asPtr with
    | none => rw [hp] at h; cases h
    | some p =>
      rw [hp] at h
      have ha := asPtr_eq hp
      subst ha
      obtain ⟨L, hL, rfl⟩ := hx
      simp only [evStoreAt] at h
      have hcells := hy.cells
      cases hagg : b.asAgg with
      | none =>
        rw [hagg] at h
        have hc := asAgg_none hagg
        cases hz : Nat.beq i.size 1 with
        | false => rw [hz] at h; cases h
        | true =>
          rw [hz] at h
          have hz' : i.size = 1 := Nat.eq_of_beq_eq_true hz
          simp only [unitR] at h
          cases ho : put1 m p.1 p.2 b with
          | none => rw [ho] at h; cases h
          | some m₁ =>
            rw [ho] at h
            obtain ⟨rfl, rfl⟩ := Prod.mk.inj (Option.some.inj h)
            rw [hc] at hcells
            obtain ⟨v, rest, hv, hbv, hrest⟩ := hcells
            cases hrest
            have hsc : b.scalar = true := (put1_eq ho).choose_spec.choose_spec.choose_spec.choose_spec.2.2.1
            obtain ⟨w', h1, h2⟩ := run_store_one P hr ho hL hbv
            refine ⟨rfl, w', ?_, h2⟩
            simp only [Instr.storeAt, Instr.sureAddr, Sem.run_bind, Sem.run_pure, Result.andThen_ok, storeVar, run_sizeOfT hE hi]
            have hsize : y.cells.size = i.size := by rw [← Array.length_toList, hv, hz']; rfl
            simp only [hsize, ne_eq, not_true_eq_false, if_false, hv]
            exact h1
      | some l =>
        rw [hagg] at h
        have hb := asAgg_eq hagg
        subst hb
        cases hz : Nat.beq l.length i.size with
        | false => simp only [hz] at h; cases h
        | true =>
          simp only [hz] at h
          have hz' : l.length = i.size := Nat.eq_of_beq_eq_true hz
          simp only [unitR] at h
          cases ho : putCells m p.1 p.2 l with
          | none => rw [ho] at h; cases h
          | some m₁ =>
            rw [ho] at h
            obtain ⟨rfl, rfl⟩ := Prod.mk.inj (Option.some.inj h)
            obtain ⟨vs, rfl, hvs, _⟩ := hy
            obtain ⟨w', h1, h2⟩ := run_store_cells P hr ho hL hvs
            refine ⟨rfl, w', ?_, h2⟩
            simp only [Instr.storeAt, Instr.sureAddr, Sem.run_bind, Sem.run_pure, Result.andThen_ok, storeVar, run_sizeOfT hE hi]
            have hsize : (Value.agg ⟨vs⟩).cells.size = i.size := by simp [Value.cells, ← hvs.length, hz']
            simp only [hsize, ne_eq, not_true_eq_false, if_false]
            exact h1

theorem newVar_good (hr : Rep μ m w) (hf : μ m.next = none) {l : List AV} {v : Value} (t : TypeId) (hv : VsRel μ l v.cells.toList) (hs : l.all AV.scalar = true) :
    ∃ a w' μ', (newVar t v).run P w = .ok a w' ∧ VRel μ' (.ptr m.next 0) (.pointer (some a)) ∧ Step μ m w μ' (newRowC m l) w' := by
  refine ⟨_, _, μ.with m.next ⟨w.heap.size, 0, v.cells.toList.length⟩, rfl, ⟨_, Mu.with_same _ _ _, by simp⟩, ?_⟩
  refine Step.alloc (n := v.cells.toList.length) (o := .cells v.cells t) hr hf rfl ⟨rfl, rfl, rfl⟩ ?_
  exact newRow_rel (e := t) (by simp) (hv.mono (Mu.le_with hf)) hs true

theorem alloc_good (hE : TyOK E P) (hr : Rep μ m w) {t : Nat} {r : AV} (h : evAlloc E t m = some (r, m')) (hf : μ m.next = none) :
    ∃ v w' μ', (Instr.alloc t true (.tuple #[])).run P w = .ok v w' ∧ VRel μ' r v ∧ Step μ m w μ' m' w' := by
  unfold evAlloc at h
  split at h
  · rename_i i hi
    split at h
    · rename_i z hz
      split at h
      · rename_i hs
        obtain ⟨rfl, rfl⟩ := Prod.mk.inj (Option.some.inj h)
        obtain ⟨zv, hz1, hz2⟩ := run_zeroT (w := w) hE hi hz
        obtain ⟨a, w', μ', h1, h2, h3⟩ := newVar_good (P := P) hr hf t (hz2 μ).cells hs
        exact ⟨.pointer (some a), w', μ', by simp [Instr.alloc, hz1, h1], h2, h3⟩
      · cases h
    · cases h
  · cases h
theorem box_good (hr : Rep μ m w) {t : Nat} {a r : AV} {x : Value} (h : evBox a m = some (r, m')) (hx : VRel μ a x) (hf : μ m.next = none) :
    ∃ v w' μ', (Instr.box t x).run P w = .ok v w' ∧ VRel μ' r v ∧ Step μ m w μ' m' w' := by
  unfold evBox at h
  split at h
  · rename_i hs
    obtain ⟨rfl, rfl⟩ := Prod.mk.inj (Option.some.inj h)
    obtain ⟨a, w', μ', h1, h2, h3⟩ := newVar_good (P := P) hr hf t hx.cells hs
    exact ⟨.pointer (some a), w', μ', by simp [Instr.box, h1], h2, h3⟩
  · cases h
end
end Ev
