/-
  Lengths, capacities, clear, the least and the greatest.
-/
import Derived.Test.YtfbcfmgmcldogaaGreatEv15
namespace Ev
open Go

section
variable {E : Env} {P : Program} {μ : Mu} {m m' : AMem} {w : World}

theorem len_run (hE : TyOK E P) (hr : Rep μ m w) {t : Nat} {a r : AV} {x : Value} {rest : List Nat} {ty : Nat} (h : evLen E t a m = some (r, m')) (hx : VRel μ a x) :
    m' = m ∧ ∃ v, (Builtin.len_ ⟨t :: rest⟩ ty #[x]).run P w = .ok v w ∧ VRel μ r v := by
  unfold evLen at h
  split at h
  · rename_i i hi
    have hU : ∀ w : World, (underlying t).run P w = .ok i.u w := fun _ => run_und hE hi
    split at h
    · rename_i l hu
      obtain ⟨rfl, rfl⟩ := Prod.mk.inj (Option.some.inj h)
      obtain ⟨rfl, _⟩ := hx
      rw [hu] at hU
      refine ⟨rfl, .int .i64 l.length, ?_, rfl⟩
      simp only [Builtin.len_, List.getElem?_toArray, List.getElem?_cons_zero, Sem.run_bind, hU, Result.andThen_ok, Sem.run_pure, goInt]
      simp [ByteArray.size]
    · rename_i e hu
      obtain ⟨rfl, rfl⟩ := Prod.mk.inj (Option.some.inj h)
      cases hx
      rw [hu] at hU
      refine ⟨rfl, .int .i64 0, by simp [Builtin.len_, hU, goInt], rfl⟩
    · rename_i e id off n c hu
      obtain ⟨rfl, rfl⟩ := Prod.mk.inj (Option.some.inj h)
      obtain ⟨L, o, _, rfl, _⟩ := hx
      rw [hu] at hU
      refine ⟨rfl, .int .i64 n, by simp [Builtin.len_, hU, goInt], rfl⟩
    · rename_i e id off n c hu
      obtain ⟨rfl, rfl⟩ := Prod.mk.inj (Option.some.inj h)
      obtain ⟨L, o, c, _, rfl, _⟩ := hx
      rw [hu] at hU
      refine ⟨rfl, .int .i64 n, by simp [Builtin.len_, hU, goInt], rfl⟩
    · rename_i k e hu
      rw [hu] at hU
      split at h
      · rename_i es hes
        obtain ⟨rfl, rfl⟩ := Prod.mk.inj (Option.some.inj h)
        rcases mapList_ok hr hes hx with ⟨rfl, rfl⟩ | ⟨b, ents, clock, rfl, h1, h2⟩
        · refine ⟨rfl, .int .i64 0, by simp [Builtin.len_, hU, goInt], rfl⟩
        · refine ⟨rfl, .int .i64 ents.size, by simp [Builtin.len_, hU, goInt, run_getMap h1], ?_⟩
          simp [VRel, h2.length]
      · cases h
    · rename_i n e hu
      rw [hu] at hU
      obtain ⟨rfl, rfl⟩ := Prod.mk.inj (Option.some.inj h)
      refine ⟨rfl, .int .i64 n, by simp [Builtin.len_, hU, goInt], rfl⟩
    · cases h
  · cases h

theorem cap_run (hE : TyOK E P) {t : Nat} {a r : AV} {x : Value} {rest : List Nat} {ty : Nat} (h : evCap E t a m = some (r, m')) (hx : VRel μ a x) :
    m' = m ∧ ∃ v, (Builtin.cap_ ⟨t :: rest⟩ ty #[x]).run P w = .ok v w ∧ VRel μ r v := by
  unfold evCap at h
  split at h
  · rename_i i hi
    have hU : ∀ w : World, (underlying t).run P w = .ok i.u w := fun _ => run_und hE hi
    split at h
    · rename_i e hu
      obtain ⟨rfl, rfl⟩ := Prod.mk.inj (Option.some.inj h)
      cases hx
      rw [hu] at hU
      refine ⟨rfl, .int .i64 0, by simp [Builtin.cap_, hU, goInt], rfl⟩
    · rename_i e id off n c hu
      obtain ⟨rfl, rfl⟩ := Prod.mk.inj (Option.some.inj h)
      obtain ⟨L, o, _, rfl, _⟩ := hx
      rw [hu] at hU
      refine ⟨rfl, .int .i64 c, by simp [Builtin.cap_, hU, goInt], rfl⟩
    · cases h
  · cases h

theorem clear_good (hE : TyOK E P) (hr : Rep μ m w) {t : Nat} {a r : AV} {x : Value} {rest : List Nat} {ty : Nat} (h : evClear E t a m = some (r, m')) (hx : VRel μ a x) :
    ∃ v w', (Builtin.clear_ ⟨t :: rest⟩ ty #[x]).run P w = .ok v w' ∧ VRel μ r v ∧ Step μ m w μ m' w' := by
  unfold evClear at h
  split at h
  · rename_i i hi
    have hU : ∀ w : World, (underlying t).run P w = .ok i.u w := fun _ => run_und hE hi
    split at h
    · rename_i e hu
      obtain ⟨rfl, rfl⟩ := Prod.mk.inj (Option.some.inj h)
      cases hx
      exact ⟨.tuple #[], w, by simp [Builtin.clear_, hU], ⟨_, rfl, rfl⟩, Step.refl hr⟩
    · rename_i k e hu
      obtain ⟨rfl, rfl⟩ := Prod.mk.inj (Option.some.inj h)
      cases hx
      exact ⟨.tuple #[], w, by simp [Builtin.clear_, hU], ⟨_, rfl, rfl⟩, Step.refl hr⟩
    · rename_i k e id hu
      split at h
      · rename_i es hg
        obtain ⟨rfl, rfl⟩ := Prod.mk.inj (Option.some.inj h)
        obtain ⟨L, hL, rfl⟩ := hx
        obtain ⟨ents, clock, h1, h2⟩ := hr.blk _ _ _ hg hL
        exact ⟨.tuple #[], _, by simp only [Builtin.clear_, List.getElem?_toArray, List.getElem?_cons_zero, Sem.run_bind, hU, Result.andThen_ok, run_getMap h1, run_setMap _ h1, Sem.run_pure], ⟨_, rfl, rfl⟩, setMap_step hr hg hL (ents := #[]) (clock := clock) rfl⟩
      · cases h
    · rename_i e _ hu _
      rw [hu] at hU
      split at h
      · rename_i n hn
        split at h
        · rename_i h0
          have h0 : n = 0 := Nat.eq_of_beq_eq_true h0
          subst h0
          split at h
          · rename_i p hro
            obtain ⟨id, off⟩ := p
            obtain ⟨rfl, rfl⟩ := Prod.mk.inj (Option.some.inj h)
            obtain ⟨L, o, len, cap', hL, rfl, hlen, ho⟩ := rowOf_ok hro hx
            rw [hn] at hlen; cases hlen
            exact ⟨.tuple #[], w, by simp [Builtin.clear_, hU], ⟨_, rfl, rfl⟩, Step.refl hr⟩
          · cases h
        · rename_i h0
          split at h
          · rename_i ie hie
            split at h
            · rename_i z hz
              split at h
              · rename_i hzl
                have hzl : z.cells.length = ie.size := Nat.eq_of_beq_eq_true hzl
                split at h
                · rename_i id off hro
                  split at h
                  · rename_i m₁ hp
                    obtain ⟨rfl, rfl⟩ := Prod.mk.inj (Option.some.inj h)
                    obtain ⟨L, o, len, cap', hL, rfl, hlen, ho⟩ := rowOf_ok hro hx
                    rw [hn] at hlen; cases hlen
                    have hn0 : n ≠ 0 := by intro e; rw [e] at h0; exact h0 rfl
                    have ho := ho hn0
                    subst ho
                    obtain ⟨zv, g1, g2⟩ := run_zeroT (w := w) hE hie hz
                    obtain ⟨w', g3, g4⟩ := run_store_cells P hr hp hL (rep_rel (g2 μ).cells n)
                    refine ⟨.tuple #[], w', ?_, ⟨_, rfl, rfl⟩, g4⟩
                    have hzc : (Builtin.zeroCells zv.cells n).toList = (List.replicate n zv.cells.toList).flatten := range_rep zv.cells.toList n
                    cases n with
                    | zero => cases hn0 rfl
                    | succ n =>
                    simp only [Builtin.clear_, List.getElem?_toArray, List.getElem?_cons_zero, Sem.run_bind, hU, Result.andThen_ok, g1, hzc, g3, Sem.run_pure]
                  · cases h
                · cases h
              · cases h
            · cases h
          · cases h
      · cases h
    · cases h
  · cases h

theorem mm_run {take : Int → Int → Bool} {f : Value → Value → Sem Value} (hf : ∀ k a j b, f (.int k a) (.int j b) = pure (.int k (if take a b then b else a))) {k : IntKind} : ∀ {l : List AV} {vs : List Value} {a : Int} {r : AV}, mmInt take k a l = some r → VsRel μ l vs →
    (vs.foldlM f (.int k a)).run P w = .ok (match r with | .int j b => .int j b | _ => .int k 0) w ∧ ∃ j b, r = .int j b
  | [], _, a, r, h, hv => by cases hv; simp [mmInt] at h; subst h; exact ⟨rfl, _, _, rfl⟩
  | b :: l, _, a, r, h, ⟨v, vs, rfl, h1, h2⟩ => by
    cases b <;> simp only [mmInt] at h <;> try (cases h; done)
    rename_i j b
    cases h1
    cases ht : take a b with
    | true =>
      rw [ht] at h
      obtain ⟨h3, h4⟩ := mm_run hf h h2
      refine ⟨?_, h4⟩
      rw [List.foldlM_cons, hf, Sem.run_bind, Sem.run_pure, Result.andThen_ok, ht, if_pos rfl, h3]
    | false =>
      rw [ht] at h
      obtain ⟨h3, h4⟩ := mm_run hf h h2
      refine ⟨?_, h4⟩
      rw [List.foldlM_cons, hf, Sem.run_bind, Sem.run_pure, Result.andThen_ok, ht, if_neg (by simp), h3]

theorem min_run {l : List AV} {vs : List Value} {r : AV} {ts : Array Nat} {ty : Nat} (h : minInt l = some r) (hv : VsRel μ l vs) : ∃ v, (Builtin.min_ ts ty ⟨vs⟩).run P w = .ok v w ∧ VRel μ r v := by
  cases l with
  | nil => simp [minInt] at h
  | cons a l =>
    obtain ⟨v, vs, rfl, h1, h2⟩ := hv
    cases a <;> simp only [minInt] at h <;> try (cases h; done)
    cases h1
    obtain ⟨h3, j, b, rfl⟩ := mm_run (P := P) (w := w) (f := Builtin.min2) (fun k a j b => by simp [Builtin.min2, ltI_eq]) h h2
    exact ⟨_, by simpa only [Builtin.min_] using h3, rfl⟩
theorem max_run {l : List AV} {vs : List Value} {r : AV} {ts : Array Nat} {ty : Nat} (h : maxInt l = some r) (hv : VsRel μ l vs) : ∃ v, (Builtin.max_ ts ty ⟨vs⟩).run P w = .ok v w ∧ VRel μ r v := by
  cases l with
  | nil => simp [maxInt] at h
  | cons a l =>
    obtain ⟨v, vs, rfl, h1, h2⟩ := hv
    cases a <;> simp only [maxInt] at h <;> try (cases h; done)
    cases h1
    obtain ⟨h3, j, b, rfl⟩ := mm_run (P := P) (w := w) (f := Builtin.max2) (fun k a j b => by simp [Builtin.max2, ltI_eq]) h h2
    exact ⟨_, by simpa only [Builtin.max_] using h3, rfl⟩

/-! ### Interfaces, tuples, functions -/
theorem extract_run {a r : AV} {i : Nat} {x : Value} (h : evExtract a i = some r) (hx : VRel μ a x) : ∃ v, (Instr.extract x i).run P w = .ok v w ∧ VRel μ r v := by
  unfold evExtract at h
  split at h
  · rename_i l
    obtain ⟨vs, rfl, hvs⟩ := hx
    obtain ⟨v, h1, h2⟩ := hvs.get _ _ h
    exact ⟨v, by simp [Instr.extract, h1], h2⟩
  · cases h
end
end Ev
