/-
  Steps of an activation; operations one behind the other.
-/
import Derived.Test.YtfbcfmgmcldogaaGreatEv21
import Derived.LoopNIn
import Derived.TacticsIn
namespace Ev
open Go

/-- the marks that loops over functions leave among an activation's deferred calls -/
def Marks (μ : Mu) (m : AMem) (w : World) (lo : Nat) (ds : List Deferred) : Prop :=
  (∀ d ∈ ds, ∃ r, d = ⟨.collected r, #[]⟩ ∧ lo ≤ r ∧ w.heap[r]? = some (.deferred (some [])) ∧ ¬ Owned μ m r) ∧ ds.Nodup

theorem Marks.nil {μ : Mu} {m : AMem} {w : World} {lo : Nat} : Marks μ m w lo [] := ⟨fun _ h => (by cases h), List.nodup_nil⟩
theorem Marks.step {μ μ' : Mu} {m m' : AMem} {w w' : World} {lo : Nat} {ds : List Deferred} (h : Marks μ m w lo ds) (hs : Step μ m w μ' m' w') : Marks μ' m' w' lo ds := by
  refine ⟨fun d hd => ?_, h.2⟩
  obtain ⟨r, h1, h2, h3, h4⟩ := h.1 d hd
  have hlt : r < w.heap.size := (Array.getElem?_eq_some_iff.1 h3).1
  exact ⟨r, h1, h2, by rw [hs.frame r hlt h4]; exact h3, fun ho => h4 (hs.own r ho hlt)⟩
theorem Marks.append {μ : Mu} {m : AMem} {w : World} {lo mid : Nat} {ds ds' : List Deferred} (h : Marks μ m w lo ds) (h' : Marks μ m w mid ds') (hle : lo ≤ mid) (hlt : ∀ d ∈ ds, ∃ r, d = ⟨.collected r, #[]⟩ ∧ r < mid) :
    Marks μ m w lo (ds' ++ ds) := by
  refine ⟨fun d hd => ?_, ?_⟩
  · rcases List.mem_append.1 hd with hd | hd
    · obtain ⟨r, h1, h2, h3⟩ := h'.1 d hd; exact ⟨r, h1, by omega, h3⟩
    · exact h.1 d hd
  · refine List.nodup_append.2 ⟨h'.2, h.2, fun d hd e he hde => ?_⟩
    subst hde
    obtain ⟨r, h1, h2, _⟩ := h'.1 d hd
    obtain ⟨r', h3, h4⟩ := hlt d he
    rw [h1] at h3
    simp only [Deferred.mk.injEq, Target.collected.injEq, and_true] at h3
    omega

structure SStep (μ : Mu) (s : St) (a : Act) (w : World) (μ' : Mu) (s' : St) (a' : Act) (w' : World) : Prop where
  tm : TRel μ' s'.tm a'.tmps
  step : Step μ s.mem w μ' s'.mem w'
  size : a'.tmps.size = a.tmps.size
  marks : ∃ ds, a'.defers = ds ++ a.defers ∧ Marks μ' s'.mem w' w.heap.size ds

section
variable {μ μ₁ μ₂ : Mu} {s s₁ s₂ : St} {a a₁ a₂ : Act} {w w₁ w₂ : World}

theorem SStep.refl (hr : Rep μ s.mem w) (ht : TRel μ s.tm a.tmps) : SStep μ s a w μ s a w := ⟨ht, Step.refl hr, rfl, [], rfl, Marks.nil⟩
theorem SStep.trans (h : SStep μ s a w μ₁ s₁ a₁ w₁) (h' : SStep μ₁ s₁ a₁ w₁ μ₂ s₂ a₂ w₂) : SStep μ s a w μ₂ s₂ a₂ w₂ where
  tm := h'.tm
  step := h.step.trans h'.step
  size := h'.size.trans h.size
  marks := by
    obtain ⟨ds, h1, h2⟩ := h.marks
    obtain ⟨ds', h3, h4⟩ := h'.marks
    refine ⟨ds' ++ ds, by rw [h3, h1, List.append_assoc], (h2.step h'.step).append h4 h.step.size fun d hd => ?_⟩
    obtain ⟨r, e, _, e3, _⟩ := h2.1 d hd
    exact ⟨r, e, (Array.getElem?_eq_some_iff.1 e3).1⟩

theorem setDst_rel {tm : Tr AV} {tmps : Array Value} {d : Option Nat} {v : AV} {x : Value} (ht : TRel μ tm tmps) (hv : VRel μ v x) (hd : ∀ k, d = some k → k < tmps.size) :
    TRel μ (setDst tm d v) (match d with | some k => tmps.setIfInBounds k x | none => tmps) := by
  cases d with
  | none => exact ht
  | some k =>
    intro t
    have hk := hd k rfl
    by_cases h : t = k
    · subst h
      simp only [setDst, Tr.get_put_same, Option.getD_some]
      have : (tmps.setIfInBounds t x).getD t undef = x := by simp [Array.getD, hk]
      rw [this]; exact hv
    · simp only [setDst]
      rw [Tr.get_put_other _ _ h]
      have : (tmps.setIfInBounds k x).getD t undef = tmps.getD t undef := by
        simp only [Array.getD_eq_getD_getElem?]
        rw [Array.getElem?_setIfInBounds_ne (Ne.symm h)]
      rw [this]; exact ht t
theorem put_size (a : Act) (d : Option Nat) (x : Value) : (a.put d x).tmps.size = a.tmps.size := by
  cases d <;> simp [Act.put]
theorem put_defers (a : Act) (d : Option Nat) (x : Value) : (a.put d x).defers = a.defers := by
  cases d <;> rfl
theorem put_rel {tm : Tr AV} {d : Option Nat} {v : AV} {x : Value} (ht : TRel μ tm a.tmps) (hv : VRel μ v x) (hd : ∀ k, d = some k → k < a.tmps.size) :
    TRel μ (setDst tm d v) (a.put d x).tmps := by
  have := setDst_rel ht hv hd
  cases d <;> exact this
theorem undef_rel : VRel μ .undef undef := ⟨[], rfl, rfl⟩

theorem not_bool {v : AV} {x : Value} (h : VRel μ v x) (hv : ∀ b, v ≠ .bool b) : ∀ b, x ≠ .bool b := by
  intro b e
  subst e
  cases v <;> simp [VRel] at h
  exact hv _ rfl

/-- whether an operation is wanted -/
theorem wanted_eq {ops : Array Oper} {tm : Tr AV} {tmps : Array Value} {o : Oper} (hg : ∀ j want oj t, o.guard = some (j, want) → ops[j]? = some oj → oj.dst = some t → VRel μ ((tm.get t).getD .undef) (tmps.getD t undef)) :
    Region.wanted o (yielded ops tmps) = wanted ops tm o := by
  unfold Region.wanted wanted
  cases hgd : o.guard with
  | none => rfl
  | some p =>
    obtain ⟨j, want⟩ := p
    simp only
    unfold yielded
    cases hj : ops[j]? with
    | none => simp
    | some oj =>
      simp only [Option.bind_some]
      cases hd : oj.dst with
      | none => simp
      | some t =>
        simp only [Option.bind_some]
        have h := hg j want oj t hgd hj hd
        have hb : ∀ b, tmps.getD t undef = .bool b → (tm.get t).getD .undef = .bool b := by
          intro b e
          rw [e] at h
          revert h
          cases (tm.get t).getD AV.undef <;> intro h <;> simp [VRel] at h
          rw [h]
        have hne_of : (∀ b, tmps.getD t undef ≠ .bool b) → ∀ b, tm.get t ≠ some (.bool b) := by
          intro hne b e
          rw [e] at h
          exact hne b h
        cases hy : tmps[t]? with
        | none =>
          have hu : tmps.getD t undef = undef := by rw [Array.getD_eq_getD_getElem?, hy]; rfl
          have hne := hne_of (by rw [hu]; intro b e; cases e)
          refine Eq.trans (b := false) rfl (Eq.symm ?_)
          split
          · rename_i b e; exact absurd e (hne b)
          · rfl
        | some x =>
          have hu : tmps.getD t undef = x := by rw [Array.getD_eq_getD_getElem?, hy]; rfl
          cases x with
          | bool b =>
            have hv := hb b hu
            have : tm.get t = some (.bool b) := by
              cases hgt : tm.get t with
              | none => rw [hgt] at hv; cases hv
              | some y => rw [hgt] at hv; exact congrArg some hv
            rw [this]
            cases b <;> cases want <;> rfl
          | _ =>
            have hne := hne_of (by rw [hu]; intro b e; cases e)
            refine Eq.trans (b := false) rfl (Eq.symm ?_)
            split
            · rename_i b e; exact absurd e (hne b)
            · rfl
end

section
variable {E : Env} {P : Program} {call : CallF} {ro : Option Nat}

theorem dst_lt {nt : Nat} {o : Oper} (h : okDst nt o = true) : ∀ k, o.dst = some k → k < nt := by
  intro k hk
  unfold okDst at h
  rw [hk] at h
  rw [blt_iff] at h; exact h

theorem ops_sound (hE : EnvOK E P) (hc : CallOK P call) (hm : CallMono call) {ops : Array Oper} {Q : Exit → Act → World → Prop} : ∀ (l : List Oper) (s s' : St) (μ : Mu) (a : Act) (w : World), evOpsF l E call ops s = some s' →
    (∀ o ∈ l, okDst a.tmps.size o = true) → Rep μ s.mem w → TRel μ s.tm a.tmps → Fresh μ s.mem.next s'.mem.next →
    (∀ μ' a' w', SStep μ s a w μ' s' a' w' → Q .normal a' w') → wpListIn (fw ro) 0 P ops Q l a w
  | [], s, s', μ, a, w, h, _, hr, ht, _, hQ => by cases h; exact hQ μ a w (SStep.refl hr ht)
  | o :: l, s, s', μ, a, w, h, hd, hr, ht, hf, hQ => by
    have hw : Region.wanted o (yielded ops a.tmps) = wanted ops s.tm o := wanted_eq fun _ _ _ t _ _ _ => ht t
    have hdo := dst_lt (hd o (List.mem_cons_self ..))
    rcases evOpsF_cons h with ⟨h1, h2⟩ | ⟨h1, v, m, h2, h3⟩
    · simp only [wpListIn, hw, h1, Bool.false_eq_true, if_false]
      refine ⟨fun _ _ => trivial, ?_⟩
      have ht1 : TRel μ (setDst s.tm o.dst .undef) (a.put o.dst undef).tmps := put_rel ht undef_rel hdo
      refine ops_sound hE hc hm l _ s' μ _ w h2 (fun o' ho' => by rw [put_size]; exact hd o' (List.mem_cons_of_mem _ ho')) hr ht1 hf fun μ' a' w' hs => hQ μ' a' w' ?_
      exact ⟨hs.tm, hs.step, by rw [hs.size, put_size], by obtain ⟨ds, e1, e2⟩ := hs.marks; exact ⟨ds, by rw [e1, put_defers], e2⟩⟩
    · simp only [wpListIn, hw, h1, if_true]
      have hn := evOps_next hm ops l _ _ h3
      have hf1 : Fresh μ s.mem.next m.next := fun id a1 a2 => hf id a1 (Nat.lt_of_lt_of_le a2 hn)
      refine op_sound hE hc h2 hr (ht.orel _) hf1 _ _ fun x w₁ ⟨μ₁, hv, hst⟩ => ?_
      have ht1 : TRel μ₁ (setDst s.tm o.dst v) (a.put o.dst x).tmps := put_rel (ht.mono hst.le) hv hdo
      refine ops_sound hE hc hm l _ s' μ₁ _ w₁ h3 (fun o' ho' => by rw [put_size]; exact hd o' (List.mem_cons_of_mem _ ho')) hst.rep ht1 (hst.fresh hf) fun μ' a' w' hs => hQ μ' a' w' ?_
      refine SStep.trans (s₁ := ⟨setDst s.tm o.dst v, m⟩) (a₁ := a.put o.dst x) ⟨ht1, hst, put_size _ _ _, [], by rw [put_defers]; rfl, Marks.nil⟩ hs
end
end Ev
