/-
  Code, rounds of loops over functions, calls.
-/
import Derived.Test.YtfbcfmgmcldogaaGreatEv28
namespace Ev
open Go

def exitOf : Ex → Exit
  | .normal => .normal
  | .exit id => .exit id
  | .ret => .ret

/-- the record of the round that one is in -/
def InRound (ro : Option Nat) (μ : Mu) (m : AMem) : Prop := ∀ b, ro = some b → ∃ l L, μ l = some L ∧ L.b = b ∧ LoopAt m l

section
variable {E : Env} {P : Program} {call : CallF} {ro : Option Nat} {μ : Mu} {m : AMem} {w : World}

theorem InRound.step {μ' : Mu} {m' : AMem} (h : InRound ro μ m) (hle : μ.le μ') (hs : Soft m m') : InRound ro μ' m' := by
  intro b hb
  obtain ⟨l, L, h1, h2, h3⟩ := h b hb
  exact ⟨l, L, hle _ _ h1, h2, hs l h3⟩

/-- a block beside is laid -/
theorem Step.push {w' : World} {o : Obj} (h : Rep μ m w) (hw : w'.heap = w.heap.push o) (hr : w'.os = w.os ∧ w'.output = w.output ∧ w'.tape = w.tape) : Step μ m w μ m w' where
  next := Nat.le_refl _
  old := fun _ _ => rfl
  le := Mu.le_refl _
  rep := ⟨fun id A L hA hL => (h.blk id A L hA hL).heap (by
      have := (h.blk id A L hA hL).lt
      rw [hw, Array.getElem?_push, if_neg (by omega)]), h.inj⟩
  size := by rw [hw]; simp
  own := fun _ h _ => h
  frame := fun b hlt _ => by rw [hw, Array.getElem?_push, if_neg (by omega)]
  rest := hr

/-- a block beside, and newer than the beginning, is turned -/
theorem Step.aside {μ' : Mu} {m' : AMem} {w' w'' : World} (h : Step μ m w μ' m' w') {r : Nat} (hno : ¬ Owned μ' m' r) (hr : w.heap.size ≤ r) (ho : OnlyAt r w' w'') : Step μ m w μ' m' w'' where
  next := h.next
  old := h.old
  le := h.le
  rep := ⟨fun id A L hA hL => (h.rep.blk id A L hA hL).heap (ho.other _ fun e => hno ⟨id, A, L, hA, hL, e⟩), h.rep.inj⟩
  size := by rw [ho.size]; exact h.size
  own := h.own
  frame := fun b hb hn => by rw [ho.other b (by omega)]; exact h.frame b hb hn
  rest := ⟨ho.rest.1.trans h.rest.1, ho.rest.2.1.trans h.rest.2.1, ho.rest.2.2.trans h.rest.2.2⟩

theorem run_getLoop {b : Nat} {R : Loop} (h : w.heap[b]? = some (.loop R)) : (Instr.getLoop b).run P w = .ok R w := by
  simp [Instr.getLoop, getObj, Sem.run, h]
theorem run_setLoop {b : Nat} {R : Loop} (o : Obj) (h : w.heap[b]? = some (.loop R)) : (setObj b o).run P w = .ok () { w with heap := w.heap.setIfInBounds b o } := by
  simp [setObj, Sem.run, h]
theorem setLoop_step (hr : Rep μ m w) {id : Nat} {A B : ABlk} {L : Loc} (hg : m.get id = some A) (hL : μ id = some L) {R : Loop} (hB : ∀ w' : World, w'.heap[L.b]? = some (.loop R) → BRel μ B L w') :
    Step μ m w μ (m.put id B) { w with heap := w.heap.setIfInBounds L.b (.loop R) } := by
  have hlt := (hr.blk _ _ _ hg hL).lt
  refine Step.write hr hg hL ⟨by simp, fun b' hb => by simp [Ne.symm hb], rfl, rfl, rfl⟩ (hB _ (by simp [hlt]))

theorem pend_code {e : Ex} (h : e ≠ .normal) : ∃ c, exCode e = some c ∧ (∀ {Q : Exit → Act → World → Prop} {a : Act} {w : World}, Q (exitOf e) a w → c.wpIn (fw ro) 0 P Q a w) := by
  cases e with
  | normal => exact absurd rfl h
  | exit id => exact ⟨.exit id, rfl, fun h => wpIn_exit h⟩
  | ret => exact ⟨.ret, rfl, fun h => wpIn_ret h⟩

theorem code_sound (hE : EnvOK E P) (hc : CallOK P call) (hm : CallMono call) (hk : CallKeeps call) (fuel : Nat) : ∀ (c : Code) (s s' : St) (ex : Ex) (μ : Mu) (a : Act) (w : World) (Q : Exit → Act → World → Prop), evCodeF c E call fuel s = some (ex, s') →
    okCode a.tmps.size c = true → Rep μ s.mem w → TRel μ s.tm a.tmps → Fresh μ s.mem.next s'.mem.next → InRound ro μ s.mem → (∀ μ' a' w', SStep μ s a w μ' s' a' w' → Q (exitOf ex) a' w') → c.wpIn (fw ro) 0 P Q a w := by
  intro c
  induction c with
  | skip => intro s s' ex μ a w Q h _ hr ht _ _ hQ; cases h; exact wpIn_skip (hQ μ a w (SStep.refl hr ht))
  | exit id => intro s s' ex μ a w Q h _ hr ht _ _ hQ; cases h; exact wpIn_exit (hQ μ a w (SStep.refl hr ht))
  | ret => intro s s' ex μ a w Q h _ hr ht _ _ hQ; cases h; exact wpIn_ret (hQ μ a w (SStep.refl hr ht))
  | region id ops draw =>
    intro s s' ex μ a w Q h hok hr ht hf _ hQ
    obtain ⟨rfl, hreg⟩ := region_some h
    simp only [okCode, Bool.and_eq_true, Bool.or_eq_true, Bool.not_eq_true'] at hok
    have hd : ∀ o ∈ ops.toList, okDst a.tmps.size o = true := List.all_eq_true.1 hok.1
    cases draw with
    | false => exact wpIn_region_list (ops_sound hE hc hm ops.toList s s' μ a w hreg hd hr ht hf hQ)
    | true =>
      rcases hok.2 with h0 | h0
      · cases h0
      · exact draw_sound hE hc hm hreg h0 hd hr ht hf hQ
  | seq x y ihx ihy =>
    intro s s' ex μ a w Q h hok hr ht hf hin hQ
    simp only [okCode, Bool.and_eq_true] at hok
    refine wpIn_seq ?_
    rcases seq_some h with ⟨s₁, h1, h2⟩ | ⟨hne, h1⟩
    · have hn := evCode_next hm y fuel _ _ _ h2
      refine ihx s s₁ .normal μ a w _ h1 hok.1 hr ht (fun id a1 a2 => hf id a1 (by omega)) hin fun μ₁ a₁ w₁ hs => ?_
      exact ihy s₁ s' ex μ₁ a₁ w₁ Q h2 (by rw [hs.size]; exact hok.2) hs.step.rep hs.tm (hs.step.fresh hf) (hin.step hs.step.le (evCode_soft hk x fuel _ _ _ h1)) fun μ₂ a₂ w₂ hs₂ => hQ μ₂ a₂ w₂ (hs.trans hs₂)
    · refine ihx s s' ex μ a w _ h1 hok.1 hr ht hf hin fun μ₁ a₁ w₁ hs => ?_
      have := hQ μ₁ a₁ w₁ hs
      cases ex with
      | normal => exact absurd rfl hne
      | exit id => exact this
      | ret => exact this
  | cond c x y ihx ihy =>
    intro s s' ex μ a w Q h hok hr ht hf hin hQ
    simp only [okCode, Bool.and_eq_true] at hok
    obtain ⟨b, hb, h⟩ := cond_some h
    refine wpIn_cond (t := b) (rd_rel ht c hb) ?_
    cases b with
    | true => exact ihx s s' ex μ a w Q h hok.1 hr ht hf hin hQ
    | false => exact ihy s s' ex μ a w Q h hok.2 hr ht hf hin hQ
  | block id c ih =>
    intro s s' ex μ a w Q h hok hr ht hf hin hQ
    obtain ⟨e₁, h, hx⟩ := block_some h
    refine wpIn_block (ih s s' e₁ μ a w _ h hok hr ht hf hin fun μ₁ a₁ w₁ hs => ?_)
    have := hQ μ₁ a₁ w₁ hs
    rcases hx with ⟨rfl, rfl⟩ | ⟨hne, rfl⟩
    · simp only [exitOf, Exit.inBlock, if_true]; exact this
    · cases ex with
      | normal => exact this
      | ret => exact this
      | exit j =>
        simp only [exitOf, Exit.inBlock]
        rw [if_neg (fun e => hne (by rw [e]))]; exact this
  | loop c ih =>
    intro s s' ex μ a w Q h hok hr ht hf hin hQ
    rw [loop_some] at h
    refine wpIn_loop_rounds fuel ?_
    have key : ∀ n (s : St) (μ₀ : Mu) (a : Act) (w : World), loopF n (evCodeF c E call fuel) s = some (ex, s') → okCode a.tmps.size c = true → Rep μ₀ s.mem w → TRel μ₀ s.tm a.tmps → Fresh μ₀ s.mem.next s'.mem.next → InRound ro μ₀ s.mem →
        (∀ μ' a' w', SStep μ₀ s a w μ' s' a' w' → Q (exitOf ex) a' w') → Code.roundsIn (fw ro) 0 P c Q n a w := by
      intro n
      induction n with
      | zero => intro s μ₀ a w h; cases h
      | succ n ihn =>
        intro s μ₀ a w h hok hr ht hf hin hQ
        rw [roundsIn_succ]
        rcases loopF_succ h with ⟨s₁, h1, h2⟩ | ⟨hne, h1⟩
        · have hn : s₁.mem.next ≤ s'.mem.next := by
            have : evCodeF (.loop c) E call fuel s₁ = loopF fuel (evCodeF c E call fuel) s₁ := rfl
            have gen : ∀ n s s' ex, loopF n (evCodeF c E call fuel) s = some (ex, s') → s.mem.next ≤ s'.mem.next := by
              intro n
              induction n with
              | zero => intro s s' ex h; cases h
              | succ n ihn =>
                intro s s' ex h
                rcases loopF_succ h with ⟨s₁, h1, h2⟩ | ⟨_, h1⟩
                · exact Nat.le_trans (evCode_next hm c _ _ _ _ h1) (ihn _ _ _ h2)
                · exact evCode_next hm c _ _ _ _ h1
            exact gen _ _ _ _ h2
          refine ih s s₁ .normal μ₀ a w _ h1 hok hr ht (fun id a1 a2 => hf id a1 (by omega)) hin fun μ₁ a₁ w₁ hs => ?_
          exact ihn s₁ μ₁ a₁ w₁ h2 (by rw [hs.size]; exact hok) hs.step.rep hs.tm (hs.step.fresh hf) (hin.step hs.step.le (evCode_soft hk c fuel _ _ _ h1)) fun μ₂ a₂ w₂ hs₂ => hQ μ₂ a₂ w₂ (hs.trans hs₂)
        · refine ih s s' ex μ₀ a w _ h1 hok hr ht hf hin fun μ₁ a₁ w₁ hs => ?_
          have := hQ μ₁ a₁ w₁ hs
          cases ex with
          | normal => exact absurd rfl hne
          | exit id => exact this
          | ret => exact this
    exact key fuel s μ a w h hok hr ht hf hin hQ
  | rangeFunc g ps x y ihx ihy =>
    intro s s' ex μ a w Q h hok hr ht hf hin hQ
    obtain ⟨f, first, captured, r, m', st, pend, tm, qs, asg, bd, hg, hbd, hcall, hget, hst, rfl, rfl⟩ := range_some h
    simp only [okCode, Bool.and_eq_true] at hok
    obtain ⟨⟨hps, hokx⟩, hoky⟩ := hok
    obtain ⟨fs, cs, eg, e2, e3⟩ := rd_rel ht g hg
    have hn := hm _ _ _ _ _ hcall
    simp only [AMem.add_next] at hn
    simp only [AMem.put_next] at hf
    have hfree : μ s.mem.next = none := hf _ (Nat.le_refl _) (by omega)
    -- the function that is ranged over has a body
    have hent : ∀ args w, (callFunc f args).run P w = .ok (.enter f args) w := by
      intro args w
      unfold hasBody at hbd
      split at hbd
      · rename_i fn hfn
        obtain ⟨p1, p2, _⟩ := hE.fn f fn hfn
        split at hbd
        · rename_i body hb
          have hn := p2 (by rw [hb]; rfl)
          simp [callFunc, p1, hb, hn]
        · cases hbd
      · cases hbd
    -- the rest, wherever the record has been laid
    have rest : ∀ (fn : FuncId) (l : Nat) (mark : List Deferred) (dfs : Nat) (w₀ : World), Step μ s.mem w μ s.mem w₀ → l = w₀.heap.size → Marks μ s.mem w₀ w.heap.size mark →
        (Instr.enterLoop fn a.tmps ps x y ro).run P w = .ok (l, mark) { w₀ with heap := w₀.heap.push (.loop { state := .ready, pending := none, fn, tmps := a.tmps, params := ps, assign := x, body := y, defers := dfs }) } →
        ∃ (l : Nat) (mark : List Deferred) (w₁ : World) (d : Deferred) (w₁' : World) (f : FuncId) (args : Array Value) (w₂ : World),
          (Instr.enterLoop fn a.tmps ps x y (fw ro).round).run P w = .ok (l, mark) w₁ ∧ (resolve a.eval (rangeCall g l) 0).run P w₁ = .ok d w₁' ∧ (∀ f', Target.leads P w₁' d.target d.args = some f' → (fw ro).fn f') ∧
          (invoke d.target d.args).run P w₁' = .ok (.enter f args) w₂ ∧ ((fw ro).depth.isSome = true → 1 ≤ 0) ∧ CallsIn (fw ro) (0 - 1) P f args w₂ (rangePost (fw ro) 0 P l Q { a with defers := mark ++ a.defers }) := by
      intro fn l mark dfs w₀ hs0 hl hmk hrun
      subst hl
      have hlay : Step μ s.mem w₀ (μ.with s.mem.next ⟨w₀.heap.size, 0, 0⟩) (s.mem.add (.loop .ready none s.tm ps.toList x y))
          { w₀ with heap := w₀.heap.push (.loop { state := .ready, pending := none, fn, tmps := a.tmps, params := ps, assign := x, body := y, defers := dfs }) } := by
        refine Step.alloc hs0.rep hfree rfl ⟨rfl, rfl, rfl⟩ ⟨{ state := .ready, pending := none, fn, tmps := a.tmps, params := ps, assign := x, body := y, defers := dfs }, by simp, rfl, rfl, rfl, rfl, rfl, ht.mono (Mu.le_with hfree), hokx, hoky, ?_, fun e he => by cases he⟩
        intro p hp
        have := List.all_eq_true.1 hps p hp
        rw [blt_iff] at this
        exact this
      generalize ({ w₀ with heap := w₀.heap.push (.loop { state := .ready, pending := none, fn, tmps := a.tmps, params := ps, assign := x, body := y, defers := dfs }) } : World) = w₁ at hrun hlay
      refine ⟨w₀.heap.size, mark, w₁, ⟨.fn (.func f) ⟨cs⟩, ⟨fs⟩ ++ #[.func (.yield w₀.heap.size) #[] #[]]⟩, w₁, f, ⟨fs⟩ ++ #[.func (.yield w₀.heap.size) #[] #[]] ++ ⟨cs⟩, w₁, hrun, ?_, fun _ _ => trivial, ?_, fun h => (by simp [fw, Fence.wide] at h), ?_⟩
      · have hmp : (#[Operand.const (.func (.yield w₀.heap.size) #[] #[])].map a.eval) = #[.func (.yield w₀.heap.size) #[] #[]] := by simp [Act.eval]
        simp only [resolve, hmp, eg, Deferred.ofValue, Sem.run_pure]
      · simp only [invoke]; exact hent _ _
      · have hv : VsRel (μ.with s.mem.next ⟨w₀.heap.size, 0, 0⟩) (first ++ .yieldf s.mem.next :: captured) (fs ++ .func (.yield w₀.heap.size) #[] #[] :: cs) :=
          (e2.mono hlay.le).append (.cons ⟨_, Mu.with_same _ _ _, rfl⟩ (e3.mono hlay.le))
        have hargs : (⟨fs⟩ ++ #[.func (.yield w₀.heap.size) #[] #[]] ++ ⟨cs⟩ : Array Value) = ⟨fs ++ .func (.yield w₀.heap.size) #[] #[] :: cs⟩ := by apply Array.ext'; simp
        rw [hargs]
        have hfr : Fresh (μ.with s.mem.next ⟨w₀.heap.size, 0, 0⟩) (s.mem.add (.loop .ready none s.tm ps.toList x y)).next m'.next := by
          intro id a1 a2
          simp only [AMem.add_next] at a1
          rw [Mu.with_other _ _ (by omega)]
          exact hf id (by omega) a2
        rcases hc.fn f _ _ _ _ hcall _ _ _ hlay.rep hv hfr with ⟨_, hci⟩ | ⟨v, w', h1, _⟩
        · refine CallsIn.mono (CallsIn.any hci ro) fun e w' he => ?_
          cases e with
          | panicked c => exact he.elim
          | outgrown => exact he.elim
          | returned v =>
            obtain ⟨μ', hv', hst'⟩ := he
            have hL : μ' s.mem.next = some ⟨w₀.heap.size, 0, 0⟩ := hst'.le _ _ (Mu.with_same _ _ _)
            obtain ⟨R, b1, b2, b3, b4, b5, b6, b7, b8, b9, b10, b11⟩ := hst'.rep.blk _ _ _ hget hL
            have hnb : (R.state == .busy) = false := by rw [b2]; cases st <;> first | rfl | exact absurd rfl hst
            have hend : (Instr.endLoop w₀.heap.size).run P w' = .ok R.pending { w' with heap := w'.heap.setIfInBounds w₀.heap.size (.loop { R with state := .exhausted }) } := by
              simp only [Instr.endLoop, Sem.run_bind, run_getLoop b1, Result.andThen_ok, hnb, Bool.false_eq_true, if_false, run_setLoop _ b1, Sem.run_pure]
            have hfin : Step μ' m' w' μ' (m'.put s.mem.next (.loop .exhausted pend tm qs asg bd)) { w' with heap := w'.heap.setIfInBounds w₀.heap.size (.loop { R with state := .exhausted }) } :=
              setLoop_step (L := ⟨w₀.heap.size, 0, 0⟩) hst'.rep hget hL fun w'' hw'' => ⟨_, hw'', rfl, b3, b4, b5, b6, b7, b8, b9, b10, b11⟩
            have hall := ((hs0.trans hlay).trans hst').trans hfin
            have hSS : SStep μ s a w μ' ⟨s.tm, m'.put s.mem.next (.loop .exhausted pend tm qs asg bd)⟩ { a with defers := mark ++ a.defers } { w' with heap := w'.heap.setIfInBounds w₀.heap.size (.loop { R with state := .exhausted }) } :=
              ⟨ht.mono hall.le, hall, rfl, mark, rfl, hmk.step ((hlay.trans hst').trans hfin)⟩
            have hq := hQ _ _ _ hSS
            refine ⟨R.pending, _, hend, ?_⟩
            split
            · rename_i hn
              cases pend with
              | none => exact hq
              | some e =>
                obtain ⟨c, hc1, _⟩ := pend_code (P := P) (ro := ro) (b11 e rfl)
                rw [hn, Option.bind_some, hc1] at b3; cases b3
            · rename_i c' hs
              cases pend with
              | none => rw [hs] at b3; cases b3
              | some e =>
                obtain ⟨c, hc1, hc2⟩ := pend_code (P := P) (ro := ro) (b11 e rfl)
                rw [hs, Option.bind_some, hc1] at b3; cases b3
                exact hc2 hq
        · rw [hent] at h1; cases h1
    refine wpIn_rangeFunc fun fn _ => ?_
    cases hro : ro with
    | none =>
      subst hro
      refine rest fn (w.heap.size + 1) [⟨.collected w.heap.size, #[]⟩] w.heap.size { w with heap := w.heap.push (.deferred (some [])) } (Step.push hr rfl ⟨rfl, rfl, rfl⟩) (by simp) ?_ ?_
      · refine ⟨fun d hd => ?_, by simp⟩
        rw [List.mem_singleton] at hd
        refine ⟨w.heap.size, hd, Nat.le_refl _, by simp, ?_⟩
        rintro ⟨id, A, L, h1, h2, h3⟩
        have := (hr.blk _ _ _ h1 h2).lt
        omega
      · simp [Instr.enterLoop]
        rfl
    | some b =>
      subst hro
      obtain ⟨l, L, h1, h2, st', pend', tm', ps', asg', bd', h3⟩ := hin b rfl
      obtain ⟨R, b1, _⟩ := hr.blk _ _ _ h3 h1
      rw [h2] at b1
      refine rest fn w.heap.size [] R.defers w (Step.refl hr) rfl Marks.nil ?_
      simp [Instr.enterLoop, run_getLoop b1]
  | _ => intro s s' ex μ a w Q h; cases h
end
end Ev
