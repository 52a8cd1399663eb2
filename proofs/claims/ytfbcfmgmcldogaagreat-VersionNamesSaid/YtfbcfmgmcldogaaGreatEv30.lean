/-
  Calls.
-/
import Derived.Test.YtfbcfmgmcldogaaGreatEv29
namespace Ev
open Go

section
variable {E : Env} {P : Program} {call : CallF} {μ : Mu} {m m' : AMem} {w : World}

theorem setPs_rel : ∀ (ps : List Nat) (args : List AV) (vs : List Value) (tm : Tr AV) (tmps : Array Value), TRel μ tm tmps → VsRel μ args vs → (∀ p ∈ ps, p < tmps.size) →
    TRel μ (setPs ps args tm) ((ps.zip vs).foldl (fun tmps (t, a) => tmps.setIfInBounds t a) tmps) ∧ ((ps.zip vs).foldl (fun tmps (t, a) => tmps.setIfInBounds t a) tmps).size = tmps.size
  | [], _, _, tm, tmps, ht, _, _ => ⟨by simpa [setPs] using ht, rfl⟩
  | p :: ps, [], vs, tm, tmps, ht, hv, _ => by cases hv; exact ⟨by simpa [setPs] using ht, rfl⟩
  | p :: ps, a :: args, _, tm, tmps, ht, ⟨v, vs, rfl, h1, h2⟩, hp => by
    have ht1 : TRel μ (tm.put p (some a)) (tmps.setIfInBounds p v) := setDst_rel (d := some p) ht h1 (fun k hk => by cases hk; exact hp p (List.mem_cons_self ..))
    obtain ⟨g1, g2⟩ := setPs_rel ps args vs _ _ ht1 h2 (fun q hq => by simpa using hp q (List.mem_cons_of_mem _ hq))
    exact ⟨by simpa [setPs] using g1, by simpa using g2⟩

theorem initTm_get : ∀ (args : List AV) (i : Nat) (t : Tr AV) (k : Nat), (initTm args i t).get k = if i ≤ k then (match args[k - i]? with | some a => some a | none => t.get k) else t.get k
  | [], i, t, k => by simp [initTm]
  | a :: r, i, t, k => by
    rw [initTm, initTm_get r (i + 1) _ k]
    by_cases h : i = k
    · subst h
      rw [if_neg (by omega), if_pos (Nat.le_refl _), Nat.sub_self]
      simp [Tr.get_put_same]
    · rw [Tr.get_put_other _ _ (fun e => h e.symm)]
      by_cases h' : i ≤ k
      · rw [if_pos (by omega), if_pos h', show k - i = (k - (i + 1)) + 1 by omega, List.getElem?_cons_succ]
      · rw [if_neg (by omega), if_neg h']

theorem initTm_rel {args : List AV} {vs : List Value} (hv : VsRel μ args vs) (n : Nat) : TRel μ (initTm args 0 .nil) ((⟨vs⟩ : Array Value) ++ Array.replicate n undef) := by
  intro t
  rw [initTm_get, if_pos (Nat.zero_le _), Nat.sub_zero]
  have hl := hv.length
  by_cases h : t < args.length
  · obtain ⟨v, h1, h2⟩ := hv.get t args[t] (by simp)
    have hvt : ((⟨vs⟩ : Array Value) ++ Array.replicate n undef).getD t undef = v := by
      rw [Array.getD_eq_getD_getElem?, Array.getElem?_append_left (by simp; omega)]
      simp [h1]
    rw [hvt]
    simp [h, h2]
  · have hvt : ((⟨vs⟩ : Array Value) ++ Array.replicate n undef).getD t undef = undef := by
      rw [Array.getD_eq_getD_getElem?, Array.getElem?_append_right (by simp; omega)]
      simp only [Array.getElem?_replicate]
      split <;> rfl
    rw [hvt, List.getElem?_eq_none (by omega)]
    have : (Tr.nil : Tr AV).get t = none := rfl
    simp only [this]
    exact undef_rel

/-! ### Rounds -/
theorem round_ok {E : Env} (hE : EnvOK E P) (n : Nat) (hc : CallOK P (evCall E n)) (l : Nat) {args : List AV} {r : AV} (h : evCall E (n + 1) (.yield l) args m = some (r, m')) {vs : List Value} {L : Loc} (hr : Rep μ m w) (hL : μ l = some L) (hv : VsRel μ args vs)
    (hf : Fresh μ m.next m'.next) : YieldRuns P L.b vs w (Good μ m w r m') := by
  have hm := evCall_mono hE.grows n
  have hk := evCall_keeps hE.keeps n
  obtain ⟨st, pend, tm, ps, asg, bd, s, pend', tm', ps', asg', bd', ex, s₂, st₃, pend₃, tm₃, ps₃, asg₃, bd₃, g0, hlen, g1, g2, g3, g4, g5⟩ := round_some h
  obtain ⟨R, b1, b2, b3, b4, b5, b6, b7, b8, b9, b10, b11⟩ := hr.blk _ _ _ g0 hL
  have hsz : R.params.size = vs.length := by rw [← Array.length_toList, b4, ← hlen, hv.length]
  have hfold : (R.params.zip ⟨vs⟩).foldl (fun tmps (t, a) => tmps.setIfInBounds t a) R.tmps = (ps.zip vs).foldl (fun tmps (t, a) => tmps.setIfInBounds t a) R.tmps := by
    rw [← Array.foldl_toList, Array.toList_zip, b4]
  obtain ⟨t1, t2⟩ := setPs_rel ps args vs tm R.tmps b7 hv b10
  refine ⟨R.fn, (R.params.zip ⟨vs⟩).foldl (fun tmps (t, a) => tmps.setIfInBounds t a) R.tmps, R.assign, R.body, w, ?_, ?_⟩
  · simp only [Instr.yield, Sem.run_bind, run_getLoop b1, Result.andThen_ok]
    rw [if_neg (by simp [hsz])]
    rfl
  · rw [hfold, b5, b6]
    have hn1 := evCode_next hm asg n _ _ _ g1
    have hn2 := evCode_next hm bd n _ _ _ g3
    simp only [AMem.put_next] at hn2
    have hn3 : m'.next = s₂.mem.next := by rcases g5 with ⟨_, _, rfl⟩ | ⟨_, _, rfl⟩ <;> rfl
    have hin : InRound (some L.b) μ m := fun b hb => by cases hb; exact ⟨l, L, hL, rfl, _, _, _, _, _, _, g0⟩
    refine roundIn_of_wpIn trivial ?_
    refine code_sound (ro := some L.b) hE hc hm hk n asg ⟨setPs ps args tm, m⟩ s .normal μ ⟨_, []⟩ w _ g1 (by rw [t2]; exact b8) hr t1 (fun id a1 a2 => hf id a1 (by omega)) hin fun μ₁ a₁ w₁ hs => ?_
    have hL1 := hs.step.le _ _ hL
    obtain ⟨R1, c1, c2, c3, c4, c5, c6, c7, c8, c9, c10, c11⟩ := hs.step.rep.blk _ _ _ g2 hL1
    have hbusy : Step μ₁ s.mem w₁ μ₁ (s.mem.put l (.loop .busy pend' tm' ps' asg' bd')) { w₁ with heap := w₁.heap.setIfInBounds L.b (.loop { R1 with state := .busy }) } :=
      setLoop_step hs.step.rep g2 hL1 fun w'' hw'' => ⟨_, hw'', rfl, c3, c4, c5, c6, c7, c8, c9, c10, c11⟩
    refine ⟨{ w₁ with heap := w₁.heap.setIfInBounds L.b (.loop { R1 with state := .busy }) }, ?_, ?_⟩
    · simp only [Instr.beginRound, Sem.run_bind, run_getLoop c1, Result.andThen_ok, run_setLoop _ c1, c2, Sem.run_pure]
    · have hin1 : InRound (some L.b) μ₁ (s.mem.put l (.loop .busy pend' tm' ps' asg' bd')) := fun b hb => by cases hb; exact ⟨l, L, hL1, rfl, _, _, _, _, _, _, AMem.get_put_same _ _ _ (AMem.get_lt g2)⟩
      have hf1 := (hs.step.trans hbusy).fresh (b := m'.next) hf
      refine code_sound (ro := some L.b) hE hc hm hk n bd ⟨s.tm, s.mem.put l (.loop .busy pend' tm' ps' asg' bd')⟩ s₂ ex μ₁ a₁ _ _ g3 (by rw [hs.size, t2]; exact b9) hbusy.rep hs.tm (fun id a1 a2 => hf1 id a1 (by omega)) hin1 fun μ₂ a₂ w₂ hs₂ => ?_
      have hL2 := hs₂.step.le _ _ hL1
      obtain ⟨R2, d1, d2, d3, d4, d5, d6, d7, d8, d9, d10, d11⟩ := hs₂.step.rep.blk _ _ _ g4 hL2
      have hend : ∀ (jump : Option Code), (Instr.endRound L.b jump).run P w₂ = .ok (.bool jump.isNone) { w₂ with heap := w₂.heap.setIfInBounds L.b (.loop { R2 with state := if jump.isNone then .ready else .done, pending := jump }) } := by
        intro jump
        simp only [Instr.endRound, Sem.run_bind, run_getLoop d1, Result.andThen_ok, run_setLoop _ d1, Sem.run_pure]
      have hall := (hs.step.trans hbusy).trans hs₂.step
      rcases g5 with ⟨rfl, rfl, rfl⟩ | ⟨hne, rfl, rfl⟩
      · refine ⟨_, _, hend none, μ₂, rfl, hall.trans (setLoop_step hs₂.step.rep g4 hL2 fun w'' hw'' => ⟨_, hw'', rfl, rfl, d4, d5, d6, d7, d8, d9, d10, fun e he => by cases he⟩)⟩
      · have fin : ∀ c, exCode ex = some c → ∃ v w', (Instr.endRound L.b (some c)).run P w₂ = .ok v w' ∧ EndsIn (Good μ m w (.bool false) (s₂.mem.put l (.loop .done (some ex) tm₃ ps₃ asg₃ bd₃))) (.returned v) w' := fun c hcx =>
          ⟨_, _, hend (some c), μ₂, rfl, hall.trans (setLoop_step hs₂.step.rep g4 hL2 fun w'' hw'' => ⟨_, hw'', rfl, hcx.symm, d4, d5, d6, d7, d8, d9, d10, fun e he => by cases he; exact hne⟩)⟩
        cases ex with
        | normal => exact absurd rfl hne
        | exit id => exact fin _ rfl
        | ret => exact fin _ rfl

/-! ### Results -/
def resOf (tmps : Array Value) : ResultVar → Sem Value
  | .tmp t => pure (tmps.getD t undef)
  | .cell p t => do loadVar t (← asAddr (tmps.getD p undef))
theorem results_eq (fn : Func) (tmps : Array Value) : results fn tmps = (do
    let vs ← fn.results.mapM (resOf tmps)
    pure (if h : vs.size = 1 then vs[0] else .tuple vs)) := rfl

theorem result_run (hE : TyOK E P) {s : St} {a : Act} {x : ResultVar} {r : AV} (h : evResult E s x = some r) (hr : Rep μ s.mem w) (ht : TRel μ s.tm a.tmps) :
    ∃ v, (resOf a.tmps x).run P w = .ok v w ∧ VRel μ r v := by
  cases x with
  | tmp t =>
    simp only [evResult, Option.some.injEq] at h
    subst h
    exact ⟨_, rfl, ht t⟩
  | cell p t =>
    simp only [evResult] at h
    split at h
    · rename_i v m₁ hv
      cases h
      obtain ⟨_, v, g1, g2⟩ := load_good hE hr hv (ht p)
      refine ⟨v, ?_, g2⟩
      unfold resOf
      -- the address is one
      unfold evLoad at hv
      cases hi : E.ty t with
      | none => rw [hi] at hv; cases hv
      | some i =>
        rw [hi] at hv
        cases hp : ((s.tm.get p).getD .undef).asPtr with
        | none => simp only [hp] at hv; cases hv
        | some q =>
          have hq := asPtr_eq hp
          have h0 := ht p
          rw [hq] at h0
          obtain ⟨L, hL, e⟩ := h0
          simp only at g1 ⊢
          rw [e] at g1 ⊢
          simpa [Instr.loadAt, Instr.sureAddr, asAddr] using g1
    · cases h

theorem results_run (hE : TyOK E P) {s : St} {a : Act} {fn : Func} {r : AV} {m : AMem} (h : evLeave E fn s = some (r, m)) (hr : Rep μ s.mem w) (ht : TRel μ s.tm a.tmps) :
    ∃ v, (results fn a.tmps).run P w = .ok v w ∧ VRel μ r v := by
  have key : ∀ (l : List ResultVar) (rs : List AV), evResults E s l = some rs → ∃ vs : List Value, (l.mapM (resOf a.tmps)).run P w = .ok vs w ∧ VsRel μ rs vs := by
    intro l
    induction l with
    | nil => intro rs h; cases h; exact ⟨[], rfl, rfl⟩
    | cons x l ih =>
      intro rs h
      simp only [evResults] at h
      split at h
      · rename_i b hb
        split at h
        · rename_i bs hbs
          cases h
          obtain ⟨v, g1, g2⟩ := result_run hE hb hr ht
          obtain ⟨vs, g3, g4⟩ := ih bs hbs
          refine ⟨v :: vs, ?_, .cons g2 g4⟩
          rw [List.mapM_cons]
          simp only [Sem.run_bind, Sem.run_pure, Result.andThen_ok, g1, g3]
        · cases h
      · cases h
  unfold evLeave at h
  have conv : ∀ (rs : List AV) (vs : List Value), evResults E s fn.results.toList = some rs → (∃ vs : List Value, (results fn a.tmps).run P w = .ok (if h : (⟨vs⟩ : Array Value).size = 1 then (⟨vs⟩ : Array Value)[0] else .tuple ⟨vs⟩) w ∧ VsRel μ rs vs) := by
    intro rs _ hrs
    obtain ⟨vs, g1, g2⟩ := key _ _ hrs
    refine ⟨vs, ?_, g2⟩
    rw [results_eq, Array.mapM_eq_mapM_toList]
    simp only [Sem.run_bind, map_eq_pure_bind, Sem.run_pure, g1, Result.andThen_ok]
  split at h
  · rename_i b hrs
    cases h
    obtain ⟨vs, g1, g2⟩ := conv _ [] hrs
    obtain ⟨v, _, rfl, g3, rfl⟩ := g2
    exact ⟨v, by simpa using g1, g3⟩
  · rename_i l hne hrs
    cases h
    obtain ⟨vs, g1, g2⟩ := conv _ [] hrs
    have hl := g2.length
    refine ⟨.tuple ⟨vs⟩, ?_, ⟨vs, rfl, g2⟩⟩
    rw [g1, dif_neg]
    intro h1
    have : l.length = 1 := by rw [hl]; simpa using h1
    match l, this with
    | [b], _ => exact hne b rfl
  · cases h

/-! ### Functions -/
theorem leaves_ok {fn : Func} {tmps : Array Value} {R : Ending → World → Prop} {μ' : Mu} {m' : AMem} (hres : ∀ w', Step μ m w μ' m' w' → ∃ v, (results fn tmps).run P w' = .ok v w' ∧ R (.returned v) w') : ∀ (ds : List Deferred) (w' : World),
    Marks μ' m' w' w.heap.size ds → Step μ m w μ' m' w' → LeavesInM (fw none) 0 P fn tmps R ds .returning w'
  | [], w', _, hs => hres w' hs
  | d :: ds, w', hmk, hs => by
    obtain ⟨r, rfl, h2, h3, h4⟩ := hmk.1 d (List.mem_cons_self ..)
    have hlt : r < w'.heap.size := (Array.getElem?_eq_some_iff.1 h3).1
    have ho : OnlyAt r w' { w' with heap := w'.heap.setIfInBounds r (.deferred none) } := ⟨by simp, fun b' hb => by simp [Ne.symm hb], rfl, rfl, rfl⟩
    refine ⟨by simp, .inl ⟨r, { w' with heap := w'.heap.setIfInBounds r (.deferred none) }, rfl, ?_, ?_⟩⟩
    · simp [Instr.takeDeferred, getObj, setObj, Sem.run, h3]
    · refine leaves_ok hres ds _ ⟨fun d hd => ?_, (List.nodup_cons.1 hmk.2).2⟩ (hs.aside h4 h2 ho)
      obtain ⟨r', e1, e2, e3, e4⟩ := hmk.1 d (List.mem_cons_of_mem _ hd)
      have hne : r' ≠ r := by
        intro e; subst e; subst e1
        exact (List.nodup_cons.1 hmk.2).1 hd
      exact ⟨r', e1, e2, by rw [ho.other r' hne]; exact e3, e4⟩

theorem fn_ok {E : Env} (hE : EnvOK E P) (n : Nat) (hc : CallOK P (evCall E n)) (f : Nat) : FnOK P f (evCall E (n + 1) (.fn f)) := by
  intro args m r m' h μ w vs hr hv hf
  have hm := evCall_mono hE.grows n
  have hk := evCall_keeps hE.keeps n
  rcases fn_some h with ⟨o, h1, h2⟩ | ⟨fn, body, ex, s, h1, h2, h3, h4, h5, h6⟩
  · exact hE.orc f o h1 _ _ _ _ h2 μ w vs hr hv hf
  · obtain ⟨p1, p2, p3⟩ := hE.fn f fn h1
    have hn := p2 (by rw [h2]; rfl)
    have hme := evLeave_same h6
    subst hme
    refine .inl ⟨by simp [callFunc, p1, h2, hn], ?_⟩
    have hok : okCode fn.ntmps body = true := by unfold okFunc at p3; rw [h2] at p3; exact p3
    have hl : vs.length ≤ fn.ntmps := by rw [← hv.length]; exact h3
    have hsz : ((⟨vs⟩ : Array Value) ++ Array.replicate (fn.ntmps - (⟨vs⟩ : Array Value).size) undef).size = fn.ntmps := by simp; omega
    refine callsIn_of_wp_marks p1 h2 trivial ?_
    refine code_sound (ro := none) hE hc hm hk n body ⟨initTm args 0 .nil, m⟩ s ex μ ⟨_, []⟩ w _ h4 (by rw [hsz]; exact hok) hr (initTm_rel hv _) hf (fun b hb => by cases hb) fun μ' a' w' hs => ?_
    obtain ⟨ds, e1, e2⟩ := hs.marks
    have hd : a'.defers = ds := by rw [e1]; simp
    have fin : LeavesInM (fw none) 0 P fn a'.tmps (EndsIn (Good μ m w r s.mem)) a'.defers .returning w' := by
      rw [hd]
      refine leaves_ok (μ := μ) (m := m) (w := w) (fun w₂ hs₂ => ?_) ds w' e2 hs.step
      obtain ⟨v, g1, g2⟩ := results_run (w := w₂) hE.toTyOK h6 hs₂.rep hs.tm
      exact ⟨v, g1, μ', g2, hs₂⟩
    cases ex with
    | normal => exact fin
    | ret => exact fin
    | exit id => exact absurd rfl (h5 id)

/-- **WHAT THE EVALUATOR SAYS OF A CALL IS WHAT THE MODEL DOES.** -/
theorem evCall_ok {E : Env} (hE : EnvOK E P) : ∀ n, CallOK P (evCall E n)
  | 0 => ⟨fun f args m r m' h => (by cases h), fun l args m r m' h => (by cases h)⟩
  | n + 1 => ⟨fun f => fn_ok hE n (evCall_ok hE n) f, fun l args m r m' h μ w vs L hr hL hv hf => round_ok hE n (evCall_ok hE n) l h hr hL hv hf⟩
end
end Ev
