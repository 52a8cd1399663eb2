/-
  The evaluator's numbers grow.
-/
import Derived.Test.YtfbcfmgmcldogaaGreatEv20
namespace Ev
open Go

section
variable {E : Env} {call : CallF}

theorem evOpsF_cons {o : Oper} {l : List Oper} {ops : Array Oper} {s s' : St} (h : evOpsF (o :: l) E call ops s = some s') :
    (wanted ops s.tm o = false ∧ evOpsF l E call ops ⟨setDst s.tm o.dst .undef, s.mem⟩ = some s') ∨
    (wanted ops s.tm o = true ∧ ∃ v m, evOp E call o.op s.tm s.mem = some (v, m) ∧ evOpsF l E call ops ⟨setDst s.tm o.dst v, m⟩ = some s') := by
  obtain ⟨tm, m⟩ := s
  have h : opsG o (evOpsF l) E call ops tm m (wanted ops tm o) = some s' := h
  cases hw : wanted ops tm o with
  | false => rw [hw] at h; exact .inl ⟨rfl, h⟩
  | true =>
    rw [hw] at h
    right
    refine ⟨rfl, ?_⟩
    have h : opsK (evOpsF l) o.dst tm E call ops (evOp E call o.op tm m) = some s' := h
    cases he : evOp E call o.op tm m with
    | none => rw [he] at h; cases h
    | some p => rw [he] at h; exact ⟨p.1, p.2, rfl, h⟩

theorem evOps_next (hc : CallMono call) (ops : Array Oper) : ∀ (l : List Oper) (s s' : St), evOpsF l E call ops s = some s' → s.mem.next ≤ s'.mem.next
  | [], s, s', h => by cases h; exact Nat.le_refl _
  | o :: l, s, s', h => by
    rcases evOpsF_cons h with ⟨_, h⟩ | ⟨_, v, m, h1, h2⟩
    · have := evOps_next hc ops l _ _ h
      exact this
    · have := evOps_next hc ops l _ _ h2
      exact Nat.le_trans (evOp_next hc h1) this

theorem evDraw_next (hc : CallMono call) (ops : Array Oper) (lr : List (Nat × List Nat)) : ∀ (l : List Nat) (s : St) (sn : Snaps) (p : St × Snaps), evDraw E call ops lr l s sn = some p → s.mem.next ≤ p.1.mem.next
  | [], s, sn, p, h => by cases h; exact Nat.le_refl _
  | i :: l, s, sn, p, h => by
    simp only [evDraw] at h
    split at h
    · cases h
    · split at h
      · have := evDraw_next hc ops lr l _ _ _ h
        exact this
      · split at h
        · rename_i v m hv
          split at h
          · have := evDraw_next hc ops lr l _ _ _ h
            exact Nat.le_trans (evOp_next hc hv) this
          · cases h
        · cases h

theorem evRegion_next (hc : CallMono call) {ops : Array Oper} {draw : Bool} {s s' : St} (h : evRegion E call ops draw s = some s') : s.mem.next ≤ s'.mem.next := by
  unfold evRegion at h
  split at h
  · exact evOps_next hc ops _ _ _ h
  · split at h
    · split at h
      · rename_i hd
        split at h
        · cases h; exact evDraw_next hc ops _ _ _ _ _ hd
        · cases h
      · cases h
    · cases h

theorem evCodeF_seq (x y : Code) (fuel : Nat) (s : St) : evCodeF (.seq x y) E call fuel s = cdSeq (evCodeF x) (evCodeF y) E call fuel s := rfl
theorem seq_some {x y : Code} {fuel : Nat} {s s' : St} {ex : Ex} (h : evCodeF (.seq x y) E call fuel s = some (ex, s')) :
    (∃ s₁, evCodeF x E call fuel s = some (.normal, s₁) ∧ evCodeF y E call fuel s₁ = some (ex, s')) ∨ (ex ≠ .normal ∧ evCodeF x E call fuel s = some (ex, s')) := by
  have h : cdSeq (evCodeF x) (evCodeF y) E call fuel s = some (ex, s') := h
  unfold cdSeq at h
  cases h1 : evCodeF x E call fuel s with
  | none => rw [h1] at h; cases h
  | some p =>
    obtain ⟨e₁, s₁⟩ := p
    rw [h1] at h
    cases e₁ with
    | normal => exact .inl ⟨s₁, rfl, h⟩
    | exit id => cases h; exact .inr ⟨(by intro h; cases h), rfl⟩
    | ret => cases h; exact .inr ⟨(by intro h; cases h), rfl⟩
theorem cond_some {c : Operand} {x y : Code} {fuel : Nat} {s s' : St} {ex : Ex} (h : evCodeF (.cond c x y) E call fuel s = some (ex, s')) :
    ∃ b, rd s.tm c = some (.bool b) ∧ evCodeF (if b then x else y) E call fuel s = some (ex, s') := by
  have h : cdCond c (evCodeF x) (evCodeF y) E call fuel s = some (ex, s') := h
  unfold cdCond boolOf at h
  cases h1 : rd s.tm c with
  | none => rw [h1] at h; cases h
  | some a =>
    rw [h1] at h
    cases h2 : a.asBool with
    | none => simp only [h2] at h; cases h
    | some b =>
      have := asBool_eq h2; subst this
      simp only [h2] at h
      refine ⟨b, rfl, ?_⟩
      cases b with
      | true => exact h
      | false => exact h
theorem region_some {id : Nat} {ops : Array Oper} {draw : Bool} {fuel : Nat} {s s' : St} {ex : Ex} (h : evCodeF (.region id ops draw) E call fuel s = some (ex, s')) :
    ex = .normal ∧ evRegion E call ops draw s = some s' := by
  have h : cdRegion ops draw E call fuel s = some (ex, s') := h
  unfold cdRegion at h
  cases h1 : evRegion E call ops draw s with
  | none => rw [h1] at h; cases h
  | some s₁ => rw [h1] at h; cases h; exact ⟨rfl, rfl⟩
theorem block_some {id : Nat} {c : Code} {fuel : Nat} {s s' : St} {ex : Ex} (h : evCodeF (.block id c) E call fuel s = some (ex, s')) :
    ∃ e₁, evCodeF c E call fuel s = some (e₁, s') ∧ (e₁ = .exit id ∧ ex = .normal ∨ e₁ ≠ .exit id ∧ ex = e₁) := by
  have h : inBlock id (evCodeF c E call fuel s) = some (ex, s') := h
  cases h1 : evCodeF c E call fuel s with
  | none => rw [h1] at h; cases h
  | some p =>
    obtain ⟨e₁, s₁⟩ := p
    rw [h1] at h
    cases e₁ with
    | normal => cases h; exact ⟨_, rfl, .inr ⟨(by intro h; cases h), rfl⟩⟩
    | ret => cases h; exact ⟨_, rfl, .inr ⟨(by intro h; cases h), rfl⟩⟩
    | exit j =>
      simp only [inBlock] at h
      split at h
      · rename_i hj
        have hj : j = id := Nat.eq_of_beq_eq_true hj
        cases h; exact ⟨_, rfl, .inl ⟨by rw [hj], rfl⟩⟩
      · rename_i hj
        cases h; exact ⟨_, rfl, .inr ⟨(by intro h; cases h; exact hj (Nat.beq_refl _)), rfl⟩⟩
theorem loopF_succ {f : St → Option (Ex × St)} {n : Nat} {s s' : St} {ex : Ex} (h : loopF (n + 1) f s = some (ex, s')) :
    (∃ s₁, f s = some (.normal, s₁) ∧ loopF n f s₁ = some (ex, s')) ∨ (ex ≠ .normal ∧ f s = some (ex, s')) := by
  have h : (Option.casesOn (motive := fun _ => Option (Ex × St)) (f s) none fun x => Prod.casesOn (motive := fun _ => Option (Ex × St)) x fun ex s => loopK (loopF n) f ex s) = some (ex, s') := h
  cases h1 : f s with
  | none => rw [h1] at h; cases h
  | some p =>
    obtain ⟨e₁, s₁⟩ := p
    rw [h1] at h
    cases e₁ with
    | normal => exact .inl ⟨s₁, rfl, h⟩
    | exit id => cases h; exact .inr ⟨(by intro h; cases h), rfl⟩
    | ret => cases h; exact .inr ⟨(by intro h; cases h), rfl⟩
theorem loop_some {c : Code} {fuel : Nat} {s : St} : evCodeF (.loop c) E call fuel s = loopF fuel (evCodeF c E call fuel) s := rfl
theorem range_some {g : Operand} {ps : Array Tmp} {x y : Code} {fuel : Nat} {s s' : St} {ex : Ex} (h : evCodeF (.rangeFunc g ps x y) E call fuel s = some (ex, s')) :
    ∃ f first captured r m' st pend tm qs asg bd, rd s.tm g = some (.func f first captured) ∧ hasBody E f = true ∧
      call (.fn f) (first ++ .yieldf s.mem.next :: captured) (s.mem.add (.loop .ready none s.tm ps.toList x y)) = some (r, m') ∧
      m'.get s.mem.next = some (.loop st pend tm qs asg bd) ∧ st ≠ .busy ∧ ex = pend.getD .normal ∧ s' = ⟨s.tm, m'.put s.mem.next (.loop .exhausted pend tm qs asg bd)⟩ := by
  have h : evRange E call (rd s.tm g) ps.toList x y s = some (ex, s') := h
  unfold evRange at h
  split at h
  · rename_i f first captured hg
    split at h
    · rename_i hbd
      split at h
      · rename_i r m' hcall
        split at h
        · rename_i st pend tm qs asg bd hget
          split at h
          · cases h
          · rename_i hst
            cases h
            exact ⟨f, first, captured, r, m', st, pend, tm, qs, asg, bd, hg, hbd, hcall, hget, hst, rfl, rfl⟩
        · cases h
      · cases h
    · cases h
  · cases h

theorem evCode_next (hc : CallMono call) : ∀ (c : Code) (fuel : Nat) (s s' : St) (ex : Ex), evCodeF c E call fuel s = some (ex, s') → s.mem.next ≤ s'.mem.next := by
  intro c
  induction c with
  | skip => intro fuel s s' ex h; cases h; exact Nat.le_refl _
  | exit id => intro fuel s s' ex h; cases h; exact Nat.le_refl _
  | ret => intro fuel s s' ex h; cases h; exact Nat.le_refl _
  | region id ops draw => intro fuel s s' ex h; exact evRegion_next hc (region_some h).2
  | seq x y ihx ihy =>
    intro fuel s s' ex h
    rcases seq_some h with ⟨s₁, h1, h2⟩ | ⟨_, h1⟩
    · exact Nat.le_trans (ihx _ _ _ _ h1) (ihy _ _ _ _ h2)
    · exact ihx _ _ _ _ h1
  | cond c x y ihx ihy =>
    intro fuel s s' ex h
    obtain ⟨b, _, h⟩ := cond_some h
    cases b with
    | true => exact ihx _ _ _ _ h
    | false => exact ihy _ _ _ _ h
  | block id c ih =>
    intro fuel s s' ex h
    obtain ⟨e₁, h, _⟩ := block_some h
    exact ih _ _ _ _ h
  | loop c ih =>
    intro fuel s s' ex h
    rw [loop_some] at h
    have key : ∀ n s s' ex, loopF n (evCodeF c E call fuel) s = some (ex, s') → s.mem.next ≤ s'.mem.next := by
      intro n
      induction n with
      | zero => intro s s' ex h; cases h
      | succ n ihn =>
        intro s s' ex h
        rcases loopF_succ h with ⟨s₁, h1, h2⟩ | ⟨_, h1⟩
        · exact Nat.le_trans (ih _ _ _ _ h1) (ihn _ _ _ h2)
        · exact ih _ _ _ _ h1
    exact key _ _ _ _ h
  | rangeFunc g ps x y ihx ihy =>
    intro fuel s s' ex h
    obtain ⟨f, first, captured, r, m', st, pend, tm, qs, asg, bd, _, _, hcall, _, _, _, rfl⟩ := range_some h
    have := hc _ _ _ _ _ hcall
    simp only [AMem.add_next, AMem.put_next] at this ⊢
    omega
  | _ => intro fuel s s' ex h; cases h

theorem evLeave_same {fn : Func} {s : St} {r : AV} {m : AMem} (h : evLeave E fn s = some (r, m)) : m = s.mem := by
  unfold evLeave at h
  split at h
  · cases h; rfl
  · cases h; rfl
  · cases h

/-- what was asked of a call's answer -/
theorem fn_some {n f : Nat} {args : List AV} {m m' : AMem} {r : AV} (h : evCall E (n + 1) (.fn f) args m = some (r, m')) :
    (∃ o, E.orc f = some o ∧ o args m = some (r, m')) ∨
    (∃ fn body ex s, E.fn f = some fn ∧ fn.body = some body ∧ args.length ≤ fn.ntmps ∧ evCode E (evCall E n) n body ⟨initTm args 0 .nil, m⟩ = some (ex, s) ∧ (∀ id, ex ≠ .exit id) ∧ evLeave E fn s = some (r, m')) := by
  simp only [evCall] at h
  split at h
  · rename_i o ho; exact .inl ⟨o, ho, h⟩
  · right
    split at h
    · cases h
    · rename_i fn hfn
      split at h
      · cases h
      · rename_i body hb
        split at h
        · rename_i hok
          split at h
          · cases h
          · rename_i ex s hne hev
            exact ⟨fn, body, ex, s, hfn, hb, Nat.le_of_ble_eq_true hok, hev, fun id e => hne id e, h⟩
          · cases h
        · cases h

theorem round_some {n l : Nat} {args : List AV} {m m' : AMem} {r : AV} (h : evCall E (n + 1) (.yield l) args m = some (r, m')) :
    ∃ st pend tm ps asg bd s pend' tm' ps' asg' bd' ex s₂ st₃ pend₃ tm₃ ps₃ asg₃ bd₃, m.get l = some (.loop st pend tm ps asg bd) ∧ args.length = ps.length ∧
      evCode E (evCall E n) n asg ⟨setPs ps args tm, m⟩ = some (.normal, s) ∧ s.mem.get l = some (.loop .ready pend' tm' ps' asg' bd') ∧
      evCode E (evCall E n) n bd ⟨s.tm, s.mem.put l (.loop .busy pend' tm' ps' asg' bd')⟩ = some (ex, s₂) ∧ s₂.mem.get l = some (.loop st₃ pend₃ tm₃ ps₃ asg₃ bd₃) ∧
      (ex = .normal ∧ r = .bool true ∧ m' = s₂.mem.put l (.loop .ready none tm₃ ps₃ asg₃ bd₃) ∨ ex ≠ .normal ∧ r = .bool false ∧ m' = s₂.mem.put l (.loop .done (some ex) tm₃ ps₃ asg₃ bd₃)) := by
  simp only [evCall, evRound] at h
  split at h
  · rename_i st pend tm ps asg bd hg
    split at h
    · rename_i hl
      have hl := Nat.eq_of_beq_eq_true hl
      split at h
      · rename_i s hs
        split at h
        · rename_i pend' tm' ps' asg' bd' hg'
          unfold endRound at h
          split at h
          · rename_i ex s₂ hs₂
            split at h
            · rename_i st₃ pend₃ tm₃ ps₃ asg₃ bd₃ hg₃
              refine ⟨st, pend, tm, ps, asg, bd, s, pend', tm', ps', asg', bd', ex, s₂, st₃, pend₃, tm₃, ps₃, asg₃, bd₃, hg, hl, hs, hg', hs₂, hg₃, ?_⟩
              split at h
              · cases h; exact .inl ⟨rfl, rfl, rfl⟩
              · rename_i hne; cases h; exact .inr ⟨hne, rfl, rfl⟩
            · cases h
          · cases h
        · cases h
      · cases h
    · cases h
  · cases h

theorem evCall_mono (ho : ∀ f o, E.orc f = some o → ∀ args m r m', o args m = some (r, m') → m.next ≤ m'.next) : ∀ n, CallMono (evCall E n)
  | 0, _, _, _, _, _, h => by cases h
  | n + 1, t, args, m, r, m', h => by
    cases t with
    | fn f =>
      rcases fn_some h with ⟨o, h1, h2⟩ | ⟨fn, body, ex, s, _, _, _, h1, _, h2⟩
      · exact ho f o h1 _ _ _ _ h2
      · have := evCode_next (evCall_mono ho n) body n _ _ _ h1
        rw [evLeave_same h2]; exact this
    | yield l =>
      obtain ⟨st, pend, tm, ps, asg, bd, s, pend', tm', ps', asg', bd', ex, s₂, st₃, pend₃, tm₃, ps₃, asg₃, bd₃, _, _, h1, _, h2, _, h3⟩ := round_some h
      have a1 := evCode_next (evCall_mono ho n) asg n _ _ _ h1
      have a2 := evCode_next (evCall_mono ho n) bd n _ _ _ h2
      simp only [AMem.put_next] at a2
      rcases h3 with ⟨_, _, rfl⟩ | ⟨_, _, rfl⟩ <;> simp only [AMem.put_next] <;> exact Nat.le_trans a1 a2
end
end Ev
