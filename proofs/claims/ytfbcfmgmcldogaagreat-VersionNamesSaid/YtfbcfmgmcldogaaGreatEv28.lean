/-
  The records of loops over functions stay such records.
-/
import Derived.Test.YtfbcfmgmcldogaaGreatEv27
namespace Ev
open Go

def Soft (m m' : AMem) : Prop := ∀ l, LoopAt m l → LoopAt m' l
theorem Soft.refl (m : AMem) : Soft m m := fun _ h => h
theorem Soft.trans {a b c : AMem} (h : Soft a b) (h' : Soft b c) : Soft a c := fun l hl => h' l (h l hl)
theorem Soft.add (m : AMem) (b : ABlk) : Soft m (m.add b) := by
  rintro l ⟨st, pend, tm, ps, asg, bd, h⟩
  have := AMem.get_lt h
  exact ⟨st, pend, tm, ps, asg, bd, by rw [AMem.get_add_old _ _ (by omega)]; exact h⟩
theorem Soft.put {m : AMem} {id : Nat} {A : ABlk} (h : m.get id = some A) (hA : ∀ st pend tm ps asg bd, A ≠ .loop st pend tm ps asg bd) (B : ABlk) : Soft m (m.put id B) := by
  rintro l ⟨st, pend, tm, ps, asg, bd, hl⟩
  have : l ≠ id := by intro e; subst e; rw [h] at hl; cases hl; exact hA _ _ _ _ _ _ rfl
  exact ⟨st, pend, tm, ps, asg, bd, by rw [AMem.get_put_other _ _ this]; exact hl⟩
theorem Soft.putLoop {m : AMem} {id : Nat} {A : ABlk} (h : m.get id = some A) (st pend tm ps asg bd) : Soft m (m.put id (.loop st pend tm ps asg bd)) := by
  rintro l ⟨st', pend', tm', ps', asg', bd', hl⟩
  by_cases e : l = id
  · subst e; exact ⟨_, _, _, _, _, _, AMem.get_put_same _ _ _ (AMem.get_lt h)⟩
  · exact ⟨st', pend', tm', ps', asg', bd', by rw [AMem.get_put_other _ _ e]; exact hl⟩
theorem Soft.kill {m : AMem} {id : Nat} {A : ABlk} (h : m.get id = some A) (hA : ∀ st pend tm ps asg bd, A ≠ .loop st pend tm ps asg bd) : Soft m (m.kill id) := by
  rintro l ⟨st, pend, tm, ps, asg, bd, hl⟩
  have : l ≠ id := by intro e; subst e; rw [h] at hl; cases hl; exact hA _ _ _ _ _ _ rfl
  exact ⟨st, pend, tm, ps, asg, bd, by rw [AMem.get_kill_other _ this]; exact hl⟩

section
variable {E : Env} {m m' : AMem} {call : CallF} {tm : Tr AV}

theorem putCells_soft {id off : Nat} {new : List AV} (h : putCells m id off new = some m') : Soft m m' := by
  obtain ⟨_, _, _, _, hg, _, _, rfl⟩ := putCells_eq h
  exact Soft.put hg (fun _ _ _ _ _ _ e => by cases e) _
theorem put1_soft {id off : Nat} {x : AV} (h : put1 m id off x = some m') : Soft m m' := by
  obtain ⟨_, _, _, _, hg, _, _, rfl⟩ := put1_eq h
  exact Soft.put hg (fun _ _ _ _ _ _ e => by cases e) _
theorem evStore_soft {t : Nat} {a x r : AV} (h : evStore E t a x m = some (r, m')) : Soft m m' := by
  unfold evStore at h
  cases hi : E.ty t with
  | none => rw [hi] at h; cases h
  | some i =>
    rw [hi] at h
    cases hp : a.asPtr with
    | none => rw [hp] at h; cases h
    | some p =>
      rw [hp] at h
      simp only [evStoreAt] at h
      cases hl : x.asAgg with
      | none =>
        rw [hl] at h
        cases hb : Nat.beq i.size 1 with
        | false => rw [hb] at h; cases h
        | true => rw [hb] at h; exact put1_soft (unitR_some h)
      | some l =>
        rw [hl] at h
        simp only at h
        cases hb : Nat.beq l.length i.size with
        | false => rw [hb] at h; cases h
        | true => rw [hb] at h; exact putCells_soft (unitR_some h)
theorem mapAt_get {id : Nat} {es : List (AV × AV)} (h : mapAt m id = some es) : m.get id = some (.map es) := by
  unfold mapAt at h
  split at h
  · rename_i hg; cases h; exact hg
  · cases h
theorem map_soft {id : Nat} {es es' : List (AV × AV)} (h : mapAt m id = some es) : Soft m (m.put id (.map es')) := Soft.put (mapAt_get h) (fun _ _ _ _ _ _ e => by cases e) _
theorem evMapUpdate_soft {t : Nat} {x k y r : AV} (h : evMapUpdate E t x k y m = some (r, m')) : Soft m m' := by
  unfold evMapUpdate putMapR at h
  split at h
  · split at h
    · rename_i hes
      repeat' split at h
      all_goals first | (cases h; done) | (cases h; exact map_soft hes)
    · cases h
  · cases h
theorem evDelete_soft {t : Nat} {x k r : AV} (h : evDelete E t x k m = some (r, m')) : Soft m m' := by
  unfold evDelete putMapR at h
  split at h
  · split at h
    · rename_i hes
      repeat' split at h
      all_goals first | (cases h; done) | (cases h; exact map_soft hes)
    · cases h
  · cases h
theorem evClear_soft {t : Nat} {x r : AV} (h : evClear E t x m = some (r, m')) : Soft m m' := by
  unfold evClear at h
  repeat' split at h
  all_goals first | (cases h; done) | (cases h; exact Soft.refl _) | (rename_i hp; cases h; exact putCells_soft hp) | (rename_i hg; cases h; exact Soft.put hg (fun _ _ _ _ _ _ e => by cases e) _)
theorem evAppend_soft {es bytes n : Nat} {x r : AV} {new : List AV} (h : evAppend m es bytes x n new = some (r, m')) : Soft m m' := by
  unfold evAppend at h
  split at h
  · repeat' split at h
    all_goals first | (cases h; done) | (cases h; exact Soft.refl _)
  · split at h
    · cases h
    · split at h
      · split at h
        · cases h; exact Soft.add _ _
        · cases h
      · split at h
        · split at h
          · rename_i hp; cases h; exact putCells_soft hp
          · cases h
        · split at h
          · split at h
            · cases h; exact Soft.add _ _
            · cases h
          · cases h
      · split at h
        · rename_i hg
          split at h
          · split at h
            · split at h
              · rename_i hp; cases h; exact putCells_soft hp
              · cases h
            · split at h
              · cases h; exact (Soft.kill hg (fun _ _ _ _ _ _ e => by cases e)).trans (Soft.add _ _)
              · cases h
          · cases h
        · cases h
      · cases h
theorem evAppendOp_soft {ts : List Nat} {x y r : AV} (h : evAppendOp E ts x y m = some (r, m')) : Soft m m' := by
  unfold evAppendOp appZeros appCells at h
  repeat' split at h
  all_goals first | (cases h; done) | exact evAppend_soft h
theorem evCopy_soft {es : Nat} {d s r : AV} (h : evCopy m es d s = some (r, m')) : Soft m m' := by
  unfold evCopy copyTo at h
  repeat' split at h
  all_goals first | (cases h; done) | (cases h; exact Soft.refl _) | (rename_i hp; cases h; exact putCells_soft hp)
theorem evBuiltin_soft {b : Builtin} {ts : List Nat} {args : List AV} {r : AV} (h : evBuiltin E b ts args m = some (r, m')) : Soft m m' := by
  unfold evBuiltin at h
  split at h
  · rw [evLen_same h]; exact Soft.refl _
  · rw [evCap_same h]; exact Soft.refl _
  · exact evAppendOp_soft h
  · repeat' split at h
    all_goals first | (cases h; done) | exact evCopy_soft h
  · rw [(vm_some h).2]; exact Soft.refl _
  · rw [(vm_some h).2]; exact Soft.refl _
  · exact evDelete_soft h
  · exact evClear_soft h
  · cases h

def CallKeeps (call : CallF) : Prop := ∀ t args m r m', call t args m = some (r, m') → Soft m m'

theorem evOp_soft (hc : CallKeeps call) {op : Op} {v : AV} (h : evOp E call op tm m = some (v, m')) : Soft m m' := by
  cases he : effectOp op with
  | false =>
    rcases (quiet_of he h).ok with ⟨rfl, _⟩ | ⟨_, b, rfl, _⟩
    · exact Soft.refl _
    · exact Soft.add _ _
  | true =>
    unfold evOp at h
    cases op with
    | store t x y =>
      obtain ⟨b, c, _, _, h⟩ := on2_some h
      exact evStore_soft h
    | insert t x k y =>
      obtain ⟨b, c, _, _, h⟩ := on2_some h
      obtain ⟨d, _, h⟩ := on1_some h
      exact evMapUpdate_soft h
    | mapUpdate t x k y =>
      obtain ⟨b, c, _, _, h⟩ := on2_some h
      obtain ⟨d, _, h⟩ := on1_some h
      exact evMapUpdate_soft h
    | call c =>
      have h0 : evCallOp E call c tm m = some (v, m') := h
      unfold evCallOp at h0
      repeat' split at h0
      all_goals first | (cases h0; done) | exact hc _ _ _ _ _ h0 | exact evBuiltin_soft h0
    | _ => cases he
end

section
variable {E : Env} {call : CallF}
theorem evOps_soft (hc : CallKeeps call) (ops : Array Oper) : ∀ (l : List Oper) (s s' : St), evOpsF l E call ops s = some s' → Soft s.mem s'.mem
  | [], s, s', h => by cases h; exact Soft.refl _
  | o :: l, s, s', h => by
    rcases evOpsF_cons h with ⟨_, h⟩ | ⟨_, v, m, h1, h2⟩
    · have := evOps_soft hc ops l _ _ h
      exact this
    · have := evOps_soft hc ops l _ _ h2
      exact (evOp_soft hc h1).trans this
theorem evDraw_soft (hc : CallKeeps call) (ops : Array Oper) (lr : List (Nat × List Nat)) : ∀ (l : List Nat) (s : St) (sn : Snaps) (p : St × Snaps), evDraw E call ops lr l s sn = some p → Soft s.mem p.1.mem
  | [], s, sn, p, h => by cases h; exact Soft.refl _
  | i :: l, s, sn, p, h => by
    simp only [evDraw] at h
    split at h
    · cases h
    · split at h
      · have := evDraw_soft hc ops lr l _ _ _ h
        exact this
      · split at h
        · rename_i v m hv
          split at h
          · have := evDraw_soft hc ops lr l _ _ _ h
            exact (evOp_soft hc hv).trans this
          · cases h
        · cases h
theorem evRegion_soft (hc : CallKeeps call) {ops : Array Oper} {draw : Bool} {s s' : St} (h : evRegion E call ops draw s = some s') : Soft s.mem s'.mem := by
  unfold evRegion at h
  split at h
  · exact evOps_soft hc ops _ _ _ h
  · split at h
    · split at h
      · rename_i hd
        split at h
        · cases h; exact evDraw_soft hc ops _ _ _ _ _ hd
        · cases h
      · cases h
    · cases h
theorem evCode_soft (hc : CallKeeps call) : ∀ (c : Code) (fuel : Nat) (s s' : St) (ex : Ex), evCodeF c E call fuel s = some (ex, s') → Soft s.mem s'.mem := by
  intro c
  induction c with
  | skip => intro fuel s s' ex h; cases h; exact Soft.refl _
  | exit id => intro fuel s s' ex h; cases h; exact Soft.refl _
  | ret => intro fuel s s' ex h; cases h; exact Soft.refl _
  | region id ops draw => intro fuel s s' ex h; exact evRegion_soft hc (region_some h).2
  | seq x y ihx ihy =>
    intro fuel s s' ex h
    rcases seq_some h with ⟨s₁, h1, h2⟩ | ⟨_, h1⟩
    · exact (ihx _ _ _ _ h1).trans (ihy _ _ _ _ h2)
    · exact ihx _ _ _ _ h1
  | cond c x y ihx ihy =>
    intro fuel s s' ex h
    obtain ⟨b, _, h⟩ := cond_some h
    cases b with
    | true => exact ihx _ _ _ _ h
    | false => exact ihy _ _ _ _ h
  | block id c ih =>
    intro fuel s s' ex h
    obtain ⟨e₁, h, _⟩ := block_some h
    exact ih _ _ _ _ h
  | loop c ih =>
    intro fuel s s' ex h
    rw [loop_some] at h
    have key : ∀ n s s' ex, loopF n (evCodeF c E call fuel) s = some (ex, s') → Soft s.mem s'.mem := by
      intro n
      induction n with
      | zero => intro s s' ex h; cases h
      | succ n ihn =>
        intro s s' ex h
        rcases loopF_succ h with ⟨s₁, h1, h2⟩ | ⟨_, h1⟩
        · exact (ih _ _ _ _ h1).trans (ihn _ _ _ h2)
        · exact ih _ _ _ _ h1
    exact key _ _ _ _ h
  | rangeFunc g ps x y ihx ihy =>
    intro fuel s s' ex h
    obtain ⟨f, first, captured, r, m', st, pend, tm, qs, asg, bd, _, _, hcall, hget, _, _, rfl⟩ := range_some h
    exact ((Soft.add _ _).trans (hc _ _ _ _ _ hcall)).trans (Soft.putLoop hget _ _ _ _ _ _)
  | _ => intro fuel s s' ex h; cases h

theorem evCall_keeps (ho : ∀ f o, E.orc f = some o → ∀ args m r m' l, o args m = some (r, m') → LoopAt m l → LoopAt m' l) : ∀ n, CallKeeps (evCall E n)
  | 0, _, _, _, _, _, h => by cases h
  | n + 1, t, args, m, r, m', h => by
    cases t with
    | fn f =>
      rcases fn_some h with ⟨o, h1, h2⟩ | ⟨fn, body, ex, s, _, _, _, h1, _, h2⟩
      · exact fun l hl => ho f o h1 _ _ _ _ l h2 hl
      · have := evCode_soft (evCall_keeps ho n) body n _ _ _ h1
        rw [evLeave_same h2]; exact this
    | yield l =>
      obtain ⟨st, pend, tm, ps, asg, bd, s, pend', tm', ps', asg', bd', ex, s₂, st₃, pend₃, tm₃, ps₃, asg₃, bd₃, _, _, h1, hg, h2, hg₂, h3⟩ := round_some h
      have a1 := evCode_soft (evCall_keeps ho n) asg n _ _ _ h1
      have a2 := evCode_soft (evCall_keeps ho n) bd n _ _ _ h2
      have a3 := (a1.trans (Soft.putLoop hg .busy pend' tm' ps' asg' bd')).trans a2
      rcases h3 with ⟨_, _, rfl⟩ | ⟨_, _, rfl⟩ <;> exact a3.trans (Soft.putLoop hg₂ _ _ _ _ _ _)
end
end Ev
