/-
  Maps: looked up, set, dropped, cleared; lengths and capacities.
-/
import Derived.Test.YtfbcfmgmcldogaaGreatEv14
namespace Ev
open Go

section
variable {E : Env} {P : Program} {μ : Mu} {m m' : AMem} {w : World}

theorem EsRel.length : ∀ {l : List (AV × AV)} {es : List MapEntry}, EsRel μ l es → l.length = es.length
  | [], _, h => by cases h; rfl
  | (_, _) :: l, _, ⟨e, r, h0, _, _, h3⟩ => by subst h0; simp [EsRel.length (l := l) h3]
theorem EsRel.get : ∀ {l : List (AV × AV)} {es : List MapEntry}, EsRel μ l es → ∀ (i : Nat) (k v : AV), l[i]? = some (k, v) → ∃ e : MapEntry, es[i]? = some e ∧ VRel μ k e.key ∧ VRel μ v e.val
  | [], _, _, i, k, v, h => by simp at h
  | (_, _) :: l, _, ⟨e, r, h0, h1, h2, h3⟩, 0, k, v, h => by subst h0; simp at h; obtain ⟨rfl, rfl⟩ := h; exact ⟨e, rfl, h1, h2⟩
  | (_, _) :: l, _, ⟨e, r, h0, h1, h2, h3⟩, i + 1, k, v, h => by subst h0; simpa using EsRel.get (l := l) h3 i k v (by simpa using h)
theorem EsRel.push {k v : AV} {e : MapEntry} : ∀ {l : List (AV × AV)} {es : List MapEntry}, EsRel μ l es → VRel μ k e.key → VRel μ v e.val → EsRel μ (l ++ [(k, v)]) (es ++ [e])
  | [], _, h, hk, hv => by cases h; exact ⟨e, [], rfl, hk, hv, rfl⟩
  | (_, _) :: l, _, ⟨e', r, h0, h1, h2, h3⟩, hk, hv => by subst h0; exact ⟨e', r ++ [e], rfl, h1, h2, EsRel.push (l := l) h3 hk hv⟩
theorem EsRel.set {k v : AV} {f : MapEntry → MapEntry} (hk : ∀ e, VRel μ k (f e).key) (hv : ∀ e, VRel μ v (f e).val) : ∀ {l : List (AV × AV)} {es : List MapEntry} (i : Nat), EsRel μ l es →
    EsRel μ (l.set i (k, v)) (es.modify i f)
  | [], _, i, h => by cases h; cases i <;> rfl
  | (_, _) :: l, _, 0, ⟨e', r, h0, h1, h2, h3⟩ => by subst h0; exact ⟨f e', r, rfl, hk _, hv _, h3⟩
  | (_, _) :: l, _, i + 1, ⟨e', r, h0, h1, h2, h3⟩ => by subst h0; exact ⟨e', r.modify i f, rfl, h1, h2, EsRel.set hk hv (l := l) i h3⟩
theorem EsRel.erase : ∀ {l : List (AV × AV)} {es : List MapEntry} (i : Nat), EsRel μ l es → EsRel μ (l.eraseIdx i) (es.eraseIdx i)
  | [], _, i, h => by cases h; cases i <;> rfl
  | (_, _) :: l, _, 0, ⟨e', r, h0, h1, h2, h3⟩ => by subst h0; exact h3
  | (_, _) :: l, _, i + 1, ⟨e', r, h0, h1, h2, h3⟩ => by subst h0; exact ⟨e', r.eraseIdx i, rfl, h1, h2, EsRel.erase (l := l) i h3⟩

/-- what the model answers, by the place -/
def atPlace (es : List MapEntry) (j : Nat) : Option Nat → Option (Nat × Value)
  | none => none
  | some i => es[i]?.map fun e => (i + j, e.val)

theorem find_quick {kt : Nat} {u : TypeDesc} {eq : AV → AV → Option Bool} {k : AV} {x : Value} (hx : VRel μ k x)
    (hK : ∀ (k a : AV) (x y : Value) (r : Bool), eq k a = some r → VRel μ k x → VRel μ a y → KeyRun P kt u true x y r) :
    ∀ {l : List (AV × AV)} {es : List MapEntry} {o : Option Nat} (j : Nat), EsRel μ l es → idxOf (eq k) l = some o → Instr.findNow u x es j = some (atPlace es j o)
  | [], _, o, j, h, hi => by cases h; simp [idxOf] at hi; subst hi; rfl
  | (a, v) :: l, _, o, j, ⟨e', r, h0, h1, h2, h3⟩, hi => by
    subst h0
    simp only [idxOf] at hi
    split at hi
    · rename_i he
      cases hi
      have := (hK k a x e'.key true he hx h1).now rfl
      simp [Instr.findNow, this, atPlace]
    · rename_i he
      have := (hK k a x e'.key false he hx h1).now rfl
      split at hi
      · rename_i i hi'
        cases hi
        have ih := find_quick hx hK (j + 1) h3 hi'
        simp only [Instr.findNow, this, ih, atPlace, List.getElem?_cons_succ]
        simp [Nat.add_assoc, Nat.add_comm 1 j]
      · rename_i hi'
        cases hi
        have ih := find_quick hx hK (j + 1) h3 hi'
        simp only [Instr.findNow, this, ih, atPlace]
      · cases hi
    · cases hi

theorem find_slow {kt : Nat} {u : TypeDesc} {q : Bool} {eq : AV → AV → Option Bool} {k : AV} {x : Value} (hx : VRel μ k x)
    (hK : ∀ (k a : AV) (x y : Value) (r : Bool), eq k a = some r → VRel μ k x → VRel μ a y → KeyRun P kt u q x y r) :
    ∀ {l : List (AV × AV)} {es : List MapEntry} {o : Option Nat} (j : Nat), EsRel μ l es → idxOf (eq k) l = some o → ∀ w : World, (Instr.findAsking kt x es j).run P w = .ok (atPlace es j o) w
  | [], _, o, j, h, hi, w => by cases h; simp [idxOf] at hi; subst hi; rfl
  | (a, v) :: l, _, o, j, ⟨e', r, h0, h1, h2, h3⟩, hi, w => by
    subst h0
    simp only [idxOf] at hi
    split at hi
    · rename_i he
      cases hi
      have := (hK k a x e'.key true he hx h1).eq
      simp [Instr.findAsking, this, atPlace]
    · rename_i he
      have := (hK k a x e'.key false he hx h1).eq
      split at hi
      · rename_i i hi'
        cases hi
        have ih := find_slow hx hK (j + 1) h3 hi' w
        simp only [Instr.findAsking, Sem.run_bind, this, Result.andThen_ok, Bool.false_eq_true, if_false, ih, atPlace, List.getElem?_cons_succ]
        simp [Nat.add_assoc, Nat.add_comm 1 j]
      · rename_i hi'
        cases hi
        have ih := find_slow hx hK (j + 1) h3 hi' w
        simp only [Instr.findAsking, Sem.run_bind, this, Result.andThen_ok, Bool.false_eq_true, if_false, ih, atPlace]
      · cases hi
    · cases hi

theorem find_run {kt : Nat} {u : TypeDesc} {q : Bool} {eq : AV → AV → Option Bool} {k : AV} {x : Value} (hU : ∀ w : World, (underlying kt).run P w = .ok u w) (hx : VRel μ k x)
    (hK : ∀ (k a : AV) (x y : Value) (r : Bool), eq k a = some r → VRel μ k x → VRel μ a y → KeyRun P kt u q x y r)
    {l : List (AV × AV)} {es : List MapEntry} {o : Option Nat} (h : EsRel μ l es) (hi : idxOf (eq k) l = some o) (w : World) : (Instr.findKey kt x es).run P w = .ok (atPlace es 0 o) w := by
  simp only [Instr.findKey, Sem.run_bind, hU, Result.andThen_ok]
  cases q with
  | true => rw [find_quick hx hK 0 h hi]; rfl
  | false =>
    cases hn : Instr.findNow u x es 0 with
    | none => exact find_slow hx hK 0 h hi w
    | some r =>
      -- only of an empty map
      have : es = [] := by
        cases l with
        | nil => cases h; rfl
        | cons p l =>
          obtain ⟨a, v⟩ := p
          obtain ⟨e', r', h0, h1, h2, h3⟩ := h
          subst h0
          have hs : ∃ b, eq k a = some b := by
            simp only [idxOf] at hi
            split at hi
            · exact ⟨_, by assumption⟩
            · exact ⟨_, by assumption⟩
            · cases hi
          obtain ⟨b, hb⟩ := hs
          have := (hK k a x e'.key b hb hx h1).slow rfl
          simp [Instr.findNow, this] at hn
      subst this
      have hl : l = [] := by cases l with
        | nil => rfl
        | cons p l => obtain ⟨_, _, h0, _⟩ := h; cases h0
      subst hl
      simp [idxOf] at hi
      subst hi
      simp [Instr.findNow] at hn
      subst hn
      rfl

theorem mapT_ok {t : Nat} {p : (AV → AV → Option Bool) × Nat} (hE : TyOK E P) (h : mapT E t = some p) : ∃ kt, (∀ w : World, (underlying t).run P w = .ok (.map kt p.2) w) ∧ keyEqAt E kt = some p.1 := by
  unfold mapT at h
  split at h
  · rename_i i hi
    split at h
    · rename_i kt et hu
      split at h
      · rename_i eq heq
        cases h
        exact ⟨kt, fun w => by rw [run_und hE hi, hu], heq⟩
      · cases h
    · cases h
  · cases h

theorem mapAt_ok (hr : Rep μ m w) {id : Nat} {es : List (AV × AV)} {L : Loc} (h : mapAt m id = some es) (hL : μ id = some L) :
    m.get id = some (.map es) ∧ ∃ ents clock, w.heap[L.b]? = some (.map ents clock) ∧ EsRel μ es ents.toList := by
  unfold mapAt at h
  split at h
  · rename_i es' hg
    cases h
    exact ⟨hg, hr.blk _ _ _ hg hL⟩
  · cases h

theorem run_getMap {b : Nat} {ents : Array MapEntry} {clock : Nat} (h : w.heap[b]? = some (.map ents clock)) : (getObj b).run P w = .ok (.map ents clock) w := by
  simp [getObj, Sem.run, h]
theorem run_setMap {b : Nat} {ents : Array MapEntry} {clock : Nat} (o : Obj) (h : w.heap[b]? = some (.map ents clock)) : (setObj b o).run P w = .ok () { w with heap := w.heap.setIfInBounds b o } := by
  simp [setObj, Sem.run, h]
theorem setMap_step (hr : Rep μ m w) {id : Nat} {es es' : List (AV × AV)} {L : Loc} (hg : m.get id = some (.map es)) (hL : μ id = some L) {ents : Array MapEntry} {clock : Nat} (he : EsRel μ es' ents.toList) :
    Step μ m w μ (m.put id (.map es')) { w with heap := w.heap.setIfInBounds L.b (.map ents clock) } := by
  have hlt := (hr.blk _ _ _ hg hL).lt
  refine Step.write hr hg hL ⟨by simp, fun b' hb => by simp [Ne.symm hb], rfl, rfl, rfl⟩ ⟨ents, clock, by simp [hlt], he⟩

theorem mapList_ok (hr : Rep μ m w) {a : AV} {x : Value} {es : List (AV × AV)} (h : mapList m a = some es) (hx : VRel μ a x) :
    (x = .map none ∧ es = []) ∨ ∃ b ents clock, x = .map (some b) ∧ w.heap[b]? = some (.map ents clock) ∧ EsRel μ es ents.toList := by
  unfold mapList at h
  split at h
  · cases h; cases hx; exact .inl ⟨rfl, rfl⟩
  · obtain ⟨L, hL, rfl⟩ := hx
    obtain ⟨_, ents, clock, h1, h2⟩ := mapAt_ok hr h hL
    exact .inr ⟨_, ents, clock, rfl, h1, h2⟩
  · cases h

theorem lookup_good (hE : TyOK E P) (hr : Rep μ m w) {t : Nat} {a k r : AV} {ok : Bool} {x y : Value} (h : evLookup E t a k ok m = some (r, m')) (hx : VRel μ a x) (hy : VRel μ k y) :
    m' = m ∧ ∃ v, (Instr.lookup t x y ok).run P w = .ok v w ∧ VRel μ r v := by
  unfold evLookup at h
  split at h
  · rename_i eq et hT
    obtain ⟨kt, hU, hkeq⟩ := mapT_ok hE hT
    obtain ⟨u, q, hKU, hchk, hK⟩ := key_run (μ := μ) hE hkeq
    split at h
    · rename_i es hes
      split at h
      · rename_i hkh
        unfold lookR at h
        have hel : ∃ ents : Array MapEntry, EsRel μ es ents.toList ∧ (x = .map none ∧ ents = #[] ∨ ∃ b clock, x = .map (some b) ∧ w.heap[b]? = some (.map ents clock)) := by
          rcases mapList_ok hr hes hx with ⟨rfl, rfl⟩ | ⟨b, ents, clock, rfl, h1, h2⟩
          · exact ⟨#[], rfl, .inl ⟨rfl, rfl⟩⟩
          · exact ⟨ents, h2, .inr ⟨b, clock, rfl, h1⟩⟩
        obtain ⟨ents, hee, hform⟩ := hel
        have hmain : ∀ o, idxOf (eq k) es = some o → ∀ res, (match atPlace ents.toList 0 o with | some (_, v) => pure (v, true) | none => (do pure (← zeroValue et, false)) : Sem (Value × Bool)).run P w = .ok res w →
            (Instr.lookup t x y ok).run P w = .ok (if ok then .tuple #[res.1, .bool res.2] else res.1) w := by
          intro o ho res hres
          have hfr := find_run hKU hy hK hee ho w
          rcases hform with ⟨rfl, rfl⟩ | ⟨b, clock, rfl, hb⟩
          · simp only [Instr.lookup, Sem.run_bind, hU, Result.andThen_ok, hchk k y _ w hkh hy, hfr, Sem.run_pure]
            revert hres
            cases atPlace (#[] : Array MapEntry).toList 0 o with
            | none => intro hres; simp only [Sem.run_bind, Sem.run_pure] at hres ⊢; revert hres; cases (zeroValue et).run P w <;> intro hres <;> simp only [Result.andThen, Result.ok.injEq, reduceCtorEq] at hres ⊢ <;> (obtain ⟨rfl, rfl⟩ := hres; simp)
            | some p => intro hres; simp only [Sem.run_bind, Sem.run_pure] at hres ⊢; simp_all
          · simp only [Instr.lookup, Sem.run_bind, hU, Result.andThen_ok, hchk k y _ w hkh hy, hfr, Sem.run_pure, run_getMap hb]
            revert hres
            cases atPlace ents.toList 0 o with
            | none => intro hres; simp only [Sem.run_bind, Sem.run_pure] at hres ⊢; revert hres; cases (zeroValue et).run P w <;> intro hres <;> simp only [Result.andThen, Result.ok.injEq, reduceCtorEq] at hres ⊢ <;> (obtain ⟨rfl, rfl⟩ := hres; simp)
            | some p => intro hres; simp only [Sem.run_bind, Sem.run_pure] at hres ⊢; simp_all
        split at h
        · rename_i v hf
          obtain ⟨rfl, rfl⟩ := Prod.mk.inj (Option.some.inj h)
          obtain ⟨o, ho, h1, h2⟩ := findKey_idx hf
          cases o with
          | none => cases h1 rfl
          | some i =>
            obtain ⟨k', v', g1, g2⟩ := h2 i rfl
            cases g2
            obtain ⟨e, e1, e2, e3⟩ := hee.get _ _ _ g1
            refine ⟨rfl, _, hmain _ ho (e.val, true) ?_, ?_⟩
            · simp only [atPlace, e1, Option.map_some]; rfl
            · unfold okPair
              cases ok with
              | true => exact ⟨_, rfl, .cons e3 (.cons rfl rfl)⟩
              | false => exact e3
        · rename_i hf
          split at h
          · rename_i z hz
            obtain ⟨rfl, rfl⟩ := Prod.mk.inj (Option.some.inj h)
            obtain ⟨o, ho, h1, h2⟩ := findKey_idx hf
            cases o with
            | some i => obtain ⟨_, _, _, g2⟩ := h2 i rfl; cases g2
            | none =>
              unfold zeroOf at hz
              split at hz
              · rename_i ie hie
                obtain ⟨zv, g1, g2⟩ := run_zeroT (w := w) hE hie hz
                refine ⟨rfl, _, hmain _ ho (zv, false) ?_, ?_⟩
                · simp only [atPlace, Sem.run_bind, g1, Result.andThen_ok]; rfl
                · unfold okPair
                  cases ok with
                  | true => exact ⟨_, rfl, .cons (g2 μ) (.cons rfl rfl)⟩
                  | false => exact g2 μ
              · cases hz
          · cases h
        · cases h
      · cases h
    · cases h
  · cases h

theorem keyStays {o n : Value} (h : Instr.sameBits 10000 o n = true) : (Instr.keyThatStays o n).run P w = .ok n w := by
  simp only [Instr.keyThatStays, h, if_true]; rfl

theorem mapUpdate_good (hE : TyOK E P) (hr : Rep μ m w) {t : Nat} {a k b r : AV} {x y z : Value} (h : evMapUpdate E t a k b m = some (r, m')) (hx : VRel μ a x) (hy : VRel μ k y) (hz : VRel μ b z) :
    ∃ w', (Instr.mapUpdate t x y z).run P w = .ok () w' ∧ r = .undef ∧ Step μ m w μ m' w' := by
  unfold evMapUpdate at h
  split at h
  · rename_i eq et id hT hid
    have := asMap_eq hid; subst this
    obtain ⟨kt, hU, hkeq⟩ := mapT_ok hE hT
    obtain ⟨u, q, hKU, hchk, hK⟩ := key_run (μ := μ) hE hkeq
    obtain ⟨L, hL, rfl⟩ := hx
    split at h
    · rename_i es hes
      obtain ⟨hg, ents, clock, h1, h2⟩ := mapAt_ok hr hes hL
      split at h
      · rename_i hkh
        unfold putMapR at h
        split at h
        · rename_i es' hp
          obtain ⟨rfl, rfl⟩ := Prod.mk.inj (Option.some.inj h)
          obtain ⟨o, ho, p1, p2⟩ := putKey_idx hp
          have hfind := find_run hKU hy hK h2 ho w
          cases o with
          | none =>
            rw [p1 rfl]
            refine ⟨_, ?_, rfl, setMap_step hr hg hL (ents := ents.push ⟨y, z, clock⟩) (clock := clock + 1) ?_⟩
            · simp only [Instr.mapUpdate, Sem.run_bind, hU, Result.andThen_ok, run_getMap h1, hchk k y _ w hkh hy, hfind, atPlace, run_setMap _ h1]
            · rw [Array.toList_push]; exact h2.push hy hz
          | some i =>
            rw [p2 i rfl]
            obtain ⟨k', v', g1, g2⟩ := idxOf_true ho
            obtain ⟨e, e1, e2, e3⟩ := h2.get _ _ _ g1
            have hs := (hK k k' y e.key true g2 hy e2).same rfl
            have e1' : ents[i]? = some e := by rw [← Array.getElem?_toList]; exact e1
            refine ⟨_, ?_, rfl, setMap_step hr hg hL (ents := ents.modify i fun e => { e with key := y, val := z }) (clock := clock) ?_⟩
            · simp only [Instr.mapUpdate, Sem.run_bind, hU, Result.andThen_ok, run_getMap h1, hchk k y _ w hkh hy, hfind, atPlace, e1, Option.map_some, Nat.add_zero, e1', Option.getD_some, keyStays hs, run_setMap _ h1]
            · rw [Array.toList_modify]; exact EsRel.set (fun _ => hy) (fun _ => hz) i h2
        · cases h
      · cases h
    · cases h
  · cases h

theorem delete_good (hE : TyOK E P) (hr : Rep μ m w) {t : Nat} {a k r : AV} {x y : Value} {rest : List Nat} {ty : Nat} (h : evDelete E t a k m = some (r, m')) (hx : VRel μ a x) (hy : VRel μ k y) :
    ∃ v w', (Builtin.delete_ ⟨t :: rest⟩ ty #[x, y]).run P w = .ok v w' ∧ VRel μ r v ∧ Step μ m w μ m' w' := by
  unfold evDelete at h
  split at h
  · rename_i eq et id hT hid
    have := asMap_eq hid; subst this
    obtain ⟨kt, hU, hkeq⟩ := mapT_ok hE hT
    obtain ⟨u, q, hKU, hchk, hK⟩ := key_run (μ := μ) hE hkeq
    obtain ⟨L, hL, rfl⟩ := hx
    split at h
    · rename_i es hes
      obtain ⟨hg, ents, clock, h1, h2⟩ := mapAt_ok hr hes hL
      split at h
      · rename_i hkh
        unfold putMapR at h
        split at h
        · rename_i es' hp
          obtain ⟨rfl, rfl⟩ := Prod.mk.inj (Option.some.inj h)
          obtain ⟨o, ho, p1, p2⟩ := delKey_idx hp
          have hfind := find_run hKU hy hK h2 ho w
          cases o with
          | none =>
            rw [p1 rfl]
            refine ⟨.tuple #[], _, ?_, ⟨_, rfl, rfl⟩, setMap_step hr hg hL (ents := ents) (clock := clock) h2⟩
            simp only [Builtin.delete_, List.getElem?_toArray, List.getElem?_cons_zero, List.getElem?_cons_succ, Sem.run_bind, hU, Result.andThen_ok, run_getMap h1, hchk k y _ w hkh hy, hfind, atPlace, run_setMap _ h1, Sem.run_pure]
          | some i =>
            rw [p2 i rfl]
            obtain ⟨k', v', g1, g2⟩ := idxOf_true ho
            obtain ⟨e, e1, e2, e3⟩ := h2.get _ _ _ g1
            refine ⟨.tuple #[], _, ?_, ⟨_, rfl, rfl⟩, setMap_step hr hg hL (ents := ents.eraseIdxIfInBounds i) (clock := clock) ?_⟩
            · simp only [Builtin.delete_, List.getElem?_toArray, List.getElem?_cons_zero, List.getElem?_cons_succ, Sem.run_bind, hU, Result.andThen_ok, run_getMap h1, hchk k y _ w hkh hy, hfind, atPlace, e1, Option.map_some, Nat.add_zero, run_setMap _ h1, Sem.run_pure]
            · have hi : i < ents.size := by
                have := (List.getElem?_eq_some_iff.1 e1).1; simpa using this
              unfold Array.eraseIdxIfInBounds
              rw [dif_pos hi, Array.toList_eraseIdx]
              exact h2.erase i
        · cases h
      · cases h
    · cases h
  · cases h
end
end Ev
