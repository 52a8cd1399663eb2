/-
  A program's own tables.
-/
import Derived.Test.YtfbcfmgmcldogaaGreatEv30
import Derived.Test.YtfbcfmgmcldogaaGreatEv0bk
namespace Ev
open Go

theorem tabF_get {α : Type} : ∀ (l : List α) (i : Nat) (t : Tr α) (k : Nat), (tabF l i t).get k = if i ≤ k then (match l[k - i]? with | some a => some a | none => t.get k) else t.get k
  | [], i, t, k => by simp [tabF]
  | a :: r, i, t, k => by
    rw [tabF, tabF_get r (i + 1) _ k]
    by_cases h : i = k
    · subst h
      rw [if_neg (by omega), if_pos (Nat.le_refl _), Nat.sub_self]
      simp [Tr.get_put_same]
    · rw [Tr.get_put_other _ _ (fun e => h e.symm)]
      by_cases h' : i ≤ k
      · rw [if_pos (by omega), if_pos h', show k - i = (k - (i + 1)) + 1 by omega, List.getElem?_cons_succ]
      · rw [if_neg (by omega), if_neg h']
theorem tab_get {α : Type} (l : List α) (k : Nat) : (tab l).get k = l[k]? := by
  unfold tab
  rw [tabF_get, if_pos (Nat.zero_le _), Nat.sub_zero]
  cases h : l[k]? with
  | some a => rfl
  | none => rfl

section
variable {P : Program}

theorem info_of_tab {t : Nat} {i : TypeInfo} (h : (tab P.types.toList).get t = some i) : P.info? t = some i := by
  rw [tab_get] at h
  have h' : P.types[t]? = some i := by simpa using h
  have hlt := (Array.getElem?_eq_some_iff.1 h').1
  simp only [Tables.info?, hlt, if_true]
  exact h'

theorem und_of_tab {i : TypeInfo} {t : Nat} {u : TypeDesc} (hi : (tab P.types.toList).get t = some i) (h : undT (tab P.types.toList) i = some u) : P.underlying t = some u := by
  unfold Program.underlying
  rw [info_of_tab hi]
  obtain ⟨desc⟩ := i
  unfold undT at h
  simp only at h
  cases desc with
  | named n u' =>
    simp only at h ⊢
    split at h
    · rename_i j hj
      cases h
      rw [info_of_tab hj]; rfl
    · cases h
  | _ => simpa using h

theorem tyOK : ∀ {funcs : Tr Func} {orc : Nat → Option (List AV → AMem → R)}, TyOK (envOf P (tab P.types.toList) funcs orc) P := by
  intro funcs orc
  refine ⟨fun t i h => ?_, ?_⟩
  · have h : tyAt P (tab P.types.toList) t = some i := h
    unfold tyAt at h
    split at h
    · rename_i inf hinf
      split at h
      · rename_i u hu
        cases h
        refine ⟨inf, info_of_tab hinf, und_of_tab hinf hu, rfl, rfl, fun z hz => ?_, rfl⟩
        simp only [zeroA] at hz
        split at hz
        · rename_i v hv; exact ⟨v, hv, hz⟩
        · cases hz
      · cases h
    · cases h
  · unfold Program.depth Made.depth; omega

theorem meth_ok {t : Nat} {name : String} {g : Nat} (h : methAt (tab P.types.toList) t name = some g) (v : Value) (w : World) : (method (P.types.size + Made.depth) t v name).run P w = .ok (g, v) w := by
  unfold methAt at h
  split at h
  · rename_i inf hinf
    split at h
    · rename_i u hu
      split at h
      · rename_i m hm
        split at h
        · rename_i hpath
          split at h
          · rename_i f p hfm
            split at h
            · rename_i hp
              cases h
              have hd : P.types.size + Made.depth = (P.types.size + 99) + 1 := rfl
              have hund := und_of_tab hinf hu
              have hpl : m.path.toList = [] := by simpa using hpath
              rw [hd, method]
              have hm' : inf.methods.find? (fun x => x.name == name) = some m := by rw [← Array.find?_toList]; exact hm
              simp only [Sem.run_bind, typeInfo, run_program, info_of_tab hinf, Result.andThen_ok, Sem.run_pure, hm', hpl, follow, hfm]
              have hp' : p = isPtrD u := by simpa using hp
              subst hp'
              cases u <;> simp [receiverAt, run_underlying hund, Place.get, isPtrD]
            · cases h
          · cases h
        · cases h
      · cases h
    · cases h
  · cases h

/-- what is asked of a program's functions, once -/
def okFuncs (P : Program) : Bool := P.funcs.toList.all fun fn => (fn.body.isNone || fn.name != "runtime.NumGoroutine") && okFunc fn

structure OrcOK (P : Program) (orc : Nat → Option (List AV → AMem → R)) : Prop where
  ok : ∀ f o, orc f = some o → FnOK P f o
  grows : ∀ f o, orc f = some o → ∀ args m r m', o args m = some (r, m') → m.next ≤ m'.next
  keeps : ∀ f o, orc f = some o → ∀ args m r m' l, o args m = some (r, m') → LoopAt m l → LoopAt m' l

theorem env_ok {orc : Nat → Option (List AV → AMem → R)} (hP : okFuncs P = true) (hm : P.follows .mixedOrders = true) (ho : OrcOK P orc) : EnvOK (envOf P (tab P.types.toList) (tab P.funcs.toList) orc) P := by
  refine { toTyOK := tyOK, fn := fun f fn h => ?_, meth := fun t name g h v w => meth_ok h v w, orc := ho.ok, grows := ho.grows, keeps := ho.keeps, mixed := hm }
  have h : (tab P.funcs.toList).get f = some fn := h
  rw [tab_get] at h
  have h' : P.funcs[f]? = some fn := by simpa using h
  have hall := List.all_eq_true.1 hP fn (by rw [Array.mem_toList_iff]; exact Array.mem_of_getElem? h')
  rw [Bool.and_eq_true] at hall
  refine ⟨h', fun hb => ?_, hall.2⟩
  have h1 := hall.1
  cases hbd : fn.body with
  | none => rw [hbd] at hb; cases hb
  | some c => rw [hbd] at h1; simpa using h1

theorem noOrc : OrcOK P (fun _ => none) := ⟨fun _ _ h => by (cases h), fun _ _ h => by (cases h), fun _ _ h => by (cases h)⟩

/-- a world that is as it was, but for what is new -/
structure Beside (w w' : World) : Prop where
  size : w.heap.size ≤ w'.heap.size
  old : ∀ b, b < w.heap.size → w'.heap[b]? = w.heap[b]?
  rest : w'.os = w.os ∧ w'.output = w.output ∧ w'.tape = w.tape

noncomputable def isTrue : R → Bool
  | some (.bool true, _) => true
  | _ => false

/-- a law without input, by the evaluator's word -/
theorem calls_true {E : Env} (hE : EnvOK E P) {n f : Nat} (h : isTrue (evCall E n (.fn f) [] ⟨0, .nil⟩) = true) (w : World) (hent : ∃ fn c, P.funcs[f]? = some fn ∧ fn.body = some c ∧ fn.name ≠ "runtime.NumGoroutine") :
    Calls P f #[] w fun e w' => e = .returned (.bool true) ∧ Beside w w' := by
  cases hc : evCall E n (.fn f) [] ⟨0, .nil⟩ with
  | none => rw [hc] at h; cases h
  | some p =>
    obtain ⟨r, m'⟩ := p
    rw [hc] at h
    have hr : r = .bool true := by
      unfold isTrue at h
      split at h
      · rename_i e; cases e; rfl
      · cases h
    subst hr
    obtain ⟨fn, c, f1, f2, f3⟩ := hent
    rcases (evCall_ok hE n).fn f [] ⟨0, .nil⟩ _ _ hc (fun _ => none) w [] ⟨fun id A L _ h => (by cases h), fun i j A B L K _ _ h => (by cases h)⟩ rfl (fun _ _ _ => rfl) with ⟨_, h2⟩ | ⟨v, w', h1, _⟩
    · refine callsIn_wide.1 ((show CallsIn Fence.wide 0 P f #[] w _ from h2).mono fun e w' he => ?_)
      cases e with
      | panicked c => exact he.elim
      | outgrown => exact he.elim
      | returned v =>
        obtain ⟨μ', hv, hs⟩ := he
        refine ⟨congrArg Ending.returned hv, hs.size, fun b hb => hs.frame b hb ?_, hs.rest⟩
        rintro ⟨id, A, L, _, h3, _⟩
        cases h3
    · simp [callFunc, f1, f2, f3] at h1
end
end Ev
