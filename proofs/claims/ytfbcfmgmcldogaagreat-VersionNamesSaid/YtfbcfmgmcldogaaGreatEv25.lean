/-
  A region that draws its order: whatever the order, it comes to what the text's order comes to.
-/
import Derived.Test.YtfbcfmgmcldogaaGreatEv24
import Derived.OrdersIn
namespace Ev
open Go

structure Ctx (E : Env) (P : Program) (call : CallF) (ops : Array Oper) (lr : List (Nat × List Nat)) (S : Nat → St) (sn : Snaps) : Prop where
  hE : EnvOK E P
  hc : CallOK P call
  hm : CallMono call
  facts : ∀ i, i < ops.size → ∃ o, StepFact E call ops lr i (S i) (S (i + 1)) sn o
  ord : Ordered ops
  clash : clash ops (Region.before ops) = false
  reads : ∀ i o, ops[i]? = some o → readOp o.op = true → loose ops (Region.before ops) i ≠ [] → lr.lookup i = some (loose ops (Region.before ops) i)
  stable : stable E lr sn = true

section
variable {E : Env} {P : Program} {call : CallF} {ops : Array Oper} {lr : List (Nat × List Nat)} {S : Nat → St} {sn : Snaps}

/-- an effect of the run -/
def Eff (ops : Array Oper) (S : Nat → St) (i : Nat) : Prop := ∃ o, ops[i]? = some o ∧ wanted ops (S i).tm o = true ∧ effectOp o.op = true

theorem Eff.lt {i : Nat} (h : Eff ops S i) : i < ops.size := by obtain ⟨o, h, _⟩ := h; exact (Array.getElem?_eq_some_iff.1 h).1


theorem Ctx.next1 (C : Ctx E P call ops lr S sn) {i : Nat} (hi : i < ops.size) : (S i).mem.next ≤ (S (i + 1)).mem.next := by
  obtain ⟨o, h⟩ := C.facts i hi
  rcases h.run with ⟨_, e⟩ | ⟨_, v, m, h2, e, _⟩
  · rw [e]; exact Nat.le_refl _
  · rw [e]; exact evOp_next C.hm h2

theorem Ctx.next (C : Ctx E P call ops lr S sn) {j k : Nat} (hjk : j ≤ k) (hk : k ≤ ops.size) : (S j).mem.next ≤ (S k).mem.next := by
  induction k with
  | zero => have : j = 0 := by omega
            subst this; exact Nat.le_refl _
  | succ k ih =>
    by_cases h : j = k + 1
    · subst h; exact Nat.le_refl _
    · exact Nat.le_trans (ih (by omega) (by omega)) (C.next1 (by omega))

/-- what is no effect leaves what is there -/
theorem Ctx.quiet1 (C : Ctx E P call ops lr S sn) {i : Nat} (hi : i < ops.size) (he : ¬ Eff ops S i) {id : Nat} (hid : id < (S i).mem.next) : (S (i + 1)).mem.get id = (S i).mem.get id := by
  obtain ⟨o, h⟩ := C.facts i hi
  rcases h.run with ⟨_, e⟩ | ⟨hw, v, m, h2, e, _⟩
  · rw [e]
  · have hne : effectOp o.op = false := by
      cases hb : effectOp o.op with
      | false => rfl
      | true => exact absurd ⟨o, h.op, hw, hb⟩ he
    rw [e]
    rcases (quiet_of hne h2).ok with ⟨rfl, _⟩ | ⟨_, b, rfl, _⟩
    · rfl
    · exact AMem.get_add_old _ _ (by omega)

theorem Ctx.quiet (C : Ctx E P call ops lr S sn) {j k : Nat} (hjk : j ≤ k) (hk : k ≤ ops.size) (he : ∀ e, j ≤ e → e < k → ¬ Eff ops S e) {id : Nat} (hid : id < (S j).mem.next) : (S k).mem.get id = (S j).mem.get id := by
  induction k with
  | zero => have : j = 0 := by omega
            subst this; rfl
  | succ k ih =>
    by_cases h : j = k + 1
    · subst h; rfl
    · rw [C.quiet1 (by omega) (he k (by omega) (by omega)) (Nat.lt_of_lt_of_le hid (C.next (by omega) (by omega)))]
      exact ih (by omega) (by omega) fun e h1 h2 => he e h1 (by omega)

theorem Ctx.tm1 (C : Ctx E P call ops lr S sn) {i : Nat} {o : Oper} (ho : ops[i]? = some o) {t : Nat} (ht : o.dst ≠ some t) : (S (i + 1)).tm.get t = (S i).tm.get t := by
  have hi : i < ops.size := (Array.getElem?_eq_some_iff.1 ho).1
  obtain ⟨o', h⟩ := C.facts i hi
  have : o' = o := by have := h.op; rw [ho] at this; exact (Option.some.inj this).symm
  subst this
  have key : ∀ v, (setDst (S i).tm o'.dst v).get t = (S i).tm.get t := by
    intro v
    cases hd : o'.dst with
    | none => rfl
    | some d => exact Tr.get_put_other _ _ (fun e => ht (by rw [hd, e]))
  rcases h.run with ⟨_, e⟩ | ⟨_, v, m, _, e, _⟩ <;> rw [e] <;> exact key _

theorem Ctx.tmBetween (C : Ctx E P call ops lr S sn) {j k : Nat} (hjk : j ≤ k) (hk : k ≤ ops.size) {t : Nat} (hw : ∀ i o, j ≤ i → i < k → ops[i]? = some o → o.dst ≠ some t) : (S k).tm.get t = (S j).tm.get t := by
  induction k with
  | zero => have : j = 0 := by omega
            subst this; rfl
  | succ k ih =>
    by_cases h : j = k + 1
    · subst h; rfl
    · obtain ⟨o, ho⟩ : ∃ o, ops[k]? = some o := ⟨ops[k]'(by omega), by simp⟩
      rw [C.tm1 ho (hw k o (by omega) (by omega) ho)]
      exact ih (by omega) (by omega) fun i o h1 h2 => hw i o h1 (by omega)

/-- whose number it is -/
theorem Ctx.whose (_C : Ctx E P call ops lr S sn) {j k id : Nat} (hjk : j ≤ k) (hk : k ≤ ops.size) (h1 : (S j).mem.next ≤ id) (h2 : id < (S k).mem.next) : ∃ i, j ≤ i ∧ i < k ∧ (S i).mem.next ≤ id ∧ id < (S (i + 1)).mem.next := by
  induction k with
  | zero => have : j = 0 := by omega
            subst this; omega
  | succ k ih =>
    by_cases h : j = k + 1
    · subst h; omega
    · by_cases hlt : id < (S k).mem.next
      · obtain ⟨i, a, b, c⟩ := ih (by omega) (by omega) hlt
        exact ⟨i, a, by omega, c⟩
      · exact ⟨k, by omega, by omega, by omega, h2⟩

theorem Ctx.chain (C : Ctx E P call ops lr S sn) {i j : Nat} (hi : Eff ops S i) (hj : Eff ops S j) (hlt : i < j) : isBefore (Region.before ops) i j = true := by
  obtain ⟨o, ho, _, eo⟩ := hi
  obtain ⟨p, hp, _, ep⟩ := hj
  rcases chain_of C.clash ho hp eo ep (by omega) with h | h
  · exact h
  · have := C.ord.lt _ _ h; omega

/-- the last or the first of some numbers -/
theorem last_of (p : Nat → Prop) : ∀ (b a : Nat), (∃ e, a ≤ e ∧ e < b ∧ p e) → ∃ e, a ≤ e ∧ e < b ∧ p e ∧ ∀ f, e < f → f < b → ¬ p f
  | 0, a, ⟨e, _, h, _⟩ => by omega
  | b + 1, a, ⟨e, h1, h2, h3⟩ => by
    by_cases hb : p b
    · exact ⟨b, by omega, by omega, hb, fun f _ _ => by omega⟩
    · have : e ≠ b := fun h => hb (h ▸ h3)
      obtain ⟨e', a1, a2, a3, a4⟩ := last_of p b a ⟨e, h1, by omega, h3⟩
      refine ⟨e', a1, by omega, a3, fun f hf1 hf2 => ?_⟩
      by_cases hfb : f = b
      · subst hfb; exact hb
      · exact a4 f hf1 (by omega)
theorem first_of (p : Nat → Prop) (e : Nat) (h : p e) : ∃ f, f ≤ e ∧ p f ∧ ∀ g, g < f → ¬ p g := by
  induction e using Nat.strongRecOn with
  | _ e ih =>
    by_cases hx : ∃ g, g < e ∧ p g
    · obtain ⟨g, g1, g2⟩ := hx
      obtain ⟨f, f1, f2, f3⟩ := ih g g1 g2
      exact ⟨f, by omega, f2, f3⟩
    · exact ⟨e, Nat.le_refl _, h, fun g hg hp => hx ⟨g, hg, hp⟩⟩

/-- a place in the text's order that what was done comes to -/
structure MPos (ops : Array Oper) (S : Nat → St) (L : Nat → Bool) (j : Nat) : Prop where
  le : j ≤ ops.size
  done : ∀ e, Eff ops S e → L e = true → e < j
  todo : ∀ e, Eff ops S e → L e = false → j ≤ e

structure TPos (ops : Array Oper) (L : Nat → Bool) (t j : Nat) : Prop where
  le : j ≤ ops.size
  done : ∀ i o, ops[i]? = some o → o.dst = some t → L i = true → i < j
  todo : ∀ i o, ops[i]? = some o → o.dst = some t → L i = false → j ≤ i

structure Inv (ops : Array Oper) (S : Nat → St) (μ₀ : Mu) (a₀ : Act) (w₀ : World) (L : Nat → Bool) (a : Act) (w : World) (μ : Mu) (M : AMem) : Prop where
  over : Over μ₀ (S 0).mem w₀ μ M w
  old : ∀ id, (id < (S 0).mem.next ∨ (S ops.size).mem.next ≤ id) → μ id = μ₀ id
  mnext : M.next = (S ops.size).mem.next
  fresh : ∀ i, i < ops.size → L i = false → ∀ id, (S i).mem.next ≤ id → id < (S (i + 1)).mem.next → μ id = none
  mem : ∀ j, MPos ops S L j → ∀ id A, (S j).mem.get id = some A → μ id ≠ none → M.get id = some A
  ahead : ∀ i, i < ops.size → L i = true → ¬ Eff ops S i → (∀ e, Eff ops S e → L e = true → e < i) → ∀ id A, (S i).mem.next ≤ id → (S (i + 1)).mem.get id = some A → μ id ≠ none → M.get id = some A
  tmps : ∀ t j, TPos ops L t j → VRel μ (((S j).tm.get t).getD .undef) (a.tmps.getD t undef)
  size : a.tmps.size = a₀.tmps.size
  defers : a.defers = a₀.defers

theorem Over.repOf {μ : Mu} {M m : AMem} {w : World} (h : Rep μ M w) (hs : ∀ id A, m.get id = some A → μ id ≠ none → M.get id = some A) : Rep μ m w :=
  ⟨fun id A L hA hL => h.blk id A L (hs id A hA (by rw [hL]; simp)) hL,
   fun i j A B L K hA hB hL hK e => h.inj i j A B L K (hs i A hA (by rw [hL]; simp)) (hs j B hB (by rw [hK]; simp)) hL hK e⟩

/-- one operation done: what is to be shown of it alone -/
theorem Ctx.advance (C : Ctx E P call ops lr S sn) {μ₀ : Mu} {a₀ : Act} {w₀ : World} {L : Nat → Bool} {a : Act} {w : World} {μ : Mu} {M : AMem} (I : Inv ops S μ₀ a₀ w₀ L a w μ M)
    (hL : ∀ i o, ops[i]? = some o → L i = true → ∀ e ∈ o.after, Region.binds .any e = true → L e.on = true) {i : Nat} {o : Oper} (ho : ops[i]? = some o) (hi : L i = false) (hd : ∀ k, o.dst = some k → k < a₀.tmps.size)
    {v : AV} {x : Value} {w' : World} {μ₁ : Mu} {M' : AMem} (hO : Over μ M w μ₁ M' w') (hN : M'.next = M.next) (hv : VRel μ₁ v x) (hS : (S (i + 1)).tm = setDst (S i).tm o.dst v)
    (hold : ∀ id, (id < (S i).mem.next ∨ (S (i + 1)).mem.next ≤ id) → μ₁ id = μ id)
    (hmem : ∀ j, MPos ops S (fun k => if k = i then true else L k) j → ∀ id A, (S j).mem.get id = some A → μ₁ id ≠ none → M'.get id = some A)
    (hahead : ∀ k, k < ops.size → (if k = i then true else L k) = true → ¬ Eff ops S k → (∀ e, Eff ops S e → (if e = i then true else L e) = true → e < k) → ∀ id A, (S k).mem.next ≤ id → (S (k + 1)).mem.get id = some A → μ₁ id ≠ none → M'.get id = some A) :
    Inv ops S μ₀ a₀ w₀ (fun k => if k = i then true else L k) (a.put o.dst x) w' μ₁ M' where
  over := I.over.trans hO
  old := fun id hid => by
    have hi' : i < ops.size := (Array.getElem?_eq_some_iff.1 ho).1
    have n1 := C.next (Nat.zero_le i) (by omega)
    have n2 := C.next (show i + 1 ≤ ops.size by omega) (Nat.le_refl _)
    rw [hold id (by omega), I.old id hid]
  mnext := hN.trans I.mnext
  fresh := fun k hk hLk id h1 h2 => by
    have hki : k ≠ i := fun e => by rw [if_pos e] at hLk; cases hLk
    rw [if_neg hki] at hLk
    have hi' : i < ops.size := (Array.getElem?_eq_some_iff.1 ho).1
    rw [hold id ?_]
    · exact I.fresh k hk hLk id h1 h2
    · by_cases hlt : k < i
      · have := C.next (show k + 1 ≤ i by omega) (by omega); omega
      · have := C.next (show i + 1 ≤ k by omega) (by omega); omega
  mem := hmem
  ahead := hahead
  tmps := fun t j hp => by
    have hi' : i < ops.size := (Array.getElem?_eq_some_iff.1 ho).1
    by_cases ht : o.dst = some t
    · have hlt : i < j := hp.done i o ho ht (by rw [if_pos rfl])
      rw [C.tmBetween (show i + 1 ≤ j by omega) hp.le ?_, hS, ht]
      · simp only [setDst, Tr.get_put_same, Option.getD_some]
        have hts : t < a.tmps.size := by rw [I.size]; exact hd t ht
        have : (a.put (some t) x).tmps.getD t undef = x := by simp [Act.put, Array.getD, hts]
        rw [this]; exact hv
      · intro k p hk1 hk2 hp' hpd
        rcases C.ord.names i k o p t ho hp' ht (by simp [namesOf, hpd]) with h | h | h
        · omega
        · cases hLk : L k with
          | true => rw [C.ord.closed L hL k i hLk h] at hi; cases hi
          | false => have := hp.todo k p hp' hpd (by rw [if_neg (by omega)]; exact hLk); omega
        · have := C.ord.lt _ _ h; omega
    · have hp0 : TPos ops L t j := ⟨hp.le, fun k p h1 h2 h3 => hp.done k p h1 h2 (by by_cases e : k = i <;> simp [e, h3]), fun k p h1 h2 h3 => hp.todo k p h1 h2 (by
        by_cases e : k = i
        · subst e; rw [ho] at h1; cases h1; exact absurd h2 ht
        · rw [if_neg e]; exact h3)⟩
      have h0 := (I.tmps t j hp0).mono hO.le
      have : (a.put o.dst x).tmps.getD t undef = a.tmps.getD t undef := by
        cases hdd : o.dst with
        | none => rfl
        | some d =>
          simp only [Act.put, Array.getD_eq_getD_getElem?]
          rw [Array.getElem?_setIfInBounds_ne (fun e => ht (by rw [hdd, e]))]
      rw [this]; exact h0
  size := by rw [put_size]; exact I.size
  defers := by rw [put_defers]; exact I.defers

/-- the temporaries that a ready operation names stand as in the text's order -/
theorem Ctx.tposAt (C : Ctx E P call ops lr S sn) {L : Nat → Bool} (hL : ∀ i o, ops[i]? = some o → L i = true → ∀ e ∈ o.after, Region.binds .any e = true → L e.on = true) {i : Nat} {o : Oper} (ho : ops[i]? = some o) (hi : L i = false)
    (hr : ∀ e ∈ o.after, Region.binds .any e = true → L e.on = true) {t : Nat} (ht : t ∈ namesOf ops o) : TPos ops L t i := by
  have hrd := C.ord.ready L hL i o ho hr
  refine ⟨Nat.le_of_lt (Array.getElem?_eq_some_iff.1 ho).1, fun k p hp hd hk => ?_, fun k p hp hd hk => ?_⟩
  · rcases C.ord.names k i p o t hp ho hd ht with h | h | h
    · subst h; rw [hi] at hk; cases hk
    · exact C.ord.lt _ _ h
    · rw [C.ord.closed L hL k i hk h] at hi; cases hi
  · rcases C.ord.names k i p o t hp ho hd ht with h | h | h
    · omega
    · rw [hrd k h] at hk; cases hk
    · exact Nat.le_of_lt (C.ord.lt _ _ h)
end
end Ev
