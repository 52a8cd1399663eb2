/-
  Regions that draw, loops over functions, whole calls; functions of plain data; conditions that the kernel writes. Conditions: none.
-/
import Derived.Test.YtmbkjhcmbbcphaaEvC
import Derived.OrdersIn
import Derived.Test.YtmbkjhcmbbcphaaEvA
import Derived.ProofKit
import Derived.Laws.Externs
/-
  A region that draws its order: the parts. Memories beside each other; the snapshots of the run in the text's order.
-/
namespace Ev
open Go

/-! ### One memory within a wider one -/
theorem realize (n : Nat) (f : Nat → Option ABlk) : ∃ M : AMem, M.next = n ∧ ∀ i, M.get i = if i < n then f i else none := by
  have key : ∀ k, ∃ T : Tr ABlk, ∀ i, i < k → T.get i = f i := by
    intro k
    induction k with
    | zero => exact ⟨.nil, fun i h => absurd h (Nat.not_lt_zero _)⟩
    | succ k ih =>
      obtain ⟨T, hT⟩ := ih
      refine ⟨T.put k (f k), fun i hi => ?_⟩
      rw [Tr.get_put]
      by_cases h : i = k
      · rw [if_pos h, h]
      · rw [if_neg h]; exact hT i (by omega)
  obtain ⟨T, hT⟩ := key n
  refine ⟨⟨n, T⟩, rfl, fun i => ?_⟩
  rw [AMem.get_eq]
  by_cases h : i < n
  · rw [if_pos h, if_pos h]; exact hT i h
  · rw [if_neg h, if_neg h]

structure Over (μ : Mu) (m : AMem) (w : World) (μ' : Mu) (m' : AMem) (w' : World) : Prop where
  le : μ.le μ'
  rep : Rep μ' m' w'
  size : w.heap.size ≤ w'.heap.size
  own : ∀ b, Owned μ' m' b → b < w.heap.size → Owned μ m b
  frame : ∀ b, b < w.heap.size → ¬ Owned μ m b → w'.heap[b]? = w.heap[b]?
  rest : w'.os = w.os ∧ w'.output = w.output ∧ w'.tape = w.tape

theorem Over.refl {μ : Mu} {m : AMem} {w : World} (h : Rep μ m w) : Over μ m w μ m w :=
  ⟨Mu.le_refl _, h, Nat.le_refl _, fun _ h _ => h, fun _ _ _ => rfl, rfl, rfl, rfl⟩
theorem Over.trans {μ μ₁ μ₂ : Mu} {m m₁ m₂ : AMem} {w w₁ w₂ : World} (h : Over μ m w μ₁ m₁ w₁) (h' : Over μ₁ m₁ w₁ μ₂ m₂ w₂) : Over μ m w μ₂ m₂ w₂ where
  le := Mu.le_trans h.le h'.le
  rep := h'.rep
  size := Nat.le_trans h.size h'.size
  own := fun b hb hlt => h.own b (h'.own b hb (by have := h.size; omega)) hlt
  frame := fun b hlt hn => by rw [h'.frame b (by have := h.size; omega) (fun ho => hn (h.own b ho hlt)), h.frame b hlt hn]
  rest := ⟨h'.rest.1.trans h.rest.1, h'.rest.2.1.trans h.rest.2.1, h'.rest.2.2.trans h.rest.2.2⟩

/-- a step of a part is a step of the whole -/
theorem Step.wider {μ μ' : Mu} {m m' M : AMem} {w w' : World} (hs : Step μ m w μ' m' w') (hM : Rep μ M w) (hsub : ∀ id A, m.get id = some A → μ id ≠ none → M.get id = some A) (hN : m'.next ≤ M.next) (_hf : Fresh μ m.next m'.next) :
    ∃ M' : AMem, M'.next = M.next ∧ Over μ M w μ' M' w' ∧ (∀ id A, m'.get id = some A → M'.get id = some A) ∧
      (∀ id, m.get id = none → m'.get id = none → (id < m.next ∨ m'.next ≤ id) → M'.get id = M.get id) := by
  obtain ⟨M', e1, e2⟩ := realize M.next fun id => match m'.get id with
    | some A => some A
    | none => if (m.get id).isSome ∨ (m.next ≤ id ∧ id < m'.next) then none else M.get id
  have g1 : ∀ id A, m'.get id = some A → M'.get id = some A := by
    intro id A h
    rw [e2, if_pos (Nat.lt_of_lt_of_le (AMem.get_lt h) hN), h]
  have g2 : ∀ id, m.get id = none → m'.get id = none → (id < m.next ∨ m'.next ≤ id) → M'.get id = M.get id := by
    intro id h1 h2 h3
    rw [e2, h2, h1]
    simp only [Option.isSome_none, Bool.false_eq_true, false_or]
    have hno : ¬ (m.next ≤ id ∧ id < m'.next) := by omega
    by_cases h : id < M.next
    · rw [if_pos h, if_neg hno]
    · rw [if_neg h, AMem.get_ge (by omega)]
  -- what lies in the new whole
  have g3 : ∀ id A, M'.get id = some A → m'.get id = some A ∨ (m'.get id = none ∧ m.get id = none ∧ (id < m.next ∨ m'.next ≤ id) ∧ M.get id = some A) := by
    intro id A h
    rw [e2] at h
    split at h
    · cases hm : m'.get id with
      | some B => rw [hm] at h; exact .inl h
      | none =>
        rw [hm] at h
        simp only at h
        split at h
        · cases h
        · rename_i hno
          right
          refine ⟨rfl, ?_, by omega, h⟩
          cases hg : m.get id with
          | none => rfl
          | some B => rw [hg] at hno; simp at hno
    · cases h
  -- a block beside the part is not the part's
  have beside : ∀ id A L, m.get id = none → M.get id = some A → μ id = some L → ¬ Owned μ m L.b := by
    rintro id A L hn hg hL ⟨id', A', L', h1, h2, h3⟩
    have := hM.inj id id' A A' L L' hg (hsub id' A' h1 (by rw [h2]; simp)) hL h2 h3.symm
    subst this
    rw [hn] at h1; cases h1
  have ownM : ∀ b, Owned μ m b → Owned μ M b := by
    rintro b ⟨id, A, L, h1, h2, h3⟩
    exact ⟨id, A, L, hsub id A h1 (by rw [h2]; simp), h2, h3⟩
  refine ⟨M', e1, ⟨hs.le, ⟨?_, ?_⟩, hs.size, ?_, fun b hb hn => hs.frame b hb fun ho => hn (ownM b ho), hs.rest⟩, g1, g2⟩
  · intro id A L h hL
    rcases g3 id A h with h | ⟨h1, h2, h3, h4⟩
    · exact hs.rep.blk id A L h hL
    · rw [hs.old id h3] at hL
      have hb := hM.blk id A L h4 hL
      exact (hb.heap (hs.frame _ hb.lt (beside id A L h2 h4 hL))).mono hs.le
  · intro i j A B L K hA hB hL hK e
    rcases g3 i A hA with hi | ⟨i1, i2, i3, i4⟩ <;> rcases g3 j B hB with hj | ⟨j1, j2, j3, j4⟩
    · exact hs.rep.inj i j A B L K hi hj hL hK e
    · rw [hs.old j j3] at hK
      have hlt := (hM.blk j B K j4 hK).lt
      exact absurd (hs.own K.b ⟨i, A, L, hi, hL, e⟩ hlt) (beside j B K j2 j4 hK)
    · rw [hs.old i i3] at hL
      have hlt := (hM.blk i A L i4 hL).lt
      exact absurd (hs.own L.b ⟨j, B, K, hj, hK, e.symm⟩ hlt) (beside i A L i2 i4 hL)
    · rw [hs.old i i3] at hL
      rw [hs.old j j3] at hK
      exact hM.inj i j A B L K i4 j4 hL hK e
  · rintro b ⟨i, A, L, hA, hL, rfl⟩ hlt
    rcases g3 i A hA with hi | ⟨i1, i2, i3, i4⟩
    · exact ownM _ (hs.own _ ⟨i, A, L, hi, hL, rfl⟩ hlt)
    · rw [hs.old i i3] at hL
      exact ⟨i, A, L, i4, hL, rfl⟩

/-! ### Equal by the evaluator's own test -/
mutual
theorem beq_eq : ∀ {a b : AV}, AV.beq a b = true → a = b
  | .bool a, b, h => by cases b <;> simp [AV.beq] at h; simp [h]
  | .int j a, b, h => by cases b <;> simp [AV.beq] at h; simp [h]
  | .str a, b, h => by cases b <;> simp [AV.beq] at h; simp [h]
  | .nilptr, b, h => by cases b <;> simp [AV.beq] at h; rfl
  | .ptr x y, b, h => by cases b <;> simp [AV.beq] at h; simp [h]
  | .nilslice, b, h => by cases b <;> simp [AV.beq] at h; rfl
  | .slice _ _ _ _, b, h => by cases b <;> simp [AV.beq] at h; simp [h]
  | .oslice _ _ _ _, b, h => by cases b <;> simp [AV.beq] at h; simp [h]
  | .nilmap, b, h => by cases b <;> simp [AV.beq] at h; rfl
  | .map a, b, h => by cases b <;> simp [AV.beq] at h; simp [h]
  | .nilfunc, b, h => by cases b <;> simp [AV.beq] at h; rfl
  | .func f x y, b, h => by
    cases b with
    | func g x' y' =>
      simp only [AV.beq, Bool.and_eq_true] at h
      rw [Nat.eq_of_beq_eq_true h.1.1, beqs_eq h.1.2, beqs_eq h.2]
    | _ => simp [AV.beq] at h
  | .yieldf a, b, h => by cases b <;> simp [AV.beq] at h; simp [h]
  | .nilif, b, h => by cases b <;> simp [AV.beq] at h; rfl
  | .iface t x, b, h => by
    cases b with
    | iface u y =>
      simp only [AV.beq, Bool.and_eq_true] at h
      rw [Nat.eq_of_beq_eq_true h.1, beq_eq h.2]
    | _ => simp [AV.beq] at h
  | .agg x, b, h => by
    cases b with
    | agg y => simp only [AV.beq] at h; rw [beqs_eq h]
    | _ => simp [AV.beq] at h
  | .tup x, b, h => by
    cases b with
    | tup y => simp only [AV.beq] at h; rw [beqs_eq h]
    | _ => simp [AV.beq] at h
theorem beqs_eq : ∀ {a b : List AV}, AV.beqs a b = true → a = b
  | [], [], _ => rfl
  | [], _ :: _, h => by simp [AV.beqs] at h
  | _ :: _, [], h => by simp [AV.beqs] at h
  | a :: x, b :: y, h => by
    simp only [AV.beqs, Bool.and_eq_true] at h
    rw [beq_eq h.1, beqs_eq h.2]
end

theorem blkSame_eq {a b : Option ABlk} (h : blkSame a b = true) : ∃ A, a = some A ∧ b = some A := by
  unfold blkSame at h
  split at h
  · rename_i x y
    refine ⟨y, ?_, rfl⟩
    unfold ABlk.beq at h
    split at h
    · simp only [Bool.and_eq_true, beq_iff_eq] at h
      rw [Nat.eq_of_beq_eq_true h.1.1, beqs_eq h.1.2, h.2]
    · rfl
    · cases h
  · cases h

/-! ### The run in the text's order -/
structure Snaps.Sub (a b : Snaps) : Prop where
  effs : ∀ x ∈ a.effs, x ∈ b.effs
  reads : ∀ x ∈ a.reads, x ∈ b.reads
  news : ∀ x ∈ a.news, x ∈ b.news
theorem Snaps.Sub.refl (a : Snaps) : a.Sub a := ⟨fun _ h => h, fun _ h => h, fun _ h => h⟩
theorem Snaps.Sub.trans {a b c : Snaps} (h : a.Sub b) (h' : b.Sub c) : a.Sub c := ⟨fun x hx => h'.effs x (h.effs x hx), fun x hx => h'.reads x (h.reads x hx), fun x hx => h'.news x (h.news x hx)⟩

/-- what the run at operation i was, and what was written down of it -/
structure StepFact (E : Env) (call : CallF) (ops : Array Oper) (lr : List (Nat × List Nat)) (i : Nat) (s s' : St) (sn : Snaps) (o : Oper) : Prop where
  op : ops[i]? = some o
  run : (wanted ops s.tm o = false ∧ s' = ⟨setDst s.tm o.dst .undef, s.mem⟩) ∨
    (wanted ops s.tm o = true ∧ ∃ v m, evOp E call o.op s.tm s.mem = some (v, m) ∧ s' = ⟨setDst s.tm o.dst v, m⟩ ∧ (effectOp o.op = true → (i, s.mem, m) ∈ sn.effs) ∧
      (effectOp o.op = false → (lr.lookup i).isSome = true → m.next = s.mem.next → (i, o.op, s.tm, v) ∈ sn.reads) ∧
      (effectOp o.op = false → (lr.lookup i).isSome = true → m.next ≠ s.mem.next → (i, s.mem.next, m.get s.mem.next) ∈ sn.news))

theorem StepFact.sub {E : Env} {call : CallF} {ops : Array Oper} {lr : List (Nat × List Nat)} {i : Nat} {s s' : St} {sn sn' : Snaps} {o : Oper} (h : StepFact E call ops lr i s s' sn o) (hs : sn.Sub sn') : StepFact E call ops lr i s s' sn' o := by
  refine ⟨h.op, ?_⟩
  rcases h.run with h | ⟨h1, v, m, h2, h3, h4, h5, h6⟩
  · exact .inl h
  · exact .inr ⟨h1, v, m, h2, h3, fun e => hs.effs _ (h4 e), fun e f g => hs.reads _ (h5 e f g), fun e f g => hs.news _ (h6 e f g)⟩

theorem snap_sub {lr : List (Nat × List Nat)} {i : Nat} {op : Op} {s : St} {v : AV} {m : AMem} {sn : Snaps} : sn.Sub (snap lr i op s v m sn) := by
  unfold snap
  split
  · exact ⟨fun x hx => List.mem_cons_of_mem _ hx, fun _ h => h, fun _ h => h⟩
  · split
    · split
      · exact ⟨fun _ h => h, fun x hx => List.mem_cons_of_mem _ hx, fun _ h => h⟩
      · exact ⟨fun _ h => h, fun _ h => h, fun x hx => List.mem_cons_of_mem _ hx⟩
    · exact Snaps.Sub.refl _

theorem draw_states {E : Env} {call : CallF} {ops : Array Oper} {lr : List (Nat × List Nat)} : ∀ (c k : Nat) (s s' : St) (sn sn' : Snaps), evDraw E call ops lr (List.range' k c) s sn = some (s', sn') →
    ∃ S : Nat → St, S k = s ∧ S (k + c) = s' ∧ (∀ i, k ≤ i → i < k + c → ∃ o, StepFact E call ops lr i (S i) (S (i + 1)) sn' o) ∧ sn.Sub sn'
  | 0, k, s, s', sn, sn', h => by
    cases h
    exact ⟨fun _ => s, rfl, rfl, fun i h1 h2 => by omega, Snaps.Sub.refl _⟩
  | c + 1, k, s, s', sn, sn', h => by
    rw [List.range'_succ] at h
    have build : ∀ (s₁ : St) (sn₁ : Snaps), evDraw E call ops lr (List.range' (k + 1) c) s₁ sn₁ = some (s', sn') → (∃ o, StepFact E call ops lr k s s₁ sn₁ o) → sn.Sub sn₁ →
        ∃ S : Nat → St, S k = s ∧ S (k + (c + 1)) = s' ∧ (∀ i, k ≤ i → i < k + (c + 1) → ∃ o, StepFact E call ops lr i (S i) (S (i + 1)) sn' o) ∧ sn.Sub sn' := by
      rintro s₁ sn₁ h1 ⟨o, h2⟩ h3
      obtain ⟨S, e1, e2, e3, e4⟩ := draw_states c (k + 1) s₁ s' sn₁ sn' h1
      refine ⟨fun j => if j = k then s else S j, by simp, ?_, fun i hi hlt => ?_, h3.trans e4⟩
      · simp only
        rw [if_neg (by omega), show k + (c + 1) = k + 1 + c by omega]; exact e2
      · simp only
        by_cases hik : i = k
        · subst hik
          rw [if_pos rfl, if_neg (by omega), e1]
          exact ⟨o, h2.sub e4⟩
        · rw [if_neg hik, if_neg (by omega)]
          exact e3 i (by omega) (by omega)
    simp only [evDraw] at h
    split at h
    · cases h
    · rename_i o ho
      split at h
      · rename_i hw
        exact build _ _ h ⟨o, ho, .inl ⟨hw, rfl⟩⟩ (Snaps.Sub.refl _)
      · rename_i hw
        split at h
        · rename_i v m hv
          split at h
          · refine build _ _ h ⟨o, ho, .inr ⟨hw, v, m, hv, rfl, fun he => ?_, fun he hl hn => ?_, fun he hl hn => ?_⟩⟩ snap_sub
            · simp [snap, he]
            · obtain ⟨l, hl⟩ := Option.isSome_iff_exists.1 hl
              have : Nat.beq m.next s.mem.next = true := by rw [hn]; exact Nat.beq_refl _
              simp [snap, he, hl, hn]
            · obtain ⟨l, hl⟩ := Option.isSome_iff_exists.1 hl
              simp [snap, he, hl, hn]
          · cases h
        · cases h
end Ev

/-
  A region that draws its order: whatever the order, it comes to what the text's order comes to.
-/
namespace Ev
open Go

structure Ctx (E : Env) (P : Program) (call : CallF) (ops : Array Oper) (lr : List (Nat × List Nat)) (S : Nat → St) (sn : Snaps) : Prop where
  hE : EnvOK E P
  hc : CallOK P call
  hm : CallMono call
  facts : ∀ i, i < ops.size → ∃ o, StepFact E call ops lr i (S i) (S (i + 1)) sn o
  ord : Ordered ops
  clash : clash ops (Region.before ops) = false
  reads : ∀ i o, ops[i]? = some o → readOp o.op = true → loose ops (Region.before ops) i ≠ [] → lr.lookup i = some (loose ops (Region.before ops) i)
  stable : stable E lr sn = true

section
variable {E : Env} {P : Program} {call : CallF} {ops : Array Oper} {lr : List (Nat × List Nat)} {S : Nat → St} {sn : Snaps}

/-- an effect of the run -/
def Eff (ops : Array Oper) (S : Nat → St) (i : Nat) : Prop := ∃ o, ops[i]? = some o ∧ wanted ops (S i).tm o = true ∧ effectOp o.op = true

theorem Eff.lt {i : Nat} (h : Eff ops S i) : i < ops.size := by obtain ⟨o, h, _⟩ := h; exact (Array.getElem?_eq_some_iff.1 h).1


theorem Ctx.next1 (C : Ctx E P call ops lr S sn) {i : Nat} (hi : i < ops.size) : (S i).mem.next ≤ (S (i + 1)).mem.next := by
  obtain ⟨o, h⟩ := C.facts i hi
  rcases h.run with ⟨_, e⟩ | ⟨_, v, m, h2, e, _⟩
  · rw [e]; exact Nat.le_refl _
  · rw [e]; exact evOp_next C.hm h2

theorem Ctx.next (C : Ctx E P call ops lr S sn) {j k : Nat} (hjk : j ≤ k) (hk : k ≤ ops.size) : (S j).mem.next ≤ (S k).mem.next := by
  induction k with
  | zero => have : j = 0 := by omega
            subst this; exact Nat.le_refl _
  | succ k ih =>
    by_cases h : j = k + 1
    · subst h; exact Nat.le_refl _
    · exact Nat.le_trans (ih (by omega) (by omega)) (C.next1 (by omega))

/-- what is no effect leaves what is there -/
theorem Ctx.quiet1 (C : Ctx E P call ops lr S sn) {i : Nat} (hi : i < ops.size) (he : ¬ Eff ops S i) {id : Nat} (hid : id < (S i).mem.next) : (S (i + 1)).mem.get id = (S i).mem.get id := by
  obtain ⟨o, h⟩ := C.facts i hi
  rcases h.run with ⟨_, e⟩ | ⟨hw, v, m, h2, e, _⟩
  · rw [e]
  · have hne : effectOp o.op = false := by
      cases hb : effectOp o.op with
      | false => rfl
      | true => exact absurd ⟨o, h.op, hw, hb⟩ he
    rw [e]
    rcases (quiet_of hne h2).ok with ⟨rfl, _⟩ | ⟨_, b, rfl, _⟩
    · rfl
    · exact AMem.get_add_old _ _ (by omega)

theorem Ctx.quiet (C : Ctx E P call ops lr S sn) {j k : Nat} (hjk : j ≤ k) (hk : k ≤ ops.size) (he : ∀ e, j ≤ e → e < k → ¬ Eff ops S e) {id : Nat} (hid : id < (S j).mem.next) : (S k).mem.get id = (S j).mem.get id := by
  induction k with
  | zero => have : j = 0 := by omega
            subst this; rfl
  | succ k ih =>
    by_cases h : j = k + 1
    · subst h; rfl
    · rw [C.quiet1 (by omega) (he k (by omega) (by omega)) (Nat.lt_of_lt_of_le hid (C.next (by omega) (by omega)))]
      exact ih (by omega) (by omega) fun e h1 h2 => he e h1 (by omega)

theorem Ctx.tm1 (C : Ctx E P call ops lr S sn) {i : Nat} {o : Oper} (ho : ops[i]? = some o) {t : Nat} (ht : o.dst ≠ some t) : (S (i + 1)).tm.get t = (S i).tm.get t := by
  have hi : i < ops.size := (Array.getElem?_eq_some_iff.1 ho).1
  obtain ⟨o', h⟩ := C.facts i hi
  have : o' = o := by have := h.op; rw [ho] at this; exact (Option.some.inj this).symm
  subst this
  have key : ∀ v, (setDst (S i).tm o'.dst v).get t = (S i).tm.get t := by
    intro v
    cases hd : o'.dst with
    | none => rfl
    | some d => exact Tr.get_put_other _ _ (fun e => ht (by rw [hd, e]))
  rcases h.run with ⟨_, e⟩ | ⟨_, v, m, _, e, _⟩ <;> rw [e] <;> exact key _

theorem Ctx.tmBetween (C : Ctx E P call ops lr S sn) {j k : Nat} (hjk : j ≤ k) (hk : k ≤ ops.size) {t : Nat} (hw : ∀ i o, j ≤ i → i < k → ops[i]? = some o → o.dst ≠ some t) : (S k).tm.get t = (S j).tm.get t := by
  induction k with
  | zero => have : j = 0 := by omega
            subst this; rfl
  | succ k ih =>
    by_cases h : j = k + 1
    · subst h; rfl
    · obtain ⟨o, ho⟩ : ∃ o, ops[k]? = some o := ⟨ops[k]'(by omega), by simp⟩
      rw [C.tm1 ho (hw k o (by omega) (by omega) ho)]
      exact ih (by omega) (by omega) fun i o h1 h2 => hw i o h1 (by omega)

/-- whose number it is -/
theorem Ctx.whose (_C : Ctx E P call ops lr S sn) {j k id : Nat} (hjk : j ≤ k) (hk : k ≤ ops.size) (h1 : (S j).mem.next ≤ id) (h2 : id < (S k).mem.next) : ∃ i, j ≤ i ∧ i < k ∧ (S i).mem.next ≤ id ∧ id < (S (i + 1)).mem.next := by
  induction k with
  | zero => have : j = 0 := by omega
            subst this; omega
  | succ k ih =>
    by_cases h : j = k + 1
    · subst h; omega
    · by_cases hlt : id < (S k).mem.next
      · obtain ⟨i, a, b, c⟩ := ih (by omega) (by omega) hlt
        exact ⟨i, a, by omega, c⟩
      · exact ⟨k, by omega, by omega, by omega, h2⟩

theorem Ctx.chain (C : Ctx E P call ops lr S sn) {i j : Nat} (hi : Eff ops S i) (hj : Eff ops S j) (hlt : i < j) : isBefore (Region.before ops) i j = true := by
  obtain ⟨o, ho, _, eo⟩ := hi
  obtain ⟨p, hp, _, ep⟩ := hj
  rcases chain_of C.clash ho hp eo ep (by omega) with h | h
  · exact h
  · have := C.ord.lt _ _ h; omega

/-- the last or the first of some numbers -/
theorem last_of (p : Nat → Prop) : ∀ (b a : Nat), (∃ e, a ≤ e ∧ e < b ∧ p e) → ∃ e, a ≤ e ∧ e < b ∧ p e ∧ ∀ f, e < f → f < b → ¬ p f
  | 0, a, ⟨e, _, h, _⟩ => by omega
  | b + 1, a, ⟨e, h1, h2, h3⟩ => by
    by_cases hb : p b
    · exact ⟨b, by omega, by omega, hb, fun f _ _ => by omega⟩
    · have : e ≠ b := fun h => hb (h ▸ h3)
      obtain ⟨e', a1, a2, a3, a4⟩ := last_of p b a ⟨e, h1, by omega, h3⟩
      refine ⟨e', a1, by omega, a3, fun f hf1 hf2 => ?_⟩
      by_cases hfb : f = b
      · subst hfb; exact hb
      · exact a4 f hf1 (by omega)
theorem first_of (p : Nat → Prop) (e : Nat) (h : p e) : ∃ f, f ≤ e ∧ p f ∧ ∀ g, g < f → ¬ p g := by
  induction e using Nat.strongRecOn with
  | _ e ih =>
    by_cases hx : ∃ g, g < e ∧ p g
    · obtain ⟨g, g1, g2⟩ := hx
      obtain ⟨f, f1, f2, f3⟩ := ih g g1 g2
      exact ⟨f, by omega, f2, f3⟩
    · exact ⟨e, Nat.le_refl _, h, fun g hg hp => hx ⟨g, hg, hp⟩⟩

/-- a place in the text's order that what was done comes to -/
structure MPos (ops : Array Oper) (S : Nat → St) (L : Nat → Bool) (j : Nat) : Prop where
  le : j ≤ ops.size
  done : ∀ e, Eff ops S e → L e = true → e < j
  todo : ∀ e, Eff ops S e → L e = false → j ≤ e

structure TPos (ops : Array Oper) (L : Nat → Bool) (t j : Nat) : Prop where
  le : j ≤ ops.size
  done : ∀ i o, ops[i]? = some o → o.dst = some t → L i = true → i < j
  todo : ∀ i o, ops[i]? = some o → o.dst = some t → L i = false → j ≤ i

structure Inv (ops : Array Oper) (S : Nat → St) (μ₀ : Mu) (a₀ : Act) (w₀ : World) (L : Nat → Bool) (a : Act) (w : World) (μ : Mu) (M : AMem) : Prop where
  over : Over μ₀ (S 0).mem w₀ μ M w
  old : ∀ id, (id < (S 0).mem.next ∨ (S ops.size).mem.next ≤ id) → μ id = μ₀ id
  mnext : M.next = (S ops.size).mem.next
  fresh : ∀ i, i < ops.size → L i = false → ∀ id, (S i).mem.next ≤ id → id < (S (i + 1)).mem.next → μ id = none
  mem : ∀ j, MPos ops S L j → ∀ id A, (S j).mem.get id = some A → μ id ≠ none → M.get id = some A
  ahead : ∀ i, i < ops.size → L i = true → ¬ Eff ops S i → (∀ e, Eff ops S e → L e = true → e < i) → ∀ id A, (S i).mem.next ≤ id → (S (i + 1)).mem.get id = some A → μ id ≠ none → M.get id = some A
  tmps : ∀ t j, TPos ops L t j → VRel μ (((S j).tm.get t).getD .undef) (a.tmps.getD t undef)
  size : a.tmps.size = a₀.tmps.size
  defers : a.defers = a₀.defers

theorem Over.repOf {μ : Mu} {M m : AMem} {w : World} (h : Rep μ M w) (hs : ∀ id A, m.get id = some A → μ id ≠ none → M.get id = some A) : Rep μ m w :=
  ⟨fun id A L hA hL => h.blk id A L (hs id A hA (by rw [hL]; simp)) hL,
   fun i j A B L K hA hB hL hK e => h.inj i j A B L K (hs i A hA (by rw [hL]; simp)) (hs j B hB (by rw [hK]; simp)) hL hK e⟩

/-- one operation done: what is to be shown of it alone -/
theorem Ctx.advance (C : Ctx E P call ops lr S sn) {μ₀ : Mu} {a₀ : Act} {w₀ : World} {L : Nat → Bool} {a : Act} {w : World} {μ : Mu} {M : AMem} (I : Inv ops S μ₀ a₀ w₀ L a w μ M)
    (hL : ∀ i o, ops[i]? = some o → L i = true → ∀ e ∈ o.after, Region.binds .any e = true → L e.on = true) {i : Nat} {o : Oper} (ho : ops[i]? = some o) (hi : L i = false) (hd : ∀ k, o.dst = some k → k < a₀.tmps.size)
    {v : AV} {x : Value} {w' : World} {μ₁ : Mu} {M' : AMem} (hO : Over μ M w μ₁ M' w') (hN : M'.next = M.next) (hv : VRel μ₁ v x) (hS : (S (i + 1)).tm = setDst (S i).tm o.dst v)
    (hold : ∀ id, (id < (S i).mem.next ∨ (S (i + 1)).mem.next ≤ id) → μ₁ id = μ id)
    (hmem : ∀ j, MPos ops S (fun k => if k = i then true else L k) j → ∀ id A, (S j).mem.get id = some A → μ₁ id ≠ none → M'.get id = some A)
    (hahead : ∀ k, k < ops.size → (if k = i then true else L k) = true → ¬ Eff ops S k → (∀ e, Eff ops S e → (if e = i then true else L e) = true → e < k) → ∀ id A, (S k).mem.next ≤ id → (S (k + 1)).mem.get id = some A → μ₁ id ≠ none → M'.get id = some A) :
    Inv ops S μ₀ a₀ w₀ (fun k => if k = i then true else L k) (a.put o.dst x) w' μ₁ M' where
  over := I.over.trans hO
  old := fun id hid => by
    have hi' : i < ops.size := (Array.getElem?_eq_some_iff.1 ho).1
    have n1 := C.next (Nat.zero_le i) (by omega)
    have n2 := C.next (show i + 1 ≤ ops.size by omega) (Nat.le_refl _)
    rw [hold id (by omega), I.old id hid]
  mnext := hN.trans I.mnext
  fresh := fun k hk hLk id h1 h2 => by
    have hki : k ≠ i := fun e => by rw [if_pos e] at hLk; cases hLk
    rw [if_neg hki] at hLk
    have hi' : i < ops.size := (Array.getElem?_eq_some_iff.1 ho).1
    rw [hold id ?_]
    · exact I.fresh k hk hLk id h1 h2
    · by_cases hlt : k < i
      · have := C.next (show k + 1 ≤ i by omega) (by omega); omega
      · have := C.next (show i + 1 ≤ k by omega) (by omega); omega
  mem := hmem
  ahead := hahead
  tmps := fun t j hp => by
    have hi' : i < ops.size := (Array.getElem?_eq_some_iff.1 ho).1
    by_cases ht : o.dst = some t
    · have hlt : i < j := hp.done i o ho ht (by rw [if_pos rfl])
      rw [C.tmBetween (show i + 1 ≤ j by omega) hp.le ?_, hS, ht]
      · simp only [setDst, Tr.get_put_same, Option.getD_some]
        have hts : t < a.tmps.size := by rw [I.size]; exact hd t ht
        have : (a.put (some t) x).tmps.getD t undef = x := by simp [Act.put, Array.getD, hts]
        rw [this]; exact hv
      · intro k p hk1 hk2 hp' hpd
        rcases C.ord.names i k o p t ho hp' ht (by simp [namesOf, hpd]) with h | h | h
        · omega
        · cases hLk : L k with
          | true => rw [C.ord.closed L hL k i hLk h] at hi; cases hi
          | false => have := hp.todo k p hp' hpd (by rw [if_neg (by omega)]; exact hLk); omega
        · have := C.ord.lt _ _ h; omega
    · have hp0 : TPos ops L t j := ⟨hp.le, fun k p h1 h2 h3 => hp.done k p h1 h2 (by by_cases e : k = i <;> simp [e, h3]), fun k p h1 h2 h3 => hp.todo k p h1 h2 (by
        by_cases e : k = i
        · subst e; rw [ho] at h1; cases h1; exact absurd h2 ht
        · rw [if_neg e]; exact h3)⟩
      have h0 := (I.tmps t j hp0).mono hO.le
      have : (a.put o.dst x).tmps.getD t undef = a.tmps.getD t undef := by
        cases hdd : o.dst with
        | none => rfl
        | some d =>
          simp only [Act.put, Array.getD_eq_getD_getElem?]
          rw [Array.getElem?_setIfInBounds_ne (fun e => ht (by rw [hdd, e]))]
      rw [this]; exact h0
  size := by rw [put_size]; exact I.size
  defers := by rw [put_defers]; exact I.defers

/-- the temporaries that a ready operation names stand as in the text's order -/
theorem Ctx.tposAt (C : Ctx E P call ops lr S sn) {L : Nat → Bool} (hL : ∀ i o, ops[i]? = some o → L i = true → ∀ e ∈ o.after, Region.binds .any e = true → L e.on = true) {i : Nat} {o : Oper} (ho : ops[i]? = some o) (hi : L i = false)
    (hr : ∀ e ∈ o.after, Region.binds .any e = true → L e.on = true) {t : Nat} (ht : t ∈ namesOf ops o) : TPos ops L t i := by
  have hrd := C.ord.ready L hL i o ho hr
  refine ⟨Nat.le_of_lt (Array.getElem?_eq_some_iff.1 ho).1, fun k p hp hd hk => ?_, fun k p hp hd hk => ?_⟩
  · rcases C.ord.names k i p o t hp ho hd ht with h | h | h
    · subst h; rw [hi] at hk; cases hk
    · exact C.ord.lt _ _ h
    · rw [C.ord.closed L hL k i hk h] at hi; cases hi
  · rcases C.ord.names k i p o t hp ho hd ht with h | h | h
    · omega
    · rw [hrd k h] at hk; cases hk
    · exact Nat.le_of_lt (C.ord.lt _ _ h)
end
end Ev

/-
  A region that draws its order: one operation, whichever is ready; and the whole.
-/
namespace Ev
open Go

section
variable {E : Env} {P : Program} {call : CallF} {ops : Array Oper} {lr : List (Nat × List Nat)} {S : Nat → St} {sn : Snaps} {ro : Option Nat}

theorem empty_get (n id : Nat) : (⟨n, .nil⟩ : AMem).get id = none := by
  rw [AMem.get_eq]; split <;> rfl
theorem empty_rep {μ : Mu} {w : World} (n : Nat) : Rep μ ⟨n, .nil⟩ w :=
  ⟨fun id A L h _ => (by rw [empty_get] at h; cases h), fun i j A B L K h _ _ _ _ => (by rw [empty_get] at h; cases h)⟩

theorem noCall_same {op : Op} (h : readOp op = true) (tm : Tr AV) (m : AMem) : evOp E noCall op tm m = evOp E call op tm m := by
  cases op with
  | call c =>
    show evCallOp E noCall c tm m = evCallOp E call c tm m
    unfold evCallOp
    simp only [readOp] at h
    split
    · split
      · rename_i f hc; rw [hc] at h; cases h
      · rename_i x n hc; rw [hc] at h; cases h
      · rfl
    · rfl
  | _ => first | rfl | cases h

theorem sameAt_run {op : Op} (h : readOp op = true) (he : effectOp op = false) {tm : Tr AV} {v : AV} {m : AMem} (hs : sameAt E op tm v m = true) : evOp E call op tm m = some (v, m) := by
  unfold sameAt at hs
  split at hs
  · rename_i u m' hev
    rw [noCall_same (call := call) h] at hev
    rw [Bool.and_eq_true] at hs
    have hu := beq_eq hs.1
    have hn := Nat.eq_of_beq_eq_true hs.2
    subst hu
    rcases (quiet_of he hev).ok with ⟨rfl, _⟩ | ⟨_, b, rfl, _⟩
    · exact hev
    · simp at hn
  · cases hs

theorem stable_reads (h : stable E lr sn = true) {i : Nat} {op : Op} {tm : Tr AV} {v : AV} (hr : (i, op, tm, v) ∈ sn.reads) {js : List Nat} (hl : lr.lookup i = some js) {j : Nat} {mb ma : AMem} (he : (j, mb, ma) ∈ sn.effs) (hj : j ∈ js) :
    sameAt E op tm v mb = true ∧ sameAt E op tm v ma = true := by
  unfold stable at h
  rw [Bool.and_eq_true, List.all_eq_true, List.all_eq_true] at h
  have := h.1 _ hr
  simp only [hl, List.all_eq_true] at this
  have := this _ he
  simp only [Bool.or_eq_true, Bool.and_eq_true, Bool.not_eq_true'] at this
  rcases this with h | h
  · rw [List.contains_iff_mem.2 hj] at h; cases h
  · exact h
theorem stable_news (h : stable E lr sn = true) {i id : Nat} {b : Option ABlk} (hr : (i, id, b) ∈ sn.news) {js : List Nat} (hl : lr.lookup i = some js) {j : Nat} {mb ma : AMem} (he : (j, mb, ma) ∈ sn.effs) (hj : j ∈ js) (hlt : i < j) :
    blkSame (ma.get id) b = true := by
  unfold stable at h
  rw [Bool.and_eq_true, List.all_eq_true, List.all_eq_true] at h
  have := h.2 _ hr
  simp only [hl, List.all_eq_true] at this
  have := this _ he
  simp only [Bool.or_eq_true, Bool.not_eq_true'] at this
  rcases this with (h | h) | h
  · rw [List.contains_iff_mem.2 hj] at h; cases h
  · rw [blt_iff] at h; omega
  · exact h

theorem step_draw (C : Ctx E P call ops lr S sn) {μ₀ : Mu} {a₀ : Act} {w₀ : World} {L : Nat → Bool} {a : Act} {w : World} {μ : Mu} {M : AMem} (I : Inv ops S μ₀ a₀ w₀ L a w μ M)
    (hL : ∀ i o, ops[i]? = some o → L i = true → ∀ e ∈ o.after, Region.binds .any e = true → L e.on = true) {i : Nat} {o : Oper} (ho : ops[i]? = some o) (hi : L i = false)
    (hr : ∀ e ∈ o.after, Region.binds .any e = true → L e.on = true) (hd : ∀ k, o.dst = some k → k < a₀.tmps.size) {K : Act → World → Prop} {Q : Exit → Act → World → Prop}
    (hK : ∀ a' w' μ' M', Inv ops S μ₀ a₀ w₀ (fun k => if k = i then true else L k) a' w' μ' M' → K a' w') : wpOpIn (fw ro) 0 P ops Q i K a w := by
  have hlt : i < ops.size := (Array.getElem?_eq_some_iff.1 ho).1
  have hrd := C.ord.ready L hL i o ho hr
  have hcl := fun k j h1 h2 => C.ord.closed L hL k j h1 h2
  obtain ⟨o', F⟩ := C.facts i hlt
  have : o' = o := by have := F.op; rw [ho] at this; exact (Option.some.inj this).symm
  subst this
  have hn1 := C.next1 hlt
  have hnN := C.next (show i + 1 ≤ ops.size by omega) (Nat.le_refl _)
  -- the temporaries
  have hop : ORel μ (S i).tm a o'.op.operands.toList := by
    intro x hx y hy
    cases x with
    | tmp t =>
      have hn : t ∈ namesOf ops o' := by
        simp only [namesOf, List.mem_append, List.mem_filterMap]
        exact .inl (.inr ⟨.tmp t, hx, rfl⟩)
      have h0 := I.tmps t i (C.tposAt hL ho hi hr hn)
      have : y = ((S i).tm.get t).getD .undef := by
        simp only [rd, orUndef] at hy
        cases hg : (S i).tm.get t with
        | none => rw [hg] at hy; exact (Option.some.inj hy).symm
        | some z => rw [hg] at hy; exact (Option.some.inj hy).symm
      subst this
      exact h0
    | const v => exact ofVal_rel μ hy
    | global g => cases hy
    | func f => cases hy; exact ⟨[], [], rfl, rfl, rfl⟩
  have hw : Region.wanted o' (yielded ops a.tmps) = wanted ops (S i).tm o' := wanted_eq fun j want oj t hg hj hdt => by
    refine I.tmps t i (C.tposAt hL ho hi hr ?_)
    simp [namesOf, hg, hj, hdt]
  have agree : ∀ {j : Nat}, MPos ops S L j → Rep μ (S j).mem w := fun hp => Over.repOf I.over.rep (I.mem _ hp)
  have hLe : ∀ {e : Nat}, Eff ops S e → ¬ Eff ops S i → (if e = i then true else L e) = L e := by
    intro e he hni
    rw [if_neg]; intro h; subst h; exact hni he
  -- a step that lays nothing: the whole stays as it is
  have calm : ∀ (mm : AMem) (v : AV) (x : Value) (w' : World) (μ₁ : Mu), ¬ Eff ops S i → (S (i + 1)).mem = (S i).mem → (S (i + 1)).tm = setDst (S i).tm o'.dst v → VRel μ₁ v x → Step μ mm w μ₁ mm w' →
      mm.next ≤ M.next → (∀ id A, mm.get id = some A → μ id ≠ none → M.get id = some A) → K (a.put o'.dst x) w' := by
    intro mm v x w' μ₁ hne hSm hSt hv hst hmn hsub
    have hμ : ∀ id, μ₁ id = μ id := fun id => hst.old id (by omega)
    obtain ⟨M', e1, e2, e3, e4⟩ := hst.wider I.over.rep hsub hmn (fun id h1 h2 => by omega)
    have hMM : ∀ id A, M.get id = some A → μ id ≠ none → M'.get id = some A := by
      intro id A hg hn
      cases hmg : mm.get id with
      | some B => rw [hsub id B hmg hn] at hg; cases hg; exact e3 id _ hmg
      | none => rw [e4 id hmg hmg (by omega)]; exact hg
    refine hK _ _ μ₁ M' (C.advance I hL ho hi hd e2 e1 hv hSt (fun id _ => hμ id) (fun j hp id A hg hn => ?_) (fun k hk hLk hnk hef id A h1 h2 hn => ?_))
    · rw [hμ] at hn
      exact hMM id A (I.mem j ⟨hp.le, fun e he hl => hp.done e he (by rw [hLe he hne]; exact hl), fun e he hl => hp.todo e he (by rw [hLe he hne]; exact hl)⟩ id A hg hn) hn
    · rw [hμ] at hn
      by_cases hki : k = i
      · subst hki
        rw [hSm, AMem.get_ge h1] at h2; cases h2
      · rw [if_neg hki] at hLk
        exact hMM id A (I.ahead k hk hLk hnk (fun e he hl => hef e he (by rw [hLe he hne]; exact hl)) id A h1 h2 hn) hn
  have hinM : (S i).mem.next ≤ M.next := by rw [I.mnext]; exact C.next (by omega) (Nat.le_refl _)
  unfold wpOpIn
  rw [ho]
  simp only [hw]
  rcases F.run with ⟨h1, h2⟩ | ⟨h1, v, m, h2, h3, h4, h5, h6⟩
  · -- not wanted
    rw [h1]
    simp only [Bool.false_eq_true, if_false]
    have hne : ¬ Eff ops S i := by
      rintro ⟨p, hp, hwp, _⟩
      rw [ho] at hp; cases hp
      rw [h1] at hwp; cases hwp
    exact ⟨fun _ _ => trivial, calm ⟨(S i).mem.next, .nil⟩ .undef undef w μ hne (by rw [h2]) (by rw [h2]) undef_rel (Step.refl (empty_rep _)) hinM (fun id A h => by rw [empty_get] at h; cases h)⟩
  · rw [h1]
    simp only [if_true]
    cases heff : effectOp o'.op with
    | false =>
      have hne : ¬ Eff ops S i := by
        rintro ⟨p, hp, _, hep⟩
        rw [ho] at hp; cases hp
        rw [heff] at hep; cases hep
      rcases (quiet_of heff h2).ok with ⟨rfl, hpure⟩ | ⟨hread, b, rfl, hnew⟩
      · cases hread : readOp o'.op with
        | false =>
          -- it hangs on no memory
          have hev := hpure hread ⟨(S i).mem.next, .nil⟩
          exact op_sound C.hE C.hc hev (empty_rep _) hop (fun id a1 a2 => by simp only at a1 a2; omega) _ _ fun x w' ⟨μ₁, hv, hst⟩ =>
            calm _ v x w' μ₁ hne (by rw [h3]) (by rw [h3]) hv hst hinM (fun id A h => by rw [empty_get] at h; cases h)
        | true =>
          -- it reads: at a place where what was done comes to
          have place : ∃ j, MPos ops S L j ∧ evOp E call o'.op (S i).tm (S j).mem = some (v, (S j).mem) := by
            by_cases hA : ∃ e, Eff ops S e ∧ L e = true ∧ i ≤ e
            · obtain ⟨e, a1, a2, a3⟩ := hA
              obtain ⟨e, b1, b2, ⟨b3, b4⟩, b5⟩ := last_of (fun e => Eff ops S e ∧ L e = true) ops.size i ⟨e, a3, a1.lt, a1, a2⟩
              have hei : e ≠ i := fun h => by subst h; exact hne b3
              have hlo : e ∈ loose ops (Region.before ops) i := by
                obtain ⟨p, hp, _, hep⟩ := b3
                refine mem_loose hp hep ?_ ?_ hei
                · cases hb : isBefore (Region.before ops) i e with
                  | false => rfl
                  | true => rw [hcl e i b4 hb] at hi; cases hi
                · cases hb : isBefore (Region.before ops) e i with
                  | false => rfl
                  | true => have := C.ord.lt _ _ hb; omega
              have hlk := C.reads i o' ho hread (fun h => by rw [h] at hlo; cases hlo)
              have hrs := h5 heff (by rw [hlk]; rfl) rfl
              obtain ⟨p, hp, hpw, hep⟩ := b3
              obtain ⟨p', F'⟩ := C.facts e (by omega)
              have : p' = p := by have := F'.op; rw [hp] at this; exact (Option.some.inj this).symm
              subst this
              rcases F'.run with ⟨g1, _⟩ | ⟨_, v', m', g2, g3, g4, _⟩
              · rw [hpw] at g1; cases g1
              · have hs := (stable_reads C.stable hrs hlk (g4 hep) hlo).2
                refine ⟨e + 1, ⟨by omega, fun e' he' hl' => ?_, fun e' he' hl' => ?_⟩, ?_⟩
                · by_cases h : e < e'
                  · exact absurd ⟨he', hl'⟩ (b5 e' h he'.lt)
                  · omega
                · by_cases h : e' < e
                  · rw [hcl e e' b4 (C.chain he' ⟨p', hp, hpw, hep⟩ h)] at hl'; cases hl'
                  · by_cases h' : e' = e
                    · subst h'; rw [b4] at hl'; cases hl'
                    · omega
                · have := sameAt_run (call := call) hread heff hs
                  rw [g3]; exact this
            · by_cases hB : ∃ e, Eff ops S e ∧ L e = false ∧ e < i
              · obtain ⟨e, a1, a2, a3⟩ := hB
                obtain ⟨f, f1, ⟨f2, f3⟩, f4⟩ := first_of (fun e => Eff ops S e ∧ L e = false) e ⟨a1, a2⟩
                have hfi : f ≠ i := by omega
                have hlo : f ∈ loose ops (Region.before ops) i := by
                  obtain ⟨p, hp, _, hep⟩ := f2
                  refine mem_loose hp hep ?_ ?_ hfi
                  · cases hb : isBefore (Region.before ops) i f with
                    | false => rfl
                    | true => have := C.ord.lt _ _ hb; omega
                  · cases hb : isBefore (Region.before ops) f i with
                    | false => rfl
                    | true => rw [hrd f hb] at f3; cases f3
                have hlk := C.reads i o' ho hread (fun h => by rw [h] at hlo; cases hlo)
                have hrs := h5 heff (by rw [hlk]; rfl) rfl
                obtain ⟨p, hp, hpw, hep⟩ := f2
                obtain ⟨p', F'⟩ := C.facts f (by omega)
                have : p' = p := by have := F'.op; rw [hp] at this; exact (Option.some.inj this).symm
                subst this
                rcases F'.run with ⟨g1, _⟩ | ⟨_, v', m', g2, g3, g4, _⟩
                · rw [hpw] at g1; cases g1
                · have hs := (stable_reads C.stable hrs hlk (g4 hep) hlo).1
                  refine ⟨f, ⟨by omega, fun e' he' hl' => ?_, fun e' he' hl' => ?_⟩, sameAt_run (call := call) hread heff hs⟩
                  · by_cases h : f < e'
                    · rw [hcl e' f hl' (C.chain ⟨p', hp, hpw, hep⟩ he' h)] at f3; cases f3
                    · by_cases h' : e' = f
                      · subst h'; rw [hl'] at f3; cases f3
                      · omega
                  · by_cases h : e' < f
                    · exact absurd ⟨he', hl'⟩ (f4 e' h)
                    · omega
              · refine ⟨i, ⟨by omega, fun e he hl => ?_, fun e he hl => ?_⟩, h2⟩
                · by_cases h : i ≤ e
                  · exact absurd ⟨e, he, hl, h⟩ hA
                  · omega
                · by_cases h : e < i
                  · exact absurd ⟨e, he, hl, h⟩ hB
                  · omega
          obtain ⟨j, hp, hev⟩ := place
          exact op_sound C.hE C.hc hev (agree hp) hop (fun id a1 a2 => by omega) _ _ fun x w' ⟨μ₁, hv, hst⟩ =>
            calm _ v x w' μ₁ hne (by rw [h3]) (by rw [h3]) hv hst (by rw [I.mnext]; exact C.next hp.le (Nat.le_refl _)) (I.mem j hp)
      · -- it lays a block
        have hev := hnew ⟨(S i).mem.next, .nil⟩ rfl
        have hSn : (S (i + 1)).mem.next = (S i).mem.next + 1 := by rw [h3]; rfl
        have hfr : Fresh μ (S i).mem.next ((S i).mem.next + 1) := fun id a1 a2 => I.fresh i hlt hi id a1 (by omega)
        refine op_sound C.hE C.hc hev (empty_rep _) hop hfr _ _ fun x w' ⟨μ₁, hv, hst⟩ => ?_
        obtain ⟨M', e1, e2, e3, e4⟩ := hst.wider I.over.rep (fun id A h => by rw [empty_get] at h; cases h) (by show (S i).mem.next + 1 ≤ M.next; rw [I.mnext]; omega) hfr
        have hnewM : M'.get (S i).mem.next = some b := e3 _ _ (AMem.get_add_new (⟨(S i).mem.next, .nil⟩ : AMem) b)
        have hoth : ∀ id, id ≠ (S i).mem.next → M'.get id = M.get id := by
          intro id hid
          refine e4 id (empty_get _ _) ?_ (by show id < (S i).mem.next ∨ (S i).mem.next + 1 ≤ id; omega)
          exact (AMem.get_add_old (⟨(S i).mem.next, .nil⟩ : AMem) b (i := id) hid).trans (empty_get _ _)
        have hold : ∀ id, (id < (S i).mem.next ∨ (S (i + 1)).mem.next ≤ id) → μ₁ id = μ id := fun id h => hst.old id (by
          show id < (S i).mem.next ∨ (S i).mem.next + 1 ≤ id; omega)
        have hSi1 : (S (i + 1)).mem.get (S i).mem.next = some b := by rw [h3]; exact AMem.get_add_new _ _
        refine hK _ _ μ₁ M' (C.advance I hL ho hi hd e2 e1 hv (by rw [h3]) hold (fun j hp id A hg hn => ?_) (fun k hk hLk hnk hef id A g1 g2 hn => ?_))
        · have hp0 : MPos ops S L j := ⟨hp.le, fun e he hl => hp.done e he (by rw [hLe he hne]; exact hl), fun e he hl => hp.todo e he (by rw [hLe he hne]; exact hl)⟩
          by_cases hid : id = (S i).mem.next
          · subst hid
            have hij : i + 1 ≤ j := by
              have hh := AMem.get_lt hg
              by_cases h : j ≤ i
              · have := C.next h (by omega); omega
              · omega
            have hb : (S j).mem.get (S i).mem.next = some b := by
              by_cases hx : ∃ e, i + 1 ≤ e ∧ e < j ∧ Eff ops S e
              · obtain ⟨e, b1, b2, b3, b5⟩ := last_of (Eff ops S) j (i + 1) hx
                have hLe' : L e = true := by
                  cases hl : L e with
                  | true => rfl
                  | false => have := hp0.todo e b3 hl; omega
                have hlo : e ∈ loose ops (Region.before ops) i := by
                  obtain ⟨p, hp, _, hep⟩ := b3
                  refine mem_loose hp hep ?_ ?_ (by omega)
                  · cases hb : isBefore (Region.before ops) i e with
                    | false => rfl
                    | true => rw [hcl e i hLe' hb] at hi; cases hi
                  · cases hb : isBefore (Region.before ops) e i with
                    | false => rfl
                    | true => have := C.ord.lt _ _ hb; omega
                have hlk := C.reads i o' ho hread (fun h => by rw [h] at hlo; cases hlo)
                have hns := h6 heff (by rw [hlk]; rfl) (by simp)
                obtain ⟨p, hp', hpw, hep⟩ := b3
                have hej : e < ops.size := by have := hp0.le; omega
                obtain ⟨p', F'⟩ := C.facts e hej
                have : p' = p := by have := F'.op; rw [hp'] at this; exact (Option.some.inj this).symm
                subst this
                rcases F'.run with ⟨g1, _⟩ | ⟨_, v', m', g2, g3, g4, _⟩
                · rw [hpw] at g1; cases g1
                · have hs := stable_news C.stable hns hlk (g4 hep) hlo (by omega)
                  obtain ⟨A', s1, s2⟩ := blkSame_eq hs
                  rw [AMem.get_add_new] at s2
                  cases s2
                  have hlt' : (S i).mem.next < (S (e + 1)).mem.next := by
                    rw [g3]; exact AMem.get_lt s1
                  rw [C.quiet (show e + 1 ≤ j by omega) hp0.le (fun f f1 f2 => b5 f (by omega) f2) hlt', g3]
                  exact s1
              · rw [C.quiet hij hp0.le (fun e e1 e2 he => hx ⟨e, e1, e2, he⟩) (by omega)]
                exact hSi1
            rw [hb] at hg; cases hg
            exact hnewM
          · rw [hoth id hid]
            rw [hold id (by omega)] at hn
            exact I.mem j hp0 id A hg hn
        · by_cases hki : k = i
          · subst hki
            have := AMem.get_lt g2
            have hid : id = (S k).mem.next := by omega
            subst hid
            rw [hSi1] at g2; cases g2
            exact hnewM
          · rw [if_neg hki] at hLk
            have hid : id ≠ (S i).mem.next := by
              have := AMem.get_lt g2
              by_cases h : k < i
              · have := C.next (show k + 1 ≤ i by omega) (by omega); omega
              · have := C.next (show i + 1 ≤ k by omega) (by omega); omega
            rw [hoth id hid]
            rw [hold id (by omega)] at hn
            exact I.ahead k hk hLk hnk (fun e he hl => hef e he (by rw [hLe he hne]; exact hl)) id A g1 g2 hn
    | true =>
      -- an effect: all before it are done, none behind it
      have hei : Eff ops S i := ⟨o', ho, h1, heff⟩
      have hp : MPos ops S L i := by
        refine ⟨by omega, fun e he hl => ?_, fun e he hl => ?_⟩
        · by_cases h : i < e
          · rw [hcl e i hl (C.chain hei he h)] at hi; cases hi
          · by_cases h' : e = i
            · subst h'; rw [hl] at hi; cases hi
            · omega
        · by_cases h : e < i
          · rw [hrd e (C.chain he hei h)] at hl; cases hl
          · omega
      have hSm : (S (i + 1)).mem = m := by rw [h3]
      have hfr : Fresh μ (S i).mem.next m.next := fun id a1 a2 => I.fresh i hlt hi id a1 (by rw [hSm]; exact a2)
      refine op_sound C.hE C.hc h2 (agree hp) hop hfr _ _ fun x w' ⟨μ₁, hv, hst⟩ => ?_
      rw [← hSm] at hst hfr
      obtain ⟨M', e1, e2, e3, e4⟩ := hst.wider I.over.rep (I.mem i hp) (by rw [I.mnext]; exact hnN) hfr
      have hhigh : ∀ id, (S (i + 1)).mem.next ≤ id → M'.get id = M.get id := fun id h => e4 id (AMem.get_ge (by omega)) (AMem.get_ge h) (.inr h)
      have hdone : ∀ e, Eff ops S e → (if e = i then true else L e) = true → e ≤ i := by
        intro e he hl
        by_cases h : e = i
        · omega
        · rw [if_neg h] at hl; exact Nat.le_of_lt (hp.done e he hl)
      refine hK _ _ μ₁ M' (C.advance I hL ho hi hd e2 e1 hv (by rw [h3]) hst.old (fun j hq id A hg hn => ?_) (fun k hk hLk hnk hef id A g1 g2 hn => ?_))
      · have hij : i + 1 ≤ j := hq.done i hei (by rw [if_pos rfl])
        have hnone : ∀ e, i + 1 ≤ e → e < j → ¬ Eff ops S e := by
          intro e a1 a2 he
          cases hl : (if e = i then true else L e) with
          | true => have := hdone e he hl; omega
          | false => have := hq.todo e he hl; omega
        by_cases hid : id < (S (i + 1)).mem.next
        · rw [C.quiet hij hq.le hnone hid] at hg
          exact e3 id A hg
        · obtain ⟨k, k1, k2, k3, k4⟩ := C.whose hij hq.le (by omega) (AMem.get_lt hg)
          have hkn : k < ops.size := by have := hq.le; omega
          rw [hst.old id (.inr (by omega))] at hn
          have hLk : L k = true := by
            cases hl : L k with
            | true => rfl
            | false => exact absurd (I.fresh k hkn hl id k3 k4) hn
          rw [hhigh id (by omega)]
          refine I.ahead k hkn hLk (hnone k k1 k2) (fun e he hl => ?_) id A k3 ?_ hn
          · have := hp.done e he hl; omega
          · rw [← C.quiet (show k + 1 ≤ j by omega) hq.le (fun e a1 a2 => hnone e (by omega) a2) k4]; exact hg
      · have hki : k ≠ i := fun h => by subst h; exact hnk hei
        rw [if_neg hki] at hLk
        have hik : i < k := hef i hei (by rw [if_pos rfl])
        have hSk := C.next (show i + 1 ≤ k by omega) (by omega)
        rw [hst.old id (.inr (by omega))] at hn
        rw [hhigh id (by omega)]
        refine I.ahead k hk hLk hnk (fun e he hl => hef e he ?_) id A g1 g2 hn
        by_cases h : e = i
        · rw [if_pos h]
        · rw [if_neg h]; exact hl
end
end Ev

/-
  A region that draws its order: the whole.
-/
namespace Ev
open Go

section
variable {E : Env} {P : Program} {call : CallF} {ops : Array Oper} {ro : Option Nat}

theorem Over.step {μ μ' : Mu} {m m' M : AMem} {w w' : World} (h : Over μ m w μ' M w') (hn : m.next ≤ m'.next) (hold : ∀ id, (id < m.next ∨ m'.next ≤ id) → μ' id = μ id)
    (hs : ∀ id A, m'.get id = some A → μ' id ≠ none → M.get id = some A) : Step μ m w μ' m' w' where
  next := hn
  old := hold
  le := h.le
  rep := Over.repOf h.rep hs
  size := h.size
  own := by
    rintro b ⟨id, A, L, h1, h2, h3⟩ hb
    exact h.own b ⟨id, A, L, hs id A h1 (by rw [h2]; simp), h2, h3⟩ hb
  frame := h.frame
  rest := h.rest

theorem any_draw {lr : List (Nat × List Nat)} {S : Nat → St} {sn : Snaps} (C : Ctx E P call ops lr S sn) {μ₀ : Mu} {a₀ : Act} {w₀ : World} (hd : ∀ (i : Nat) (o : Oper), ops[i]? = some o → ∀ k, o.dst = some k → k < a₀.tmps.size)
    {Q : Exit → Act → World → Prop} (hQ : ∀ μ' a' w', TRel μ' (S ops.size).tm a'.tmps → Step μ₀ (S 0).mem w₀ μ' (S ops.size).mem w' → a'.tmps.size = a₀.tmps.size → a'.defers = a₀.defers → Q .normal a' w') :
    ∀ (fuel : Nat) (listed : Array Bool) (a : Act) (w : World) (μ : Mu) (M : AMem), listed.size = ops.size → listed.toList.count false ≤ fuel →
      (∀ (i : Nat) (o : Oper), ops[i]? = some o → listed.getD i false = true → ∀ e ∈ o.after, Region.binds .any e = true → listed.getD e.on false = true) → Inv ops S μ₀ a₀ w₀ (fun k => listed.getD k false) a w μ M →
      wpAnyIn (fw ro) 0 P .any ops Q fuel listed a w := by
  have fin : ∀ (listed : Array Bool) (a : Act) (w : World) (μ : Mu) (M : AMem), listed.size = ops.size → Inv ops S μ₀ a₀ w₀ (fun k => listed.getD k false) a w μ M → Region.ready .any ops listed = [] → Q .normal a w := by
    intro listed a w μ M hsz I hnil
    have all : ∀ i, i < ops.size → listed.getD i false = true := by
      intro i
      induction i using Nat.strongRecOn with
      | _ i ih =>
        intro hi
        cases hl : listed.getD i false with
        | true => rfl
        | false =>
          obtain ⟨o, ho⟩ : ∃ o, ops[i]? = some o := ⟨ops[i]'hi, by simp⟩
          have hm : i ∈ Region.ready .any ops listed := by
            refine mem_ready.2 ⟨?_, o, ho, fun e he hb => ?_⟩
            · have hi' : i < listed.size := by omega
              simp [Array.getD, hi'] at hl ⊢
              exact hl
            · have := C.ord.edge i o ho e he hb
              exact ih e.on this (by omega)
          rw [hnil] at hm; cases hm
    have hp : MPos ops S (fun k => listed.getD k false) ops.size := ⟨Nat.le_refl _, fun e he _ => he.lt, fun e he hl => by rw [all e he.lt] at hl; cases hl⟩
    refine hQ μ a w (fun t => I.tmps t ops.size ⟨Nat.le_refl _, fun i o ho _ _ => (Array.getElem?_eq_some_iff.1 ho).1, fun i o ho _ hl => by rw [all i (Array.getElem?_eq_some_iff.1 ho).1] at hl; cases hl⟩) ?_ I.size I.defers
    exact I.over.step (C.next (Nat.zero_le _) (Nat.le_refl _)) I.old (I.mem _ hp)
  intro fuel
  induction fuel with
  | zero =>
    intro listed a w μ M hsz hcnt hL I
    have hnil : Region.ready .any ops listed = [] := by
      rw [List.eq_nil_iff_forall_not_mem]
      intro i hi
      obtain ⟨h1, o, ho, _⟩ := mem_ready.1 hi
      have hlt : i < listed.size := by rw [hsz]; exact (Array.getElem?_eq_some_iff.1 ho).1
      have h0 : listed.toList.count false = 0 := by omega
      rw [List.count_eq_zero] at h0
      have : listed[i] = false := by simpa [Array.getD, hlt] using h1
      exact h0 (by rw [← this]; simp)
    exact ⟨hnil, fin listed a w μ M hsz I hnil⟩
  | succ fuel ih =>
    intro listed a w μ M hsz hcnt hL I
    refine ⟨fin listed a w μ M hsz I, fun i hi => ?_⟩
    obtain ⟨h1, o, ho, hr⟩ := mem_ready.1 hi
    have hlt : i < listed.size := by rw [hsz]; exact (Array.getElem?_eq_some_iff.1 ho).1
    have hf : listed[i] = false := by simpa [Array.getD, hlt] using h1
    have hi0 : listed.getD i false = false := by simp [Array.getD, hlt, hf]
    have hset : (fun k => (listed.setIfInBounds i true).getD k false) = fun k => if k = i then true else listed.getD k false := by
      funext k
      simp only [Array.getD_eq_getD_getElem?]
      by_cases hk : k = i
      · subst hk; simp [hlt]
      · rw [if_neg hk, Array.getElem?_setIfInBounds_ne (Ne.symm hk)]
    refine step_draw C I hL ho hi0 hr (hd i o ho) fun a' w' μ' M' I' => ?_
    refine ih (listed.setIfInBounds i true) a' w' μ' M' (by simpa using hsz) ?_ ?_ (by rw [hset]; exact I')
    · rw [Array.toList_setIfInBounds, List.count_set (by simpa using hlt)]
      have hmem : false ∈ listed.toList := by rw [← hf]; simp
      have := List.count_pos_iff.2 hmem
      have e : listed.toList[i]'(by simpa using hlt) = false := by simpa using hf
      rw [e]
      have e2 : (false == false) = true := rfl
      have e3 : (true == false) = false := rfl
      rw [e2, e3, if_pos rfl]
      simp only [Bool.false_eq_true, if_false]
      omega
    · intro k p hp hk e he hb
      have h0 : ∀ k, (listed.setIfInBounds i true).getD k false = if k = i then true else listed.getD k false := congrFun hset
      rw [h0] at hk ⊢
      by_cases hek : e.on = i
      · rw [if_pos hek]
      · rw [if_neg hek]
        by_cases hki : k = i
        · subst hki; rw [ho] at hp; cases hp; exact hr e he hb
        · rw [if_neg hki] at hk; exact hL k p hp hk e he hb

theorem draw_sound (hE : EnvOK E P) (hc : CallOK P call) (hm : CallMono call) {s s' : St} {μ : Mu} {a : Act} {w : World} {id : Nat} (h : evRegion E call ops true s = some s') (hok : okDraw ops = true)
    (hdst : ∀ o ∈ ops.toList, okDst a.tmps.size o = true) (hr : Rep μ s.mem w) (ht : TRel μ s.tm a.tmps) (hf : Fresh μ s.mem.next s'.mem.next) {Q : Exit → Act → World → Prop} (hQ : ∀ μ' a' w', SStep μ s a w μ' s' a' w' → Q .normal a' w') :
    (Code.region id ops true).wpIn (fw ro) 0 P Q a w := by
  refine wpIn_region_any hE.mixed ?_
  unfold evRegion at h
  simp only at h
  split at h
  · rename_i lr hlr
    split at h
    · rename_i s₁ sn hd
      split at h
      · rename_i hst
        cases h
        obtain ⟨hcl, hrd⟩ := looseReads_ok hlr
        rw [List.range_eq_range'] at hd
        obtain ⟨S, e1, e2, e3, _⟩ := draw_states ops.size 0 s s' _ sn hd
        rw [Nat.zero_add] at e2
        have C : Ctx E P call ops lr S sn := ⟨hE, hc, hm, fun i hi => e3 i (Nat.zero_le _) (by omega), ordered_of hok, hcl, hrd, hst⟩
        have hr0 : Rep μ s.mem { w with drawn := w.drawn + 1 } := hr.of_heap rfl
        obtain ⟨M, m1, m2⟩ := realize s'.mem.next s.mem.get
        have hnx := C.next (Nat.zero_le ops.size) (Nat.le_refl _)
        rw [e1, e2] at hnx
        have m3 : ∀ i, M.get i = s.mem.get i := by
          intro i
          rw [m2]
          by_cases hi : i < s'.mem.next
          · rw [if_pos hi]
          · rw [if_neg hi, AMem.get_ge (by omega)]
        have hMr : Rep μ M { w with drawn := w.drawn + 1 } := Over.repOf hr0 fun id A h _ => by rw [← m3]; exact h
        have hOver : Over μ s.mem { w with drawn := w.drawn + 1 } μ M { w with drawn := w.drawn + 1 } := by
          refine ⟨Mu.le_refl _, hMr, Nat.le_refl _, ?_, fun _ _ _ => rfl, rfl, rfl, rfl⟩
          rintro b ⟨i, A, L, g1, g2, g3⟩ _
          exact ⟨i, A, L, by rw [← m3]; exact g1, g2, g3⟩
        refine any_draw C (μ₀ := μ) (a₀ := a) (w₀ := { w with drawn := w.drawn + 1 }) (fun i o ho => dst_lt (hdst o (by rw [Array.mem_toList_iff]; exact Array.mem_of_getElem? ho))) (fun μ' a' w' t1 t2 t3 t4 => ?_) ops.size (Array.replicate ops.size false) a _ μ M (by simp) (by simp) ?_ ?_
        · rw [e2] at t1 t2
          rw [e1] at t2
          refine hQ μ' a' w' ⟨t1, ⟨t2.next, t2.old, t2.le, t2.rep, t2.size, t2.own, t2.frame, t2.rest⟩, t3, [], by rw [t4]; rfl, Marks.nil⟩
        · intro i o ho hi
          simp [Array.getD] at hi
        · have hno : ∀ k, (Array.replicate ops.size false).getD k false = false := by intro k; simp [Array.getD]
          refine ⟨by rw [e1]; exact hOver, fun _ _ => rfl, by rw [e2]; exact m1, fun i hi _ id h1 h2 => ?_, fun j hp id A hg hn => ?_, fun i _ hl => (by simp only [hno] at hl; cases hl), fun t j hp => ?_, rfl, rfl⟩
          · have a1 := C.next (Nat.zero_le i) (by omega)
            have a2 := C.next (show i + 1 ≤ ops.size by omega) (Nat.le_refl _)
            rw [e1] at a1; rw [e2] at a2
            exact hf id (by omega) (by omega)
          · have hid : id < (S 0).mem.next := by
              have b1 := AMem.get_lt hg
              have b2 := C.next hp.le (Nat.le_refl _)
              rw [e2] at b2
              by_cases h : id < (S 0).mem.next
              · exact h
              · rw [e1] at h
                exact absurd (hf id (by omega) (by omega)) hn
            rw [C.quiet (Nat.zero_le j) hp.le (fun e _ h2 he => by have := hp.todo e he (hno e); omega) hid, e1] at hg
            rw [m3]; exact hg
          · rw [C.tmBetween (Nat.zero_le j) hp.le (fun i o _ h2 ho hd => by have := hp.todo i o ho hd (hno i); omega), e1]
            exact ht t
      · cases h
    · cases h
  · cases h
end
end Ev

/-
  The records of loops over functions stay such records.
-/
namespace Ev
open Go

def Soft (m m' : AMem) : Prop := ∀ l, LoopAt m l → LoopAt m' l
theorem Soft.refl (m : AMem) : Soft m m := fun _ h => h
theorem Soft.trans {a b c : AMem} (h : Soft a b) (h' : Soft b c) : Soft a c := fun l hl => h' l (h l hl)
theorem Soft.add (m : AMem) (b : ABlk) : Soft m (m.add b) := by
  rintro l ⟨st, pend, tm, ps, asg, bd, h⟩
  have := AMem.get_lt h
  exact ⟨st, pend, tm, ps, asg, bd, by rw [AMem.get_add_old _ _ (by omega)]; exact h⟩
theorem Soft.put {m : AMem} {id : Nat} {A : ABlk} (h : m.get id = some A) (hA : ∀ st pend tm ps asg bd, A ≠ .loop st pend tm ps asg bd) (B : ABlk) : Soft m (m.put id B) := by
  rintro l ⟨st, pend, tm, ps, asg, bd, hl⟩
  have : l ≠ id := by intro e; subst e; rw [h] at hl; cases hl; exact hA _ _ _ _ _ _ rfl
  exact ⟨st, pend, tm, ps, asg, bd, by rw [AMem.get_put_other _ _ this]; exact hl⟩
theorem Soft.putLoop {m : AMem} {id : Nat} {A : ABlk} (h : m.get id = some A) (st pend tm ps asg bd) : Soft m (m.put id (.loop st pend tm ps asg bd)) := by
  rintro l ⟨st', pend', tm', ps', asg', bd', hl⟩
  by_cases e : l = id
  · subst e; exact ⟨_, _, _, _, _, _, AMem.get_put_same _ _ _ (AMem.get_lt h)⟩
  · exact ⟨st', pend', tm', ps', asg', bd', by rw [AMem.get_put_other _ _ e]; exact hl⟩
theorem Soft.kill {m : AMem} {id : Nat} {A : ABlk} (h : m.get id = some A) (hA : ∀ st pend tm ps asg bd, A ≠ .loop st pend tm ps asg bd) : Soft m (m.kill id) := by
  rintro l ⟨st, pend, tm, ps, asg, bd, hl⟩
  have : l ≠ id := by intro e; subst e; rw [h] at hl; cases hl; exact hA _ _ _ _ _ _ rfl
  exact ⟨st, pend, tm, ps, asg, bd, by rw [AMem.get_kill_other _ this]; exact hl⟩

section
variable {E : Env} {m m' : AMem} {call : CallF} {tm : Tr AV}

theorem putCells_soft {id off : Nat} {new : List AV} (h : putCells m id off new = some m') : Soft m m' := by
  obtain ⟨_, _, _, _, hg, _, _, rfl⟩ := putCells_eq h
  exact Soft.put hg (fun _ _ _ _ _ _ e => by cases e) _
theorem put1_soft {id off : Nat} {x : AV} (h : put1 m id off x = some m') : Soft m m' := by
  obtain ⟨_, _, _, _, hg, _, _, rfl⟩ := put1_eq h
  exact Soft.put hg (fun _ _ _ _ _ _ e => by cases e) _
theorem evStore_soft {t : Nat} {a x r : AV} (h : evStore E t a x m = some (r, m')) : Soft m m' := by
  unfold evStore at h
  cases hi : E.ty t with
  | none => rw [hi] at h; cases h
  | some i =>
    rw [hi] at h
    cases hp : a.asPtr with
    | none => rw [hp] at h; cases h
    | some p =>
      rw [hp] at h
      simp only [evStoreAt] at h
      cases hl : x.asAgg with
      | none =>
        rw [hl] at h
        cases hb : Nat.beq i.size 1 with
        | false => rw [hb] at h; cases h
        | true => rw [hb] at h; exact put1_soft (unitR_some h)
      | some l =>
        rw [hl] at h
        simp only at h
        cases hb : Nat.beq l.length i.size with
        | false => rw [hb] at h; cases h
        | true => rw [hb] at h; exact putCells_soft (unitR_some h)
theorem mapAt_get {id : Nat} {es : List (AV × AV)} (h : mapAt m id = some es) : m.get id = some (.map es) := by
  unfold mapAt at h
  split at h
  · rename_i hg; cases h; exact hg
  · cases h
theorem map_soft {id : Nat} {es es' : List (AV × AV)} (h : mapAt m id = some es) : Soft m (m.put id (.map es')) := Soft.put (mapAt_get h) (fun _ _ _ _ _ _ e => by cases e) _
theorem evMapUpdate_soft {t : Nat} {x k y r : AV} (h : evMapUpdate E t x k y m = some (r, m')) : Soft m m' := by
  unfold evMapUpdate putMapR at h
  split at h
  · split at h
    · rename_i hes
      repeat' split at h
      all_goals first | (cases h; done) | (cases h; exact map_soft hes)
    · cases h
  · cases h
theorem evDelete_soft {t : Nat} {x k r : AV} (h : evDelete E t x k m = some (r, m')) : Soft m m' := by
  unfold evDelete putMapR at h
  split at h
  · split at h
    · rename_i hes
      repeat' split at h
      all_goals first | (cases h; done) | (cases h; exact map_soft hes)
    · cases h
  · cases h
theorem evClear_soft {t : Nat} {x r : AV} (h : evClear E t x m = some (r, m')) : Soft m m' := by
  unfold evClear at h
  repeat' split at h
  all_goals first | (cases h; done) | (cases h; exact Soft.refl _) | (rename_i hp; cases h; exact putCells_soft hp) | (rename_i hg; cases h; exact Soft.put hg (fun _ _ _ _ _ _ e => by cases e) _)
theorem evAppend_soft {es bytes n : Nat} {x r : AV} {new : List AV} (h : evAppend m es bytes x n new = some (r, m')) : Soft m m' := by
  unfold evAppend at h
  split at h
  · repeat' split at h
    all_goals first | (cases h; done) | (cases h; exact Soft.refl _)
  · split at h
    · cases h
    · split at h
      · split at h
        · cases h; exact Soft.add _ _
        · cases h
      · split at h
        · split at h
          · rename_i hp; cases h; exact putCells_soft hp
          · cases h
        · split at h
          · split at h
            · cases h; exact Soft.add _ _
            · cases h
          · cases h
      · split at h
        · rename_i hg
          split at h
          · split at h
            · split at h
              · rename_i hp; cases h; exact putCells_soft hp
              · cases h
            · split at h
              · cases h; exact (Soft.kill hg (fun _ _ _ _ _ _ e => by cases e)).trans (Soft.add _ _)
              · cases h
          · cases h
        · cases h
      · cases h
theorem evAppendOp_soft {ts : List Nat} {x y r : AV} (h : evAppendOp E ts x y m = some (r, m')) : Soft m m' := by
  unfold evAppendOp appZeros appCells at h
  repeat' split at h
  all_goals first | (cases h; done) | exact evAppend_soft h
theorem evCopy_soft {es : Nat} {d s r : AV} (h : evCopy m es d s = some (r, m')) : Soft m m' := by
  unfold evCopy copyTo at h
  repeat' split at h
  all_goals first | (cases h; done) | (cases h; exact Soft.refl _) | (rename_i hp; cases h; exact putCells_soft hp)
theorem evBuiltin_soft {b : Builtin} {ts : List Nat} {args : List AV} {r : AV} (h : evBuiltin E b ts args m = some (r, m')) : Soft m m' := by
  unfold evBuiltin at h
  split at h
  · rw [evLen_same h]; exact Soft.refl _
  · rw [evCap_same h]; exact Soft.refl _
  · exact evAppendOp_soft h
  · repeat' split at h
    all_goals first | (cases h; done) | exact evCopy_soft h
  · rw [(vm_some h).2]; exact Soft.refl _
  · rw [(vm_some h).2]; exact Soft.refl _
  · exact evDelete_soft h
  · exact evClear_soft h
  · cases h

def CallKeeps (call : CallF) : Prop := ∀ t args m r m', call t args m = some (r, m') → Soft m m'

theorem evOp_soft (hc : CallKeeps call) {op : Op} {v : AV} (h : evOp E call op tm m = some (v, m')) : Soft m m' := by
  cases he : effectOp op with
  | false =>
    rcases (quiet_of he h).ok with ⟨rfl, _⟩ | ⟨_, b, rfl, _⟩
    · exact Soft.refl _
    · exact Soft.add _ _
  | true =>
    unfold evOp at h
    cases op with
    | store t x y =>
      obtain ⟨b, c, _, _, h⟩ := on2_some h
      exact evStore_soft h
    | insert t x k y =>
      obtain ⟨b, c, _, _, h⟩ := on2_some h
      obtain ⟨d, _, h⟩ := on1_some h
      exact evMapUpdate_soft h
    | mapUpdate t x k y =>
      obtain ⟨b, c, _, _, h⟩ := on2_some h
      obtain ⟨d, _, h⟩ := on1_some h
      exact evMapUpdate_soft h
    | call c =>
      have h0 : evCallOp E call c tm m = some (v, m') := h
      unfold evCallOp at h0
      repeat' split at h0
      all_goals first | (cases h0; done) | exact hc _ _ _ _ _ h0 | exact evBuiltin_soft h0
    | _ => cases he
end

section
variable {E : Env} {call : CallF}
theorem evOps_soft (hc : CallKeeps call) (ops : Array Oper) : ∀ (l : List Oper) (s s' : St), evOpsF l E call ops s = some s' → Soft s.mem s'.mem
  | [], s, s', h => by cases h; exact Soft.refl _
  | o :: l, s, s', h => by
    rcases evOpsF_cons h with ⟨_, h⟩ | ⟨_, v, m, h1, h2⟩
    · have := evOps_soft hc ops l _ _ h
      exact this
    · have := evOps_soft hc ops l _ _ h2
      exact (evOp_soft hc h1).trans this
theorem evDraw_soft (hc : CallKeeps call) (ops : Array Oper) (lr : List (Nat × List Nat)) : ∀ (l : List Nat) (s : St) (sn : Snaps) (p : St × Snaps), evDraw E call ops lr l s sn = some p → Soft s.mem p.1.mem
  | [], s, sn, p, h => by cases h; exact Soft.refl _
  | i :: l, s, sn, p, h => by
    simp only [evDraw] at h
    split at h
    · cases h
    · split at h
      · have := evDraw_soft hc ops lr l _ _ _ h
        exact this
      · split at h
        · rename_i v m hv
          split at h
          · have := evDraw_soft hc ops lr l _ _ _ h
            exact (evOp_soft hc hv).trans this
          · cases h
        · cases h
theorem evRegion_soft (hc : CallKeeps call) {ops : Array Oper} {draw : Bool} {s s' : St} (h : evRegion E call ops draw s = some s') : Soft s.mem s'.mem := by
  unfold evRegion at h
  split at h
  · exact evOps_soft hc ops _ _ _ h
  · split at h
    · split at h
      · rename_i hd
        split at h
        · cases h; exact evDraw_soft hc ops _ _ _ _ _ hd
        · cases h
      · cases h
    · cases h
theorem evCode_soft (hc : CallKeeps call) : ∀ (c : Code) (fuel : Nat) (s s' : St) (ex : Ex), evCodeF c E call fuel s = some (ex, s') → Soft s.mem s'.mem := by
  intro c
  induction c with
  | skip => intro fuel s s' ex h; cases h; exact Soft.refl _
  | exit id => intro fuel s s' ex h; cases h; exact Soft.refl _
  | ret => intro fuel s s' ex h; cases h; exact Soft.refl _
  | region id ops draw => intro fuel s s' ex h; exact evRegion_soft hc (region_some h).2
  | seq x y ihx ihy =>
    intro fuel s s' ex h
    rcases seq_some h with ⟨s₁, h1, h2⟩ | ⟨_, h1⟩
    · exact (ihx _ _ _ _ h1).trans (ihy _ _ _ _ h2)
    · exact ihx _ _ _ _ h1
  | cond c x y ihx ihy =>
    intro fuel s s' ex h
    obtain ⟨b, _, h⟩ := cond_some h
    cases b with
    | true => exact ihx _ _ _ _ h
    | false => exact ihy _ _ _ _ h
  | block id c ih =>
    intro fuel s s' ex h
    obtain ⟨e₁, h, _⟩ := block_some h
    exact ih _ _ _ _ h
  | loop c ih =>
    intro fuel s s' ex h
    rw [loop_some] at h
    have key : ∀ n s s' ex, loopF n (evCodeF c E call fuel) s = some (ex, s') → Soft s.mem s'.mem := by
      intro n
      induction n with
      | zero => intro s s' ex h; cases h
      | succ n ihn =>
        intro s s' ex h
        rcases loopF_succ h with ⟨s₁, h1, h2⟩ | ⟨_, h1⟩
        · exact (ih _ _ _ _ h1).trans (ihn _ _ _ h2)
        · exact ih _ _ _ _ h1
    exact key _ _ _ _ h
  | rangeFunc g ps x y ihx ihy =>
    intro fuel s s' ex h
    obtain ⟨f, first, captured, r, m', st, pend, tm, qs, asg, bd, _, _, hcall, hget, _, _, rfl⟩ := range_some h
    exact ((Soft.add _ _).trans (hc _ _ _ _ _ hcall)).trans (Soft.putLoop hget _ _ _ _ _ _)
  | _ => intro fuel s s' ex h; cases h

theorem evCall_keeps (ho : ∀ f o, E.orc f = some o → ∀ args m r m' l, o args m = some (r, m') → LoopAt m l → LoopAt m' l) : ∀ n, CallKeeps (evCall E n)
  | 0, _, _, _, _, _, h => by cases h
  | n + 1, t, args, m, r, m', h => by
    cases t with
    | fn f =>
      rcases fn_some h with ⟨o, h1, h2⟩ | ⟨fn, body, ex, s, _, _, _, h1, _, h2⟩
      · exact fun l hl => ho f o h1 _ _ _ _ l h2 hl
      · have := evCode_soft (evCall_keeps ho n) body n _ _ _ h1
        rw [evLeave_same h2]; exact this
    | yield l =>
      obtain ⟨st, pend, tm, ps, asg, bd, s, pend', tm', ps', asg', bd', ex, s₂, st₃, pend₃, tm₃, ps₃, asg₃, bd₃, _, _, h1, hg, h2, hg₂, h3⟩ := round_some h
      have a1 := evCode_soft (evCall_keeps ho n) asg n _ _ _ h1
      have a2 := evCode_soft (evCall_keeps ho n) bd n _ _ _ h2
      have a3 := (a1.trans (Soft.putLoop hg .busy pend' tm' ps' asg' bd')).trans a2
      rcases h3 with ⟨_, _, rfl⟩ | ⟨_, _, rfl⟩ <;> exact a3.trans (Soft.putLoop hg₂ _ _ _ _ _ _)
end
end Ev

/-
  Code, rounds of loops over functions, calls.
-/
namespace Ev
open Go

def exitOf : Ex → Exit
  | .normal => .normal
  | .exit id => .exit id
  | .ret => .ret

/-- the record of the round that one is in -/
def InRound (ro : Option Nat) (μ : Mu) (m : AMem) : Prop := ∀ b, ro = some b → ∃ l L, μ l = some L ∧ L.b = b ∧ LoopAt m l

section
variable {E : Env} {P : Program} {call : CallF} {ro : Option Nat} {μ : Mu} {m : AMem} {w : World}

theorem InRound.step {μ' : Mu} {m' : AMem} (h : InRound ro μ m) (hle : μ.le μ') (hs : Soft m m') : InRound ro μ' m' := by
  intro b hb
  obtain ⟨l, L, h1, h2, h3⟩ := h b hb
  exact ⟨l, L, hle _ _ h1, h2, hs l h3⟩

/-- a block beside is laid -/
theorem Step.push {w' : World} {o : Obj} (h : Rep μ m w) (hw : w'.heap = w.heap.push o) (hr : w'.os = w.os ∧ w'.output = w.output ∧ w'.tape = w.tape) : Step μ m w μ m w' where
  next := Nat.le_refl _
  old := fun _ _ => rfl
  le := Mu.le_refl _
  rep := ⟨fun id A L hA hL => (h.blk id A L hA hL).heap (by
      have := (h.blk id A L hA hL).lt
      rw [hw, Array.getElem?_push, if_neg (by omega)]), h.inj⟩
  size := by rw [hw]; simp
  own := fun _ h _ => h
  frame := fun b hlt _ => by rw [hw, Array.getElem?_push, if_neg (by omega)]
  rest := hr

/-- a block beside, and newer than the beginning, is turned -/
theorem Step.aside {μ' : Mu} {m' : AMem} {w' w'' : World} (h : Step μ m w μ' m' w') {r : Nat} (hno : ¬ Owned μ' m' r) (hr : w.heap.size ≤ r) (ho : OnlyAt r w' w'') : Step μ m w μ' m' w'' where
  next := h.next
  old := h.old
  le := h.le
  rep := ⟨fun id A L hA hL => (h.rep.blk id A L hA hL).heap (ho.other _ fun e => hno ⟨id, A, L, hA, hL, e⟩), h.rep.inj⟩
  size := by rw [ho.size]; exact h.size
  own := h.own
  frame := fun b hb hn => by rw [ho.other b (by omega)]; exact h.frame b hb hn
  rest := ⟨ho.rest.1.trans h.rest.1, ho.rest.2.1.trans h.rest.2.1, ho.rest.2.2.trans h.rest.2.2⟩

theorem run_getLoop {b : Nat} {R : Loop} (h : w.heap[b]? = some (.loop R)) : (Instr.getLoop b).run P w = .ok R w := by
  simp [Instr.getLoop, getObj, Sem.run, h]
theorem run_setLoop {b : Nat} {R : Loop} (o : Obj) (h : w.heap[b]? = some (.loop R)) : (setObj b o).run P w = .ok () { w with heap := w.heap.setIfInBounds b o } := by
  simp [setObj, Sem.run, h]
theorem setLoop_step (hr : Rep μ m w) {id : Nat} {A B : ABlk} {L : Loc} (hg : m.get id = some A) (hL : μ id = some L) {R : Loop} (hB : ∀ w' : World, w'.heap[L.b]? = some (.loop R) → BRel μ B L w') :
    Step μ m w μ (m.put id B) { w with heap := w.heap.setIfInBounds L.b (.loop R) } := by
  have hlt := (hr.blk _ _ _ hg hL).lt
  refine Step.write hr hg hL ⟨by simp, fun b' hb => by simp [Ne.symm hb], rfl, rfl, rfl⟩ (hB _ (by simp [hlt]))

theorem pend_code {e : Ex} (h : e ≠ .normal) : ∃ c, exCode e = some c ∧ (∀ {Q : Exit → Act → World → Prop} {a : Act} {w : World}, Q (exitOf e) a w → c.wpIn (fw ro) 0 P Q a w) := by
  cases e with
  | normal => exact absurd rfl h
  | exit id => exact ⟨.exit id, rfl, fun h => wpIn_exit h⟩
  | ret => exact ⟨.ret, rfl, fun h => wpIn_ret h⟩

theorem code_sound (hE : EnvOK E P) (hc : CallOK P call) (hm : CallMono call) (hk : CallKeeps call) (fuel : Nat) : ∀ (c : Code) (s s' : St) (ex : Ex) (μ : Mu) (a : Act) (w : World) (Q : Exit → Act → World → Prop), evCodeF c E call fuel s = some (ex, s') →
    okCode a.tmps.size c = true → Rep μ s.mem w → TRel μ s.tm a.tmps → Fresh μ s.mem.next s'.mem.next → InRound ro μ s.mem → (∀ μ' a' w', SStep μ s a w μ' s' a' w' → Q (exitOf ex) a' w') → c.wpIn (fw ro) 0 P Q a w := by
  intro c
  induction c with
  | skip => intro s s' ex μ a w Q h _ hr ht _ _ hQ; cases h; exact wpIn_skip (hQ μ a w (SStep.refl hr ht))
  | exit id => intro s s' ex μ a w Q h _ hr ht _ _ hQ; cases h; exact wpIn_exit (hQ μ a w (SStep.refl hr ht))
  | ret => intro s s' ex μ a w Q h _ hr ht _ _ hQ; cases h; exact wpIn_ret (hQ μ a w (SStep.refl hr ht))
  | region id ops draw =>
    intro s s' ex μ a w Q h hok hr ht hf _ hQ
    obtain ⟨rfl, hreg⟩ := region_some h
    simp only [okCode, Bool.and_eq_true, Bool.or_eq_true, Bool.not_eq_true'] at hok
    have hd : ∀ o ∈ ops.toList, okDst a.tmps.size o = true := List.all_eq_true.1 hok.1
    cases draw with
    | false => exact wpIn_region_list (ops_sound hE hc hm ops.toList s s' μ a w hreg hd hr ht hf hQ)
    | true =>
      rcases hok.2 with h0 | h0
      · cases h0
      · exact draw_sound hE hc hm hreg h0 hd hr ht hf hQ
  | seq x y ihx ihy =>
    intro s s' ex μ a w Q h hok hr ht hf hin hQ
    simp only [okCode, Bool.and_eq_true] at hok
    refine wpIn_seq ?_
    rcases seq_some h with ⟨s₁, h1, h2⟩ | ⟨hne, h1⟩
    · have hn := evCode_next hm y fuel _ _ _ h2
      refine ihx s s₁ .normal μ a w _ h1 hok.1 hr ht (fun id a1 a2 => hf id a1 (by omega)) hin fun μ₁ a₁ w₁ hs => ?_
      exact ihy s₁ s' ex μ₁ a₁ w₁ Q h2 (by rw [hs.size]; exact hok.2) hs.step.rep hs.tm (hs.step.fresh hf) (hin.step hs.step.le (evCode_soft hk x fuel _ _ _ h1)) fun μ₂ a₂ w₂ hs₂ => hQ μ₂ a₂ w₂ (hs.trans hs₂)
    · refine ihx s s' ex μ a w _ h1 hok.1 hr ht hf hin fun μ₁ a₁ w₁ hs => ?_
      have := hQ μ₁ a₁ w₁ hs
      cases ex with
      | normal => exact absurd rfl hne
      | exit id => exact this
      | ret => exact this
  | cond c x y ihx ihy =>
    intro s s' ex μ a w Q h hok hr ht hf hin hQ
    simp only [okCode, Bool.and_eq_true] at hok
    obtain ⟨b, hb, h⟩ := cond_some h
    refine wpIn_cond (t := b) (rd_rel ht c hb) ?_
    cases b with
    | true => exact ihx s s' ex μ a w Q h hok.1 hr ht hf hin hQ
    | false => exact ihy s s' ex μ a w Q h hok.2 hr ht hf hin hQ
  | block id c ih =>
    intro s s' ex μ a w Q h hok hr ht hf hin hQ
    obtain ⟨e₁, h, hx⟩ := block_some h
    refine wpIn_block (ih s s' e₁ μ a w _ h hok hr ht hf hin fun μ₁ a₁ w₁ hs => ?_)
    have := hQ μ₁ a₁ w₁ hs
    rcases hx with ⟨rfl, rfl⟩ | ⟨hne, rfl⟩
    · simp only [exitOf, Exit.inBlock, if_true]; exact this
    · cases ex with
      | normal => exact this
      | ret => exact this
      | exit j =>
        simp only [exitOf, Exit.inBlock]
        rw [if_neg (fun e => hne (by rw [e]))]; exact this
  | loop c ih =>
    intro s s' ex μ a w Q h hok hr ht hf hin hQ
    rw [loop_some] at h
    refine wpIn_loop_rounds fuel ?_
    have key : ∀ n (s : St) (μ₀ : Mu) (a : Act) (w : World), loopF n (evCodeF c E call fuel) s = some (ex, s') → okCode a.tmps.size c = true → Rep μ₀ s.mem w → TRel μ₀ s.tm a.tmps → Fresh μ₀ s.mem.next s'.mem.next → InRound ro μ₀ s.mem →
        (∀ μ' a' w', SStep μ₀ s a w μ' s' a' w' → Q (exitOf ex) a' w') → Code.roundsIn (fw ro) 0 P c Q n a w := by
      intro n
      induction n with
      | zero => intro s μ₀ a w h; cases h
      | succ n ihn =>
        intro s μ₀ a w h hok hr ht hf hin hQ
        rw [roundsIn_succ]
        rcases loopF_succ h with ⟨s₁, h1, h2⟩ | ⟨hne, h1⟩
        · have hn : s₁.mem.next ≤ s'.mem.next := by
            have : evCodeF (.loop c) E call fuel s₁ = loopF fuel (evCodeF c E call fuel) s₁ := rfl
            have gen : ∀ n s s' ex, loopF n (evCodeF c E call fuel) s = some (ex, s') → s.mem.next ≤ s'.mem.next := by
              intro n
              induction n with
              | zero => intro s s' ex h; cases h
              | succ n ihn =>
                intro s s' ex h
                rcases loopF_succ h with ⟨s₁, h1, h2⟩ | ⟨_, h1⟩
                · exact Nat.le_trans (evCode_next hm c _ _ _ _ h1) (ihn _ _ _ h2)
                · exact evCode_next hm c _ _ _ _ h1
            exact gen _ _ _ _ h2
          refine ih s s₁ .normal μ₀ a w _ h1 hok hr ht (fun id a1 a2 => hf id a1 (by omega)) hin fun μ₁ a₁ w₁ hs => ?_
          exact ihn s₁ μ₁ a₁ w₁ h2 (by rw [hs.size]; exact hok) hs.step.rep hs.tm (hs.step.fresh hf) (hin.step hs.step.le (evCode_soft hk c fuel _ _ _ h1)) fun μ₂ a₂ w₂ hs₂ => hQ μ₂ a₂ w₂ (hs.trans hs₂)
        · refine ih s s' ex μ₀ a w _ h1 hok hr ht hf hin fun μ₁ a₁ w₁ hs => ?_
          have := hQ μ₁ a₁ w₁ hs
          cases ex with
          | normal => exact absurd rfl hne
          | exit id => exact this
          | ret => exact this
    exact key fuel s μ a w h hok hr ht hf hin hQ
  | rangeFunc g ps x y ihx ihy =>
    intro s s' ex μ a w Q h hok hr ht hf hin hQ
    obtain ⟨f, first, captured, r, m', st, pend, tm, qs, asg, bd, hg, hbd, hcall, hget, hst, rfl, rfl⟩ := range_some h
    simp only [okCode, Bool.and_eq_true] at hok
    obtain ⟨⟨hps, hokx⟩, hoky⟩ := hok
    obtain ⟨fs, cs, eg, e2, e3⟩ := rd_rel ht g hg
    have hn := hm _ _ _ _ _ hcall
    simp only [AMem.add_next] at hn
    simp only [AMem.put_next] at hf
    have hfree : μ s.mem.next = none := hf _ (Nat.le_refl _) (by omega)
    -- the function that is ranged over has a body
    have hent : ∀ args w, (callFunc f args).run P w = .ok (.enter f args) w := by
      intro args w
      unfold hasBody at hbd
      split at hbd
      · rename_i fn hfn
        obtain ⟨p1, p2, _⟩ := hE.fn f fn hfn
        split at hbd
        · rename_i body hb
          have hn := p2 (by rw [hb]; rfl)
          simp [callFunc, p1, hb, hn]
        · cases hbd
      · cases hbd
    -- the rest, wherever the record has been laid
    have rest : ∀ (fn : FuncId) (l : Nat) (mark : List Deferred) (dfs : Nat) (w₀ : World), Step μ s.mem w μ s.mem w₀ → l = w₀.heap.size → Marks μ s.mem w₀ w.heap.size mark →
        (Instr.enterLoop fn a.tmps ps x y ro).run P w = .ok (l, mark) { w₀ with heap := w₀.heap.push (.loop { state := .ready, pending := none, fn, tmps := a.tmps, params := ps, assign := x, body := y, defers := dfs }) } →
        ∃ (l : Nat) (mark : List Deferred) (w₁ : World) (d : Deferred) (w₁' : World) (f : FuncId) (args : Array Value) (w₂ : World),
          (Instr.enterLoop fn a.tmps ps x y (fw ro).round).run P w = .ok (l, mark) w₁ ∧ (resolve a.eval (rangeCall g l) 0).run P w₁ = .ok d w₁' ∧ (∀ f', Target.leads P w₁' d.target d.args = some f' → (fw ro).fn f') ∧
          (invoke d.target d.args).run P w₁' = .ok (.enter f args) w₂ ∧ ((fw ro).depth.isSome = true → 1 ≤ 0) ∧ CallsIn (fw ro) (0 - 1) P f args w₂ (rangePost (fw ro) 0 P l Q { a with defers := mark ++ a.defers }) := by
      intro fn l mark dfs w₀ hs0 hl hmk hrun
      subst hl
      have hlay : Step μ s.mem w₀ (μ.with s.mem.next ⟨w₀.heap.size, 0, 0⟩) (s.mem.add (.loop .ready none s.tm ps.toList x y))
          { w₀ with heap := w₀.heap.push (.loop { state := .ready, pending := none, fn, tmps := a.tmps, params := ps, assign := x, body := y, defers := dfs }) } := by
        refine Step.alloc hs0.rep hfree rfl ⟨rfl, rfl, rfl⟩ ⟨{ state := .ready, pending := none, fn, tmps := a.tmps, params := ps, assign := x, body := y, defers := dfs }, by simp, rfl, rfl, rfl, rfl, rfl, ht.mono (Mu.le_with hfree), hokx, hoky, ?_, fun e he => by cases he⟩
        intro p hp
        have := List.all_eq_true.1 hps p hp
        rw [blt_iff] at this
        exact this
      generalize ({ w₀ with heap := w₀.heap.push (.loop { state := .ready, pending := none, fn, tmps := a.tmps, params := ps, assign := x, body := y, defers := dfs }) } : World) = w₁ at hrun hlay
      refine ⟨w₀.heap.size, mark, w₁, ⟨.fn (.func f) ⟨cs⟩, ⟨fs⟩ ++ #[.func (.yield w₀.heap.size) #[] #[]]⟩, w₁, f, ⟨fs⟩ ++ #[.func (.yield w₀.heap.size) #[] #[]] ++ ⟨cs⟩, w₁, hrun, ?_, fun _ _ => trivial, ?_, fun h => (by simp [fw, Fence.wide] at h), ?_⟩
      · have hmp : (#[Operand.const (.func (.yield w₀.heap.size) #[] #[])].map a.eval) = #[.func (.yield w₀.heap.size) #[] #[]] := by simp [Act.eval]
        simp only [resolve, hmp, eg, Deferred.ofValue, Sem.run_pure]
      · simp only [invoke]; exact hent _ _
      · have hv : VsRel (μ.with s.mem.next ⟨w₀.heap.size, 0, 0⟩) (first ++ .yieldf s.mem.next :: captured) (fs ++ .func (.yield w₀.heap.size) #[] #[] :: cs) :=
          (e2.mono hlay.le).append (.cons ⟨_, Mu.with_same _ _ _, rfl⟩ (e3.mono hlay.le))
        have hargs : (⟨fs⟩ ++ #[.func (.yield w₀.heap.size) #[] #[]] ++ ⟨cs⟩ : Array Value) = ⟨fs ++ .func (.yield w₀.heap.size) #[] #[] :: cs⟩ := by apply Array.ext'; simp
        rw [hargs]
        have hfr : Fresh (μ.with s.mem.next ⟨w₀.heap.size, 0, 0⟩) (s.mem.add (.loop .ready none s.tm ps.toList x y)).next m'.next := by
          intro id a1 a2
          simp only [AMem.add_next] at a1
          rw [Mu.with_other _ _ (by omega)]
          exact hf id (by omega) a2
        rcases hc.fn f _ _ _ _ hcall _ _ _ hlay.rep hv hfr with ⟨_, hci⟩ | ⟨v, w', h1, _⟩
        · refine CallsIn.mono (CallsIn.any hci ro) fun e w' he => ?_
          cases e with
          | panicked c => exact he.elim
          | outgrown => exact he.elim
          | returned v =>
            obtain ⟨μ', hv', hst'⟩ := he
            have hL : μ' s.mem.next = some ⟨w₀.heap.size, 0, 0⟩ := hst'.le _ _ (Mu.with_same _ _ _)
            obtain ⟨R, b1, b2, b3, b4, b5, b6, b7, b8, b9, b10, b11⟩ := hst'.rep.blk _ _ _ hget hL
            have hnb : (R.state == .busy) = false := by rw [b2]; cases st <;> first | rfl | exact absurd rfl hst
            have hend : (Instr.endLoop w₀.heap.size).run P w' = .ok R.pending { w' with heap := w'.heap.setIfInBounds w₀.heap.size (.loop { R with state := .exhausted }) } := by
              simp only [Instr.endLoop, Sem.run_bind, run_getLoop b1, Result.andThen_ok, hnb, Bool.false_eq_true, if_false, run_setLoop _ b1, Sem.run_pure]
            have hfin : Step μ' m' w' μ' (m'.put s.mem.next (.loop .exhausted pend tm qs asg bd)) { w' with heap := w'.heap.setIfInBounds w₀.heap.size (.loop { R with state := .exhausted }) } :=
              setLoop_step (L := ⟨w₀.heap.size, 0, 0⟩) hst'.rep hget hL fun w'' hw'' => ⟨_, hw'', rfl, b3, b4, b5, b6, b7, b8, b9, b10, b11⟩
            have hall := ((hs0.trans hlay).trans hst').trans hfin
            have hSS : SStep μ s a w μ' ⟨s.tm, m'.put s.mem.next (.loop .exhausted pend tm qs asg bd)⟩ { a with defers := mark ++ a.defers } { w' with heap := w'.heap.setIfInBounds w₀.heap.size (.loop { R with state := .exhausted }) } :=
              ⟨ht.mono hall.le, hall, rfl, mark, rfl, hmk.step ((hlay.trans hst').trans hfin)⟩
            have hq := hQ _ _ _ hSS
            refine ⟨R.pending, _, hend, ?_⟩
            split
            · rename_i hn
              cases pend with
              | none => exact hq
              | some e =>
                obtain ⟨c, hc1, _⟩ := pend_code (P := P) (ro := ro) (b11 e rfl)
                rw [hn, Option.bind_some, hc1] at b3; cases b3
            · rename_i c' hs
              cases pend with
              | none => rw [hs] at b3; cases b3
              | some e =>
                obtain ⟨c, hc1, hc2⟩ := pend_code (P := P) (ro := ro) (b11 e rfl)
                rw [hs, Option.bind_some, hc1] at b3; cases b3
                exact hc2 hq
        · rw [hent] at h1; cases h1
    refine wpIn_rangeFunc fun fn _ => ?_
    cases hro : ro with
    | none =>
      subst hro
      refine rest fn (w.heap.size + 1) [⟨.collected w.heap.size, #[]⟩] w.heap.size { w with heap := w.heap.push (.deferred (some [])) } (Step.push hr rfl ⟨rfl, rfl, rfl⟩) (by simp) ?_ ?_
      · refine ⟨fun d hd => ?_, by simp⟩
        rw [List.mem_singleton] at hd
        refine ⟨w.heap.size, hd, Nat.le_refl _, by simp, ?_⟩
        rintro ⟨id, A, L, h1, h2, h3⟩
        have := (hr.blk _ _ _ h1 h2).lt
        omega
      · simp [Instr.enterLoop]
        rfl
    | some b =>
      subst hro
      obtain ⟨l, L, h1, h2, st', pend', tm', ps', asg', bd', h3⟩ := hin b rfl
      obtain ⟨R, b1, _⟩ := hr.blk _ _ _ h3 h1
      rw [h2] at b1
      refine rest fn w.heap.size [] R.defers w (Step.refl hr) rfl Marks.nil ?_
      simp [Instr.enterLoop, run_getLoop b1]
  | _ => intro s s' ex μ a w Q h; cases h
end
end Ev

/-
  Calls.
-/
namespace Ev
open Go

section
variable {E : Env} {P : Program} {call : CallF} {μ : Mu} {m m' : AMem} {w : World}

theorem setPs_rel : ∀ (ps : List Nat) (args : List AV) (vs : List Value) (tm : Tr AV) (tmps : Array Value), TRel μ tm tmps → VsRel μ args vs → (∀ p ∈ ps, p < tmps.size) →
    TRel μ (setPs ps args tm) ((ps.zip vs).foldl (fun tmps (t, a) => tmps.setIfInBounds t a) tmps) ∧ ((ps.zip vs).foldl (fun tmps (t, a) => tmps.setIfInBounds t a) tmps).size = tmps.size
  | [], _, _, tm, tmps, ht, _, _ => ⟨by simpa [setPs] using ht, rfl⟩
  | p :: ps, [], vs, tm, tmps, ht, hv, _ => by cases hv; exact ⟨by simpa [setPs] using ht, rfl⟩
  | p :: ps, a :: args, _, tm, tmps, ht, ⟨v, vs, rfl, h1, h2⟩, hp => by
    have ht1 : TRel μ (tm.put p (some a)) (tmps.setIfInBounds p v) := setDst_rel (d := some p) ht h1 (fun k hk => by cases hk; exact hp p (List.mem_cons_self ..))
    obtain ⟨g1, g2⟩ := setPs_rel ps args vs _ _ ht1 h2 (fun q hq => by simpa using hp q (List.mem_cons_of_mem _ hq))
    exact ⟨by simpa [setPs] using g1, by simpa using g2⟩

theorem initTm_get : ∀ (args : List AV) (i : Nat) (t : Tr AV) (k : Nat), (initTm args i t).get k = if i ≤ k then (match args[k - i]? with | some a => some a | none => t.get k) else t.get k
  | [], i, t, k => by simp [initTm]
  | a :: r, i, t, k => by
    rw [initTm, initTm_get r (i + 1) _ k]
    by_cases h : i = k
    · subst h
      rw [if_neg (by omega), if_pos (Nat.le_refl _), Nat.sub_self]
      simp [Tr.get_put_same]
    · rw [Tr.get_put_other _ _ (fun e => h e.symm)]
      by_cases h' : i ≤ k
      · rw [if_pos (by omega), if_pos h', show k - i = (k - (i + 1)) + 1 by omega, List.getElem?_cons_succ]
      · rw [if_neg (by omega), if_neg h']

theorem initTm_rel {args : List AV} {vs : List Value} (hv : VsRel μ args vs) (n : Nat) : TRel μ (initTm args 0 .nil) ((⟨vs⟩ : Array Value) ++ Array.replicate n undef) := by
  intro t
  rw [initTm_get, if_pos (Nat.zero_le _), Nat.sub_zero]
  have hl := hv.length
  by_cases h : t < args.length
  · obtain ⟨v, h1, h2⟩ := hv.get t args[t] (by simp)
    have hvt : ((⟨vs⟩ : Array Value) ++ Array.replicate n undef).getD t undef = v := by
      rw [Array.getD_eq_getD_getElem?, Array.getElem?_append_left (by simp; omega)]
      simp [h1]
    rw [hvt]
    simp [h, h2]
  · have hvt : ((⟨vs⟩ : Array Value) ++ Array.replicate n undef).getD t undef = undef := by
      rw [Array.getD_eq_getD_getElem?, Array.getElem?_append_right (by simp; omega)]
      simp only [Array.getElem?_replicate]
      split <;> rfl
    rw [hvt, List.getElem?_eq_none (by omega)]
    have : (Tr.nil : Tr AV).get t = none := rfl
    simp only [this]
    exact undef_rel

/-! ### Rounds -/
theorem round_ok {E : Env} (hE : EnvOK E P) (n : Nat) (hc : CallOK P (evCall E n)) (l : Nat) {args : List AV} {r : AV} (h : evCall E (n + 1) (.yield l) args m = some (r, m')) {vs : List Value} {L : Loc} (hr : Rep μ m w) (hL : μ l = some L) (hv : VsRel μ args vs)
    (hf : Fresh μ m.next m'.next) : YieldRuns P L.b vs w (Good μ m w r m') := by
  have hm := evCall_mono hE.grows n
  have hk := evCall_keeps hE.keeps n
  obtain ⟨st, pend, tm, ps, asg, bd, s, pend', tm', ps', asg', bd', ex, s₂, st₃, pend₃, tm₃, ps₃, asg₃, bd₃, g0, hlen, g1, g2, g3, g4, g5⟩ := round_some h
  obtain ⟨R, b1, b2, b3, b4, b5, b6, b7, b8, b9, b10, b11⟩ := hr.blk _ _ _ g0 hL
  have hsz : R.params.size = vs.length := by rw [← Array.length_toList, b4, ← hlen, hv.length]
  have hfold : (R.params.zip ⟨vs⟩).foldl (fun tmps (t, a) => tmps.setIfInBounds t a) R.tmps = (ps.zip vs).foldl (fun tmps (t, a) => tmps.setIfInBounds t a) R.tmps := by
    rw [← Array.foldl_toList, Array.toList_zip, b4]
  obtain ⟨t1, t2⟩ := setPs_rel ps args vs tm R.tmps b7 hv b10
  refine ⟨R.fn, (R.params.zip ⟨vs⟩).foldl (fun tmps (t, a) => tmps.setIfInBounds t a) R.tmps, R.assign, R.body, w, ?_, ?_⟩
  · simp only [Instr.yield, Sem.run_bind, run_getLoop b1, Result.andThen_ok]
    rw [if_neg (by simp [hsz])]
    rfl
  · rw [hfold, b5, b6]
    have hn1 := evCode_next hm asg n _ _ _ g1
    have hn2 := evCode_next hm bd n _ _ _ g3
    simp only [AMem.put_next] at hn2
    have hn3 : m'.next = s₂.mem.next := by rcases g5 with ⟨_, _, rfl⟩ | ⟨_, _, rfl⟩ <;> rfl
    have hin : InRound (some L.b) μ m := fun b hb => by cases hb; exact ⟨l, L, hL, rfl, _, _, _, _, _, _, g0⟩
    refine roundIn_of_wpIn trivial ?_
    refine code_sound (ro := some L.b) hE hc hm hk n asg ⟨setPs ps args tm, m⟩ s .normal μ ⟨_, []⟩ w _ g1 (by rw [t2]; exact b8) hr t1 (fun id a1 a2 => hf id a1 (by omega)) hin fun μ₁ a₁ w₁ hs => ?_
    have hL1 := hs.step.le _ _ hL
    obtain ⟨R1, c1, c2, c3, c4, c5, c6, c7, c8, c9, c10, c11⟩ := hs.step.rep.blk _ _ _ g2 hL1
    have hbusy : Step μ₁ s.mem w₁ μ₁ (s.mem.put l (.loop .busy pend' tm' ps' asg' bd')) { w₁ with heap := w₁.heap.setIfInBounds L.b (.loop { R1 with state := .busy }) } :=
      setLoop_step hs.step.rep g2 hL1 fun w'' hw'' => ⟨_, hw'', rfl, c3, c4, c5, c6, c7, c8, c9, c10, c11⟩
    refine ⟨{ w₁ with heap := w₁.heap.setIfInBounds L.b (.loop { R1 with state := .busy }) }, ?_, ?_⟩
    · simp only [Instr.beginRound, Sem.run_bind, run_getLoop c1, Result.andThen_ok, run_setLoop _ c1, c2, Sem.run_pure]
    · have hin1 : InRound (some L.b) μ₁ (s.mem.put l (.loop .busy pend' tm' ps' asg' bd')) := fun b hb => by cases hb; exact ⟨l, L, hL1, rfl, _, _, _, _, _, _, AMem.get_put_same _ _ _ (AMem.get_lt g2)⟩
      have hf1 := (hs.step.trans hbusy).fresh (b := m'.next) hf
      refine code_sound (ro := some L.b) hE hc hm hk n bd ⟨s.tm, s.mem.put l (.loop .busy pend' tm' ps' asg' bd')⟩ s₂ ex μ₁ a₁ _ _ g3 (by rw [hs.size, t2]; exact b9) hbusy.rep hs.tm (fun id a1 a2 => hf1 id a1 (by omega)) hin1 fun μ₂ a₂ w₂ hs₂ => ?_
      have hL2 := hs₂.step.le _ _ hL1
      obtain ⟨R2, d1, d2, d3, d4, d5, d6, d7, d8, d9, d10, d11⟩ := hs₂.step.rep.blk _ _ _ g4 hL2
      have hend : ∀ (jump : Option Code), (Instr.endRound L.b jump).run P w₂ = .ok (.bool jump.isNone) { w₂ with heap := w₂.heap.setIfInBounds L.b (.loop { R2 with state := if jump.isNone then .ready else .done, pending := jump }) } := by
        intro jump
        simp only [Instr.endRound, Sem.run_bind, run_getLoop d1, Result.andThen_ok, run_setLoop _ d1, Sem.run_pure]
      have hall := (hs.step.trans hbusy).trans hs₂.step
      rcases g5 with ⟨rfl, rfl, rfl⟩ | ⟨hne, rfl, rfl⟩
      · refine ⟨_, _, hend none, μ₂, rfl, hall.trans (setLoop_step hs₂.step.rep g4 hL2 fun w'' hw'' => ⟨_, hw'', rfl, rfl, d4, d5, d6, d7, d8, d9, d10, fun e he => by cases he⟩)⟩
      · have fin : ∀ c, exCode ex = some c → ∃ v w', (Instr.endRound L.b (some c)).run P w₂ = .ok v w' ∧ EndsIn (Good μ m w (.bool false) (s₂.mem.put l (.loop .done (some ex) tm₃ ps₃ asg₃ bd₃))) (.returned v) w' := fun c hcx =>
          ⟨_, _, hend (some c), μ₂, rfl, hall.trans (setLoop_step hs₂.step.rep g4 hL2 fun w'' hw'' => ⟨_, hw'', rfl, hcx.symm, d4, d5, d6, d7, d8, d9, d10, fun e he => by cases he; exact hne⟩)⟩
        cases ex with
        | normal => exact absurd rfl hne
        | exit id => exact fin _ rfl
        | ret => exact fin _ rfl

/-! ### Results -/
def resOf (tmps : Array Value) : ResultVar → Sem Value
  | .tmp t => pure (tmps.getD t undef)
  | .cell p t => do loadVar t (← asAddr (tmps.getD p undef))
theorem results_eq (fn : Func) (tmps : Array Value) : results fn tmps = (do
    let vs ← fn.results.mapM (resOf tmps)
    pure (if h : vs.size = 1 then vs[0] else .tuple vs)) := rfl

theorem result_run (hE : TyOK E P) {s : St} {a : Act} {x : ResultVar} {r : AV} (h : evResult E s x = some r) (hr : Rep μ s.mem w) (ht : TRel μ s.tm a.tmps) :
    ∃ v, (resOf a.tmps x).run P w = .ok v w ∧ VRel μ r v := by
  cases x with
  | tmp t =>
    simp only [evResult, Option.some.injEq] at h
    subst h
    exact ⟨_, rfl, ht t⟩
  | cell p t =>
    simp only [evResult] at h
    split at h
    · rename_i v m₁ hv
      cases h
      obtain ⟨_, v, g1, g2⟩ := load_good hE hr hv (ht p)
      refine ⟨v, ?_, g2⟩
      unfold resOf
      -- the address is one
      unfold evLoad at hv
      cases hi : E.ty t with
      | none => rw [hi] at hv; cases hv
      | some i =>
        rw [hi] at hv
        cases hp : ((s.tm.get p).getD .undef).asPtr with
        | none => simp only [hp] at hv; cases hv
        | some q =>
          have hq := asPtr_eq hp
          have h0 := ht p
          rw [hq] at h0
          obtain ⟨L, hL, e⟩ := h0
          simp only at g1 ⊢
          rw [e] at g1 ⊢
          simpa [Instr.loadAt, Instr.sureAddr, asAddr] using g1
    · cases h

theorem results_run (hE : TyOK E P) {s : St} {a : Act} {fn : Func} {r : AV} {m : AMem} (h : evLeave E fn s = some (r, m)) (hr : Rep μ s.mem w) (ht : TRel μ s.tm a.tmps) :
    ∃ v, (results fn a.tmps).run P w = .ok v w ∧ VRel μ r v := by
  have key : ∀ (l : List ResultVar) (rs : List AV), evResults E s l = some rs → ∃ vs : List Value, (l.mapM (resOf a.tmps)).run P w = .ok vs w ∧ VsRel μ rs vs := by
    intro l
    induction l with
    | nil => intro rs h; cases h; exact ⟨[], rfl, rfl⟩
    | cons x l ih =>
      intro rs h
      simp only [evResults] at h
      split at h
      · rename_i b hb
        split at h
        · rename_i bs hbs
          cases h
          obtain ⟨v, g1, g2⟩ := result_run hE hb hr ht
          obtain ⟨vs, g3, g4⟩ := ih bs hbs
          refine ⟨v :: vs, ?_, .cons g2 g4⟩
          rw [List.mapM_cons]
          simp only [Sem.run_bind, Sem.run_pure, Result.andThen_ok, g1, g3]
        · cases h
      · cases h
  unfold evLeave at h
  have conv : ∀ (rs : List AV) (vs : List Value), evResults E s fn.results.toList = some rs → (∃ vs : List Value, (results fn a.tmps).run P w = .ok (if h : (⟨vs⟩ : Array Value).size = 1 then (⟨vs⟩ : Array Value)[0] else .tuple ⟨vs⟩) w ∧ VsRel μ rs vs) := by
    intro rs _ hrs
    obtain ⟨vs, g1, g2⟩ := key _ _ hrs
    refine ⟨vs, ?_, g2⟩
    rw [results_eq, Array.mapM_eq_mapM_toList]
    simp only [Sem.run_bind, map_eq_pure_bind, Sem.run_pure, g1, Result.andThen_ok]
  split at h
  · rename_i b hrs
    cases h
    obtain ⟨vs, g1, g2⟩ := conv _ [] hrs
    obtain ⟨v, _, rfl, g3, rfl⟩ := g2
    exact ⟨v, by simpa using g1, g3⟩
  · rename_i l hne hrs
    cases h
    obtain ⟨vs, g1, g2⟩ := conv _ [] hrs
    have hl := g2.length
    refine ⟨.tuple ⟨vs⟩, ?_, ⟨vs, rfl, g2⟩⟩
    rw [g1, dif_neg]
    intro h1
    have : l.length = 1 := by rw [hl]; simpa using h1
    match l, this with
    | [b], _ => exact hne b rfl
  · cases h

/-! ### Functions -/
theorem leaves_ok {fn : Func} {tmps : Array Value} {R : Ending → World → Prop} {μ' : Mu} {m' : AMem} (hres : ∀ w', Step μ m w μ' m' w' → ∃ v, (results fn tmps).run P w' = .ok v w' ∧ R (.returned v) w') : ∀ (ds : List Deferred) (w' : World),
    Marks μ' m' w' w.heap.size ds → Step μ m w μ' m' w' → LeavesInM (fw none) 0 P fn tmps R ds .returning w'
  | [], w', _, hs => hres w' hs
  | d :: ds, w', hmk, hs => by
    obtain ⟨r, rfl, h2, h3, h4⟩ := hmk.1 d (List.mem_cons_self ..)
    have hlt : r < w'.heap.size := (Array.getElem?_eq_some_iff.1 h3).1
    have ho : OnlyAt r w' { w' with heap := w'.heap.setIfInBounds r (.deferred none) } := ⟨by simp, fun b' hb => by simp [Ne.symm hb], rfl, rfl, rfl⟩
    refine ⟨by simp, .inl ⟨r, { w' with heap := w'.heap.setIfInBounds r (.deferred none) }, rfl, ?_, ?_⟩⟩
    · simp [Instr.takeDeferred, getObj, setObj, Sem.run, h3]
    · refine leaves_ok hres ds _ ⟨fun d hd => ?_, (List.nodup_cons.1 hmk.2).2⟩ (hs.aside h4 h2 ho)
      obtain ⟨r', e1, e2, e3, e4⟩ := hmk.1 d (List.mem_cons_of_mem _ hd)
      have hne : r' ≠ r := by
        intro e; subst e; subst e1
        exact (List.nodup_cons.1 hmk.2).1 hd
      exact ⟨r', e1, e2, by rw [ho.other r' hne]; exact e3, e4⟩

theorem fn_ok {E : Env} (hE : EnvOK E P) (n : Nat) (hc : CallOK P (evCall E n)) (f : Nat) : FnOK P f (evCall E (n + 1) (.fn f)) := by
  intro args m r m' h μ w vs hr hv hf
  have hm := evCall_mono hE.grows n
  have hk := evCall_keeps hE.keeps n
  rcases fn_some h with ⟨o, h1, h2⟩ | ⟨fn, body, ex, s, h1, h2, h3, h4, h5, h6⟩
  · exact hE.orc f o h1 _ _ _ _ h2 μ w vs hr hv hf
  · obtain ⟨p1, p2, p3⟩ := hE.fn f fn h1
    have hn := p2 (by rw [h2]; rfl)
    have hme := evLeave_same h6
    subst hme
    refine .inl ⟨by simp [callFunc, p1, h2, hn], ?_⟩
    have hok : okCode fn.ntmps body = true := by unfold okFunc at p3; rw [h2] at p3; exact p3
    have hl : vs.length ≤ fn.ntmps := by rw [← hv.length]; exact h3
    have hsz : ((⟨vs⟩ : Array Value) ++ Array.replicate (fn.ntmps - (⟨vs⟩ : Array Value).size) undef).size = fn.ntmps := by simp; omega
    refine callsIn_of_wp_marks p1 h2 trivial ?_
    refine code_sound (ro := none) hE hc hm hk n body ⟨initTm args 0 .nil, m⟩ s ex μ ⟨_, []⟩ w _ h4 (by rw [hsz]; exact hok) hr (initTm_rel hv _) hf (fun b hb => by cases hb) fun μ' a' w' hs => ?_
    obtain ⟨ds, e1, e2⟩ := hs.marks
    have hd : a'.defers = ds := by rw [e1]; simp
    have fin : LeavesInM (fw none) 0 P fn a'.tmps (EndsIn (Good μ m w r s.mem)) a'.defers .returning w' := by
      rw [hd]
      refine leaves_ok (μ := μ) (m := m) (w := w) (fun w₂ hs₂ => ?_) ds w' e2 hs.step
      obtain ⟨v, g1, g2⟩ := results_run (w := w₂) hE.toTyOK h6 hs₂.rep hs.tm
      exact ⟨v, g1, μ', g2, hs₂⟩
    cases ex with
    | normal => exact fin
    | ret => exact fin
    | exit id => exact absurd rfl (h5 id)

/-- **WHAT THE EVALUATOR SAYS OF A CALL IS WHAT THE MODEL DOES.** -/
theorem evCall_ok {E : Env} (hE : EnvOK E P) : ∀ n, CallOK P (evCall E n)
  | 0 => ⟨fun f args m r m' h => (by cases h), fun l args m r m' h => (by cases h)⟩
  | n + 1 => ⟨fun f => fn_ok hE n (evCall_ok hE n) f, fun l args m r m' h μ w vs L hr hL hv hf => round_ok hE n (evCall_ok hE n) l h hr hL hv hf⟩
end
end Ev

/-
  A program's own tables.
-/
namespace Ev
open Go

theorem tabF_get {α : Type} : ∀ (l : List α) (i : Nat) (t : Tr α) (k : Nat), (tabF l i t).get k = if i ≤ k then (match l[k - i]? with | some a => some a | none => t.get k) else t.get k
  | [], i, t, k => by simp [tabF]
  | a :: r, i, t, k => by
    rw [tabF, tabF_get r (i + 1) _ k]
    by_cases h : i = k
    · subst h
      rw [if_neg (by omega), if_pos (Nat.le_refl _), Nat.sub_self]
      simp [Tr.get_put_same]
    · rw [Tr.get_put_other _ _ (fun e => h e.symm)]
      by_cases h' : i ≤ k
      · rw [if_pos (by omega), if_pos h', show k - i = (k - (i + 1)) + 1 by omega, List.getElem?_cons_succ]
      · rw [if_neg (by omega), if_neg h']
theorem tab_get {α : Type} (l : List α) (k : Nat) : (tab l).get k = l[k]? := by
  unfold tab
  rw [tabF_get, if_pos (Nat.zero_le _), Nat.sub_zero]
  cases h : l[k]? with
  | some a => rfl
  | none => rfl

section
variable {P : Program}

theorem info_of_tab {t : Nat} {i : TypeInfo} (h : (tab P.types.toList).get t = some i) : P.info? t = some i := by
  rw [tab_get] at h
  have h' : P.types[t]? = some i := by simpa using h
  have hlt := (Array.getElem?_eq_some_iff.1 h').1
  simp only [Tables.info?, hlt, if_true]
  exact h'

theorem und_of_tab {i : TypeInfo} {t : Nat} {u : TypeDesc} (hi : (tab P.types.toList).get t = some i) (h : undT (tab P.types.toList) i = some u) : P.underlying t = some u := by
  unfold Program.underlying
  rw [info_of_tab hi]
  obtain ⟨desc⟩ := i
  unfold undT at h
  simp only at h
  cases desc with
  | named n u' =>
    simp only at h ⊢
    split at h
    · rename_i j hj
      cases h
      rw [info_of_tab hj]; rfl
    · cases h
  | _ => simpa using h

theorem tyOK : ∀ {funcs : Tr Func} {orc : Nat → Option (List AV → AMem → R)}, TyOK (envOf P (tab P.types.toList) funcs orc) P := by
  intro funcs orc
  refine ⟨fun t i h => ?_, ?_⟩
  · have h : tyAt P (tab P.types.toList) t = some i := h
    unfold tyAt at h
    split at h
    · rename_i inf hinf
      split at h
      · rename_i u hu
        cases h
        refine ⟨inf, info_of_tab hinf, und_of_tab hinf hu, rfl, rfl, fun z hz => ?_, rfl⟩
        simp only [zeroA] at hz
        split at hz
        · rename_i v hv; exact ⟨v, hv, hz⟩
        · cases hz
      · cases h
    · cases h
  · unfold Program.depth Made.depth; omega

theorem meth_ok {t : Nat} {name : String} {g : Nat} (h : methAt (tab P.types.toList) t name = some g) (v : Value) (w : World) : (method (P.types.size + Made.depth) t v name).run P w = .ok (g, v) w := by
  unfold methAt at h
  split at h
  · rename_i inf hinf
    split at h
    · rename_i u hu
      split at h
      · rename_i m hm
        split at h
        · rename_i hpath
          split at h
          · rename_i f p hfm
            split at h
            · rename_i hp
              cases h
              have hd : P.types.size + Made.depth = (P.types.size + 99) + 1 := rfl
              have hund := und_of_tab hinf hu
              have hpl : m.path.toList = [] := by simpa using hpath
              rw [hd, method]
              have hm' : inf.methods.find? (fun x => x.name == name) = some m := by rw [← Array.find?_toList]; exact hm
              simp only [Sem.run_bind, typeInfo, run_program, info_of_tab hinf, Result.andThen_ok, Sem.run_pure, hm', hpl, follow, hfm]
              have hp' : p = isPtrD u := by simpa using hp
              subst hp'
              cases u <;> simp [receiverAt, run_underlying hund, Place.get, isPtrD]
            · cases h
          · cases h
        · cases h
      · cases h
    · cases h
  · cases h

/-- what is asked of a program's functions, once -/
def okFuncs (P : Program) : Bool := P.funcs.toList.all fun fn => (fn.body.isNone || fn.name != "runtime.NumGoroutine") && okFunc fn

structure OrcOK (P : Program) (orc : Nat → Option (List AV → AMem → R)) : Prop where
  ok : ∀ f o, orc f = some o → FnOK P f o
  grows : ∀ f o, orc f = some o → ∀ args m r m', o args m = some (r, m') → m.next ≤ m'.next
  keeps : ∀ f o, orc f = some o → ∀ args m r m' l, o args m = some (r, m') → LoopAt m l → LoopAt m' l

theorem env_ok {orc : Nat → Option (List AV → AMem → R)} (hP : okFuncs P = true) (hm : P.follows .mixedOrders = true) (ho : OrcOK P orc) : EnvOK (envOf P (tab P.types.toList) (tab P.funcs.toList) orc) P := by
  refine { toTyOK := tyOK, fn := fun f fn h => ?_, meth := fun t name g h v w => meth_ok h v w, orc := ho.ok, grows := ho.grows, keeps := ho.keeps, mixed := hm }
  have h : (tab P.funcs.toList).get f = some fn := h
  rw [tab_get] at h
  have h' : P.funcs[f]? = some fn := by simpa using h
  have hall := List.all_eq_true.1 hP fn (by rw [Array.mem_toList_iff]; exact Array.mem_of_getElem? h')
  rw [Bool.and_eq_true] at hall
  refine ⟨h', fun hb => ?_, hall.2⟩
  have h1 := hall.1
  cases hbd : fn.body with
  | none => rw [hbd] at hb; cases hb
  | some c => rw [hbd] at h1; simpa using h1

theorem noOrc : OrcOK P (fun _ => none) := ⟨fun _ _ h => by (cases h), fun _ _ h => by (cases h), fun _ _ h => by (cases h)⟩

/-- a world that is as it was, but for what is new -/
structure Beside (w w' : World) : Prop where
  size : w.heap.size ≤ w'.heap.size
  old : ∀ b, b < w.heap.size → w'.heap[b]? = w.heap[b]?
  rest : w'.os = w.os ∧ w'.output = w.output ∧ w'.tape = w.tape

noncomputable def isTrue : R → Bool
  | some (.bool true, _) => true
  | _ => false

/-- a law without input, by the evaluator's word -/
theorem calls_true {E : Env} (hE : EnvOK E P) {n f : Nat} (h : isTrue (evCall E n (.fn f) [] ⟨0, .nil⟩) = true) (w : World) (hent : ∃ fn c, P.funcs[f]? = some fn ∧ fn.body = some c ∧ fn.name ≠ "runtime.NumGoroutine") :
    Calls P f #[] w fun e w' => e = .returned (.bool true) ∧ Beside w w' := by
  cases hc : evCall E n (.fn f) [] ⟨0, .nil⟩ with
  | none => rw [hc] at h; cases h
  | some p =>
    obtain ⟨r, m'⟩ := p
    rw [hc] at h
    have hr : r = .bool true := by
      unfold isTrue at h
      split at h
      · rename_i e; cases e; rfl
      · cases h
    subst hr
    obtain ⟨fn, c, f1, f2, f3⟩ := hent
    rcases (evCall_ok hE n).fn f [] ⟨0, .nil⟩ _ _ hc (fun _ => none) w [] ⟨fun id A L _ h => (by cases h), fun i j A B L K _ _ h => (by cases h)⟩ rfl (fun _ _ _ => rfl) with ⟨_, h2⟩ | ⟨v, w', h1, _⟩
    · refine callsIn_wide.1 ((show CallsIn Fence.wide 0 P f #[] w _ from h2).mono fun e w' he => ?_)
      cases e with
      | panicked c => exact he.elim
      | outgrown => exact he.elim
      | returned v =>
        obtain ⟨μ', hv, hs⟩ := he
        refine ⟨congrArg Ending.returned hv, hs.size, fun b hb => hs.frame b hb ?_, hs.rest⟩
        rintro ⟨id, A, L, _, h3, _⟩
        cases h3
    · simp [callFunc, f1, f2, f3] at h1
end
end Ev

/-
  The row of a law without input.
-/
namespace Ev
open Go Go.ChangeShapes Go.WideShapes Go.ChangeAt Go.RowKit

theorem Beside.kept {w w' : World} (h : Beside w w') (may : MemPlace → Prop) : w.keptBut w' may := by
  have h0 := World.keptBut_refl w may
  refine ⟨h.rest.1, h.rest.2.1, fun i hi => ?_⟩
  have := h0.2.2 i hi
  rw [h.old i hi]
  exact this

theorem post_beside {H : Type} {enc : TypeId × Value → H} {P : Program} {f : Func} {s : ChangeSpec} {apart fresh handsOn again : Bool} {W W' : World} {args : Array Value} {v : Value} {ds gs : List (DataW H)}
    (hW : DataW.Whole enc P f.params.toList s.vars apart W args.toList ds gs [])
    (hres : ∀ (b : Nat) (sp : Nat → Bool) (hd : Bool), DataW.TrodAll enc P W' b sp hd f.resultTypes.toList (v.resultList f.resultTypes.size) (s.fn H (ds ++ gs)).results [])
    (hargs : ∀ sp : Nat → Bool, DataW.TrodAll enc P W' 0 sp true f.params.toList args.toList (s.fn H (ds ++ gs)).args [])
    (hvars : ∀ sp : Nat → Bool, DataW.TrodVars enc P W' sp s.vars (s.fn H (ds ++ gs)).vars []) (hb : Beside W W')
    (hok : ∀ (j : Nat) (t : TypeId) (r : Value), f.resultTypes[j]? = some t → (v.resultList f.resultTypes.size)[j]? = some r → Value.okWide P W' .any 0 t r) :
    s.post enc P f apart fresh handsOn again W args v W' := by
  refine ⟨ds, gs, [], [], [], [], hW, hres _ _ _, hargs _, hvars _, hb.kept _, fun _ => ?_⟩
  refine ⟨hok, _, _, ([] ++ []) ++ [], ⟨[] ++ [], [], trodAll_append (hargs _) (hres _ _ _), hvars _, rfl, ?_, ?_⟩, ?_⟩
  · intro b off hp; simp at hp
  · intro _; simp
  · intro p hp; simp at hp
end Ev

/-
  The evaluator's steps, one by one, for code over temporaries that are not known.
-/
namespace Ev
open Go

section
variable {E : Env} {call : CallF} {ops : Array Oper} {tm : Tr AV} {m : AMem}

theorem step_op {o : Oper} {l : List Oper} {v : AV} {m' : AMem} {r : Option St} (hw : wanted ops tm o = true) (h : evOp E call o.op tm m = some (v, m')) (hk : evOpsF l E call ops ⟨setDst tm o.dst v, m'⟩ = r) :
    evOpsF (o :: l) E call ops ⟨tm, m⟩ = r := by
  show opsG o (evOpsF l) E call ops tm m (wanted ops tm o) = r
  rw [hw]
  show opsK (evOpsF l) o.dst tm E call ops (evOp E call o.op tm m) = r
  rw [h]; exact hk
theorem step_seq {x y : Code} {fuel : Nat} {s s₁ : St} {r : Option (Ex × St)} (h : evCodeF x E call fuel s = some (.normal, s₁)) (hk : evCodeF y E call fuel s₁ = r) : evCodeF (.seq x y) E call fuel s = r := by
  show cdSeq (evCodeF x) (evCodeF y) E call fuel s = r
  unfold cdSeq
  rw [h]; exact hk
theorem step_out {x y : Code} {fuel : Nat} {s s₁ : St} {e : Ex} (h : evCodeF x E call fuel s = some (e, s₁)) (he : e ≠ .normal) : evCodeF (.seq x y) E call fuel s = some (e, s₁) := by
  show cdSeq (evCodeF x) (evCodeF y) E call fuel s = _
  unfold cdSeq
  rw [h]
  cases e with
  | normal => exact absurd rfl he
  | exit id => rfl
  | ret => rfl
theorem step_region {id fuel : Nat} {s s₁ : St} (h : evOpsF ops.toList E call ops s = some s₁) : evCodeF (.region id ops false) E call fuel s = some (.normal, s₁) := by
  show cdRegion ops false E call fuel s = _
  unfold cdRegion evRegion evOps
  simp only [h]
theorem rd_tmp {t : Nat} {v : AV} (h : tm.get t = some v) : rd tm (.tmp t) = some v := by
  show orUndef (tm.get t) = _
  rw [h]; rfl
end
section
variable {E : Env} {call : CallF} {ops : Array Oper} {tm : Tr AV} {m : AMem}

theorem op_move {x : Operand} {v : AV} (h : rd tm x = some v) : evOp E call (.move x) tm m = some (v, m) := by
  show vm m (rd tm x) = _
  rw [h]; rfl
theorem op_assign {x : Operand} {v : AV} (h : rd tm x = some v) : evOp E call (.assign x) tm m = some (v, m) := by
  show vm m (rd tm x) = _
  rw [h]; rfl
theorem op_bin {op : BinOp} {t u : TypeId} {x y : Operand} {a b v : AV} (hx : rd tm x = some a) (hy : rd tm y = some b) (h : evBin E op t a b = some v) : evOp E call (.binOp op t x y u) tm m = some (v, m) := by
  show on2 (rd tm x) (rd tm y) _ = _
  rw [hx, hy]
  show vm m (evBin E op t a b) = _
  rw [h]; rfl
theorem op_indexAddr {t : TypeId} {x ix : Operand} {a v : AV} {k : IntKind} {n : Nat} (hx : rd tm x = some a) (hi : rd tm ix = some (.int k (.ofNat n))) (h : evIndexAddr E t a n = some v) : evOp E call (.indexAddr t x ix) tm m = some (v, m) := by
  show on1 (rd tm x) (fun a => onNat (rd tm ix) fun n => vm m (evIndexAddr E t a n)) = _
  rw [hx, hi]
  show vm m (evIndexAddr E t a n) = _
  rw [h]; rfl
theorem op_load {t : TypeId} {x : Operand} {a : AV} {r : R} (hx : rd tm x = some a) (h : evLoad E t a m = r) : evOp E call (.load t x) tm m = r := by
  show on1 (rd tm x) (fun a => evLoad E t a m) = _
  rw [hx]; exact h
theorem op_call {c : Call} {args : List AV} {b : Builtin} {r : R} (hc : c.callee = .builtin b) (ha : rds tm c.args.toList = some args) (h : evBuiltin E b c.argTypes.toList args m = r) : evOp E call (.call c) tm m = r := by
  show evCallOp E call c tm m = r
  unfold evCallOp
  rw [ha, hc]; exact h
theorem rds_cons {x : Operand} {l : List Operand} {a : AV} {b : List AV} (h : rd tm x = some a) (hl : rds tm l = some b) : rds tm (x :: l) = some (a :: b) := by
  simp only [rds, h, hl]
theorem evIntBin {op : BinOp} {t : Nat} {k : IntKind} {a b : Int} (h : isShift op = false) : evBin E op t (.int k a) (.int k b) = evInt op k a b := by
  show evBinI op k a k b = _
  unfold evBinI
  have : eqK k k = true := by simp [eqK]
  rw [this, h]; rfl
theorem step_cond {c : Operand} {x y : Code} {fuel : Nat} {s : St} {b : Bool} {r : Option (Ex × St)} (h : rd s.tm c = some (.bool b)) (hk : evCodeF (if b then x else y) E call fuel s = r) : evCodeF (.cond c x y) E call fuel s = r := by
  show cdCond c (evCodeF x) (evCodeF y) E call fuel s = r
  unfold cdCond
  rw [h]
  cases b <;> exact hk
theorem step_block {id fuel : Nat} {c : Code} {s s' : St} (h : evCodeF c E call fuel s = some (.normal, s')) : evCodeF (.block id c) E call fuel s = some (.normal, s') := by
  show inBlock id (evCodeF c E call fuel s) = _
  rw [h]; rfl
theorem step_blockX {id fuel : Nat} {c : Code} {s s' : St} (h : evCodeF c E call fuel s = some (.exit id, s')) : evCodeF (.block id c) E call fuel s = some (.normal, s') := by
  show inBlock id (evCodeF c E call fuel s) = _
  rw [h]; simp [inBlock]
theorem step_end {s : St} : evOpsF [] E call ops s = some s := rfl
theorem evLen_slice {t e id off n c : Nat} {i : TyI} (ht : E.ty t = some i) (hu : i.u = .slice e) : evLen E t (.slice id off n c) m = some (.int .i64 (Int.ofNat n), m) := by
  unfold evLen; rw [ht]; simp only [hu]
theorem evLen_oslice {t e id off n c : Nat} {i : TyI} (ht : E.ty t = some i) (hu : i.u = .slice e) : evLen E t (.oslice id off n c) m = some (.int .i64 (Int.ofNat n), m) := by
  unfold evLen; rw [ht]; simp only [hu]
theorem idxT_slice {t e : Nat} {i j : TyI} (ht : E.ty t = some i) (hu : i.u = .slice e) (he : E.ty e = some j) : idxT E t = some (none, j.size) := by
  unfold idxT; rw [ht]; simp only [hu, withSize, he]
theorem evIndex_slice {t : Nat} {x : AV} {id off n es k : Nat} (h : idxT E t = some (none, es)) (hx : x.asSl = some (id, off, n)) (hk : k < n) : evIndexAddr E t x k = some (.ptr id (off + k * es)) := by
  unfold evIndexAddr; rw [h]
  show idxAt x k none es = _
  unfold idxAt
  rw [hx]
  show idxPtr id off k n es = _
  unfold idxPtr
  have : Nat.blt k n = true := by simpa using hk
  rw [this]; rfl
theorem evLoad_cell {t id off : Nat} {i : TyI} {v : AV} (ht : E.ty t = some i) (hu : isAggD i.u = false) (h : oneCell m id off = some v) : evLoad E t (.ptr id off) m = some (v, m) := by
  unfold evLoad; rw [ht]
  show evLoadAt i m id off = _
  unfold evLoadAt
  rw [hu, h]; rfl
theorem loopF_step {f : St → Option (Ex × St)} {n : Nat} {s s' : St} {r : Option (Ex × St)} (h : f s = some (.normal, s')) (hk : loopF n f s' = r) : loopF (n + 1) f s = r := by
  show Option.casesOn (motive := fun _ => Option (Ex × St)) (f s) none _ = r
  rw [h]; exact hk
theorem loopF_out {f : St → Option (Ex × St)} {n : Nat} {s s' : St} {e : Ex} (h : f s = some (e, s')) (he : e ≠ .normal) : loopF (n + 1) f s = some (e, s') := by
  show Option.casesOn (motive := fun _ => Option (Ex × St)) (f s) none _ = _
  rw [h]
  cases e with
  | normal => exact absurd rfl he
  | exit id => rfl
  | ret => rfl

theorem take_one {id off n j : Nat} {cs : List AV} {c : AV} (h : takeCells m id off n = some cs) (hj : cs[j]? = some c) : oneCell m id (off + j) = some c := by
  unfold takeCells at h
  unfold oneCell
  cases hg : m.get id with
  | none => rw [hg] at h; cases h
  | some b =>
    rw [hg] at h
    cases b with
    | row size cells ov cl =>
      have h : takeRow off n size cells ov cl = some cs := h
      show oneRow (off + j) size cells ov cl = some c
      unfold takeRow at h
      cases hb : Nat.ble (Nat.add off n) size with
      | false => rw [hb] at h; cases h
      | true =>
        rw [hb] at h
        have h : ovl ov ((cells.drop off).take n) off = cs := by simpa using h
        subst h
        rw [ovl_get] at hj
        obtain ⟨a, ha, hc⟩ := Option.map_eq_some_iff.1 hj
        have hjn : j < n := by
          have := (List.getElem?_eq_some_iff.1 ha).1
          simp at this; omega
        have ha' : cells[off + j]? = some a := by simpa [List.getElem?_take, hjn] using ha
        have hle : off + n ≤ size := by simpa using hb
        unfold oneRow
        have hlt : Nat.blt (off + j) size = true := by simp; omega
        rw [hlt]
        show Option.casesOn (motive := fun _ => Option AV) (ov.get (off + j)) (nthCell cells (off + j)) (fun a => some a) = some c
        rw [nthCell_eq, ha', ← hc]
        cases ov.get (off + j) <;> rfl
    | map es => cases h
    | loop a b c d e f => cases h
/-- what a code's run ends with -/
def Wp (c : Code) (E : Env) (call : CallF) (fuel : Nat) (s : St) (Q : Ex → St → Prop) : Prop := ∃ e s', evCodeF c E call fuel s = some (e, s') ∧ Q e s'
theorem wp_seq {x y : Code} {fuel : Nat} {s s₁ : St} {Q : Ex → St → Prop} (h : evCodeF x E call fuel s = some (.normal, s₁)) (hk : Wp y E call fuel s₁ Q) : Wp (.seq x y) E call fuel s Q := by
  obtain ⟨e, s', h1, h2⟩ := hk
  exact ⟨e, s', step_seq h h1, h2⟩
theorem wp_out {x y : Code} {fuel : Nat} {s s₁ : St} {e : Ex} {Q : Ex → St → Prop} (h : evCodeF x E call fuel s = some (e, s₁)) (he : e ≠ .normal) (hk : Q e s₁) : Wp (.seq x y) E call fuel s Q :=
  ⟨_, _, step_out h he, hk⟩
theorem wp_seqQ {x y : Code} {fuel : Nat} {s : St} {Q' : St → Prop} {R : Ex → St → Prop} (h : Wp x E call fuel s fun e s => e = .normal ∧ Q' s) (hk : ∀ s, Q' s → Wp y E call fuel s R) : Wp (.seq x y) E call fuel s R := by
  obtain ⟨e, s₁, h, rfl, hq⟩ := h
  exact wp_seq h (hk _ hq)
end
end Ev

/-
  Functions of plain data: what one run of the evaluator over an empty memory says holds in every world. Conditions: arguments and result hold no pointers.
-/
namespace Ev
open Go
noncomputable section

mutual
def AV.plain : AV → Bool
  | .bool _ | .int _ _ | .str _ | .nilptr | .nilslice | .nilmap | .nilfunc | .nilif => true
  | .iface _ a => AV.plain a
  | .agg l => AV.plains l
  | .tup l => AV.plains l
  | .ptr .. | .slice .. | .oslice .. | .map _ | .func .. | .yieldf _ => false
def AV.plains : List AV → Bool
  | [] => true
  | a :: l => AV.plain a && AV.plains l
end

mutual
theorem VRel.free {μ μ' : Mu} : ∀ {a : AV} {v : Value}, a.plain = true → VRel μ a v → VRel μ' a v
  | .bool _, _, _, hv => hv
  | .int _ _, _, _, hv => hv
  | .str _, _, _, hv => hv
  | .nilptr, _, _, hv => hv
  | .ptr _ _, _, hp, _ => by simp [AV.plain] at hp
  | .nilslice, _, _, hv => hv
  | .slice _ _ _ _, _, hp, _ => by simp [AV.plain] at hp
  | .oslice _ _ _ _, _, hp, _ => by simp [AV.plain] at hp
  | .nilmap, _, _, hv => hv
  | .map _, _, hp, _ => by simp [AV.plain] at hp
  | .nilfunc, _, _, hv => hv
  | .func _ a c, _, hp, _ => by simp [AV.plain] at hp
  | .yieldf _, _, hp, _ => by simp [AV.plain] at hp
  | .nilif, _, _, hv => hv
  | .iface _ a, _, hp, ⟨x, e, h1⟩ => ⟨x, e, VRel.free (a := a) (by simpa [AV.plain] using hp) h1⟩
  | .agg l, _, hp, ⟨vs, e, h1, h2⟩ => ⟨vs, e, VsRel.free (l := l) (by simpa [AV.plain] using hp) h1, h2⟩
  | .tup l, _, hp, ⟨vs, e, h1⟩ => ⟨vs, e, VsRel.free (l := l) (by simpa [AV.plain] using hp) h1⟩
theorem VsRel.free {μ μ' : Mu} : ∀ {l : List AV} {vs : List Value}, AV.plains l = true → VsRel μ l vs → VsRel μ' l vs
  | [], _, _, hv => hv
  | a :: l, _, hp, ⟨v, r, e, h1, h2⟩ => by
    simp only [AV.plains, Bool.and_eq_true] at hp
    exact ⟨v, r, e, VRel.free (a := a) hp.1 h1, VsRel.free (l := l) hp.2 h2⟩
end

/-- what a function of plain data answers, and a run that shows it -/
structure PlainC (P : Program) (f : Nat) (s : List AV → Option AV) : Prop where
  plain : ∀ args r, s args = some r → AV.plains args = true ∧ r.plain = true
  run : ∀ args r, s args = some r → ∃ E n m0, EnvOK E P ∧ evCall E n (.fn f) args ⟨0, .nil⟩ = some (r, m0)

def orcS (s : List AV → Option AV) : List AV → AMem → R := fun args m => Option.casesOn (motive := fun _ => R) (s args) none fun r => some (r, m)

section
variable {P : Program}
theorem FnRuns.mono {f : Nat} {vs : List Value} {w : World} {R R' : Value → World → Prop} (h : FnRuns P f vs w R) (hR : ∀ v w', R v w' → R' v w') : FnRuns P f vs w R' := by
  rcases h with ⟨h1, h2⟩ | ⟨v, w', h1, h2⟩
  · refine .inl ⟨h1, h2.mono fun e w' he => ?_⟩
    cases e with
    | returned v => exact hR _ _ he
    | panicked c => exact he
    | outgrown => exact he
  · exact .inr ⟨v, w', h1, hR _ _ h2⟩

theorem orcS_some {s : List AV → Option AV} {args : List AV} {m m' : AMem} {r : AV} (h : orcS s args m = some (r, m')) : s args = some r ∧ m' = m := by
  unfold orcS at h
  cases hs : s args with
  | none => rw [hs] at h; cases h
  | some v =>
    rw [hs] at h
    have h : some (v, m) = some (r, m') := h
    cases h
    exact ⟨rfl, rfl⟩

theorem plain_ok {f : Nat} {s : List AV → Option AV} (hc : PlainC P f s) : FnOK P f (orcS s) := by
  intro args m r m' h μ w vs hrep hvs _
  obtain ⟨hs, rfl⟩ := orcS_some h
  obtain ⟨hp, hr⟩ := hc.plain _ _ hs
  obtain ⟨E, n, m0, hE, hrun⟩ := hc.run _ _ hs
  have h0 := (evCall_ok hE n).fn f args ⟨0, .nil⟩ r m0 hrun (fun _ => none) w vs ⟨fun id A L _ h => (by cases h), fun i j A B L K _ _ h => (by cases h)⟩ (VsRel.free hp hvs) (fun _ _ _ => rfl)
  refine h0.mono fun v w' ⟨μ', hv, hst⟩ => ⟨μ, VRel.free hr hv, ?_⟩
  have hno : ∀ b, ¬ Owned (fun _ => none) ⟨0, .nil⟩ b := by
    rintro b ⟨id, A, L, _, h, _⟩; cases h
  have hkeep : ∀ b, b < w.heap.size → w'.heap[b]? = w.heap[b]? := fun b hb => hst.frame b hb (hno b)
  exact ⟨Nat.le_refl _, fun _ _ => rfl, Mu.le_refl _, ⟨fun id A L h1 h2 => (hrep.blk id A L h1 h2).heap (hkeep _ (hrep.blk id A L h1 h2).lt), hrep.inj⟩, hst.size, fun _ h _ => h, fun b hb _ => hkeep b hb, hst.rest⟩

/-- a list of functions of plain data, as oracles -/
def lookS (l : List (Nat × (List AV → Option AV))) (f : Nat) : Option (List AV → AMem → R) :=
  List.rec (motive := fun _ => Option (List AV → AMem → R)) none (fun p _ ih => Bool.casesOn (motive := fun _ => Option (List AV → AMem → R)) (Nat.beq f p.1) ih (some (orcS p.2))) l

theorem lookS_some {l : List (Nat × (List AV → Option AV))} {f : Nat} {o : List AV → AMem → R} (h : lookS l f = some o) : ∃ p ∈ l, p.1 = f ∧ o = orcS p.2 := by
  induction l with
  | nil => cases h
  | cons p l ih =>
    have h : Bool.casesOn (motive := fun _ => Option (List AV → AMem → R)) (Nat.beq f p.1) (lookS l f) (some (orcS p.2)) = some o := h
    cases hb : Nat.beq f p.1 with
    | false =>
      rw [hb] at h
      obtain ⟨q, hq, h1⟩ := ih h
      exact ⟨q, List.mem_cons_of_mem _ hq, h1⟩
    | true =>
      rw [hb] at h
      exact ⟨p, List.mem_cons_self .., (Nat.eq_of_beq_eq_true hb).symm, (Option.some.inj h).symm⟩

theorem orc_list {l : List (Nat × (List AV → Option AV))} (h : ∀ p ∈ l, FnOK P p.1 (orcS p.2)) : OrcOK P (lookS l) := by
  refine ⟨fun f o ho => ?_, fun f o ho args m r m' hr => ?_, fun f o ho args m r m' i hr hl => ?_⟩
  · obtain ⟨p, hp, rfl, rfl⟩ := lookS_some ho
    exact h p hp
  · obtain ⟨p, hp, rfl, rfl⟩ := lookS_some ho
    rw [(orcS_some hr).2]; exact Nat.le_refl _
  · obtain ⟨p, hp, rfl, rfl⟩ := lookS_some ho
    rw [(orcS_some hr).2]; exact hl
end

/-- what a run answers -/
def ansR (r : R) : Option AV := Option.casesOn (motive := fun _ => Option AV) r none fun x => some x.1
theorem ansR_some {r : R} {a : AV} (h : ansR r = some a) : ∃ m, r = some (a, m) := by
  cases r with
  | none => cases h
  | some x =>
    obtain ⟨v, m⟩ := x
    cases h
    exact ⟨m, rfl⟩
end
end Ev

/-
  Regions that draw their order, whose readers and calls stand ahead of all that writes: they answer as their text. Conditions: the calls named leave the memory as it is.
-/
namespace Ev
open Go
noncomputable section

def isLoad (op : Op) : Bool := match op with
  | .load .. => true
  | _ => false
def isAlloc (op : Op) : Bool := match op with
  | .alloc _ => true
  | _ => false
/-- a conversion that makes no block -/
def isConv (E : Env) (op : Op) : Bool := match op with
  | .convert s d _ => match convT E s d with
    | some (.int _) => true
    | _ => false
  | _ => false
/-- leaves the memory as it is -/
def calm (E : Env) (op : Op) : Bool := !effectOp op && (!readOp op || (isLoad op || isConv E op))
/-- a call of one of the functions named -/
def namedCall (pf : Nat → Bool) (op : Op) : Bool := match op with
  | .call c => match c.callee with
    | .value (.func g) => pf g
    | _ => false
  | _ => false
def still (E : Env) (pf : Nat → Bool) (op : Op) : Bool := calm E op || namedCall pf op
/-- how many operations stand ahead of the first one that may turn the memory -/
def firstW (E : Env) (pf : Nat → Bool) : List Oper → Nat
  | [] => 0
  | o :: l => Bool.casesOn (motive := fun _ => Nat) (still E pf o.op) 0 (firstW E pf l + 1)
def allocAt (ops : Array Oper) (i : Nat) : Bool := match ops[i]? with
  | some o => isAlloc o.op
  | none => false
def tameL (ops : Array Oper) (w0 : Nat) (lr : List (Nat × List Nat)) : Bool :=
  lr.all fun (i, js) => js.all fun j => (Nat.blt i w0 && Nat.blt j w0) || (allocAt ops i && Nat.blt j i)
def tame (E : Env) (pf : Nat → Bool) (ops : Array Oper) : Bool := match looseReads ops with
  | some lr => tameL ops (firstW E pf ops.toList) lr
  | none => false

def KeepsOn (pf : Nat → Bool) (call : CallF) : Prop := ∀ g args m r m', pf g = true → call (.fn g) args m = some (r, m') → m' = m

section
variable {E : Env} {call : CallF} {pf : Nat → Bool}

mutual
theorem beq_self : ∀ a : AV, AV.beq a a = true
  | .bool b => by simp [AV.beq]
  | .int k n => by simp [AV.beq]
  | .str l => by simp [AV.beq]
  | .nilptr => rfl
  | .ptr a b => by simp [AV.beq]
  | .nilslice => rfl
  | .slice a b c d => by simp [AV.beq]
  | .oslice a b c d => by simp [AV.beq]
  | .nilmap => rfl
  | .map i => by simp [AV.beq]
  | .nilfunc => rfl
  | .func f a b => by simp [AV.beq, beqs_self a, beqs_self b]
  | .yieldf l => by simp [AV.beq]
  | .nilif => rfl
  | .iface t a => by simp [AV.beq, beq_self a]
  | .agg l => by simp [AV.beq, beqs_self l]
  | .tup l => by simp [AV.beq, beqs_self l]
theorem beqs_self : ∀ l : List AV, AV.beqs l l = true
  | [] => rfl
  | a :: l => by simp [AV.beqs, beq_self a, beqs_self l]
end

theorem evOp_quietCall {op : Op} (h : effectOp op = false) (tm : Tr AV) (m : AMem) : evOp E call op tm m = evOp E noCall op tm m := by
  cases op with
  | call c =>
    show evCallOp E call c tm m = evCallOp E noCall c tm m
    unfold evCallOp
    cases hc : c.callee with
    | value f => simp [effectOp, hc] at h
    | invoke x n => simp [effectOp, hc] at h
    | builtin b => rfl
  | _ => rfl

theorem load_keeps {t : TypeId} {x : Operand} {tm : Tr AV} {m m' : AMem} {v : AV} (h : evOp E call (.load t x) tm m = some (v, m')) : m' = m := by
  have h : on1 (rd tm x) (fun a => evLoad E t a m) = some (v, m') := h
  unfold on1 at h
  cases hx : rd tm x with
  | none => rw [hx] at h; cases h
  | some a =>
    rw [hx] at h
    have h : evLoad E t a m = some (v, m') := h
    unfold evLoad at h
    cases ht : E.ty t with
    | none => rw [ht] at h; cases h
    | some i =>
      rw [ht] at h
      cases hp : a.asPtr with
      | none => rw [hp] at h; cases h
      | some p =>
        rw [hp] at h
        have h : evLoadAt i m p.1 p.2 = some (v, m') := h
        unfold evLoadAt at h
        cases hg : isAggD i.u with
        | false =>
          rw [hg] at h
          have h : vm m (oneCell m p.1 p.2) = some (v, m') := h
          unfold vm at h
          cases ho : oneCell m p.1 p.2 with
          | none => rw [ho] at h; cases h
          | some a => rw [ho] at h; cases h; rfl
        | true =>
          rw [hg] at h
          have h : aggR m (takeCells m p.1 p.2 i.size) = some (v, m') := h
          unfold aggR at h
          cases ho : takeCells m p.1 p.2 i.size with
          | none => rw [ho] at h; cases h
          | some a => rw [ho] at h; cases h; rfl

theorem conv_keeps {s d : TypeId} {x : Operand} (hl : isConv E (.convert s d x) = true) {tm : Tr AV} {m m' : AMem} {v : AV} (h : evOp E call (.convert s d x) tm m = some (v, m')) : m' = m := by
  have h : on1 (rd tm x) (fun a => evConvert E s d a m) = some (v, m') := h
  unfold on1 at h
  cases hx : rd tm x with
  | none => rw [hx] at h; cases h
  | some a =>
    rw [hx] at h
    have h : evConvert E s d a m = some (v, m') := h
    unfold evConvert at h
    unfold isConv at hl
    simp only at hl
    split at hl
    · next k hk =>
      rw [hk] at h
      simp only at h
      split at h
      · cases h; rfl
      · cases h
    · cases hl

theorem calm_keeps {op : Op} (hc : calm E op = true) {tm : Tr AV} {m m' : AMem} {v : AV} (h : evOp E call op tm m = some (v, m')) : m' = m := by
  simp only [calm, Bool.and_eq_true, Bool.not_eq_true', Bool.or_eq_true] at hc
  rcases hc.2 with hr | hl
  · rcases (quiet_of hc.1 h).ok with ⟨h1, _⟩ | ⟨h1, _⟩
    · exact h1
    · rw [hr] at h1; cases h1
  · rcases hl with hl | hl
    · cases op <;> first | (simp [isLoad] at hl; done) | exact load_keeps h
    · cases op <;> first | (simp [isConv] at hl; done) | exact conv_keeps hl h

theorem named_keeps {op : Op} (hk : KeepsOn pf call) (hc : namedCall pf op = true) {tm : Tr AV} {m m' : AMem} {v : AV} (h : evOp E call op tm m = some (v, m')) : m' = m := by
  unfold namedCall at hc
  split at hc
  · next c =>
    split at hc
    · next g hg =>
      have h : evCallOp E call c tm m = some (v, m') := h
      unfold evCallOp at h
      cases ha : rds tm c.args.toList with
      | none => rw [ha] at h; cases h
      | some args =>
        rw [ha, hg] at h
        exact hk _ _ _ _ _ hc h
    · cases hc
  · cases hc

theorem still_keeps {op : Op} (hk : KeepsOn pf call) (hc : still E pf op = true) {tm : Tr AV} {m m' : AMem} {v : AV} (h : evOp E call op tm m = some (v, m')) : m' = m := by
  unfold still at hc
  rw [Bool.or_eq_true] at hc
  rcases hc with hc | hc
  · exact calm_keeps hc h
  · exact named_keeps hk hc h

theorem alloc_next {op : Op} (hc : isAlloc op = true) {tm : Tr AV} {m m' : AMem} {v : AV} (h : evOp E call op tm m = some (v, m')) : m'.next = m.next + 1 := by
  cases op <;> first | (simp [isAlloc] at hc; done) | skip
  next t =>
  have h : evAlloc E t m = some (v, m') := h
  obtain ⟨b, rfl, _⟩ := evAlloc_quiet h
  rfl

theorem firstW_lt : ∀ {l : List Oper} {i : Nat} {o : Oper}, i < firstW E pf l → l[i]? = some o → still E pf o.op = true
  | [], i, o, h, _ => by simp [firstW] at h
  | p :: l, i, o, h, ho => by
    unfold firstW at h
    cases hs : still E pf p.op with
    | false => rw [hs] at h; exact absurd h (Nat.not_lt_zero _)
    | true =>
      rw [hs] at h
      cases i with
      | zero => simp at ho; subst ho; exact hs
      | succ i => exact firstW_lt (l := l) (Nat.lt_of_succ_lt_succ h) (by simpa using ho)

structure DInv (E : Env) (ops : Array Oper) (w0 : Nat) (m0 : AMem) (i : Nat) (s : St) (sn : Snaps) : Prop where
  pre : i ≤ w0 → s.mem = m0
  effs : ∀ j mb ma, (j, mb, ma) ∈ sn.effs → j < i ∧ (j < w0 → mb = m0 ∧ ma = m0)
  reads : ∀ k op tm v, (k, op, tm, v) ∈ sn.reads → allocAt ops k = false ∧ (k < w0 → evOp E noCall op tm m0 = some (v, m0))
  news : ∀ k id b, (k, id, b) ∈ sn.news → ¬ k < w0

theorem draw_go (hc : CallMono call) (hk : KeepsOn pf call) {ops : Array Oper} {lr : List (Nat × List Nat)} {m0 : AMem} : ∀ (l : List Oper) (i : Nat) (s s' : St) (sn : Snaps), l = ops.toList.drop i → DInv E ops (firstW E pf ops.toList) m0 i s sn →
    evOpsF l E call ops s = some s' → ∃ sn' n, evDraw E call ops lr (List.range' i l.length) s sn = some (s', sn') ∧ DInv E ops (firstW E pf ops.toList) m0 n s' sn'
  | [], i, s, s', sn, _, hi, h => by
    cases h
    exact ⟨sn, i, rfl, hi⟩
  | o :: l, i, ⟨tm, m⟩, s', sn, hl, hi, h => by
    have hio : ops[i]? = some o := by
      have : (o :: l)[0]? = (ops.toList.drop i)[0]? := by rw [← hl]
      simpa using this.symm
    have hl' : l = ops.toList.drop (i + 1) := by
      have := congrArg (List.drop 1) hl
      simpa [List.drop_drop] using this
    have h : opsG o (evOpsF l) E call ops tm m (wanted ops tm o) = some s' := h
    rw [List.length_cons, List.range'_succ]
    simp only [evDraw, hio]
    cases hw : wanted ops tm o with
    | false =>
      rw [hw] at h
      exact draw_go hc hk l (i + 1) _ _ sn hl' ⟨fun h => hi.pre (by omega), fun j mb ma hj => ⟨Nat.lt_succ_of_lt (hi.effs j mb ma hj).1, (hi.effs j mb ma hj).2⟩, hi.reads, hi.news⟩ h
    | true =>
      rw [hw] at h
      have h : opsK (evOpsF l) o.dst tm E call ops (evOp E call o.op tm m) = some s' := h
      cases hv : evOp E call o.op tm m with
      | none => rw [hv] at h; cases h
      | some x =>
        obtain ⟨v, m'⟩ := x
        rw [hv] at h
        have h : evOpsF l E call ops ⟨setDst tm o.dst v, m'⟩ = some s' := h
        have hle : Nat.ble m.next m'.next = true := by rw [Nat.ble_eq]; exact evOp_next hc hv
        simp only [hle, if_true]
        have hst : i < firstW E pf ops.toList → m' = m ∧ m = m0 := fun hlt =>
          ⟨still_keeps hk (firstW_lt hlt (by simpa using hio)) hv, hi.pre (by omega)⟩
        refine draw_go hc hk l (i + 1) _ _ (snap lr i o.op ⟨tm, m⟩ v m' sn) hl' ?_ h
        unfold snap
        cases he : effectOp o.op with
        | true =>
          simp only [if_true]
          refine ⟨fun hlt => by rw [(hst (by omega)).1]; exact (hst (by omega)).2, fun j mb ma hj => ?_, hi.reads, hi.news⟩
          rcases List.mem_cons.1 hj with hj | hj
          · cases hj
            exact ⟨Nat.lt_succ_self _, fun hlt => ⟨(hst hlt).2, by rw [(hst hlt).1]; exact (hst hlt).2⟩⟩
          · exact ⟨Nat.lt_succ_of_lt (hi.effs j mb ma hj).1, (hi.effs j mb ma hj).2⟩
        | false =>
          simp only [Bool.false_eq_true, if_false]
          have hpre : i + 1 ≤ firstW E pf ops.toList → m' = m0 := fun hlt => by rw [(hst (by omega)).1]; exact (hst (by omega)).2
          have heffs : ∀ j mb ma, (j, mb, ma) ∈ sn.effs → j < i + 1 ∧ (j < firstW E pf ops.toList → mb = m0 ∧ ma = m0) := fun j mb ma hj => ⟨Nat.lt_succ_of_lt (hi.effs j mb ma hj).1, (hi.effs j mb ma hj).2⟩
          split
          · split
            · next hnx =>
              refine ⟨hpre, heffs, fun k op t u hr => ?_, hi.news⟩
              rcases List.mem_cons.1 hr with hr | hr
              · cases hr
                refine ⟨?_, fun hlt => ?_⟩
                · unfold allocAt
                  simp only [hio]
                  cases ha : isAlloc o.op with
                  | false => rfl
                  | true =>
                    have := alloc_next ha hv
                    have h2 : m'.next = m.next := Nat.eq_of_beq_eq_true hnx
                    omega
                · rw [← (hst hlt).2, ← evOp_quietCall (call := call) he, hv, (hst hlt).1]
              · exact hi.reads k op t u hr
            · next hnx =>
              refine ⟨hpre, heffs, hi.reads, fun k id b hr => ?_⟩
              rcases List.mem_cons.1 hr with hr | hr
              · cases hr
                intro hlt
                apply hnx
                rw [(hst hlt).1]
                exact Nat.beq_refl _
              · exact hi.news k id b hr
          · exact ⟨hpre, heffs, hi.reads, hi.news⟩

theorem lookup_mem : ∀ {l : List (Nat × List Nat)} {i : Nat} {js : List Nat}, l.lookup i = some js → (i, js) ∈ l
  | [], _, _, h => by simp at h
  | (k, b) :: l, i, js, h => by
    rw [List.lookup_cons] at h
    split at h
    · next hk =>
      have : i = k := by simpa using hk
      subst this
      cases h
      exact List.mem_cons_self ..
    · exact List.mem_cons_of_mem _ (lookup_mem h)

theorem region_tame (hc : CallMono call) (hk : KeepsOn pf call) {ops : Array Oper} (ht : tame E pf ops = true) {s s' : St} (h : evOpsF ops.toList E call ops s = some s') : evRegion E call ops true s = some s' := by
  unfold tame at ht
  unfold evRegion
  simp only
  split at ht
  · next lr hlr =>
    simp only [hlr]
    obtain ⟨sn', n, hd, hi⟩ := draw_go (lr := lr) hc hk (m0 := s.mem) ops.toList 0 s s' ⟨[], [], []⟩ (by simp) ⟨fun _ => rfl, fun _ _ _ h => by simp at h, fun _ _ _ _ h => by simp at h, fun _ _ _ h => by simp at h⟩ h
    have hd : evDraw E call ops lr (List.range ops.size) s ⟨[], [], []⟩ = some (s', sn') := by
      rw [List.range_eq_range', ← Array.length_toList]; exact hd
    rw [hd]
    have htm : ∀ i js, lr.lookup i = some js → ∀ j ∈ js, (i < firstW E pf ops.toList ∧ j < firstW E pf ops.toList) ∨ (allocAt ops i = true ∧ j < i) := by
      intro i js hl j hj
      have h1 := List.all_eq_true.1 ht _ (lookup_mem hl)
      have h2 := List.all_eq_true.1 h1 j hj
      simpa using h2
    have hs : stable E lr sn' = true := by
      unfold stable
      rw [Bool.and_eq_true, List.all_eq_true, List.all_eq_true]
      refine ⟨fun x hx => ?_, fun x hx => ?_⟩
      · obtain ⟨k, op, tm, v⟩ := x
        obtain ⟨ha, hr⟩ := hi.reads k op tm v hx
        simp only
        split
        · next js hl =>
          rw [List.all_eq_true]
          rintro ⟨j, mb, ma⟩ he
          simp only [Bool.or_eq_true, Bool.not_eq_true', Bool.and_eq_true]
          cases hj : js.contains j with
          | false => exact .inl rfl
          | true =>
            refine .inr ?_
            have hjm : j ∈ js := by simpa using hj
            rcases htm k js hl j hjm with ⟨hk0, hj0⟩ | ⟨h1, _⟩
            · obtain ⟨e1, e2⟩ := (hi.effs j mb ma he).2 hj0
              subst e1
              subst e2
              have : sameAt E op tm v s.mem = true := by
                unfold sameAt
                rw [hr hk0]
                simp [beq_self]
              exact ⟨this, this⟩
            · rw [ha] at h1; cases h1
        · rfl
      · obtain ⟨k, id, b⟩ := x
        have hk0 := hi.news k id b hx
        simp only
        split
        · next js hl =>
          rw [List.all_eq_true]
          rintro ⟨j, mb, ma⟩ he
          cases hj : js.contains j with
          | false => simp
          | true =>
            have hjm : j ∈ js := by simpa using hj
            rcases htm k js hl j hjm with ⟨h1, _⟩ | ⟨_, h1⟩
            · exact absurd h1 hk0
            · have : Nat.blt j k = true := by simpa using h1
              simp [this]
        · rfl
    simp only [hs, if_true]
  · cases ht
end
end
end Ev

/-
  What a run of the evaluator needs, as a condition that the kernel writes out: for values that are not known, tests and calls stay in it. Conditions: none.
-/
namespace Ev
open Go
noncomputable section

/-- what is left open: operations whose answer stays in the condition; functions whose calls leave the memory as it is -/
structure Wcfg where
  ex : Oper → Bool
  pf : Nat → Bool
  want : Oper → Option Bool

abbrev KP := AV → AMem → Prop
abbrev CallW := Tgt → List AV → AMem → KP → Prop

def CallWOK (cw : CallW) (call : CallF) : Prop := ∀ t args m K, cw t args m K → ∃ r m', call t args m = some (r, m') ∧ K r m'

def needR (r : R) (K : KP) : Prop := Option.casesOn (motive := fun _ => Prop) r False fun x => Prod.casesOn (motive := fun _ => Prop) x K
/-- a number that is not known, but below nine: each case -/
def smallI (n : Int) : Prop := ∃ c : Nat, c < 9 ∧ n = .ofNat c
def intR (k : IntKind) (n : Int) (m : AMem) (K : KP) : Prop :=
  smallI n ∧ (n = .ofNat 0 → K (.int k (.ofNat 0)) m) ∧ (n = .ofNat 1 → K (.int k (.ofNat 1)) m) ∧ (n = .ofNat 2 → K (.int k (.ofNat 2)) m) ∧ (n = .ofNat 3 → K (.int k (.ofNat 3)) m) ∧ (n = .ofNat 4 → K (.int k (.ofNat 4)) m) ∧ (n = .ofNat 5 → K (.int k (.ofNat 5)) m) ∧ (n = .ofNat 6 → K (.int k (.ofNat 6)) m) ∧ (n = .ofNat 7 → K (.int k (.ofNat 7)) m) ∧ (n = .ofNat 8 → K (.int k (.ofNat 8)) m)
/-- a truth that is not known: both cases (a small number: each case) -/
def someR (r : R) (K : KP) : Prop := Option.casesOn (motive := fun _ => Prop) r False fun x => Prod.casesOn (motive := fun _ => Prop) x fun v m => Option.casesOn (motive := fun _ => Prop) v.asBool
  (Option.casesOn (motive := fun _ => Prop) v.asInt False fun p => Prod.casesOn (motive := fun _ => Prop) p fun k n => intR k n m K) fun b => (b = true → K (.bool true) m) ∧ (b = false → K (.bool false) m)

def wpVal (E : Env) (cw : CallW) (c : Call) (args : List AV) (tm : Tr AV) (m : AMem) (K : KP) : Prop :=
  match c.callee with
  | .value f => match rd tm f with
    | some (.func g first captured) => cw (.fn g) (first ++ args ++ captured) m K
    | _ => False
  | .invoke x name => match rd tm x with
    | some (.iface t a) => match E.meth t name with
      | some g => cw (.fn g) (a :: args) m K
      | none => False
    | _ => False
  | .builtin b => needR (evBuiltin E b c.argTypes.toList args m) K

def wpCallOp (E : Env) (cw : CallW) (c : Call) (tm : Tr AV) (m : AMem) (K : KP) : Prop :=
  Option.casesOn (motive := fun _ => Prop) (rds tm c.args.toList) False fun args => wpVal E cw c args tm m K

def callOf (op : Op) : Option Call := match op with
  | .call c => some c
  | _ => none

/-- a comparison: is it one, of what, is it turned round -/
def cmpOf (op : Op) : Option (Bool × TypeId × Operand × Operand) := match op with
  | .binOp .eql t x y _ => some (false, t, x, y)
  | .binOp .neq t x y _ => some (true, t, x, y)
  | _ => none
def cmpB (neg b : Bool) : Bool := Bool.casesOn (motive := fun _ => Bool) neg b (!b)
/-- a comparison of parts: its answer stays open -/
def eqP (E : Env) (t : TypeId) (a b : List AV) (K : Bool → Prop) : Prop := ∃ r, eqAgg E t a b = some r ∧ K r
/-- .. or it is what is expected -/
def eqW (E : Env) (t : TypeId) (a b : List AV) (w : Option Bool) (K : Bool → Prop) : Prop :=
  Option.casesOn (motive := fun _ => Prop) w (eqP E t a b K) fun w => eqAgg E t a b = some w ∧ K w
def wpPlain (E : Env) (w : Option Bool) (op : Op) (tm : Tr AV) (m : AMem) (K : KP) : Prop :=
  match cmpOf op with
  | none => needR (evOp E noCall op tm m) K
  | some (neg, t, x, y) => match rd tm x with
    | some (.agg a) => match rd tm y with
      | some (.agg b) => eqW E t a b w fun r => K (.bool (cmpB neg r)) m
      | _ => False
    | _ => needR (evOp E noCall op tm m) K

def wpOp (cf : Wcfg) (E : Env) (cw : CallW) (o : Oper) (tm : Tr AV) (m : AMem) (K : KP) : Prop :=
  Option.casesOn (motive := fun _ => Prop) (callOf o.op) (Bool.casesOn (motive := fun _ => Prop) (cf.ex o) (wpPlain E (cf.want o) o.op tm m K) (someR (evOp E noCall o.op tm m) K)) fun c => wpCallOp E cw c tm m K

def wpOpsF (cf : Wcfg) (l : List Oper) : Env → CallW → Array Oper → St → (St → Prop) → Prop :=
  List.rec (motive := fun _ => Env → CallW → Array Oper → St → (St → Prop) → Prop) (fun _ _ _ s K => K s)
    (fun o _ ih E cw ops s K => St.casesOn (motive := fun _ => Prop) s fun tm m =>
      Bool.casesOn (motive := fun _ => Prop) (wanted ops tm o) (ih E cw ops ⟨setDst tm o.dst .undef, m⟩ K)
        (wpOp cf E cw o tm m fun v m' => ih E cw ops ⟨setDst tm o.dst v, m'⟩ K)) l

abbrev KX := Ex → St → Prop
abbrev CodeW := Env → CallW → Nat → St → KX → Prop

def wpRegion (cf : Wcfg) (ops : Array Oper) (draw : Bool) : CodeW := fun E cw _ s K =>
  Bool.casesOn (motive := fun _ => Prop) (draw && !tame E cf.pf ops) (wpOpsF cf ops.toList E cw ops s fun s => K .normal s)
    (Option.casesOn (motive := fun _ => Prop) (evRegion E noCall ops true s) False fun s => K .normal s)
def wpSeq (ia ib : CodeW) : CodeW := fun E cw fuel s K =>
  ia E cw fuel s fun e s => Ex.casesOn (motive := fun _ => Prop) e (ib E cw fuel s K) (fun id => K (.exit id) s) (K .ret s)
def wpCond (c : Operand) (ia ib : CodeW) : CodeW := fun E cw fuel s K =>
  Option.casesOn (motive := fun _ => Prop) (boolOf (rd s.tm c)) False fun b => Bool.casesOn (motive := fun _ => Prop) b (ib E cw fuel s K) (ia E cw fuel s K)
def wpBlock (id : Nat) (ic : CodeW) : CodeW := fun E cw fuel s K =>
  ic E cw fuel s fun e s => Ex.casesOn (motive := fun _ => Prop) e (K .normal s) (fun j => Bool.casesOn (motive := fun _ => Prop) (Nat.beq j id) (K (.exit j) s) (K .normal s)) (K .ret s)
def wpLoopF (n : Nat) : (St → KX → Prop) → St → KX → Prop :=
  Nat.rec (motive := fun _ => (St → KX → Prop) → St → KX → Prop) (fun _ _ _ => False)
    (fun _ ih f s K => f s fun e s => Ex.casesOn (motive := fun _ => Prop) e (ih f s K) (fun id => K (.exit id) s) (K .ret s)) n
def wpLoop (ic : CodeW) : CodeW := fun E cw fuel s K => wpLoopF fuel (ic E cw fuel) s K
def wpNo : CodeW := fun _ _ _ _ _ => False

def wpCodeF (cf : Wcfg) (c : Code) : CodeW :=
  Code.rec (motive := fun _ => CodeW) (fun _ _ _ s K => K .normal s) (fun _ ops draw => wpRegion cf ops draw) (fun _ _ ia ib => wpSeq ia ib) (fun c _ _ ia ib => wpCond c ia ib)
    (fun id _ ic => wpBlock id ic) (fun _ ic => wpLoop ic) (fun _ _ _ _ _ _ => wpNo) (fun id _ _ _ s K => K (.exit id) s) (fun _ _ => wpNo) (fun _ => wpNo) (fun _ => wpNo)
    (fun _ _ _ s K => K .ret s) (fun _ => wpNo) c

def wpBody (cf : Wcfg) (E : Env) (cw : CallW) (n : Nat) (fn : Func) (body : Code) (args : List AV) (m : AMem) (K : KP) : Prop :=
  Bool.casesOn (motive := fun _ => Prop) (Nat.ble args.length fn.ntmps) False
    (wpCodeF cf body E cw n ⟨initTm args 0 .nil, m⟩ fun e s => Ex.casesOn (motive := fun _ => Prop) e (needR (evLeave E fn s) K) (fun _ => False) (needR (evLeave E fn s) K))

def wpFn (cf : Wcfg) (E : Env) (cw : CallW) (n : Nat) (f : Nat) (args : List AV) (m : AMem) (K : KP) : Prop :=
  Option.casesOn (motive := fun _ => Prop) (E.fn f) False fun fn => Option.casesOn (motive := fun _ => Prop) fn.body False fun body => wpBody cf E cw n fn body args m K

/-- calls: those in the list by their conditions, the others by their code -/
def wpCall (cf : Wcfg) (E : Env) (ow : Nat → Option (List AV → AMem → KP → Prop)) : Nat → CallW
  | 0, _, _, _, _ => False
  | _ + 1, .yield _, _, _, _ => False
  | n + 1, .fn f, args, m, K => Option.casesOn (motive := fun _ => Prop) (ow f) (wpFn cf E (wpCall cf E ow n) n f args m K) fun o => o args m K

section
variable {E : Env} {cw : CallW} {call : CallF}

theorem needR_some {r : R} {K : KP} (h : needR r K) : ∃ v m, r = some (v, m) ∧ K v m := by
  cases r with
  | none => cases h
  | some x => exact ⟨x.1, x.2, rfl, h⟩

theorem intR_some {k : IntKind} {n : Int} {m : AMem} {K : KP} (h : intR k n m K) : K (.int k n) m := by
  obtain ⟨⟨c, hc, rfl⟩, h0, h1, h2, h3, h4, h5, h6, h7, h8⟩ := h
  match c, hc with
  | 0, _ => exact h0 rfl
  | 1, _ => exact h1 rfl
  | 2, _ => exact h2 rfl
  | 3, _ => exact h3 rfl
  | 4, _ => exact h4 rfl
  | 5, _ => exact h5 rfl
  | 6, _ => exact h6 rfl
  | 7, _ => exact h7 rfl
  | 8, _ => exact h8 rfl
theorem someR_some {r : R} {K : KP} (h : someR r K) : ∃ v m, r = some (v, m) ∧ K v m := by
  cases r with
  | none => cases h
  | some x =>
    obtain ⟨v, m⟩ := x
    cases v with
    | bool b =>
      have h : (b = true → K (.bool true) m) ∧ (b = false → K (.bool false) m) := h
      cases b with
      | true => exact ⟨_, _, rfl, h.1 rfl⟩
      | false => exact ⟨_, _, rfl, h.2 rfl⟩
    | int k n => exact ⟨_, _, rfl, intR_some (k := k) (n := n) h⟩
    | _ => cases h

theorem wpCallOp_ok (hc : CallWOK cw call) {c : Call} {tm : Tr AV} {m : AMem} {K : KP} (h : wpCallOp E cw c tm m K) : ∃ v m', evCallOp E call c tm m = some (v, m') ∧ K v m' := by
  unfold wpCallOp at h
  unfold evCallOp
  cases ha : rds tm c.args.toList with
  | none => rw [ha] at h; cases h
  | some args =>
    rw [ha] at h
    have h : wpVal E cw c args tm m K := h
    unfold wpVal at h
    simp only
    split at h
    · next f hf =>
      simp only [hf]
      split at h
      · next g a b hg =>
        simp only [hg]
        exact hc _ _ _ _ h
      · cases h
    · next x name hf =>
      simp only [hf]
      split at h
      · next t a hx =>
        simp only [hx]
        split at h
        · next g hg =>
          simp only [hg]
          exact hc _ _ _ _ h
        · cases h
      · cases h
    · next b hf =>
      simp only [hf]
      exact needR_some h

theorem evOp_noCall {op : Op} (h : callOf op = none) (tm : Tr AV) (m : AMem) : evOp E call op tm m = evOp E noCall op tm m := by
  cases op <;> first | rfl | (cases h)

theorem eqW_some {t : TypeId} {a b : List AV} {w : Option Bool} {K : Bool → Prop} (h : eqW E t a b w K) : ∃ r, eqAgg E t a b = some r ∧ K r := by
  cases w with
  | none => exact h
  | some w => exact ⟨w, h⟩
theorem wpPlain_ok {w : Option Bool} {op : Op} {tm : Tr AV} {m : AMem} {K : KP} (h : wpPlain E w op tm m K) : ∃ v m', evOp E noCall op tm m = some (v, m') ∧ K v m' := by
  unfold wpPlain at h
  split at h
  · exact needR_some h
  · next neg t x y hc =>
    split at h
    · next a ha =>
      split at h
      · next b hb =>
        obtain ⟨r, h1, h2⟩ := eqW_some h
        have hev : evEq E t (.agg a) (.agg b) = some r := h1
        cases op <;> first | (simp [cmpOf] at hc; done) | skip
        next bop t' x' y' u =>
        have hgo : ∀ bop' : BinOp, bop = bop' → evOp E noCall (.binOp bop t' x' y' u) tm m = vm m (evBin E bop' t (.agg a) (.agg b)) → True := fun _ _ _ => trivial
        cases bop <;> simp only [cmpOf, Option.some.injEq, Prod.mk.injEq, reduceCtorEq] at hc
        · obtain ⟨rfl, rfl, rfl, rfl⟩ := hc
          refine ⟨_, _, ?_, h2⟩
          exact op_bin ha hb (show evBinR E .eql t' (.agg a) (.agg b) = _ by simp only [evBinR, AV.asStr, hev, cmpB])
        · obtain ⟨rfl, rfl, rfl, rfl⟩ := hc
          refine ⟨_, _, ?_, h2⟩
          exact op_bin ha hb (show evBinR E .neq t' (.agg a) (.agg b) = _ by simp only [evBinR, AV.asStr, hev, cmpB])
      · cases h
    · exact needR_some h

theorem wpOp_ok (hc : CallWOK cw call) {cf : Wcfg} {o : Oper} {tm : Tr AV} {m : AMem} {K : KP} (h : wpOp cf E cw o tm m K) : ∃ v m', evOp E call o.op tm m = some (v, m') ∧ K v m' := by
  unfold wpOp at h
  cases ho : callOf o.op with
  | none =>
    rw [ho] at h
    rw [evOp_noCall ho]
    cases hx : cf.ex o with
    | false => rw [hx] at h; exact wpPlain_ok h
    | true => rw [hx] at h; exact someR_some h
  | some c =>
    rw [ho] at h
    have hop : o.op = .call c := by
      cases hop : o.op <;> rw [hop] at ho <;> first | (cases ho; done) | (cases ho; rfl)
    rw [hop]
    exact wpCallOp_ok hc h

theorem wpOpsF_ok (hc : CallWOK cw call) {cf : Wcfg} {ops : Array Oper} : ∀ {l : List Oper} {s : St} {K : St → Prop}, wpOpsF cf l E cw ops s K → ∃ s', evOpsF l E call ops s = some s' ∧ K s'
  | [], s, K, h => ⟨s, rfl, h⟩
  | o :: l, ⟨tm, m⟩, K, h => by
    have h : Bool.casesOn (motive := fun _ => Prop) (wanted ops tm o) (wpOpsF cf l E cw ops ⟨setDst tm o.dst .undef, m⟩ K) (wpOp cf E cw o tm m fun v m' => wpOpsF cf l E cw ops ⟨setDst tm o.dst v, m'⟩ K) := h
    show ∃ s', opsG o (evOpsF l) E call ops tm m (wanted ops tm o) = some s' ∧ K s'
    cases hw : wanted ops tm o with
    | false =>
      rw [hw] at h
      exact wpOpsF_ok hc (l := l) h
    | true =>
      rw [hw] at h
      obtain ⟨v, m', h1, h2⟩ := wpOp_ok hc h
      obtain ⟨s', h3, h4⟩ := wpOpsF_ok hc (l := l) h2
      refine ⟨s', ?_, h4⟩
      show opsK (evOpsF l) o.dst tm E call ops (evOp E call o.op tm m) = some s'
      rw [h1]
      exact h3

theorem evOp_from {op : Op} {tm : Tr AV} {m : AMem} {x : AV × AMem} (h : evOp E noCall op tm m = some x) : evOp E call op tm m = some x := by
  cases ho : callOf op with
  | none => rw [evOp_noCall ho]; exact h
  | some c =>
    have hop : op = .call c := by
      cases op <;> first | (cases ho; done) | (cases ho; rfl)
    subst hop
    have h : evCallOp E noCall c tm m = some x := h
    show evCallOp E call c tm m = some x
    unfold evCallOp at h ⊢
    cases ha : rds tm c.args.toList with
    | none => rw [ha] at h; cases h
    | some args =>
      rw [ha] at h
      simp only at h ⊢
      split at h
      · split at h
        · cases h
        · cases h
        · cases h
      · split at h
        · split at h
          · cases h
          · cases h
        · cases h
      · exact h

theorem evDraw_from {ops : Array Oper} {lr : List (Nat × List Nat)} : ∀ {l : List Nat} {s : St} {sn : Snaps} {p : St × Snaps}, evDraw E noCall ops lr l s sn = some p → evDraw E call ops lr l s sn = some p
  | [], s, sn, p, h => h
  | i :: r, s, sn, p, h => by
    simp only [evDraw] at h ⊢
    split at h
    · cases h
    · split at h
      · exact evDraw_from h
      · split at h
        · next v m hv =>
          rw [evOp_from (call := call) hv]
          simp only
          split at h
          · next hle => rw [if_pos hle]; exact evDraw_from h
          · cases h
        · cases h

theorem evRegion_from {ops : Array Oper} {s s' : St} (h : evRegion E noCall ops true s = some s') : evRegion E call ops true s = some s' := by
  unfold evRegion at h ⊢
  simp only at h ⊢
  split at h
  · next lr hl =>
    split at h
    · next s1 sn hd =>
      rw [evDraw_from (call := call) hd]
      exact h
    · cases h
  · cases h

theorem wpCodeF_ok (hc : CallWOK cw call) {cf : Wcfg} (hm : CallMono call) (hp : KeepsOn cf.pf call) : ∀ (c : Code) {fuel : Nat} {s : St} {K : KX}, wpCodeF cf c E cw fuel s K → ∃ e s', evCodeF c E call fuel s = some (e, s') ∧ K e s'
  | .skip, fuel, s, K, h => ⟨.normal, s, rfl, h⟩
  | .region id ops draw, fuel, s, K, h => by
    have h0 : Bool.casesOn (motive := fun _ => Prop) (draw && !tame E cf.pf ops) (wpOpsF cf ops.toList E cw ops s fun s => K .normal s)
      (Option.casesOn (motive := fun _ => Prop) (evRegion E noCall ops true s) False fun s => K .normal s) := h
    cases hd : (draw && !tame E cf.pf ops) with
    | false =>
      rw [hd] at h0
      obtain ⟨s', h1, h2⟩ := wpOpsF_ok hc h0
      refine ⟨.normal, s', ?_, h2⟩
      cases draw with
      | false => exact step_region h1
      | true =>
        have ht : tame E cf.pf ops = true := by simpa using hd
        show cdRegion ops true E call fuel s = _
        unfold cdRegion
        rw [region_tame hm hp ht h1]
    | true =>
      rw [hd] at h0
      obtain ⟨rfl, _⟩ : draw = true ∧ _ := by simpa using hd
      have h : Option.casesOn (motive := fun _ => Prop) (evRegion E noCall ops true s) False (fun s => K .normal s) := h0
      cases hr : evRegion E noCall ops true s with
      | none => rw [hr] at h; cases h
      | some s' =>
        rw [hr] at h
        refine ⟨.normal, s', ?_, h⟩
        show cdRegion ops true E call fuel s = _
        unfold cdRegion
        rw [evRegion_from hr]
  | .seq x y, fuel, s, K, h => by
    obtain ⟨e, s1, h1, h2⟩ := wpCodeF_ok hc hm hp x (show wpCodeF cf x E cw fuel s (fun e s => Ex.casesOn (motive := fun _ => Prop) e (wpCodeF cf y E cw fuel s K) (fun id => K (.exit id) s) (K .ret s)) from h)
    cases e with
    | normal =>
      obtain ⟨e, s2, h3, h4⟩ := wpCodeF_ok hc hm hp y h2
      exact ⟨e, s2, step_seq h1 h3, h4⟩
    | exit id => exact ⟨_, _, step_out h1 (fun h => by cases h), h2⟩
    | ret => exact ⟨_, _, step_out h1 (fun h => by cases h), h2⟩
  | .cond c x y, fuel, s, K, h => by
    have h : Option.casesOn (motive := fun _ => Prop) (boolOf (rd s.tm c)) False (fun b => Bool.casesOn (motive := fun _ => Prop) b (wpCodeF cf y E cw fuel s K) (wpCodeF cf x E cw fuel s K)) := h
    show ∃ e s', cdCond c (evCodeF x) (evCodeF y) E call fuel s = some (e, s') ∧ K e s'
    unfold cdCond
    cases hb : boolOf (rd s.tm c) with
    | none => rw [hb] at h; cases h
    | some b =>
      rw [hb] at h
      cases b with
      | false => exact wpCodeF_ok hc hm hp y h
      | true => exact wpCodeF_ok hc hm hp x h
  | .block id c, fuel, s, K, h => by
    obtain ⟨e, s1, h1, h2⟩ := wpCodeF_ok hc hm hp c (show wpCodeF cf c E cw fuel s (fun e s => Ex.casesOn (motive := fun _ => Prop) e (K .normal s) (fun j => Bool.casesOn (motive := fun _ => Prop) (Nat.beq j id) (K (.exit j) s) (K .normal s)) (K .ret s)) from h)
    show ∃ e s', inBlock id (evCodeF c E call fuel s) = some (e, s') ∧ K e s'
    rw [h1]
    cases e with
    | normal => exact ⟨_, _, rfl, h2⟩
    | exit j =>
      simp only [inBlock]
      cases hb : Nat.beq j id with
      | false => simp only [hb] at h2; exact ⟨_, _, by simp, h2⟩
      | true => simp only [hb] at h2; exact ⟨_, _, by simp, h2⟩
    | ret => exact ⟨_, _, rfl, h2⟩
  | .loop c, fuel, s, K, h => by
    have hl : ∀ (n : Nat) (s : St), wpLoopF n (wpCodeF cf c E cw fuel) s K → ∃ e s', loopF n (evCodeF c E call fuel) s = some (e, s') ∧ K e s' := by
      intro n
      induction n with
      | zero => intro s h; cases h
      | succ n ih =>
        intro s h
        obtain ⟨e, s1, h1, h2⟩ := wpCodeF_ok hc hm hp c (show wpCodeF cf c E cw fuel s (fun e s => Ex.casesOn (motive := fun _ => Prop) e (wpLoopF n (wpCodeF cf c E cw fuel) s K) (fun id => K (.exit id) s) (K .ret s)) from h)
        cases e with
        | normal =>
          obtain ⟨e, s2, h3, h4⟩ := ih s1 h2
          exact ⟨e, s2, loopF_step h1 h3, h4⟩
        | exit id => exact ⟨_, _, loopF_out h1 (fun h => by cases h), h2⟩
        | ret => exact ⟨_, _, loopF_out h1 (fun h => by cases h), h2⟩
    exact hl fuel s h
  | .exit id, fuel, s, K, h => ⟨.exit id, s, rfl, h⟩
  | .ret, fuel, s, K, h => ⟨.ret, s, rfl, h⟩
  | .rangeFunc _ _ _ _, fuel, s, K, h => (show False from h).elim
  | .scope _, fuel, s, K, h => (show False from h).elim
  | .label _, fuel, s, K, h => (show False from h).elim
  | .goto _, fuel, s, K, h => (show False from h).elim
  | .refuse _, fuel, s, K, h => (show False from h).elim

theorem keeps_of {pf : Nat → Bool} (hpf : ∀ g, pf g = true → ∃ s, E.orc g = some (orcS s)) : ∀ n, KeepsOn pf (evCall E n)
  | 0, g, args, m, r, m', _, h => by cases h
  | n + 1, g, args, m, r, m', hg, h => by
    obtain ⟨s, hs⟩ := hpf g hg
    rw [evCall] at h
    simp only [hs] at h
    exact (orcS_some h).2

theorem wpCall_ok {cf : Wcfg} (hgr : ∀ f o, E.orc f = some o → ∀ args m r m', o args m = some (r, m') → m.next ≤ m'.next) (hpf : ∀ g, cf.pf g = true → ∃ s, E.orc g = some (orcS s)) {ow : Nat → Option (List AV → AMem → KP → Prop)} (hn : ∀ f, ow f = none → E.orc f = none)
    (ho : ∀ f w, ow f = some w → ∀ args m K, w args m K → ∃ o r m', E.orc f = some o ∧ o args m = some (r, m') ∧ K r m') : ∀ n, CallWOK (wpCall cf E ow n) (evCall E n)
  | 0, _, _, _, _, h => (show False from h).elim
  | n + 1, .yield l, args, m, K, h => (show False from h).elim
  | n + 1, .fn f, args, m, K, h => by
    have h : Option.casesOn (motive := fun _ => Prop) (ow f) (wpFn cf E (wpCall cf E ow n) n f args m K) (fun o => o args m K) := h
    cases hw : ow f with
    | some w =>
      rw [hw] at h
      obtain ⟨o, r, m', h1, h2, h3⟩ := ho f w hw args m K h
      refine ⟨r, m', ?_, h3⟩
      rw [evCall]
      simp only [h1, h2]
    | none =>
      rw [hw] at h
      have h : wpFn cf E (wpCall cf E ow n) n f args m K := h
      unfold wpFn at h
      cases hf : E.fn f with
      | none => rw [hf] at h; cases h
      | some fn =>
        rw [hf] at h
        simp only at h
        cases hb : fn.body with
        | none => rw [hb] at h; cases h
        | some body =>
          rw [hb] at h
          have h : wpBody cf E (wpCall cf E ow n) n fn body args m K := h
          unfold wpBody at h
          cases hl : Nat.ble args.length fn.ntmps with
          | false => rw [hl] at h; cases h
          | true =>
            rw [hl] at h
            obtain ⟨e, s', h1, h2⟩ := wpCodeF_ok (wpCall_ok hgr hpf hn ho n) (evCall_mono hgr n) (keeps_of hpf n) body h
            have h1 : evCode E (evCall E n) n body ⟨initTm args 0 .nil, m⟩ = some (e, s') := h1
            cases e with
            | exit id => cases h2
            | normal =>
              obtain ⟨v, m', h3, h4⟩ := needR_some h2
              refine ⟨v, m', ?_, h4⟩
              rw [evCall]
              simp only [hn f hw, hf, hb, hl, h1, h3]
            | ret =>
              obtain ⟨v, m', h3, h4⟩ := needR_some h2
              refine ⟨v, m', ?_, h4⟩
              rw [evCall]
              simp only [hn f hw, hf, hb, hl, h1, h3]
end
end
end Ev

/-
  Numbers of 64 bits: the operators over Nat, and math/bits.Add64 as the model has it. Conditions: those named.
-/
namespace Ev
open Go
noncomputable section

def uadd (a b : Int) : Int := wrapI .u64 (addI a b)
def usub (a b : Int) : Int := wrapI .u64 (addI a (negI b))
def umul (a b : Int) : Int := wrapI .u64 (a * b)
def uand (a b : Int) : Int := restK .u64 (Nat.land (toU .u64 a) (toU .u64 b))
def uor (a b : Int) : Int := restK .u64 (Nat.lor (toU .u64 a) (toU .u64 b))
def ushr (a : Int) (n : Nat) : Int := Int.casesOn (motive := fun _ => Int) a (fun m => .ofNat (Nat.div m (Nat.pow 2 (cnt .u64 n)))) (fun m => .negSucc (Nat.div m (Nat.pow 2 (cnt .u64 n))))
def ushl (a : Int) (n : Nat) : Int := wrapI .u64 (Int.casesOn (motive := fun _ => Int) a (fun m => .ofNat (Nat.mul m (Nat.pow 2 (cnt .u64 n)))) (fun m => .negSucc (Nat.sub (Nat.mul (Nat.succ m) (Nat.pow 2 (cnt .u64 n))) 1)))

def M64 : Nat := 18446744073709551616

theorem wrap64 (a : Nat) : wrapI .u64 (.ofNat a) = .ofNat (a % M64) := by
  show Bool.casesOn (motive := fun _ => Int) (Nat.blt a M64) (restK .u64 (Nat.mod a M64)) (.ofNat a) = _
  cases h : Nat.blt a M64 with
  | true =>
    have h : a < M64 := by simpa using h
    rw [Nat.mod_eq_of_lt h]
  | false =>
    show Bool.casesOn (motive := fun _ => Int) (Nat.blt (Nat.mod a M64) M64) _ (.ofNat (Nat.mod a M64)) = _
    have h2 : Nat.blt (Nat.mod a M64) M64 = true := by
      have : a % M64 < M64 := Nat.mod_lt _ (by decide)
      rw [Nat.blt_eq]; exact this
    rw [h2]; rfl
theorem wrap8 (a : Nat) : wrapI .u8 (.ofNat a) = .ofNat (a % 256) := by
  show Bool.casesOn (motive := fun _ => Int) (Nat.blt a 256) (restK .u8 (Nat.mod a 256)) (.ofNat a) = _
  cases h : Nat.blt a 256 with
  | true =>
    have h : a < 256 := by simpa using h
    rw [Nat.mod_eq_of_lt h]
  | false =>
    show Bool.casesOn (motive := fun _ => Int) (Nat.blt (Nat.mod a 256) 256) _ (.ofNat (Nat.mod a 256)) = _
    have h2 : Nat.blt (Nat.mod a 256) 256 = true := by
      have : a % 256 < 256 := Nat.mod_lt _ (by decide)
      rw [Nat.blt_eq]; exact this
    rw [h2]; rfl
theorem rest64 {a : Nat} (h : a < M64) : restK .u64 a = .ofNat a := by
  show Bool.casesOn (motive := fun _ => Int) (Nat.blt a M64) _ (.ofNat a) = _
  have : Nat.blt a M64 = true := by simpa using h
  rw [this]
theorem uadd_nat (a b : Nat) : uadd (.ofNat a) (.ofNat b) = .ofNat ((a + b) % M64) := wrap64 (a + b)
theorem umul_nat (a b : Nat) : umul (.ofNat a) (.ofNat b) = .ofNat (a * b % M64) := wrap64 (a * b)
theorem uand_nat (a b : Nat) : uand (.ofNat a) (.ofNat b) = .ofNat ((a % M64) &&& (b % M64)) :=
  rest64 (Nat.lt_of_le_of_lt Nat.and_le_left (Nat.mod_lt _ (by decide)))
theorem uor_nat (a b : Nat) : uor (.ofNat a) (.ofNat b) = .ofNat ((a % M64) ||| (b % M64)) :=
  rest64 (Nat.or_lt_two_pow (n := 64) (Nat.mod_lt _ (by decide)) (Nat.mod_lt _ (by decide)))
theorem ushr_nat (a n : Nat) (h : n ≤ 64) : ushr (.ofNat a) n = .ofNat (a / 2 ^ n) := by
  show Int.ofNat (Nat.div a (Nat.pow 2 (cnt .u64 n))) = _
  have : cnt .u64 n = n := by
    show Bool.casesOn (motive := fun _ => Nat) (Nat.ble n 64) 64 n = n
    have : Nat.ble n 64 = true := by simpa using h
    rw [this]
  rw [this]; rfl
theorem ushl_nat (a n : Nat) (h : n ≤ 64) : ushl (.ofNat a) n = .ofNat (a * 2 ^ n % M64) := by
  show wrapI .u64 (Int.ofNat (Nat.mul a (Nat.pow 2 (cnt .u64 n)))) = _
  have : cnt .u64 n = n := by
    show Bool.casesOn (motive := fun _ => Nat) (Nat.ble n 64) 64 n = n
    have : Nat.ble n 64 = true := by simpa using h
    rw [this]
  rw [this]; exact wrap64 _

/-- math/bits.Add64 -/
def add64S : List AV → Option AV
  | [.int .u64 (.ofNat x), .int .u64 (.ofNat y), .int .u64 (.ofNat c)] =>
    Bool.casesOn (motive := fun _ => Option AV) (Nat.ble c 1) none (some (.tup [.int .u64 (.ofNat ((x + y + c) % M64)), .int .u64 (.ofNat ((x + y + c) / M64))]))
  | _ => none
def add64P (x y c : Int) (K : Int → Int → Prop) : Prop :=
  (0 ≤ x ∧ 0 ≤ y ∧ 0 ≤ c ∧ c ≤ 1) ∧ ∀ s d : Int, s = .ofNat ((x.toNat + y.toNat + c.toNat) % M64) → d = .ofNat ((x.toNat + y.toNat + c.toNat) / M64) → K s d
def add64W : List AV → AMem → KP → Prop
  | [.int .u64 x, .int .u64 y, .int .u64 c], m, K => add64P x y c fun s d => K (.tup [.int .u64 s, .int .u64 d]) m
  | _, _, _ => False

theorem add64W_ok {args : List AV} {m : AMem} {K : KP} (h : add64W args m K) : ∃ r, add64S args = some r ∧ K r m := by
  unfold add64W at h
  split at h
  · next x y c =>
    obtain ⟨⟨hx, hy, hc, hc1⟩, hk⟩ := h
    obtain ⟨X, rfl⟩ := Int.eq_ofNat_of_zero_le hx
    obtain ⟨Y, rfl⟩ := Int.eq_ofNat_of_zero_le hy
    obtain ⟨C, rfl⟩ := Int.eq_ofNat_of_zero_le hc
    refine ⟨_, ?_, hk _ _ rfl rfl⟩
    show Bool.casesOn (motive := fun _ => Option AV) (Nat.ble C 1) none (some _) = _
    have : Nat.ble C 1 = true := by
      rw [Nat.ble_eq]; omega
    rw [this]; rfl
  · cases h

theorem add64_fn {P : Program} {f : Nat} {fn : Func} (hf : P.funcs[f]? = some fn) (hname : (fn.name == "runtime.NumGoroutine") = false)
    (hb : fn.body.isNone = true) (hn : Extern.findNext fn = none) (he : Extern.find fn = some add64Entry) : FnOK P f (orcS add64S) := by
  intro args m r m' h μ w vs hrep hvs _
  obtain ⟨hs, rfl⟩ := orcS_some h
  unfold add64S at hs
  split at hs
  · next x y c =>
    cases hc : Nat.ble c 1 with
    | false => rw [hc] at hs; cases hs
    | true =>
      rw [hc] at hs
      cases hs
      obtain ⟨_, _, rfl, rfl, _, _, rfl, rfl, _, _, rfl, rfl, rfl⟩ := hvs
      have hc : c ≤ 1 := by rw [Nat.ble_eq] at hc; exact hc
      refine .inr ⟨.tuple #[.int .u64 (((x : Int) + y + c) % 18446744073709551616), .int .u64 (((x : Int) + y + c) / 18446744073709551616)], w, ?_, ?_⟩
      · rw [run_callFunc_extern hf hname hb hn he]
        have := run_add64 (P := P) (x := (x : Int)) (y := (y : Int)) (c := (c : Int)) (by omega) (by omega) (by omega) (by omega) w
        rw [show (⟨[.int .u64 (Int.ofNat x), .int .u64 (Int.ofNat y), .int .u64 (Int.ofNat c)]⟩ : Array Value) = #[.int .u64 (x : Int), .int .u64 (y : Int), .int .u64 (c : Int)] from rfl, this]
        rfl
      · refine ⟨μ, ⟨_, rfl, .cons ?_ (.cons ?_ .nil)⟩, Step.refl hrep⟩
        · show _ = Value.int .u64 _
          congr 1
        · show _ = Value.int .u64 _
          congr 1
  · cases hs
end
end Ev

/-
  Rows whose arguments are arrays of bytes, or numbers: what is read of them, and what a run of the evaluator says. Conditions: those named.
-/
namespace Ev
open Go Go.ChangeShapes Go.WideShapes Go.ChangeAt Go.RowKit

section
variable {H : Type} {enc : TypeId × Value → H} {P : Program}

theorem int_trod {e : TypeId} {k : IntKind} (he : P.underlying e = some (.int k)) {w : World} {base : Nat} {sp : Nat → Bool} {held : Bool} {n : Nat} {cs : List Value} {x : DataW H × List MemPlace} (h : DataW.trod enc P w base sp held n e cs = some x) :
    ∃ m, cs = [.int k m] ∧ (Lit.int k m).wf = true ∧ x.2 = [] ∧ ∀ (w' : World) (base' : Nat) (sp' : Nat → Bool) (held' : Bool), DataW.trod enc P w' base' sp' held' n e cs = some x := by
  obtain ⟨m, rfl, rfl, hw⟩ := DataW.trod_int he h
  refine ⟨m, rfl, hw, rfl, fun w' base' sp' held' => ?_⟩
  cases n with
  | zero => simp [DataW.trod] at h
  | succ n =>
    unfold DataW.trod
    rw [he]
    simp [hw]

theorem mapM_get {α β : Type} {f : α → Option β} : ∀ {l : List α} {xs : List β}, l.mapM f = some xs → xs.length = l.length ∧ ∀ (i : Nat) (a : α), l[i]? = some a → ∃ b, xs[i]? = some b ∧ f a = some b
  | [], xs, h => by
    simp at h
    subst h
    exact ⟨rfl, fun i a h => by simp at h⟩
  | a :: l, xs, h => by
    rw [List.mapM_cons] at h
    cases ha : f a with
    | none => simp [ha] at h
    | some b =>
      cases hl : l.mapM f with
      | none => simp [ha, hl] at h
      | some ys =>
        simp [ha, hl] at h
        subst h
        obtain ⟨h1, h2⟩ := mapM_get hl
        refine ⟨by simp [h1], fun i c hc => ?_⟩
        cases i with
        | zero => simp at hc; subst hc; exact ⟨b, rfl, ha⟩
        | succ i => simpa using h2 i c (by simpa using hc)
theorem mapM_same {α β : Type} {f g : α → Option β} : ∀ {l : List α} {xs : List β}, l.mapM f = some xs → (∀ a b, f a = some b → g a = some b) → l.mapM g = some xs
  | [], xs, h, _ => by simpa using h
  | a :: l, xs, h, hfg => by
    rw [List.mapM_cons] at h ⊢
    cases ha : f a with
    | none => simp [ha] at h
    | some b =>
      cases hl : l.mapM f with
      | none => simp [ha, hl] at h
      | some ys =>
        simp [ha, hl] at h
        rw [hfg a b ha, mapM_same hl hfg]
        simpa using h

/-- a value's reading that hangs on nothing but itself -/
def Alone (enc : TypeId × Value → H) (P : Program) (t : TypeId) (v : Value) (d : DataW H) : Prop :=
  ∀ (w' : World) (base' : Nat) (sp' : Nat → Bool) (held' : Bool), DataW.Trod enc P w' base' sp' held' t v d []

theorem bytes_trod {t e : TypeId} {n : Nat} (ht : P.underlying t = some (.array n e)) (he : P.underlying e = some (.int .u8)) (hce : P.cellsOf e = 1) (hct : P.cellsOf t = n) (hn : n ≠ 1) {w : World} {base : Nat} {sp : Nat → Bool} {held : Bool} {v : Value} {d : DataW H} {ps : List MemPlace}
    (h : DataW.Trod enc P w base sp held t v d ps) : ps = [] ∧ Alone enc P t v d ∧ ∃ cs : List Value, v = .agg ⟨cs⟩ ∧ cs.length = n ∧ ∀ (i : Nat) (c : Value), cs[i]? = some c → ∃ m : Int, c = .int .u8 m ∧ 0 ≤ m ∧ m < 256 := by
  obtain ⟨fuel, h⟩ := h
  cases fuel with
  | zero => simp [DataW.trod] at h
  | succ f =>
    have h0 := h
    unfold DataW.trod at h
    rw [ht] at h
    simp only [hce, hct, Nat.mul_one] at h
    split at h
    · next hlen =>
      cases hm : (List.range n).mapM fun i => DataW.trod enc P w base sp held f e ((v.cells.toList.drop i).take 1) with
      | none => rw [hm] at h; cases h
      | some xs =>
        rw [hm] at h
        simp only [Option.map_some, Option.some.injEq, Prod.mk.injEq] at h
        obtain ⟨hl, hg⟩ := mapM_get hm
        have hat : ∀ (i : Nat) (x : DataW H × List MemPlace), xs[i]? = some x → ∃ m : Int, v.cells.toList[i]? = some (.int .u8 m) ∧ (Lit.int .u8 m).wf = true ∧ x.2 = [] := by
          intro i x hx
          have hi : i < n := by
            have := (List.getElem?_eq_some_iff.1 hx).1
            rw [hl, List.length_range] at this
            exact this
          obtain ⟨y, hy, hf⟩ := hg i i (by simp [hi])
          rw [hx] at hy
          cases hy
          obtain ⟨m, hc, hw, h2, _⟩ := int_trod he hf
          refine ⟨m, ?_, hw, h2⟩
          have : ((v.cells.toList.drop i).take 1)[0]? = some (.int .u8 m) := by rw [hc]; rfl
          simpa using this
        have hps : xs.flatMap (·.2) = [] := by
          rw [List.flatMap_eq_nil_iff]
          intro x hx
          obtain ⟨i, hi⟩ := List.getElem?_of_mem hx
          exact (hat i x hi).choose_spec.2.2
        refine ⟨by rw [← h.2]; exact hps, ?_, ?_⟩
        · intro w' base' sp' held'
          refine ⟨f + 1, ?_⟩
          unfold DataW.trod
          rw [ht]
          simp only [hce, hct, Nat.mul_one, hlen, if_true]
          rw [mapM_same hm (fun a b hab => by
            obtain ⟨_, _, _, _, h5⟩ := int_trod he hab
            exact h5 w' base' sp' held')]
          simp only [Option.map_some, Option.some.injEq, Prod.mk.injEq]
          exact ⟨h.1, hps⟩
        · have hv : ∃ cs : List Value, v = .agg ⟨cs⟩ := by
            cases v <;> first | (next cs => obtain ⟨cs⟩ := cs; exact ⟨cs, rfl⟩) | (simp [Value.cells] at hlen; exact absurd hlen.symm hn)
          obtain ⟨cs, rfl⟩ := hv
          have hcl : cs.length = n := by simpa [Value.cells] using hlen
          refine ⟨cs, rfl, hcl, fun i c hc => ?_⟩
          have hi : i < xs.length := by
            have := (List.getElem?_eq_some_iff.1 hc).1
            rw [hl, List.length_range]; omega
          obtain ⟨m, hm', hw, _⟩ := hat i xs[i] (List.getElem?_eq_getElem hi)
          have hm' : cs[i]? = some (.int .u8 m) := by simpa [Value.cells] using hm'
          rw [hc] at hm'
          cases hm'
          refine ⟨m, rfl, ?_⟩
          simp [Lit.wf, IntKind.min, IntKind.max, IntKind.signed, IntKind.bits] at hw
          omega
    · cases h

/-- a law over plain data, by the evaluator's word -/
theorem calls_plain {E : Env} (hE : EnvOK E P) {n f : Nat} {args : List AV} {vs : List Value} {m : AMem} (hv : VsRel (fun _ => none) args vs) (h : evCall E n (.fn f) args ⟨0, .nil⟩ = some (.bool true, m)) (w : World)
    (hent : ∃ fn c, P.funcs[f]? = some fn ∧ fn.body = some c ∧ fn.name ≠ "runtime.NumGoroutine") : Calls P f ⟨vs⟩ w fun e w' => e = .returned (.bool true) ∧ Beside w w' := by
  obtain ⟨fn, c, f1, f2, f3⟩ := hent
  rcases (evCall_ok hE n).fn f args ⟨0, .nil⟩ _ _ h (fun _ => none) w vs ⟨fun id A L _ h => (by cases h), fun i j A B L K _ _ h => (by cases h)⟩ hv (fun _ _ _ => rfl) with ⟨_, h2⟩ | ⟨v, w', h1, _⟩
  · refine callsIn_wide.1 ((show CallsIn Fence.wide 0 P f ⟨vs⟩ w _ from h2).mono fun e w' he => ?_)
    cases e with
    | panicked c => exact he.elim
    | outgrown => exact he.elim
    | returned v =>
      obtain ⟨μ', hv, hs⟩ := he
      refine ⟨congrArg Ending.returned hv, hs.size, fun b hb => hs.frame b hb ?_, hs.rest⟩
      rintro ⟨id, A, L, _, h3, _⟩
      cases h3
  · simp [callFunc, f1, f2, f3] at h1
end
end Ev

/-
  The evaluator without the second looks at regions whose text shows that they need none. Conditions: the functions named keep the memory.
-/
namespace Ev
open Go
noncomputable section

def cdRegion2 (pf : Nat → Bool) (ops : Array Oper) (draw : Bool) : CodeF := fun E call fuel s =>
  Bool.casesOn (motive := fun _ => Option (Ex × St)) (draw && tame E pf ops) (cdRegion ops draw E call fuel s)
    (Option.casesOn (motive := fun _ => Option (Ex × St)) (evOps E call ops ops.toList s) none fun s => some (.normal, s))
def evCode2F (pf : Nat → Bool) (c : Code) : CodeF :=
  Code.rec (motive := fun _ => CodeF) (fun _ _ _ s => some (.normal, s)) (fun _ ops draw => cdRegion2 pf ops draw) (fun _ _ ia ib => cdSeq ia ib) (fun c _ _ ia ib => cdCond c ia ib)
    (fun id _ ic => cdBlock id ic) (fun _ ic => cdLoop ic) (fun _ _ _ _ _ _ => cdNo) (fun id _ _ _ s => some (.exit id, s)) (fun _ _ => cdNo) (fun _ => cdNo) (fun _ => cdNo)
    (fun _ _ _ s => some (.ret, s)) (fun _ => cdNo) c
def evCall2 (E : Env) (pf : Nat → Bool) : Nat → CallF
  | 0, _, _, _ => none
  | _ + 1, .yield _, _, _ => none
  | n + 1, .fn f, args, m => match E.orc f with
    | some o => o args m
    | none => match E.fn f with
      | none => none
      | some fn => match fn.body with
        | none => none
        | some body => match Nat.ble args.length fn.ntmps with
          | true => match evCode2F pf body E (evCall2 E pf n) n ⟨initTm args 0 .nil, m⟩ with
            | some (.exit _, _) => none
            | some (_, s) => evLeave E fn s
            | none => none
          | false => none

section
variable {E : Env} {c2 call : CallF} {pf : Nat → Bool}
def CallLe (c2 call : CallF) : Prop := ∀ t args m x, c2 t args m = some x → call t args m = some x

theorem evOp_le (hle : CallLe c2 call) {op : Op} {tm : Tr AV} {m : AMem} {x : AV × AMem} (h : evOp E c2 op tm m = some x) : evOp E call op tm m = some x := by
  cases ho : callOf op with
  | none => rw [evOp_noCall ho] at h; rw [evOp_noCall ho]; exact h
  | some c =>
    have hop : op = .call c := by
      cases op <;> first | (cases ho; done) | (cases ho; rfl)
    subst hop
    have h : evCallOp E c2 c tm m = some x := h
    show evCallOp E call c tm m = some x
    unfold evCallOp at h ⊢
    cases ha : rds tm c.args.toList with
    | none => rw [ha] at h; cases h
    | some args =>
      rw [ha] at h
      simp only at h ⊢
      split at h
      · split at h
        · exact hle _ _ _ _ h
        · exact hle _ _ _ _ h
        · cases h
      · split at h
        · split at h
          · exact hle _ _ _ _ h
          · cases h
        · cases h
      · exact h

theorem evOpsF_le (hle : CallLe c2 call) {ops : Array Oper} : ∀ {l : List Oper} {s s' : St}, evOpsF l E c2 ops s = some s' → evOpsF l E call ops s = some s'
  | [], s, s', h => h
  | o :: l, ⟨tm, m⟩, s', h => by
    have h : opsG o (evOpsF l) E c2 ops tm m (wanted ops tm o) = some s' := h
    show opsG o (evOpsF l) E call ops tm m (wanted ops tm o) = some s'
    cases hw : wanted ops tm o with
    | false => rw [hw] at h; exact evOpsF_le hle (l := l) h
    | true =>
      rw [hw] at h
      have h : opsK (evOpsF l) o.dst tm E c2 ops (evOp E c2 o.op tm m) = some s' := h
      show opsK (evOpsF l) o.dst tm E call ops (evOp E call o.op tm m) = some s'
      cases hv : evOp E c2 o.op tm m with
      | none => rw [hv] at h; cases h
      | some x => rw [hv] at h; rw [evOp_le hle hv]; exact evOpsF_le hle (l := l) h

theorem evDraw_le (hle : CallLe c2 call) {ops : Array Oper} {lr : List (Nat × List Nat)} : ∀ {l : List Nat} {s : St} {sn : Snaps} {p : St × Snaps}, evDraw E c2 ops lr l s sn = some p → evDraw E call ops lr l s sn = some p
  | [], s, sn, p, h => h
  | i :: r, s, sn, p, h => by
    simp only [evDraw] at h ⊢
    split at h
    · cases h
    · split at h
      · exact evDraw_le hle h
      · split at h
        · next v m hv =>
          rw [evOp_le hle hv]
          simp only
          split at h
          · next hb => rw [if_pos hb]; exact evDraw_le hle h
          · cases h
        · cases h

theorem evRegion_le (hle : CallLe c2 call) {ops : Array Oper} {draw : Bool} {s s' : St} (h : evRegion E c2 ops draw s = some s') : evRegion E call ops draw s = some s' := by
  cases draw with
  | false => exact evOpsF_le hle (show evOpsF ops.toList E c2 ops s = some s' from h)
  | true =>
    unfold evRegion at h ⊢
    simp only at h ⊢
    split at h
    · next lr hl =>
      split at h
      · next s1 sn hd =>
        rw [evDraw_le hle hd]
        exact h
      · cases h
    · cases h

theorem evCode2F_from (hle : CallLe c2 call) (hm : CallMono call) (hp : KeepsOn pf call) : ∀ (c : Code) {fuel : Nat} {s : St} {x : Ex × St}, evCode2F pf c E c2 fuel s = some x → evCodeF c E call fuel s = some x
  | .skip, fuel, s, x, h => h
  | .region id ops draw, fuel, s, x, h => by
    have h : Bool.casesOn (motive := fun _ => Option (Ex × St)) (draw && tame E pf ops) (cdRegion ops draw E c2 fuel s)
      (Option.casesOn (motive := fun _ => Option (Ex × St)) (evOps E c2 ops ops.toList s) none fun s => some (.normal, s)) = some x := h
    show cdRegion ops draw E call fuel s = some x
    cases hd : (draw && tame E pf ops) with
    | false =>
      rw [hd] at h
      have h : cdRegion ops draw E c2 fuel s = some x := h
      unfold cdRegion at h ⊢
      cases hr : evRegion E c2 ops draw s with
      | none => rw [hr] at h; cases h
      | some s' => rw [hr] at h; rw [evRegion_le hle hr]; exact h
    | true =>
      rw [hd] at h
      obtain ⟨rfl, ht⟩ : draw = true ∧ tame E pf ops = true := by simpa using hd
      cases hr : evOps E c2 ops ops.toList s with
      | none => rw [hr] at h; cases h
      | some s' =>
        rw [hr] at h
        unfold cdRegion
        rw [region_tame hm hp ht (evOpsF_le hle hr)]
        exact h
  | .seq a b, fuel, s, x, h => by
    have h : cdSeq (evCode2F pf a) (evCode2F pf b) E c2 fuel s = some x := h
    unfold cdSeq at h
    cases ha : evCode2F pf a E c2 fuel s with
    | none => rw [ha] at h; cases h
    | some y =>
      obtain ⟨e, s1⟩ := y
      rw [ha] at h
      have h1 := evCode2F_from hle hm hp a ha
      cases e with
      | normal => exact step_seq h1 (evCode2F_from hle hm hp b h)
      | exit id => rw [step_out h1 (fun h => by cases h)]; exact h
      | ret => rw [step_out h1 (fun h => by cases h)]; exact h
  | .cond c a b, fuel, s, x, h => by
    have h : cdCond c (evCode2F pf a) (evCode2F pf b) E c2 fuel s = some x := h
    show cdCond c (evCodeF a) (evCodeF b) E call fuel s = some x
    unfold cdCond at h ⊢
    cases hb : boolOf (rd s.tm c) with
    | none => rw [hb] at h; cases h
    | some t =>
      rw [hb] at h
      cases t with
      | false => exact evCode2F_from hle hm hp b h
      | true => exact evCode2F_from hle hm hp a h
  | .block id c, fuel, s, x, h => by
    have h : inBlock id (evCode2F pf c E c2 fuel s) = some x := h
    show inBlock id (evCodeF c E call fuel s) = some x
    cases hc : evCode2F pf c E c2 fuel s with
    | none => rw [hc] at h; cases h
    | some y => rw [hc] at h; rw [evCode2F_from hle hm hp c hc]; exact h
  | .loop c, fuel, s, x, h => by
    have hl : ∀ (n : Nat) (s : St), loopF n (evCode2F pf c E c2 fuel) s = some x → loopF n (evCodeF c E call fuel) s = some x := by
      intro n
      induction n with
      | zero => intro s h; cases h
      | succ n ih =>
        intro s h
        have h : Option.casesOn (motive := fun _ => Option (Ex × St)) (evCode2F pf c E c2 fuel s) none (fun y => Prod.casesOn (motive := fun _ => Option (Ex × St)) y fun ex s => loopK (loopF n) (evCode2F pf c E c2 fuel) ex s) = some x := h
        cases hc : evCode2F pf c E c2 fuel s with
        | none => rw [hc] at h; cases h
        | some y =>
          obtain ⟨e, s1⟩ := y
          rw [hc] at h
          have h1 := evCode2F_from hle hm hp c hc
          cases e with
          | normal => exact loopF_step h1 (ih s1 h)
          | exit id => rw [loopF_out h1 (fun h => by cases h)]; exact h
          | ret => rw [loopF_out h1 (fun h => by cases h)]; exact h
    exact hl fuel s h
  | .exit id, fuel, s, x, h => h
  | .ret, fuel, s, x, h => h
  | .rangeFunc _ _ _ _, fuel, s, x, h => by cases h
  | .scope _, fuel, s, x, h => by cases h
  | .label _, fuel, s, x, h => by cases h
  | .goto _, fuel, s, x, h => by cases h
  | .refuse _, fuel, s, x, h => by cases h

theorem evCall2_from (hgr : ∀ f o, E.orc f = some o → ∀ args m r m', o args m = some (r, m') → m.next ≤ m'.next) (hpf : ∀ g, pf g = true → ∃ s, E.orc g = some (orcS s)) : ∀ n, CallLe (evCall2 E pf n) (evCall E n)
  | 0, _, _, _, _, h => by cases h
  | n + 1, .yield l, args, m, x, h => by cases h
  | n + 1, .fn f, args, m, x, h => by
    rw [evCall2] at h
    rw [evCall]
    cases ho : E.orc f with
    | some o => simp only [ho] at h ⊢; exact h
    | none =>
      simp only [ho] at h ⊢
      cases hf : E.fn f with
      | none => simp only [hf] at h; cases h
      | some fn =>
        simp only [hf] at h ⊢
        cases hb : fn.body with
        | none => simp only [hb] at h; cases h
        | some body =>
          simp only [hb] at h ⊢
          cases hl : Nat.ble args.length fn.ntmps with
          | false => simp only [hl] at h; cases h
          | true =>
            simp only [hl] at h ⊢
            cases hc : evCode2F pf body E (evCall2 E pf n) n ⟨initTm args 0 .nil, m⟩ with
            | none => simp only [hc] at h; cases h
            | some y =>
              have h1 : evCode E (evCall E n) n body ⟨initTm args 0 .nil, m⟩ = some y := evCode2F_from (evCall2_from hgr hpf n) (evCall_mono hgr n) (keeps_of hpf n) body hc
              rw [hc] at h
              rw [h1]
              exact h
end
end
end Ev

/-
  Functions over pointers to rows of plain cells: what one run over a small memory says holds in every memory. Conditions: the rows hold no pointers.
-/
namespace Ev
open Go
noncomputable section

/-- a row of plain cells, nothing laid over it -/
def PlainRow (A : ABlk) : Prop := ∃ size cells closed, A = .row size cells .nil closed ∧ AV.plains cells = true

theorem PlainRow.free {A : ABlk} (h : PlainRow A) {μ μ' : Mu} {L : Loc} {w : World} (hb : BRel μ A L w) : BRel μ' A L w := by
  obtain ⟨size, cells, closed, rfl, hp⟩ := h
  obtain ⟨c, e, lo, hi, h1, h2, h3, h4, h5, h6, h7, h8⟩ := hb
  exact ⟨c, e, lo, hi, h1, h2, h3, h4, h5, h6, h7, VsRel.free (l := cells) hp h8⟩

/-- the pointers of the small memory stand for those named -/
def muOf (μ : Mu) (ids : List Nat) : Mu := fun i => match ids[i]? with
  | some id => μ id
  | none => none

/-- a run over a small memory that shows what an oracle answers -/
structure Shown (P : Program) (f : Nat) (args : List AV) (m : AMem) (r : AV) (m' : AMem) (ids : List Nat) (m0 m0' : AMem) (args0 : List AV) : Prop where
  run : ∃ E n, EnvOK E P ∧ evCall E n (.fn f) args0 m0 = some (r, m0')
  nodup : ids.Nodup
  next0 : m0.next = ids.length
  blk : ∀ (i id : Nat), ids[i]? = some id → ∃ A, m.get id = some A ∧ m0.get i = some A ∧ PlainRow A
  blk' : ∀ (i id : Nat), ids[i]? = some id → ∃ A, m'.get id = some A ∧ m0'.get i = some A ∧ PlainRow A
  args : ∀ (μ : Mu) (vs : List Value), VsRel μ args vs → VsRel (muOf μ ids) args0 vs
  plain : r.plain = true
  next : m'.next = m.next
  other : ∀ id, id ∉ ids → m'.get id = m.get id

theorem get_lt {m : AMem} {i : Nat} {A : ABlk} (h : m.get i = some A) : i < m.next := by
  rw [AMem.get_eq] at h
  split at h
  · assumption
  · cases h

theorem shown_ok {P : Program} {f : Nat} {o : List AV → AMem → R} (ho : ∀ args m r m', o args m = some (r, m') → ∃ ids m0 m0' args0, Shown P f args m r m' ids m0 m0' args0) : FnOK P f o := by
  intro args m r m' h μ w vs hrep hvs _
  obtain ⟨ids, m0, m0', args0, hs⟩ := ho _ _ _ _ h
  obtain ⟨E, n, hE, hrun⟩ := hs.run
  have hget0 : ∀ i A, m0.get i = some A → ∃ id, ids[i]? = some id := by
    intro i A hA
    have hi := get_lt hA
    rw [hs.next0] at hi
    exact ⟨ids[i], List.getElem?_eq_getElem hi⟩
  have hrep0 : Rep (muOf μ ids) m0 w := by
    refine ⟨fun i A L hA hL => ?_, fun i j A B L K hA hB hL hK hb => ?_⟩
    · obtain ⟨id, hid⟩ := hget0 i A hA
      obtain ⟨A', h1, h2, h3⟩ := hs.blk i id hid
      rw [h2] at hA
      cases hA
      have hL : μ id = some L := by simpa [muOf, hid] using hL
      exact h3.free (hrep.blk id _ L h1 hL)
    · obtain ⟨id, hid⟩ := hget0 i A hA
      obtain ⟨jd, hjd⟩ := hget0 j B hB
      obtain ⟨A', h1, _, _⟩ := hs.blk i id hid
      obtain ⟨B', k1, _, _⟩ := hs.blk j jd hjd
      have hL : μ id = some L := by simpa [muOf, hid] using hL
      have hK : μ jd = some K := by simpa [muOf, hjd] using hK
      have he := hrep.inj id jd A' B' L K h1 k1 hL hK hb
      subst he
      have hi := (List.getElem?_eq_some_iff.1 hid).1
      have hj := (List.getElem?_eq_some_iff.1 hjd).1
      have e1 := (List.getElem?_eq_some_iff.1 hid).2
      have e2 := (List.getElem?_eq_some_iff.1 hjd).2
      exact (List.getElem_inj hs.nodup).1 (e1.trans e2.symm)
  have hfresh : Fresh (muOf μ ids) m0.next m0'.next := by
    intro i hi _
    rw [hs.next0] at hi
    simp [muOf, List.getElem?_eq_none hi]
  have h0 := (evCall_ok hE n).fn f args0 m0 r m0' hrun (muOf μ ids) w vs hrep0 (hs.args μ vs hvs) hfresh
  refine h0.mono fun v w' ⟨μ', hv, hst⟩ => ⟨μ, VRel.free hs.plain hv, ?_⟩
  have hold : ∀ i id, ids[i]? = some id → μ' i = μ id := by
    intro i id hid
    have hi := (List.getElem?_eq_some_iff.1 hid).1
    rw [hst.old i (.inl (by rw [hs.next0]; exact hi))]
    simp [muOf, hid]
  have hown0 : ∀ b, Owned (muOf μ ids) m0 b → Owned μ m b := by
    rintro b ⟨i, A, L, h1, h2, h3⟩
    obtain ⟨id, hid⟩ := hget0 i A h1
    obtain ⟨A', k1, _, _⟩ := hs.blk i id hid
    exact ⟨id, A', L, k1, by simpa [muOf, hid] using h2, h3⟩
  refine ⟨by rw [hs.next]; exact Nat.le_refl _, fun _ _ => rfl, Mu.le_refl _, ⟨fun id A L hA hL => ?_, fun id jd A B L K hA hB hL hK hb => ?_⟩, hst.size, fun b hb _ => ?_, fun b hlt hn => hst.frame b hlt (fun h => hn (hown0 b h)), hst.rest⟩
  · by_cases hmem : id ∈ ids
    · obtain ⟨i, hi⟩ := List.getElem?_of_mem hmem
      obtain ⟨A', k1, k2, k3⟩ := hs.blk' i id hi
      rw [k1] at hA
      cases hA
      exact k3.free (hst.rep.blk i _ L k2 (by rw [hold i id hi]; exact hL))
    · rw [hs.other id hmem] at hA
      have hb := hrep.blk id A L hA hL
      refine hb.heap (hst.frame _ hb.lt ?_)
      rintro ⟨i, B, K, h1, h2, h3⟩
      obtain ⟨jd, hjd⟩ := hget0 i B h1
      obtain ⟨B', k1, _, _⟩ := hs.blk i jd hjd
      have hK : μ jd = some K := by simpa [muOf, hjd] using h2
      have he := hrep.inj id jd A B' L K hA k1 hL hK h3.symm
      subst he
      exact hmem (List.mem_of_getElem? hjd)
  · have hsome : ∀ id A, m'.get id = some A → ∃ B, m.get id = some B := by
      intro id A hA
      by_cases hmem : id ∈ ids
      · obtain ⟨i, hi⟩ := List.getElem?_of_mem hmem
        obtain ⟨B, k1, _, _⟩ := hs.blk i id hi
        exact ⟨B, k1⟩
      · rw [hs.other id hmem] at hA
        exact ⟨A, hA⟩
    obtain ⟨A', hA'⟩ := hsome id A hA
    obtain ⟨B', hB'⟩ := hsome jd B hB
    exact hrep.inj id jd A' B' L K hA' hB' hL hK hb
  · obtain ⟨id, A, L, h1, h2, h3⟩ := hb
    by_cases hmem : id ∈ ids
    · obtain ⟨i, hi⟩ := List.getElem?_of_mem hmem
      obtain ⟨B, k1, _, _⟩ := hs.blk i id hi
      exact ⟨id, B, L, k1, h2, h3⟩
    · rw [hs.other id hmem] at h1
      exact ⟨id, A, L, h1, h2, h3⟩

theorem shown_loop {P : Program} {f : Nat} {args : List AV} {m m' : AMem} {r : AV} {ids : List Nat} {m0 m0' : AMem} {args0 : List AV} (hs : Shown P f args m r m' ids m0 m0' args0) {l : Nat} (hl : LoopAt m l) : LoopAt m' l := by
  obtain ⟨st, pend, tm, ps, asg, bd, h⟩ := hl
  have : l ∉ ids := by
    intro hmem
    obtain ⟨i, hi⟩ := List.getElem?_of_mem hmem
    obtain ⟨A, k1, _, size, cells, closed, rfl, _⟩ := hs.blk i l hi
    rw [h] at k1
    cases k1
  exact ⟨st, pend, tm, ps, asg, bd, by rw [hs.other l this]; exact h⟩
end
end Ev

/-
  Conditions do not hang on how the temporaries are kept, only on what each of them is. Conditions: none.
-/
namespace Ev
open Go
noncomputable section

def TEq (t t' : Tr AV) : Prop := ∀ i, orUndef (t.get i) = orUndef (t'.get i)
theorem TEq.refl (t : Tr AV) : TEq t t := fun _ => rfl
section
variable {E : Env} {cw : CallW} {t t' : Tr AV}

theorem rd_teq (h : TEq t t') (o : Operand) : rd t o = rd t' o := by
  cases o with
  | tmp i => exact h i
  | const v => rfl
  | global g => rfl
  | func f => rfl
theorem rds_teq (h : TEq t t') : ∀ l : List Operand, rds t l = rds t' l
  | [] => rfl
  | x :: l => by simp only [rds, rd_teq h x, rds_teq h l]
theorem rdParts_teq (h : TEq t t') : ∀ l : List (Nat × Operand), rdParts t l = rdParts t' l
  | [] => rfl
  | (i, x) :: l => by simp only [rdParts, rd_teq h x, rdParts_teq h l]
theorem evOp_teq (h : TEq t t') (op : Op) (m : AMem) : evOp E noCall op t m = evOp E noCall op t' m := by
  have h1 := rd_teq h
  have h2 := rds_teq h
  have h3 := rdParts_teq h
  cases op <;> first | rfl | (simp only [evOp, evOpF, opMove, opPick, opBox, opBuild, opBuildSlice, opLoad, opStore, opNilCheck, opBin, opUn, opConvert, opS2ap, opIface, opMakeFunc, opMakeSlice, opSlice, opFieldAddr, opField, opIndexAddr, opIndex, opLookup, opMapUpdate, opExtract, opTypeAssert, opCall, evCallOp, h1, h2, h3])
theorem wanted_teq (h : TEq t t') (ops : Array Oper) (o : Oper) : wanted ops t o = wanted ops t' o := by
  unfold wanted
  split
  · rfl
  · next j want _ =>
    split
    · next oj _ =>
      split
      · next d _ =>
        have hd := h d
        cases h1 : t.get d with
        | none =>
          cases h2 : t'.get d with
          | none => rfl
          | some v =>
            rw [h1, h2] at hd
            have : AV.undef = v := Option.some.inj hd
            subst this; rfl
        | some u =>
          cases h2 : t'.get d with
          | none =>
            rw [h1, h2] at hd
            have : u = AV.undef := Option.some.inj hd
            subst this; rfl
          | some v =>
            rw [h1, h2] at hd
            have : u = v := Option.some.inj hd
            subst this; rfl
      · rfl
    · rfl
theorem setDst_teq (h : TEq t t') (d : Option Nat) (v : AV) : TEq (setDst t d v) (setDst t' d v) := by
  intro i
  cases d with
  | none => exact h i
  | some d =>
    show orUndef ((t.put d (some v)).get i) = orUndef ((t'.put d (some v)).get i)
    rw [Tr.get_put, Tr.get_put]
    split
    · rfl
    · exact h i

theorem wpOp_teq (h : TEq t t') (cf : Wcfg) (o : Oper) (m : AMem) (K : KP) : wpOp cf E cw o t m K = wpOp cf E cw o t' m K := by
  have h1 := rd_teq h
  have h2 := rds_teq h
  unfold wpOp
  cases callOf o.op with
  | none =>
    simp only [wpPlain, evOp_teq h, h1]
  | some c =>
    simp only [wpCallOp, wpVal, h1, h2]

/-- two ends that say the same of the same temporaries -/
def KEq (K K' : Ex → St → Prop) : Prop := ∀ e s s', TEq s.tm s'.tm → s.mem = s'.mem → K e s → K' e s'

theorem wpOp_mono {cf : Wcfg} (hcw : ∀ t args m K K', (∀ v m, K v m → K' v m) → cw t args m K → cw t args m K') {o : Oper} {m : AMem} {K K' : KP} (hk : ∀ v m, K v m → K' v m) (h : wpOp cf E cw o t m K) : wpOp cf E cw o t m K' := by
  have needMono : ∀ {r : R}, needR r K → needR r K' := by
    intro r hr
    obtain ⟨v, m', rfl, hv⟩ := needR_some hr
    exact hk _ _ hv
  unfold wpOp at h ⊢
  cases hc : callOf o.op with
  | none =>
    rw [hc] at h
    cases hx : cf.ex o with
    | false =>
      rw [hx] at h
      have h : wpPlain E (cf.want o) o.op t m K := h
      show wpPlain E (cf.want o) o.op t m K'
      unfold wpPlain at h ⊢
      split at h
      · exact needMono h
      · split at h
        · split at h
          · have heq : ∀ {tt : TypeId} {a b : List AV} {w : Option Bool} {Q Q' : Bool → Prop}, (∀ r, Q r → Q' r) → eqW E tt a b w Q → eqW E tt a b w Q' := by
              intro tt a b w Q Q' hq hw
              cases w with
              | none => obtain ⟨r, h1, h2⟩ := hw; exact ⟨r, h1, hq _ h2⟩
              | some w => exact ⟨hw.1, hq _ hw.2⟩
            exact heq (fun r hr => hk _ _ hr) h
          · cases h
        · exact needMono h
    | true =>
      rw [hx] at h
      have h : someR (evOp E noCall o.op t m) K := h
      show someR (evOp E noCall o.op t m) K'
      cases hr : evOp E noCall o.op t m with
      | none => rw [hr] at h; cases h
      | some x =>
        obtain ⟨v, m'⟩ := x
        rw [hr] at h
        cases v with
        | bool b => exact ⟨fun e => hk _ _ (h.1 e), fun e => hk _ _ (h.2 e)⟩
        | int k n =>
          have h : intR k n m' K := h
          obtain ⟨hs, h0, h1, h2, h3, h4, h5, h6, h7, h8⟩ := h
          exact ⟨hs, fun e => hk _ _ (h0 e), fun e => hk _ _ (h1 e), fun e => hk _ _ (h2 e), fun e => hk _ _ (h3 e), fun e => hk _ _ (h4 e), fun e => hk _ _ (h5 e), fun e => hk _ _ (h6 e), fun e => hk _ _ (h7 e), fun e => hk _ _ (h8 e)⟩
        | _ => cases h
  | some c =>
    rw [hc] at h
    have h : wpCallOp E cw c t m K := h
    show wpCallOp E cw c t m K'
    unfold wpCallOp at h ⊢
    cases ha : rds t c.args.toList with
    | none => rw [ha] at h; cases h
    | some args =>
      rw [ha] at h
      have h : wpVal E cw c args t m K := h
      show wpVal E cw c args t m K'
      unfold wpVal at h ⊢
      split at h
      · split at h
        · exact hcw _ _ _ _ _ hk h
        · cases h
      · split at h
        · split at h
          · exact hcw _ _ _ _ _ hk h
          · cases h
        · cases h
      · exact needMono h

def CwMono (cw : CallW) : Prop := ∀ t args m K K', (∀ v m, K v m → K' v m) → cw t args m K → cw t args m K'

theorem wpOpsF_teq (hcw : CwMono cw) {cf : Wcfg} {ops : Array Oper} : ∀ (l : List Oper) {s s' : St} {K K' : St → Prop}, wpOpsF cf l E cw ops s K → TEq s.tm s'.tm → s.mem = s'.mem →
    (∀ s s', TEq s.tm s'.tm → s.mem = s'.mem → K s → K' s') → wpOpsF cf l E cw ops s' K'
  | [], s, s', K, K', h, ht, hm, hk => hk s s' ht hm h
  | o :: l, ⟨tm, m⟩, ⟨tm', m'⟩, K, K', h, ht, hm, hk => by
    have hm : m = m' := hm
    subst hm
    have ht : TEq tm tm' := ht
    have h : Bool.casesOn (motive := fun _ => Prop) (wanted ops tm o) (wpOpsF cf l E cw ops ⟨setDst tm o.dst .undef, m⟩ K) (wpOp cf E cw o tm m fun v m' => wpOpsF cf l E cw ops ⟨setDst tm o.dst v, m'⟩ K) := h
    show Bool.casesOn (motive := fun _ => Prop) (wanted ops tm' o) (wpOpsF cf l E cw ops ⟨setDst tm' o.dst .undef, m⟩ K') (wpOp cf E cw o tm' m fun v m' => wpOpsF cf l E cw ops ⟨setDst tm' o.dst v, m'⟩ K')
    rw [← wanted_teq ht]
    cases hw : wanted ops tm o with
    | false =>
      rw [hw] at h
      exact wpOpsF_teq hcw l h (setDst_teq ht _ _) rfl hk
    | true =>
      rw [hw] at h
      have h : wpOp cf E cw o tm m fun v m' => wpOpsF cf l E cw ops ⟨setDst tm o.dst v, m'⟩ K := h
      have h2 : wpOp cf E cw o tm m fun v m' => wpOpsF cf l E cw ops ⟨setDst tm' o.dst v, m'⟩ K' :=
        wpOp_mono (K := fun v m' => wpOpsF cf l E cw ops ⟨setDst tm o.dst v, m'⟩ K) hcw (fun v m1 hv => wpOpsF_teq hcw l hv (setDst_teq ht o.dst v) rfl hk) h
      rw [wpOp_teq ht] at h2
      exact h2

/-- no region that needs second looks -/
def okT (cf : Wcfg) (E : Env) : Code → Bool
  | .region _ ops draw => !(draw && !tame E cf.pf ops)
  | .seq a b => okT cf E a && okT cf E b
  | .cond _ a b => okT cf E a && okT cf E b
  | .block _ c => okT cf E c
  | .loop c => okT cf E c
  | _ => true

theorem wpCodeF_teq (hcw : CwMono cw) {cf : Wcfg} : ∀ (c : Code), okT cf E c = true → ∀ {fuel : Nat} {s s' : St} {K K' : KX}, wpCodeF cf c E cw fuel s K → TEq s.tm s'.tm → s.mem = s'.mem → KEq K K' → wpCodeF cf c E cw fuel s' K'
  | .skip, _, fuel, s, s', K, K', h, ht, hm, hk => hk _ s s' ht hm h
  | .region id ops draw, ho, fuel, s, s', K, K', h, ht, hm, hk => by
    have hd : (draw && !tame E cf.pf ops) = false := by
      have ho : (!(draw && !tame E cf.pf ops)) = true := ho
      cases hx : (draw && !tame E cf.pf ops) with
      | false => rfl
      | true => rw [hx] at ho; cases ho
    have h0 : Bool.casesOn (motive := fun _ => Prop) (draw && !tame E cf.pf ops) (wpOpsF cf ops.toList E cw ops s fun s => K .normal s)
      (Option.casesOn (motive := fun _ => Prop) (evRegion E noCall ops true s) False fun s => K .normal s) := h
    show Bool.casesOn (motive := fun _ => Prop) (draw && !tame E cf.pf ops) (wpOpsF cf ops.toList E cw ops s' fun s => K' .normal s)
      (Option.casesOn (motive := fun _ => Prop) (evRegion E noCall ops true s') False fun s => K' .normal s)
    rw [hd] at h0 ⊢
    exact wpOpsF_teq hcw _ h0 ht hm fun s s' h1 h2 h3 => hk _ _ _ h1 h2 h3
  | .seq x y, ho, fuel, s, s', K, K', h, ht, hm, hk => by
    simp only [okT, Bool.and_eq_true] at ho
    refine wpCodeF_teq hcw x ho.1 (show wpCodeF cf x E cw fuel s (fun e s => Ex.casesOn (motive := fun _ => Prop) e (wpCodeF cf y E cw fuel s K) (fun id => K (.exit id) s) (K .ret s)) from h) ht hm ?_
    intro e s1 s2 h1 h2 h3
    cases e with
    | normal => exact wpCodeF_teq hcw y ho.2 h3 h1 h2 hk
    | exit id => exact hk _ _ _ h1 h2 h3
    | ret => exact hk _ _ _ h1 h2 h3
  | .cond c x y, ho, fuel, s, s', K, K', h, ht, hm, hk => by
    simp only [okT, Bool.and_eq_true] at ho
    have h : Option.casesOn (motive := fun _ => Prop) (boolOf (rd s.tm c)) False (fun b => Bool.casesOn (motive := fun _ => Prop) b (wpCodeF cf y E cw fuel s K) (wpCodeF cf x E cw fuel s K)) := h
    show Option.casesOn (motive := fun _ => Prop) (boolOf (rd s'.tm c)) False (fun b => Bool.casesOn (motive := fun _ => Prop) b (wpCodeF cf y E cw fuel s' K') (wpCodeF cf x E cw fuel s' K'))
    rw [← rd_teq ht]
    cases hb : boolOf (rd s.tm c) with
    | none => rw [hb] at h; cases h
    | some b =>
      rw [hb] at h
      cases b with
      | false => exact wpCodeF_teq hcw y ho.2 h ht hm hk
      | true => exact wpCodeF_teq hcw x ho.1 h ht hm hk
  | .block id c, ho, fuel, s, s', K, K', h, ht, hm, hk => by
    refine wpCodeF_teq hcw c (by simpa [okT] using ho) (show wpCodeF cf c E cw fuel s (fun e s => Ex.casesOn (motive := fun _ => Prop) e (K .normal s) (fun j => Bool.casesOn (motive := fun _ => Prop) (Nat.beq j id) (K (.exit j) s) (K .normal s)) (K .ret s)) from h) ht hm ?_
    intro e s1 s2 h1 h2 h3
    cases e with
    | normal => exact hk _ _ _ h1 h2 h3
    | exit j =>
      have h3 : Bool.casesOn (motive := fun _ => Prop) (Nat.beq j id) (K (.exit j) s1) (K .normal s1) := h3
      show Bool.casesOn (motive := fun _ => Prop) (Nat.beq j id) (K' (.exit j) s2) (K' .normal s2)
      cases hb : Nat.beq j id with
      | false => rw [hb] at h3; exact hk _ _ _ h1 h2 h3
      | true => rw [hb] at h3; exact hk _ _ _ h1 h2 h3
    | ret => exact hk _ _ _ h1 h2 h3
  | .loop c, ho, fuel, s, s', K, K', h, ht, hm, hk => by
    have hl : ∀ (n : Nat) (s s' : St), wpLoopF n (wpCodeF cf c E cw fuel) s K → TEq s.tm s'.tm → s.mem = s'.mem → wpLoopF n (wpCodeF cf c E cw fuel) s' K' := by
      intro n
      induction n with
      | zero => intro s s' h; cases h
      | succ n ih =>
        intro s s' h ht hm
        refine wpCodeF_teq hcw c (by simpa [okT] using ho) (show wpCodeF cf c E cw fuel s (fun e s => Ex.casesOn (motive := fun _ => Prop) e (wpLoopF n (wpCodeF cf c E cw fuel) s K) (fun id => K (.exit id) s) (K .ret s)) from h) ht hm ?_
        intro e s1 s2 h1 h2 h3
        cases e with
        | normal => exact ih _ _ h3 h1 h2
        | exit id => exact hk _ _ _ h1 h2 h3
        | ret => exact hk _ _ _ h1 h2 h3
    exact hl fuel s s' h ht hm
  | .exit id, _, fuel, s, s', K, K', h, ht, hm, hk => hk _ s s' ht hm h
  | .ret, _, fuel, s, s', K, K', h, ht, hm, hk => hk _ s s' ht hm h
  | .rangeFunc _ _ _ _, _, fuel, s, s', K, K', h, ht, hm, hk => (show False from h).elim
  | .scope _, _, fuel, s, s', K, K', h, ht, hm, hk => (show False from h).elim
  | .label _, _, fuel, s, s', K, K', h, ht, hm, hk => (show False from h).elim
  | .goto _, _, fuel, s, s', K, K', h, ht, hm, hk => (show False from h).elim
  | .refuse _, _, fuel, s, s', K, K', h, ht, hm, hk => (show False from h).elim
end
end
end Ev

/-
  Temporaries in one known shape; loops by an invariant. Conditions: none.
-/
namespace Ev
open Go
noncomputable section

def orV (a : Option AV) : AV := a.getD .undef
/-- the first n temporaries, in a list's shape -/
def shape (n : Nat) (tm : Tr AV) : Tr AV := tab ((List.range n).map fun i => orV (tm.get i))
theorem shape_teq {n : Nat} {tm : Tr AV} (h : ∀ k, n ≤ k → orV (tm.get k) = .undef) : TEq tm (shape n tm) := by
  intro k
  unfold shape
  rw [tab_get]
  by_cases hk : k < n
  · rw [List.getElem?_map, List.getElem?_range hk]
    show orUndef (tm.get k) = some (orV (tm.get k))
    cases tm.get k <;> rfl
  · rw [List.getElem?_eq_none (by simp; omega)]
    have := h k (by omega)
    show orUndef (tm.get k) = some .undef
    cases hg : tm.get k with
    | none => rfl
    | some v => rw [hg] at this; exact congrArg some this

section
variable {E : Env} {cw : CallW}
/-- a loop whose rounds lead an invariant on, and whose last look leaves it -/
theorem wpLoop_inv {cf : Wcfg} {c : Code} {fuel : Nat} {K : KX} (I : Nat → St → Prop) (hstep : ∀ i s, I (i + 1) s → ∀ Q : KX, (∀ s', I i s' → Q .normal s') → wpCodeF cf c E cw fuel s Q)
    (hend : ∀ s, I 0 s → ∀ (Q : KX), (∀ e s', e ≠ .normal → K e s' → Q e s') → wpCodeF cf c E cw fuel s Q) : ∀ (i n : Nat) (s : St), i < n → I i s → wpLoopF n (wpCodeF cf c E cw fuel) s K
  | i, 0, s, h, _ => absurd h (Nat.not_lt_zero _)
  | 0, n + 1, s, _, hI => by
    refine hend s hI (fun e s => Ex.casesOn (motive := fun _ => Prop) e (wpLoopF n (wpCodeF cf c E cw fuel) s K) (fun id => K (.exit id) s) (K .ret s)) fun e s' he hk => ?_
    cases e with
    | normal => exact absurd rfl he
    | exit id => exact hk
    | ret => exact hk
  | i + 1, n + 1, s, h, hI => by
    refine hstep i s hI (fun e s => Ex.casesOn (motive := fun _ => Prop) e (wpLoopF n (wpCodeF cf c E cw fuel) s K) (fun id => K (.exit id) s) (K .ret s)) fun s' hs' => ?_
    exact wpLoop_inv I hstep hend i n s' (by omega) hs'

/-- conditions of calls go up with their ends -/
theorem wpCall_mono {cf : Wcfg} {ow : Nat → Option (List AV → AMem → KP → Prop)} (how : ∀ f w, ow f = some w → ∀ args m K K', (∀ v m, K v m → K' v m) → w args m K → w args m K')
    (hok : ∀ f fn c, ow f = none → E.fn f = some fn → fn.body = some c → okT cf E c = true) : ∀ n, CwMono (wpCall cf E ow n)
  | 0, _, _, _, _, _, _, h => (show False from h).elim
  | n + 1, .yield l, args, m, K, K', _, h => (show False from h).elim
  | n + 1, .fn f, args, m, K, K', hk, h => by
    have h : Option.casesOn (motive := fun _ => Prop) (ow f) (wpFn cf E (wpCall cf E ow n) n f args m K) (fun o => o args m K) := h
    show Option.casesOn (motive := fun _ => Prop) (ow f) (wpFn cf E (wpCall cf E ow n) n f args m K') (fun o => o args m K')
    cases hw : ow f with
    | some w => rw [hw] at h; exact how f w hw args m K K' hk h
    | none =>
      rw [hw] at h
      have h : wpFn cf E (wpCall cf E ow n) n f args m K := h
      show wpFn cf E (wpCall cf E ow n) n f args m K'
      unfold wpFn at h ⊢
      cases hf : E.fn f with
      | none => rw [hf] at h; cases h
      | some fn =>
        rw [hf] at h
        simp only at h ⊢
        cases hb : fn.body with
        | none => rw [hb] at h; cases h
        | some body =>
          rw [hb] at h
          have h : wpBody cf E (wpCall cf E ow n) n fn body args m K := h
          show wpBody cf E (wpCall cf E ow n) n fn body args m K'
          unfold wpBody at h ⊢
          cases hl : Nat.ble args.length fn.ntmps with
          | false => rw [hl] at h; cases h
          | true =>
            rw [hl] at h
            have hleave : ∀ {s s' : St}, TEq s.tm s'.tm → s.mem = s'.mem → evLeave E fn s = evLeave E fn s' := by
              intro s s' ht hm
              have hg : ∀ i, (s.tm.get i).getD .undef = (s'.tm.get i).getD .undef := by
                intro i
                have := ht i
                cases h1 : s.tm.get i <;> cases h2 : s'.tm.get i <;> rw [h1, h2] at this <;> first | rfl | exact Option.some.inj this
              have hr : ∀ l : List ResultVar, evResults E s l = evResults E s' l := by
                intro l
                induction l with
                | nil => rfl
                | cons r l ih =>
                  have : evResult E s r = evResult E s' r := by
                    cases r <;> simp only [evResult, hg, hm]
                  simp only [evResults, this, ih]
              unfold evLeave
              rw [hr, hm]
            refine wpCodeF_teq (wpCall_mono how hok n) body (hok f fn body hw hf hb) h (TEq.refl _) rfl ?_
            intro e s s' ht hm hx
            have need : ∀ {r : R}, needR r K → needR r K' := by
              intro r hr
              obtain ⟨v, m', rfl, hv⟩ := needR_some hr
              exact hk _ _ hv
            cases e with
            | normal =>
              have hx : needR (evLeave E fn s) K := hx
              rw [hleave ht hm] at hx
              exact need hx
            | exit id => exact hx
            | ret =>
              have hx : needR (evLeave E fn s) K := hx
              rw [hleave ht hm] at hx
              exact need hx
end
end
end Ev

/-
  Conditions do not hang on how rows are kept, only on the cells that they hold. Conditions: codes of loads, stores, calls and operations that touch no memory.
-/
namespace Ev
open Go
noncomputable section

inductive BEq : Option ABlk → Option ABlk → Prop
  | refl (b : Option ABlk) : BEq b b
  | row {s : Nat} {c c' : List AV} {ov ov' : Tr AV} {cl : Bool} (h1 : c.length = s) (h2 : c'.length = s) (h : ovl ov c 0 = ovl ov' c' 0) : BEq (some (.row s c ov cl)) (some (.row s c' ov' cl))
/-- the same rows, however kept -/
structure MEq (m m' : AMem) : Prop where
  next : m.next = m'.next
  blk : ∀ id, BEq (m.get id) (m'.get id)
theorem MEq.refl (m : AMem) : MEq m m := ⟨rfl, fun _ => .refl _⟩

theorem takeCells_meq {m m' : AMem} (h : MEq m m') (id off n : Nat) : takeCells m id off n = takeCells m' id off n := by
  have hb := h.blk id
  unfold takeCells
  generalize m.get id = b at *
  generalize m'.get id = b' at *
  cases hb with
  | refl => rfl
  | row h1 h2 he =>
    next s c c' ov ov' cl =>
    show takeRow off n s c ov cl = takeRow off n s c' ov' cl
    unfold takeRow
    rw [ovl_part, ovl_part, he]
theorem oneRow_eq {off s : Nat} {c : List AV} {ov : Tr AV} {cl : Bool} (h : c.length = s) : oneRow off s c ov cl = if off < s then (ovl ov c 0)[off]? else none := by
  unfold oneRow
  cases hb : Nat.blt off s with
  | false =>
    have hn : ¬ off < s := fun hlt => by rw [← Nat.blt_eq] at hlt; rw [hlt] at hb; cases hb
    rw [if_neg hn]
  | true =>
    rw [Nat.blt_eq] at hb
    rw [if_pos hb, ovl_get, Nat.zero_add, nthCell_eq, List.getElem?_eq_getElem (by omega)]
    cases ov.get off with
    | none => rfl
    | some a => rfl
theorem oneCell_meq {m m' : AMem} (h : MEq m m') (id off : Nat) : oneCell m id off = oneCell m' id off := by
  have hb := h.blk id
  unfold oneCell
  generalize m.get id = b at *
  generalize m'.get id = b' at *
  cases hb with
  | refl => rfl
  | row h1 h2 he =>
    next s c c' ov ov' cl =>
    show oneRow off s c ov cl = oneRow off s c' ov' cl
    rw [oneRow_eq h1, oneRow_eq h2, he]
theorem get_lt' {m : AMem} {i : Nat} {A : ABlk} (h : m.get i = some A) : i < m.next := by
  unfold AMem.get at h
  cases hb : Nat.blt i m.next with
  | false => rw [hb] at h; cases h
  | true => rwa [Nat.blt_eq] at hb
theorem put_meq {m m' : AMem} (h : MEq m m') {id : Nat} (hlt : id < m.next) {b b' : ABlk} (hb : BEq (some b) (some b')) : MEq (m.put id b) (m'.put id b') := by
  refine ⟨h.next, fun j => ?_⟩
  by_cases hj : j = id
  · subst hj
    rw [AMem.get_put_same m j b hlt, AMem.get_put_same m' j b' (by rw [← h.next]; exact hlt)]
    exact hb
  · rw [AMem.get_put_other m b hj, AMem.get_put_other m' b' hj]
    exact h.blk j
theorem add_meq {m m' : AMem} (h : MEq m m') (b : ABlk) : MEq (m.add b) (m'.add b) := by
  refine ⟨congrArg (· + 1) h.next, fun j => ?_⟩
  by_cases hj : j = m.next
  · subst hj
    rw [AMem.get_add_new m b, h.next, AMem.get_add_new m' b]
    exact .refl _
  · rw [AMem.get_add_old m b hj, AMem.get_add_old m' b (by rw [← h.next]; exact hj)]
    exact h.blk j
theorem putCells_meq {m m' m1 : AMem} (h : MEq m m') {id off : Nat} {new : List AV} (hp : putCells m id off new = some m1) : ∃ m1', putCells m' id off new = some m1' ∧ MEq m1 m1' := by
  have hb := h.blk id
  unfold putCells at hp ⊢
  cases hg : m.get id with
  | none => rw [hg] at hp; cases hp
  | some b =>
    have hlt := get_lt' hg
    rw [hg] at hp hb
    generalize hg' : m'.get id = b' at *
    cases hb with
    | refl =>
      cases b with
      | row s c ov cl =>
        have hp : putRow m id off new s c ov cl = some m1 := hp
        show ∃ m1', putRow m' id off new s c ov cl = some m1' ∧ MEq m1 m1'
        unfold putRow at hp ⊢
        cases hc : (Nat.ble (Nat.add off new.length) s && new.all AV.scalar) with
        | false => rw [hc] at hp; cases hp
        | true => rw [hc] at hp; cases hp; exact ⟨_, rfl, put_meq h hlt (.refl _)⟩
      | map es => cases hp
      | loop => cases hp
    | row h1 h2 he =>
      next s c c' ov ov' cl =>
      have hp : putRow m id off new s c ov cl = some m1 := hp
      show ∃ m1', putRow m' id off new s c' ov' cl = some m1' ∧ MEq m1 m1'
      unfold putRow at hp ⊢
      cases hc : (Nat.ble (Nat.add off new.length) s && new.all AV.scalar) with
      | false => rw [hc] at hp; cases hp
      | true => rw [hc] at hp; cases hp; rw [he]; exact ⟨_, rfl, put_meq h hlt (.refl _)⟩
theorem put1_meq {m m' m1 : AMem} (h : MEq m m') {id off : Nat} {x : AV} (hp : put1 m id off x = some m1) : ∃ m1', put1 m' id off x = some m1' ∧ MEq m1 m1' := by
  have hb := h.blk id
  unfold put1 at hp ⊢
  cases hs : x.scalar with
  | false => rw [hs] at hp; cases hp
  | true =>
    rw [hs] at hp
    have hp : Option.casesOn (motive := fun _ => Option AMem) (m.get id) none (put1Blk m id off x) = some m1 := hp
    show ∃ m1', Option.casesOn (motive := fun _ => Option AMem) (m'.get id) none (put1Blk m' id off x) = some m1' ∧ MEq m1 m1'
    cases hg : m.get id with
    | none => rw [hg] at hp; cases hp
    | some b =>
      have hlt := get_lt' hg
      rw [hg] at hp hb
      generalize hg' : m'.get id = b' at *
      cases hb with
      | refl =>
        cases b with
        | row s c ov cl =>
          have hp : put1Row m id off x s c ov cl = some m1 := hp
          show ∃ m1', put1Row m' id off x s c ov cl = some m1' ∧ MEq m1 m1'
          unfold put1Row at hp ⊢
          cases hc : Nat.blt off s with
          | false => rw [hc] at hp; cases hp
          | true => rw [hc] at hp; cases hp; exact ⟨_, rfl, put_meq h hlt (.refl _)⟩
        | map es => cases hp
        | loop => cases hp
      | row h1 h2 he =>
        next s c c' ov ov' cl =>
        have hp : put1Row m id off x s c ov cl = some m1 := hp
        show ∃ m1', put1Row m' id off x s c' ov' cl = some m1' ∧ MEq m1 m1'
        unfold put1Row at hp ⊢
        cases hc : Nat.blt off s with
        | false => rw [hc] at hp; cases hp
        | true =>
          rw [hc] at hp; cases hp
          exact ⟨_, rfl, put_meq h hlt (.row h1 h2 (by rw [ovl_put, ovl_put, he]))⟩

/-- operations that the rows' way of being kept does not touch -/
def okM (E : Env) (op : Op) : Bool := match op with
  | .load .. => true
  | .store .. => true
  | .alloc _ => true
  | .box .. => true
  | .convert s d x => isConv E (.convert s d x)
  | op => !effectOp op && !readOp op
section
variable {E : Env}
theorem evLoad_meq {t : Nat} {x : AV} {m m' m1 : AMem} {v : AV} (h : MEq m m') (he : evLoad E t x m = some (v, m1)) : m1 = m ∧ evLoad E t x m' = some (v, m') := by
  unfold evLoad at he ⊢
  cases ht : E.ty t with
  | none => rw [ht] at he; cases he
  | some i =>
    rw [ht] at he
    have he : Option.casesOn (motive := fun _ => R) x.asPtr none (fun p => evLoadAt i m p.1 p.2) = some (v, m1) := he
    show m1 = m ∧ Option.casesOn (motive := fun _ => R) x.asPtr none (fun p => evLoadAt i m' p.1 p.2) = some (v, m')
    cases hp : x.asPtr with
    | none => rw [hp] at he; cases he
    | some p =>
      rw [hp] at he
      have he : evLoadAt i m p.1 p.2 = some (v, m1) := he
      show m1 = m ∧ evLoadAt i m' p.1 p.2 = some (v, m')
      unfold evLoadAt at he ⊢
      cases hg : isAggD i.u with
      | false =>
        rw [hg] at he
        have he : vm m (oneCell m p.1 p.2) = some (v, m1) := he
        show m1 = m ∧ vm m' (oneCell m' p.1 p.2) = some (v, m')
        rw [← oneCell_meq h]
        unfold vm at he ⊢
        cases ho : oneCell m p.1 p.2 with
        | none => rw [ho] at he; cases he
        | some a => rw [ho] at he; cases he; exact ⟨rfl, rfl⟩
      | true =>
        rw [hg] at he
        have he : aggR m (takeCells m p.1 p.2 i.size) = some (v, m1) := he
        show m1 = m ∧ aggR m' (takeCells m' p.1 p.2 i.size) = some (v, m')
        rw [← takeCells_meq h]
        unfold aggR at he ⊢
        cases ho : takeCells m p.1 p.2 i.size with
        | none => rw [ho] at he; cases he
        | some a => rw [ho] at he; cases he; exact ⟨rfl, rfl⟩
theorem unitR_some' {q : Option AMem} {v : AV} {m1 : AMem} (h : unitR q = some (v, m1)) : q = some m1 ∧ v = .undef := by
  unfold unitR at h
  cases q with
  | none => cases h
  | some m => cases h; exact ⟨rfl, rfl⟩
theorem evStore_meq {t : Nat} {a x : AV} {m m' m1 : AMem} {v : AV} (h : MEq m m') (he : evStore E t a x m = some (v, m1)) : ∃ m1', evStore E t a x m' = some (v, m1') ∧ MEq m1 m1' := by
  unfold evStore at he ⊢
  cases ht : E.ty t with
  | none => rw [ht] at he; cases he
  | some i =>
    rw [ht] at he
    have he : Option.casesOn (motive := fun _ => R) a.asPtr none (fun p => evStoreAt i x m p.1 p.2) = some (v, m1) := he
    show ∃ m1', Option.casesOn (motive := fun _ => R) a.asPtr none (fun p => evStoreAt i x m' p.1 p.2) = some (v, m1') ∧ MEq m1 m1'
    cases hp : a.asPtr with
    | none => rw [hp] at he; cases he
    | some p =>
      rw [hp] at he
      have he : evStoreAt i x m p.1 p.2 = some (v, m1) := he
      show ∃ m1', evStoreAt i x m' p.1 p.2 = some (v, m1') ∧ MEq m1 m1'
      unfold evStoreAt at he ⊢
      cases hx : x.asAgg with
      | none =>
        rw [hx] at he
        have he : Bool.casesOn (motive := fun _ => R) (Nat.beq i.size 1) none (unitR (put1 m p.1 p.2 x)) = some (v, m1) := he
        show ∃ m1', Bool.casesOn (motive := fun _ => R) (Nat.beq i.size 1) none (unitR (put1 m' p.1 p.2 x)) = some (v, m1') ∧ MEq m1 m1'
        cases hb : Nat.beq i.size 1 with
        | false => rw [hb] at he; cases he
        | true =>
          rw [hb] at he
          obtain ⟨h1, rfl⟩ := unitR_some' (show unitR (put1 m p.1 p.2 x) = some (v, m1) from he)
          obtain ⟨m1', h2, h3⟩ := put1_meq h h1
          exact ⟨m1', by show unitR (put1 m' p.1 p.2 x) = _; rw [h2]; rfl, h3⟩
      | some l =>
        rw [hx] at he
        have he : Bool.casesOn (motive := fun _ => R) (Nat.beq l.length i.size) none (unitR (putCells m p.1 p.2 l)) = some (v, m1) := he
        show ∃ m1', Bool.casesOn (motive := fun _ => R) (Nat.beq l.length i.size) none (unitR (putCells m' p.1 p.2 l)) = some (v, m1') ∧ MEq m1 m1'
        cases hb : Nat.beq l.length i.size with
        | false => rw [hb] at he; cases he
        | true =>
          rw [hb] at he
          obtain ⟨h1, rfl⟩ := unitR_some' (show unitR (putCells m p.1 p.2 l) = some (v, m1) from he)
          obtain ⟨m1', h2, h3⟩ := putCells_meq h h1
          exact ⟨m1', by show unitR (putCells m' p.1 p.2 l) = _; rw [h2]; rfl, h3⟩
theorem on1_some' {a : Option AV} {f : AV → R} {x : AV × AMem} (h : on1 a f = some x) : ∃ v, a = some v ∧ f v = some x := by
  cases a with
  | none => cases h
  | some v => exact ⟨v, rfl, h⟩
theorem on2_some' {a b : Option AV} {f : AV → AV → R} {x : AV × AMem} (h : on2 a b f = some x) : ∃ v u, a = some v ∧ b = some u ∧ f v u = some x := by
  cases a with
  | none => cases h
  | some v => cases b with
    | none => cases h
    | some u => exact ⟨v, u, rfl, rfl, h⟩
theorem evOp_meq {op : Op} (ho : okM E op = true) {tm : Tr AV} {m m' m1 : AMem} {v : AV} (h : MEq m m') (he : evOp E noCall op tm m = some (v, m1)) : ∃ m1', evOp E noCall op tm m' = some (v, m1') ∧ MEq m1 m1' := by
  have quiet : effectOp op = false → readOp op = false → ∃ m1', evOp E noCall op tm m' = some (v, m1') ∧ MEq m1 m1' := by
    intro h1 h2
    rcases (quiet_of h1 he).ok with ⟨rfl, h3⟩ | ⟨h3, _⟩
    · exact ⟨m', h3 h2 m', h⟩
    · rw [h2] at h3; cases h3
  have other : (!effectOp op && !readOp op) = true → ∃ m1', evOp E noCall op tm m' = some (v, m1') ∧ MEq m1 m1' := by
    intro h1
    simp only [Bool.and_eq_true, Bool.not_eq_true'] at h1
    exact quiet h1.1 h1.2
  cases op with
  | load t x =>
    obtain ⟨a, ha, h1⟩ := on1_some' (show on1 (rd tm x) (fun a => evLoad E t a m) = some (v, m1) from he)
    obtain ⟨rfl, h2⟩ := evLoad_meq h h1
    exact ⟨m', by show on1 (rd tm x) (fun a => evLoad E t a m') = _; rw [ha]; exact h2, h⟩
  | store t x y =>
    obtain ⟨a, b, ha, hb, h1⟩ := on2_some' (show on2 (rd tm x) (rd tm y) (fun a x => evStore E t a x m) = some (v, m1) from he)
    obtain ⟨m1', h2, h3⟩ := evStore_meq h h1
    exact ⟨m1', by show on2 (rd tm x) (rd tm y) (fun a x => evStore E t a x m') = _; rw [ha, hb]; exact h2, h3⟩
  | alloc t =>
    have h1 : evAlloc E t m = some (v, m1) := he
    obtain ⟨b, rfl, h2⟩ := evAlloc_quiet h1
    exact ⟨m'.add b, h2 m' h.next.symm, add_meq h b⟩
  | box t x =>
    obtain ⟨a, ha, h1⟩ := on1_some' (show on1 (rd tm x) (fun a => evBox a m) = some (v, m1) from he)
    obtain ⟨b, rfl, h2⟩ := evBox_quiet h1
    exact ⟨m'.add b, by show on1 (rd tm x) (fun a => evBox a m') = _; rw [ha]; exact h2 m' h.next.symm, add_meq h b⟩
  | convert s d x =>
    have hc : isConv E (.convert s d x) = true := ho
    obtain ⟨a, ha, h1⟩ := on1_some' (show on1 (rd tm x) (fun a => evConvert E s d a m) = some (v, m1) from he)
    have := conv_keeps (call := noCall) hc he
    subst this
    refine ⟨m', ?_, h⟩
    show on1 (rd tm x) (fun a => evConvert E s d a m') = _
    rw [ha]
    show evConvert E s d a m' = _
    unfold isConv at hc
    simp only at hc
    unfold evConvert at h1 ⊢
    split at hc
    · next k hk =>
      rw [hk] at h1 ⊢
      simp only at h1 ⊢
      split at h1
      · cases h1; rfl
      · cases h1
    · cases hc
  | _ => exact other ho

def CwMeq (cw : CallW) : Prop := ∀ t args m m' K K', MEq m m' → (∀ v m m', MEq m m' → K v m → K' v m') → cw t args m K → cw t args m' K'
/-- an operation, or a call of a function -/
def okMC (E : Env) (o : Oper) : Bool := match callOf o.op with
  | none => okM E o.op
  | some c => match c.callee with
    | .builtin _ => false
    | _ => true
theorem wpOp_meq {cf : Wcfg} {cw : CallW} (hcw : CwMeq cw) {o : Oper} (ho : okMC E o = true) {tm : Tr AV} {m m' : AMem} {K K' : KP} (h : MEq m m') (hk : ∀ v m m', MEq m m' → K v m → K' v m') (hw : wpOp cf E cw o tm m K) : wpOp cf E cw o tm m' K' := by
  unfold wpOp at hw ⊢
  unfold okMC at ho
  cases hc : callOf o.op with
  | none =>
    rw [hc] at hw ho
    have need : needR (evOp E noCall o.op tm m) K → needR (evOp E noCall o.op tm m') K' := by
      intro hn
      obtain ⟨v, m1, h1, h2⟩ := needR_some hn
      obtain ⟨m1', h3, h4⟩ := evOp_meq ho h h1
      rw [h3]
      exact hk _ _ _ h4 h2
    cases hx : cf.ex o with
    | false =>
      rw [hx] at hw
      have hw : wpPlain E (cf.want o) o.op tm m K := hw
      show wpPlain E (cf.want o) o.op tm m' K'
      unfold wpPlain at hw ⊢
      split at hw
      · exact need hw
      · split at hw
        · split at hw
          · have heq : ∀ {tt : TypeId} {a b : List AV} {w : Option Bool} {Q Q' : Bool → Prop}, (∀ r, Q r → Q' r) → eqW E tt a b w Q → eqW E tt a b w Q' := by
              intro tt a b w Q Q' hq hw
              cases w with
              | none => obtain ⟨r, h1, h2⟩ := hw; exact ⟨r, h1, hq _ h2⟩
              | some w => exact ⟨hw.1, hq _ hw.2⟩
            exact heq (fun r hr => hk _ _ _ h hr) hw
          · cases hw
        · exact need hw
    | true =>
      rw [hx] at hw
      have hw : someR (evOp E noCall o.op tm m) K := hw
      show someR (evOp E noCall o.op tm m') K'
      cases hr : evOp E noCall o.op tm m with
      | none => rw [hr] at hw; cases hw
      | some x =>
        obtain ⟨v, m1⟩ := x
        obtain ⟨m1', h3, h4⟩ := evOp_meq ho h hr
        rw [hr] at hw
        rw [h3]
        cases v with
        | bool b => exact ⟨fun e => hk _ _ _ h4 (hw.1 e), fun e => hk _ _ _ h4 (hw.2 e)⟩
        | int k n =>
          have hw : intR k n m1 K := hw
          obtain ⟨hs, h0, h1, h2, h3, h5, h6, h7, h8, h9⟩ := hw
          exact ⟨hs, fun e => hk _ _ _ h4 (h0 e), fun e => hk _ _ _ h4 (h1 e), fun e => hk _ _ _ h4 (h2 e), fun e => hk _ _ _ h4 (h3 e), fun e => hk _ _ _ h4 (h5 e), fun e => hk _ _ _ h4 (h6 e), fun e => hk _ _ _ h4 (h7 e), fun e => hk _ _ _ h4 (h8 e), fun e => hk _ _ _ h4 (h9 e)⟩
        | _ => cases hw
  | some c =>
    rw [hc] at hw ho
    have hw : wpCallOp E cw c tm m K := hw
    show wpCallOp E cw c tm m' K'
    unfold wpCallOp at hw ⊢
    cases ha : rds tm c.args.toList with
    | none => rw [ha] at hw; cases hw
    | some args =>
      rw [ha] at hw
      have hw : wpVal E cw c args tm m K := hw
      show wpVal E cw c args tm m' K'
      unfold wpVal at hw ⊢
      simp only at ho
      split at hw
      · split at hw
        · exact hcw _ _ _ _ _ _ h hk hw
        · cases hw
      · split at hw
        · split at hw
          · exact hcw _ _ _ _ _ _ h hk hw
          · cases hw
        · cases hw
      · next b hb => rw [hb] at ho; cases ho

/-- ends that say the same of the same states -/
def KEqM (K K' : Ex → St → Prop) : Prop := ∀ e s s', TEq s.tm s'.tm → MEq s.mem s'.mem → K e s → K' e s'
theorem wpOpsF_meq {cw : CallW} (hcw : CwMeq cw) {cf : Wcfg} {ops : Array Oper} : ∀ (l : List Oper), l.all (okMC E) = true → ∀ {s s' : St} {K K' : St → Prop}, wpOpsF cf l E cw ops s K → TEq s.tm s'.tm → MEq s.mem s'.mem →
    (∀ s s', TEq s.tm s'.tm → MEq s.mem s'.mem → K s → K' s') → wpOpsF cf l E cw ops s' K'
  | [], _, s, s', K, K', h, ht, hm, hk => hk s s' ht hm h
  | o :: l, ho, ⟨tm, m⟩, ⟨tm', m'⟩, K, K', h, ht, hm, hk => by
    rw [List.all_cons, Bool.and_eq_true] at ho
    have hm : MEq m m' := hm
    have ht : TEq tm tm' := ht
    have h : Bool.casesOn (motive := fun _ => Prop) (wanted ops tm o) (wpOpsF cf l E cw ops ⟨setDst tm o.dst .undef, m⟩ K) (wpOp cf E cw o tm m fun v m' => wpOpsF cf l E cw ops ⟨setDst tm o.dst v, m'⟩ K) := h
    show Bool.casesOn (motive := fun _ => Prop) (wanted ops tm' o) (wpOpsF cf l E cw ops ⟨setDst tm' o.dst .undef, m'⟩ K') (wpOp cf E cw o tm' m' fun v m' => wpOpsF cf l E cw ops ⟨setDst tm' o.dst v, m'⟩ K')
    rw [← wanted_teq ht]
    cases hw : wanted ops tm o with
    | false =>
      rw [hw] at h
      exact wpOpsF_meq hcw l ho.2 h (setDst_teq ht _ _) hm hk
    | true =>
      rw [hw] at h
      have h : wpOp cf E cw o tm m fun v m' => wpOpsF cf l E cw ops ⟨setDst tm o.dst v, m'⟩ K := h
      have h2 : wpOp cf E cw o tm m' fun v m' => wpOpsF cf l E cw ops ⟨setDst tm' o.dst v, m'⟩ K' :=
        wpOp_meq (K := fun v m' => wpOpsF cf l E cw ops ⟨setDst tm o.dst v, m'⟩ K) hcw ho.1 hm (fun v m1 m1' h1 hv => wpOpsF_meq hcw l ho.2 hv (setDst_teq ht o.dst v) h1 hk) h
      rw [wpOp_teq ht] at h2
      exact h2

/-- no region that needs second looks; operations that may be turned -/
def okTM (cf : Wcfg) (E : Env) : Code → Bool
  | .region _ ops draw => !(draw && !tame E cf.pf ops) && ops.toList.all (okMC E)
  | .seq a b => okTM cf E a && okTM cf E b
  | .cond _ a b => okTM cf E a && okTM cf E b
  | .block _ c => okTM cf E c
  | .loop c => okTM cf E c
  | _ => true

theorem wpCodeF_meq {cw : CallW} (hcw : CwMeq cw) {cf : Wcfg} : ∀ (c : Code), okTM cf E c = true → ∀ {fuel : Nat} {s s' : St} {K K' : KX}, wpCodeF cf c E cw fuel s K → TEq s.tm s'.tm → MEq s.mem s'.mem → KEqM K K' → wpCodeF cf c E cw fuel s' K'
  | .skip, _, fuel, s, s', K, K', h, ht, hm, hk => hk _ s s' ht hm h
  | .region id ops draw, ho, fuel, s, s', K, K', h, ht, hm, hk => by
    have ho : (!(draw && !tame E cf.pf ops) && ops.toList.all (okMC E)) = true := ho
    rw [Bool.and_eq_true] at ho
    have hd : (draw && !tame E cf.pf ops) = false := by
      cases hx : (draw && !tame E cf.pf ops) with
      | false => rfl
      | true => rw [hx] at ho; cases ho.1
    have h0 : Bool.casesOn (motive := fun _ => Prop) (draw && !tame E cf.pf ops) (wpOpsF cf ops.toList E cw ops s fun s => K .normal s)
      (Option.casesOn (motive := fun _ => Prop) (evRegion E noCall ops true s) False fun s => K .normal s) := h
    show Bool.casesOn (motive := fun _ => Prop) (draw && !tame E cf.pf ops) (wpOpsF cf ops.toList E cw ops s' fun s => K' .normal s)
      (Option.casesOn (motive := fun _ => Prop) (evRegion E noCall ops true s') False fun s => K' .normal s)
    rw [hd] at h0 ⊢
    exact wpOpsF_meq hcw _ ho.2 h0 ht hm fun s s' h1 h2 h3 => hk _ _ _ h1 h2 h3
  | .seq x y, ho, fuel, s, s', K, K', h, ht, hm, hk => by
    simp only [okTM, Bool.and_eq_true] at ho
    refine wpCodeF_meq hcw x ho.1 (show wpCodeF cf x E cw fuel s (fun e s => Ex.casesOn (motive := fun _ => Prop) e (wpCodeF cf y E cw fuel s K) (fun id => K (.exit id) s) (K .ret s)) from h) ht hm ?_
    intro e s1 s2 h1 h2 h3
    cases e with
    | normal => exact wpCodeF_meq hcw y ho.2 h3 h1 h2 hk
    | exit id => exact hk _ _ _ h1 h2 h3
    | ret => exact hk _ _ _ h1 h2 h3
  | .cond c x y, ho, fuel, s, s', K, K', h, ht, hm, hk => by
    simp only [okTM, Bool.and_eq_true] at ho
    have h : Option.casesOn (motive := fun _ => Prop) (boolOf (rd s.tm c)) False (fun b => Bool.casesOn (motive := fun _ => Prop) b (wpCodeF cf y E cw fuel s K) (wpCodeF cf x E cw fuel s K)) := h
    show Option.casesOn (motive := fun _ => Prop) (boolOf (rd s'.tm c)) False (fun b => Bool.casesOn (motive := fun _ => Prop) b (wpCodeF cf y E cw fuel s' K') (wpCodeF cf x E cw fuel s' K'))
    rw [← rd_teq ht]
    cases hb : boolOf (rd s.tm c) with
    | none => rw [hb] at h; cases h
    | some b =>
      rw [hb] at h
      cases b with
      | false => exact wpCodeF_meq hcw y ho.2 h ht hm hk
      | true => exact wpCodeF_meq hcw x ho.1 h ht hm hk
  | .block id c, ho, fuel, s, s', K, K', h, ht, hm, hk => by
    refine wpCodeF_meq hcw c (by simpa [okTM] using ho) (show wpCodeF cf c E cw fuel s (fun e s => Ex.casesOn (motive := fun _ => Prop) e (K .normal s) (fun j => Bool.casesOn (motive := fun _ => Prop) (Nat.beq j id) (K (.exit j) s) (K .normal s)) (K .ret s)) from h) ht hm ?_
    intro e s1 s2 h1 h2 h3
    cases e with
    | normal => exact hk _ _ _ h1 h2 h3
    | exit j =>
      have h3 : Bool.casesOn (motive := fun _ => Prop) (Nat.beq j id) (K (.exit j) s1) (K .normal s1) := h3
      show Bool.casesOn (motive := fun _ => Prop) (Nat.beq j id) (K' (.exit j) s2) (K' .normal s2)
      cases hb : Nat.beq j id with
      | false => rw [hb] at h3; exact hk _ _ _ h1 h2 h3
      | true => rw [hb] at h3; exact hk _ _ _ h1 h2 h3
    | ret => exact hk _ _ _ h1 h2 h3
  | .loop c, ho, fuel, s, s', K, K', h, ht, hm, hk => by
    have hl : ∀ (n : Nat) (s s' : St), wpLoopF n (wpCodeF cf c E cw fuel) s K → TEq s.tm s'.tm → MEq s.mem s'.mem → wpLoopF n (wpCodeF cf c E cw fuel) s' K' := by
      intro n
      induction n with
      | zero => intro s s' h; cases h
      | succ n ih =>
        intro s s' h ht hm
        refine wpCodeF_meq hcw c (by simpa [okTM] using ho) (show wpCodeF cf c E cw fuel s (fun e s => Ex.casesOn (motive := fun _ => Prop) e (wpLoopF n (wpCodeF cf c E cw fuel) s K) (fun id => K (.exit id) s) (K .ret s)) from h) ht hm ?_
        intro e s1 s2 h1 h2 h3
        cases e with
        | normal => exact ih _ _ h3 h1 h2
        | exit id => exact hk _ _ _ h1 h2 h3
        | ret => exact hk _ _ _ h1 h2 h3
    exact hl fuel s s' h ht hm
  | .exit id, _, fuel, s, s', K, K', h, ht, hm, hk => hk _ s s' ht hm h
  | .ret, _, fuel, s, s', K, K', h, ht, hm, hk => hk _ s s' ht hm h
  | .rangeFunc _ _ _ _, _, fuel, s, s', K, K', h, ht, hm, hk => (show False from h).elim
  | .scope _, _, fuel, s, s', K, K', h, ht, hm, hk => (show False from h).elim
  | .label _, _, fuel, s, s', K, K', h, ht, hm, hk => (show False from h).elim
  | .goto _, _, fuel, s, s', K, K', h, ht, hm, hk => (show False from h).elim
  | .refuse _, _, fuel, s, s', K, K', h, ht, hm, hk => (show False from h).elim

theorem leave_meq {fn : Func} {s s' : St} (ht : TEq s.tm s'.tm) (hm : MEq s.mem s'.mem) {v : AV} {m1 : AMem} (h : evLeave E fn s = some (v, m1)) : ∃ m1', evLeave E fn s' = some (v, m1') ∧ MEq m1 m1' := by
  have hg : ∀ i, (s.tm.get i).getD .undef = (s'.tm.get i).getD .undef := by
    intro i
    have := ht i
    cases h1 : s.tm.get i <;> cases h2 : s'.tm.get i <;> rw [h1, h2] at this <;> first | rfl | exact Option.some.inj this
  have h1 : ∀ (r : ResultVar) (a : AV), evResult E s r = some a → evResult E s' r = some a := by
    intro r a hr
    cases r with
    | tmp t => simp only [evResult, hg] at hr ⊢; exact hr
    | cell x t =>
      simp only [evResult, hg] at hr ⊢
      split at hr
      · next u m2 hl =>
        obtain ⟨_, h2⟩ := evLoad_meq hm hl
        rw [h2]
        exact hr
      · cases hr
  have h2 : ∀ (l : List ResultVar) (a : List AV), evResults E s l = some a → evResults E s' l = some a := by
    intro l
    induction l with
    | nil => intro a h; exact h
    | cons r l ih =>
      intro a h
      simp only [evResults] at h ⊢
      cases hr : evResult E s r with
      | none => rw [hr] at h; cases h
      | some x =>
        rw [hr] at h
        simp only at h
        rw [h1 r x hr]
        simp only
        cases hl : evResults E s l with
        | none => rw [hl] at h; cases h
        | some y =>
          rw [hl] at h
          rw [ih y hl]
          exact h
  unfold evLeave at h ⊢
  cases hl : evResults E s fn.results.toList with
  | none => rw [hl] at h; cases h
  | some l =>
    rw [hl] at h
    rw [h2 _ l hl]
    match l, h with
    | [], h => cases h; exact ⟨_, rfl, hm⟩
    | [r], h => cases h; exact ⟨_, rfl, hm⟩
    | a :: b :: r, h => cases h; exact ⟨_, rfl, hm⟩

/-- calls may be turned -/
theorem wpCall_meq {cf : Wcfg} {ow : Nat → Option (List AV → AMem → KP → Prop)} (how : ∀ f w, ow f = some w → ∀ args m m' K K', MEq m m' → (∀ v m m', MEq m m' → K v m → K' v m') → w args m K → w args m' K')
    (hok : ∀ f fn c, ow f = none → E.fn f = some fn → fn.body = some c → okTM cf E c = true) : ∀ n, CwMeq (wpCall cf E ow n)
  | 0, _, _, _, _, _, _, _, _, h => (show False from h).elim
  | n + 1, .yield l, args, m, m', K, K', _, _, h => (show False from h).elim
  | n + 1, .fn f, args, m, m', K, K', hm, hk, h => by
    have h : Option.casesOn (motive := fun _ => Prop) (ow f) (wpFn cf E (wpCall cf E ow n) n f args m K) (fun o => o args m K) := h
    show Option.casesOn (motive := fun _ => Prop) (ow f) (wpFn cf E (wpCall cf E ow n) n f args m' K') (fun o => o args m' K')
    cases hw : ow f with
    | some w => rw [hw] at h; exact how f w hw args m m' K K' hm hk h
    | none =>
      rw [hw] at h
      have h : wpFn cf E (wpCall cf E ow n) n f args m K := h
      show wpFn cf E (wpCall cf E ow n) n f args m' K'
      unfold wpFn at h ⊢
      cases hf : E.fn f with
      | none => rw [hf] at h; cases h
      | some fn =>
        rw [hf] at h
        simp only at h ⊢
        cases hb : fn.body with
        | none => rw [hb] at h; cases h
        | some body =>
          rw [hb] at h
          have h : wpBody cf E (wpCall cf E ow n) n fn body args m K := h
          show wpBody cf E (wpCall cf E ow n) n fn body args m' K'
          unfold wpBody at h ⊢
          cases hl : Nat.ble args.length fn.ntmps with
          | false => rw [hl] at h; cases h
          | true =>
            rw [hl] at h
            refine wpCodeF_meq (wpCall_meq how hok n) body (hok f fn body hw hf hb) h (TEq.refl _) hm ?_
            intro e s s' ht hm hx
            have need : needR (evLeave E fn s) K → needR (evLeave E fn s') K' := by
              intro hr
              obtain ⟨v, m1, h1, h2⟩ := needR_some hr
              obtain ⟨m1', h3, h4⟩ := leave_meq ht hm h1
              rw [h3]
              exact hk _ _ _ h4 h2
            cases e with
            | normal => exact need hx
            | exit id => exact hx
            | ret => exact need hx
end
end
end Ev
