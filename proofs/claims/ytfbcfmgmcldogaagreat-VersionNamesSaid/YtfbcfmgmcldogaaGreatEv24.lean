/-
  A region that draws its order: the parts. Memories beside each other; the snapshots of the run in the text's order.
-/
import Derived.Test.YtfbcfmgmcldogaaGreatEv23
namespace Ev
open Go

/-! ### One memory within a wider one -/
theorem realize (n : Nat) (f : Nat → Option ABlk) : ∃ M : AMem, M.next = n ∧ ∀ i, M.get i = if i < n then f i else none := by
  have key : ∀ k, ∃ T : Tr ABlk, ∀ i, i < k → T.get i = f i := by
    intro k
    induction k with
    | zero => exact ⟨.nil, fun i h => absurd h (Nat.not_lt_zero _)⟩
    | succ k ih =>
      obtain ⟨T, hT⟩ := ih
      refine ⟨T.put k (f k), fun i hi => ?_⟩
      rw [Tr.get_put]
      by_cases h : i = k
      · rw [if_pos h, h]
      · rw [if_neg h]; exact hT i (by omega)
  obtain ⟨T, hT⟩ := key n
  refine ⟨⟨n, T⟩, rfl, fun i => ?_⟩
  rw [AMem.get_eq]
  by_cases h : i < n
  · rw [if_pos h, if_pos h]; exact hT i h
  · rw [if_neg h, if_neg h]

structure Over (μ : Mu) (m : AMem) (w : World) (μ' : Mu) (m' : AMem) (w' : World) : Prop where
  le : μ.le μ'
  rep : Rep μ' m' w'
  size : w.heap.size ≤ w'.heap.size
  own : ∀ b, Owned μ' m' b → b < w.heap.size → Owned μ m b
  frame : ∀ b, b < w.heap.size → ¬ Owned μ m b → w'.heap[b]? = w.heap[b]?
  rest : w'.os = w.os ∧ w'.output = w.output ∧ w'.tape = w.tape

theorem Over.refl {μ : Mu} {m : AMem} {w : World} (h : Rep μ m w) : Over μ m w μ m w :=
  ⟨Mu.le_refl _, h, Nat.le_refl _, fun _ h _ => h, fun _ _ _ => rfl, rfl, rfl, rfl⟩
theorem Over.trans {μ μ₁ μ₂ : Mu} {m m₁ m₂ : AMem} {w w₁ w₂ : World} (h : Over μ m w μ₁ m₁ w₁) (h' : Over μ₁ m₁ w₁ μ₂ m₂ w₂) : Over μ m w μ₂ m₂ w₂ where
  le := Mu.le_trans h.le h'.le
  rep := h'.rep
  size := Nat.le_trans h.size h'.size
  own := fun b hb hlt => h.own b (h'.own b hb (by have := h.size; omega)) hlt
  frame := fun b hlt hn => by rw [h'.frame b (by have := h.size; omega) (fun ho => hn (h.own b ho hlt)), h.frame b hlt hn]
  rest := ⟨h'.rest.1.trans h.rest.1, h'.rest.2.1.trans h.rest.2.1, h'.rest.2.2.trans h.rest.2.2⟩

/-- a step of a part is a step of the whole -/
theorem Step.wider {μ μ' : Mu} {m m' M : AMem} {w w' : World} (hs : Step μ m w μ' m' w') (hM : Rep μ M w) (hsub : ∀ id A, m.get id = some A → μ id ≠ none → M.get id = some A) (hN : m'.next ≤ M.next) (_hf : Fresh μ m.next m'.next) :
    ∃ M' : AMem, M'.next = M.next ∧ Over μ M w μ' M' w' ∧ (∀ id A, m'.get id = some A → M'.get id = some A) ∧
      (∀ id, m.get id = none → m'.get id = none → (id < m.next ∨ m'.next ≤ id) → M'.get id = M.get id) := by
  obtain ⟨M', e1, e2⟩ := realize M.next fun id => match m'.get id with
    | some A => some A
    | none => if (m.get id).isSome ∨ (m.next ≤ id ∧ id < m'.next) then none else M.get id
  have g1 : ∀ id A, m'.get id = some A → M'.get id = some A := by
    intro id A h
    rw [e2, if_pos (Nat.lt_of_lt_of_le (AMem.get_lt h) hN), h]
  have g2 : ∀ id, m.get id = none → m'.get id = none → (id < m.next ∨ m'.next ≤ id) → M'.get id = M.get id := by
    intro id h1 h2 h3
    rw [e2, h2, h1]
    simp only [Option.isSome_none, Bool.false_eq_true, false_or]
    have hno : ¬ (m.next ≤ id ∧ id < m'.next) := by omega
    by_cases h : id < M.next
    · rw [if_pos h, if_neg hno]
    · rw [if_neg h, AMem.get_ge (by omega)]
  -- what lies in the new whole
  have g3 : ∀ id A, M'.get id = some A → m'.get id = some A ∨ (m'.get id = none ∧ m.get id = none ∧ (id < m.next ∨ m'.next ≤ id) ∧ M.get id = some A) := by
    intro id A h
    rw [e2] at h
    split at h
    · cases hm : m'.get id with
      | some B => rw [hm] at h; exact .inl h
      | none =>
        rw [hm] at h
        simp only at h
        split at h
        · cases h
        · rename_i hno
          right
          refine ⟨rfl, ?_, by omega, h⟩
          cases hg : m.get id with
          | none => rfl
          | some B => rw [hg] at hno; simp at hno
    · cases h
  -- a block beside the part is not the part's
  have beside : ∀ id A L, m.get id = none → M.get id = some A → μ id = some L → ¬ Owned μ m L.b := by
    rintro id A L hn hg hL ⟨id', A', L', h1, h2, h3⟩
    have := hM.inj id id' A A' L L' hg (hsub id' A' h1 (by rw [h2]; simp)) hL h2 h3.symm
    subst this
    rw [hn] at h1; cases h1
  have ownM : ∀ b, Owned μ m b → Owned μ M b := by
    rintro b ⟨id, A, L, h1, h2, h3⟩
    exact ⟨id, A, L, hsub id A h1 (by rw [h2]; simp), h2, h3⟩
  refine ⟨M', e1, ⟨hs.le, ⟨?_, ?_⟩, hs.size, ?_, fun b hb hn => hs.frame b hb fun ho => hn (ownM b ho), hs.rest⟩, g1, g2⟩
  · intro id A L h hL
    rcases g3 id A h with h | ⟨h1, h2, h3, h4⟩
    · exact hs.rep.blk id A L h hL
    · rw [hs.old id h3] at hL
      have hb := hM.blk id A L h4 hL
      exact (hb.heap (hs.frame _ hb.lt (beside id A L h2 h4 hL))).mono hs.le
  · intro i j A B L K hA hB hL hK e
    rcases g3 i A hA with hi | ⟨i1, i2, i3, i4⟩ <;> rcases g3 j B hB with hj | ⟨j1, j2, j3, j4⟩
    · exact hs.rep.inj i j A B L K hi hj hL hK e
    · rw [hs.old j j3] at hK
      have hlt := (hM.blk j B K j4 hK).lt
      exact absurd (hs.own K.b ⟨i, A, L, hi, hL, e⟩ hlt) (beside j B K j2 j4 hK)
    · rw [hs.old i i3] at hL
      have hlt := (hM.blk i A L i4 hL).lt
      exact absurd (hs.own L.b ⟨j, B, K, hj, hK, e.symm⟩ hlt) (beside i A L i2 i4 hL)
    · rw [hs.old i i3] at hL
      rw [hs.old j j3] at hK
      exact hM.inj i j A B L K i4 j4 hL hK e
  · rintro b ⟨i, A, L, hA, hL, rfl⟩ hlt
    rcases g3 i A hA with hi | ⟨i1, i2, i3, i4⟩
    · exact ownM _ (hs.own _ ⟨i, A, L, hi, hL, rfl⟩ hlt)
    · rw [hs.old i i3] at hL
      exact ⟨i, A, L, i4, hL, rfl⟩

/-! ### Equal by the evaluator's own test -/
mutual
theorem beq_eq : ∀ {a b : AV}, AV.beq a b = true → a = b
  | .bool a, b, h => by cases b <;> simp [AV.beq] at h; simp [h]
  | .int j a, b, h => by cases b <;> simp [AV.beq] at h; simp [h]
  | .str a, b, h => by cases b <;> simp [AV.beq] at h; simp [h]
  | .nilptr, b, h => by cases b <;> simp [AV.beq] at h; rfl
  | .ptr x y, b, h => by cases b <;> simp [AV.beq] at h; simp [h]
  | .nilslice, b, h => by cases b <;> simp [AV.beq] at h; rfl
  | .slice _ _ _ _, b, h => by cases b <;> simp [AV.beq] at h; simp [h]
  | .oslice _ _ _ _, b, h => by cases b <;> simp [AV.beq] at h; simp [h]
  | .nilmap, b, h => by cases b <;> simp [AV.beq] at h; rfl
  | .map a, b, h => by cases b <;> simp [AV.beq] at h; simp [h]
  | .nilfunc, b, h => by cases b <;> simp [AV.beq] at h; rfl
  | .func f x y, b, h => by
    cases b with
    | func g x' y' =>
      simp only [AV.beq, Bool.and_eq_true] at h
      rw [Nat.eq_of_beq_eq_true h.1.1, beqs_eq h.1.2, beqs_eq h.2]
    | _ => simp [AV.beq] at h
  | .yieldf a, b, h => by cases b <;> simp [AV.beq] at h; simp [h]
  | .nilif, b, h => by cases b <;> simp [AV.beq] at h; rfl
  | .iface t x, b, h => by
    cases b with
    | iface u y =>
      simp only [AV.beq, Bool.and_eq_true] at h
      rw [Nat.eq_of_beq_eq_true h.1, beq_eq h.2]
    | _ => simp [AV.beq] at h
  | .agg x, b, h => by
    cases b with
    | agg y => simp only [AV.beq] at h; rw [beqs_eq h]
    | _ => simp [AV.beq] at h
  | .tup x, b, h => by
    cases b with
    | tup y => simp only [AV.beq] at h; rw [beqs_eq h]
    | _ => simp [AV.beq] at h
theorem beqs_eq : ∀ {a b : List AV}, AV.beqs a b = true → a = b
  | [], [], _ => rfl
  | [], _ :: _, h => by simp [AV.beqs] at h
  | _ :: _, [], h => by simp [AV.beqs] at h
  | a :: x, b :: y, h => by
    simp only [AV.beqs, Bool.and_eq_true] at h
    rw [beq_eq h.1, beqs_eq h.2]
end

theorem blkSame_eq {a b : Option ABlk} (h : blkSame a b = true) : ∃ A, a = some A ∧ b = some A := by
  unfold blkSame at h
  split at h
  · rename_i x y
    refine ⟨y, ?_, rfl⟩
    unfold ABlk.beq at h
    split at h
    · simp only [Bool.and_eq_true, beq_iff_eq] at h
      rw [Nat.eq_of_beq_eq_true h.1.1, beqs_eq h.1.2, h.2]
    · rfl
    · cases h
  · cases h

/-! ### The run in the text's order -/
structure Snaps.Sub (a b : Snaps) : Prop where
  effs : ∀ x ∈ a.effs, x ∈ b.effs
  reads : ∀ x ∈ a.reads, x ∈ b.reads
  news : ∀ x ∈ a.news, x ∈ b.news
theorem Snaps.Sub.refl (a : Snaps) : a.Sub a := ⟨fun _ h => h, fun _ h => h, fun _ h => h⟩
theorem Snaps.Sub.trans {a b c : Snaps} (h : a.Sub b) (h' : b.Sub c) : a.Sub c := ⟨fun x hx => h'.effs x (h.effs x hx), fun x hx => h'.reads x (h.reads x hx), fun x hx => h'.news x (h.news x hx)⟩

/-- what the run at operation i was, and what was written down of it -/
structure StepFact (E : Env) (call : CallF) (ops : Array Oper) (lr : List (Nat × List Nat)) (i : Nat) (s s' : St) (sn : Snaps) (o : Oper) : Prop where
  op : ops[i]? = some o
  run : (wanted ops s.tm o = false ∧ s' = ⟨setDst s.tm o.dst .undef, s.mem⟩) ∨
    (wanted ops s.tm o = true ∧ ∃ v m, evOp E call o.op s.tm s.mem = some (v, m) ∧ s' = ⟨setDst s.tm o.dst v, m⟩ ∧ (effectOp o.op = true → (i, s.mem, m) ∈ sn.effs) ∧
      (effectOp o.op = false → (lr.lookup i).isSome = true → m.next = s.mem.next → (i, o.op, s.tm, v) ∈ sn.reads) ∧
      (effectOp o.op = false → (lr.lookup i).isSome = true → m.next ≠ s.mem.next → (i, s.mem.next, m.get s.mem.next) ∈ sn.news))

theorem StepFact.sub {E : Env} {call : CallF} {ops : Array Oper} {lr : List (Nat × List Nat)} {i : Nat} {s s' : St} {sn sn' : Snaps} {o : Oper} (h : StepFact E call ops lr i s s' sn o) (hs : sn.Sub sn') : StepFact E call ops lr i s s' sn' o := by
  refine ⟨h.op, ?_⟩
  rcases h.run with h | ⟨h1, v, m, h2, h3, h4, h5, h6⟩
  · exact .inl h
  · exact .inr ⟨h1, v, m, h2, h3, fun e => hs.effs _ (h4 e), fun e f g => hs.reads _ (h5 e f g), fun e f g => hs.news _ (h6 e f g)⟩

theorem snap_sub {lr : List (Nat × List Nat)} {i : Nat} {op : Op} {s : St} {v : AV} {m : AMem} {sn : Snaps} : sn.Sub (snap lr i op s v m sn) := by
  unfold snap
  split
  · exact ⟨fun x hx => List.mem_cons_of_mem _ hx, fun _ h => h, fun _ h => h⟩
  · split
    · split
      · exact ⟨fun _ h => h, fun x hx => List.mem_cons_of_mem _ hx, fun _ h => h⟩
      · exact ⟨fun _ h => h, fun _ h => h, fun x hx => List.mem_cons_of_mem _ hx⟩
    · exact Snaps.Sub.refl _

theorem draw_states {E : Env} {call : CallF} {ops : Array Oper} {lr : List (Nat × List Nat)} : ∀ (c k : Nat) (s s' : St) (sn sn' : Snaps), evDraw E call ops lr (List.range' k c) s sn = some (s', sn') →
    ∃ S : Nat → St, S k = s ∧ S (k + c) = s' ∧ (∀ i, k ≤ i → i < k + c → ∃ o, StepFact E call ops lr i (S i) (S (i + 1)) sn' o) ∧ sn.Sub sn'
  | 0, k, s, s', sn, sn', h => by
    cases h
    exact ⟨fun _ => s, rfl, rfl, fun i h1 h2 => by omega, Snaps.Sub.refl _⟩
  | c + 1, k, s, s', sn, sn', h => by
    rw [List.range'_succ] at h
    have build : ∀ (s₁ : St) (sn₁ : Snaps), evDraw E call ops lr (List.range' (k + 1) c) s₁ sn₁ = some (s', sn') → (∃ o, StepFact E call ops lr k s s₁ sn₁ o) → sn.Sub sn₁ →
        ∃ S : Nat → St, S k = s ∧ S (k + (c + 1)) = s' ∧ (∀ i, k ≤ i → i < k + (c + 1) → ∃ o, StepFact E call ops lr i (S i) (S (i + 1)) sn' o) ∧ sn.Sub sn' := by
      rintro s₁ sn₁ h1 ⟨o, h2⟩ h3
      obtain ⟨S, e1, e2, e3, e4⟩ := draw_states c (k + 1) s₁ s' sn₁ sn' h1
      refine ⟨fun j => if j = k then s else S j, by simp, ?_, fun i hi hlt => ?_, h3.trans e4⟩
      · simp only
        rw [if_neg (by omega), show k + (c + 1) = k + 1 + c by omega]; exact e2
      · simp only
        by_cases hik : i = k
        · subst hik
          rw [if_pos rfl, if_neg (by omega), e1]
          exact ⟨o, h2.sub e4⟩
        · rw [if_neg hik, if_neg (by omega)]
          exact e3 i (by omega) (by omega)
    simp only [evDraw] at h
    split at h
    · cases h
    · rename_i o ho
      split at h
      · rename_i hw
        exact build _ _ h ⟨o, ho, .inl ⟨hw, rfl⟩⟩ (Snaps.Sub.refl _)
      · rename_i hw
        split at h
        · rename_i v m hv
          split at h
          · refine build _ _ h ⟨o, ho, .inr ⟨hw, v, m, hv, rfl, fun he => ?_, fun he hl hn => ?_, fun he hl hn => ?_⟩⟩ snap_sub
            · simp [snap, he]
            · obtain ⟨l, hl⟩ := Option.isSome_iff_exists.1 hl
              have : Nat.beq m.next s.mem.next = true := by rw [hn]; exact Nat.beq_refl _
              simp [snap, he, hl, hn]
            · obtain ⟨l, hl⟩ := Option.isSome_iff_exists.1 hl
              simp [snap, he, hl, hn]
          · cases h
        · cases h
end Ev
