/-
  The orders of a region: what always stands before what.
-/
import Derived.Test.YtfbcfmgmcldogaaGreatEv22
namespace Ev
open Go

/-- what one more operation stands behind -/
def befOf (o : Oper) (g : Nat → Nat) : Nat := o.after.foldl (fun s e => if Region.binds .any e then s ||| 2 ^ e.on ||| g e.on else s) 0

theorem before_eq (ops : Array Oper) : Region.before ops = ops.toList.foldl (fun acc o => acc.push (befOf o fun k => acc.getD k 0)) #[] := by
  unfold Region.before befOf
  rw [← Array.foldl_toList]

theorem bef_fold : ∀ (l : List Oper) (acc : Array Nat), let r := l.foldl (fun acc o => acc.push (befOf o fun k => acc.getD k 0)) acc
    r.size = acc.size + l.length ∧ (∀ i, i < acc.size → r.getD i 0 = acc.getD i 0) ∧
    ∀ k o, l[k]? = some o → r.getD (acc.size + k) 0 = befOf o fun j => if j < acc.size + k then r.getD j 0 else 0
  | [], acc => by simp
  | o :: l, acc => by
    simp only [List.foldl_cons]
    obtain ⟨h1, h2, h3⟩ := bef_fold l (acc.push (befOf o fun k => acc.getD k 0))
    try simp only at h1 h2 h3
    generalize l.foldl (fun acc o => acc.push (befOf o fun k => acc.getD k 0)) (acc.push (befOf o fun k => acc.getD k 0)) = r at h1 h2 h3
    refine ⟨by rw [h1]; simp; omega, fun i hi => ?_, fun k p hp => ?_⟩
    · rw [h2 i (by simp; omega)]
      simp [Array.getD_eq_getD_getElem?, Array.getElem?_push, Nat.ne_of_lt hi]
    · cases k with
      | zero =>
        simp only [List.getElem?_cons_zero, Option.some.injEq] at hp
        subst hp
        rw [Nat.add_zero, h2 _ (by simp)]
        simp only [Array.getD_eq_getD_getElem?, Array.getElem?_push, if_true, Option.getD_some]
        congr 1
        funext j
        by_cases hj : j < acc.size
        · rw [if_pos hj]
          have := h2 j (by simp; omega)
          simp only [Array.getD_eq_getD_getElem?, Array.getElem?_push, if_neg (Nat.ne_of_lt hj)] at this
          exact this.symm
        · rw [if_neg hj]
          simp [Array.getElem?_eq_none (Nat.le_of_not_lt hj)]
      | succ k =>
        have := h3 k p (by simpa using hp)
        simp only [Array.size_push] at this
        rw [show acc.size + (k + 1) = acc.size + 1 + k by omega]
        exact this

theorem befOf_bit (o : Oper) (g : Nat → Nat) (j : Nat) : (befOf o g).testBit j = true ↔ ∃ e ∈ o.after, Region.binds .any e = true ∧ (e.on = j ∨ (g e.on).testBit j = true) := by
  unfold befOf
  rw [← Array.foldl_toList]
  have key : ∀ (l : List Edge) (s : Nat), (l.foldl (fun s e => if Region.binds .any e then s ||| 2 ^ e.on ||| g e.on else s) s).testBit j = true ↔
      s.testBit j = true ∨ ∃ e ∈ l, Region.binds .any e = true ∧ (e.on = j ∨ (g e.on).testBit j = true) := by
    intro l
    induction l with
    | nil => intro s; simp
    | cons e l ih =>
      intro s
      rw [List.foldl_cons, ih]
      by_cases hb : Region.binds .any e = true
      · simp only [hb, if_true, Nat.testBit_or, Bool.or_eq_true, Nat.testBit_two_pow, decide_eq_true_eq, List.mem_cons, exists_eq_or_imp, true_and]
        constructor
        · rintro (((h | h) | h) | h)
          · exact .inl h
          · exact .inr (.inl (.inl h))
          · exact .inr (.inl (.inr h))
          · exact .inr (.inr h)
        · rintro (h | ((h | h) | h))
          · exact .inl (.inl (.inl h))
          · exact .inl (.inl (.inr h))
          · exact .inl (.inr h)
          · exact .inr h
      · simp only [hb, List.mem_cons, exists_eq_or_imp]
        simp
  rw [key]
  simp

section
variable {ops : Array Oper}

/-- what stands before an operation, by its own edges -/
theorem bef_iff (h : (ops.toList.zipIdx.all fun (o, i) => o.after.all fun e => !Region.binds .any e || Nat.blt e.on i) = true) {i j : Nat} {o : Oper} (ho : ops[i]? = some o) :
    isBefore (Region.before ops) j i = true ↔ ∃ e ∈ o.after, Region.binds .any e = true ∧ e.on < i ∧ (e.on = j ∨ isBefore (Region.before ops) j e.on = true) := by
  have hedge : ∀ e ∈ o.after, Region.binds .any e = true → e.on < i := by
    intro e he hb
    rw [List.all_eq_true] at h
    have hi : (o, i) ∈ ops.toList.zipIdx := by
      rw [List.mem_zipIdx_iff_getElem?]
      simpa using ho
    have := h _ hi
    simp only [Array.all_eq_true_iff_forall_mem] at this
    have := this e he
    simp only [hb, Bool.not_true, Bool.false_or] at this
    rw [blt_iff] at this
    exact this
  unfold isBefore
  obtain ⟨h1, h2, h3⟩ := bef_fold ops.toList #[]
  try simp only at h1 h2 h3
  rw [before_eq]
  have := h3 i o (by simpa using ho)
  simp only [Nat.zero_add, List.size_toArray, List.length_nil] at this
  rw [this, befOf_bit]
  constructor
  · rintro ⟨e, he, hb, hj⟩
    have hlt := hedge e he hb
    rw [if_pos hlt] at hj
    exact ⟨e, he, hb, hlt, hj⟩
  · rintro ⟨e, he, hb, hlt, hj⟩
    exact ⟨e, he, hb, by rw [if_pos hlt]; exact hj⟩

theorem bef_none {i j : Nat} (ho : ops[i]? = none) : isBefore (Region.before ops) j i = false := by
  unfold isBefore
  obtain ⟨h1, _, _⟩ := bef_fold ops.toList #[]
  try simp only at h1
  rw [← before_eq] at h1
  have hs : (Region.before ops).size = ops.size := by simpa using h1
  have : (Region.before ops).getD i 0 = 0 := by
    rw [Array.getD_eq_getD_getElem?, Array.getElem?_eq_none]
    · rfl
    · rw [hs]; simpa using ho
  rw [this]; simp

/-- what is known of a region that draws -/
structure Ordered (ops : Array Oper) : Prop where
  edge : ∀ i o, ops[i]? = some o → ∀ e ∈ o.after, Region.binds .any e = true → e.on < i
  lt : ∀ i j, isBefore (Region.before ops) j i = true → j < i
  closed : ∀ L : Nat → Bool, (∀ i o, ops[i]? = some o → L i = true → ∀ e ∈ o.after, Region.binds .any e = true → L e.on = true) → ∀ i j, L i = true → isBefore (Region.before ops) j i = true → L j = true
  ready : ∀ L : Nat → Bool, (∀ i o, ops[i]? = some o → L i = true → ∀ e ∈ o.after, Region.binds .any e = true → L e.on = true) → ∀ i o, ops[i]? = some o → (∀ e ∈ o.after, Region.binds .any e = true → L e.on = true) →
    ∀ j, isBefore (Region.before ops) j i = true → L j = true
  names : ∀ i j o p d, ops[i]? = some o → ops[j]? = some p → o.dst = some d → d ∈ namesOf ops p → i = j ∨ isBefore (Region.before ops) i j = true ∨ isBefore (Region.before ops) j i = true

theorem ordered_of (h : okDraw ops = true) : Ordered ops := by
  unfold okDraw at h
  simp only [Bool.and_eq_true] at h
  obtain ⟨h1, h2⟩ := h
  have iff := fun {i j : Nat} {o : Oper} (ho : ops[i]? = some o) => bef_iff h1 (j := j) ho
  have hlt : ∀ i j, isBefore (Region.before ops) j i = true → j < i := by
    intro i
    induction i using Nat.strongRecOn with
    | _ i ih =>
      intro j hb
      cases ho : ops[i]? with
      | none => rw [bef_none ho] at hb; cases hb
      | some o =>
        obtain ⟨e, _, _, hl, rfl | hj⟩ := (iff ho).1 hb
        · exact hl
        · exact Nat.lt_trans (ih _ hl _ hj) hl
  have hclosed : ∀ L : Nat → Bool, (∀ i o, ops[i]? = some o → L i = true → ∀ e ∈ o.after, Region.binds .any e = true → L e.on = true) → ∀ i j, L i = true → isBefore (Region.before ops) j i = true → L j = true := by
    intro L hL i
    induction i using Nat.strongRecOn with
    | _ i ih =>
      intro j hi hb
      cases ho : ops[i]? with
      | none => rw [bef_none ho] at hb; cases hb
      | some o =>
        obtain ⟨e, he, hbi, hl, rfl | hj⟩ := (iff ho).1 hb
        · exact hL i o ho hi e he hbi
        · exact ih _ hl _ (hL i o ho hi e he hbi) hj
  refine ⟨fun i o ho e he hb => ?_, hlt, hclosed, fun L hL i o ho hr j hb => ?_, fun i j o p d ho hp hd hn => ?_⟩
  · rw [List.all_eq_true] at h1
    have hi : (o, i) ∈ ops.toList.zipIdx := by rw [List.mem_zipIdx_iff_getElem?]; simpa using ho
    have := h1 _ hi
    simp only [Array.all_eq_true_iff_forall_mem] at this
    have := this e he
    simp only [hb, Bool.not_true, Bool.false_or] at this
    rw [blt_iff] at this
    exact this
  · obtain ⟨e, he, hbi, hl, rfl | hj⟩ := (iff ho).1 hb
    · exact hr e he hbi
    · exact hclosed L hL _ _ (hr e he hbi) hj
  · rw [List.all_eq_true] at h2
    have hi : i < ops.size := (Array.getElem?_eq_some_iff.1 ho).1
    have hj : j < ops.size := (Array.getElem?_eq_some_iff.1 hp).1
    have := h2 i (List.mem_range.2 hi)
    rw [List.all_eq_true] at this
    have := this j (List.mem_range.2 hj)
    unfold okNames at this
    rw [ho, hp] at this
    simp only [hd] at this
    have hc : (namesOf ops p).any (Nat.beq d) = true := List.any_eq_true.2 ⟨d, hn, Nat.beq_refl d⟩
    rw [hc] at this
    simp only [Bool.not_true, Bool.false_or, Bool.or_eq_true] at this
    rcases this with (h | h) | h
    · exact .inl (Nat.eq_of_beq_eq_true h)
    · exact .inr (.inl h)
    · exact .inr (.inr h)

/-- no two effects stand in no order -/
theorem chain_of (h : clash ops (Region.before ops) = false) {i j : Nat} {o p : Oper} (ho : ops[i]? = some o) (hp : ops[j]? = some p) (eo : effectOp o.op = true) (ep : effectOp p.op = true) (hne : i ≠ j) :
    isBefore (Region.before ops) i j = true ∨ isBefore (Region.before ops) j i = true := by
  unfold clash at h
  rw [List.any_eq_false] at h
  have hi : i < ops.size := (Array.getElem?_eq_some_iff.1 ho).1
  have hj : j < ops.size := (Array.getElem?_eq_some_iff.1 hp).1
  have := h i (List.mem_range.2 hi)
  rw [ho] at this
  simp only [eo, Bool.true_and, Bool.not_eq_true, Bool.not_eq_false', List.isEmpty_iff] at this
  have hm : j ∉ loose ops (Region.before ops) i := by rw [this]; exact List.not_mem_nil
  unfold loose at hm
  rw [List.mem_filter] at hm
  cases h1 : isBefore (Region.before ops) i j with
  | true => exact .inl rfl
  | false =>
    cases h2 : isBefore (Region.before ops) j i with
    | true => exact .inr rfl
    | false => exact absurd ⟨List.mem_range.2 hj, by rw [hp]; simp [ep, h1, h2, Ne.symm hne]⟩ hm

theorem mem_loose {i j : Nat} {p : Oper} (hp : ops[j]? = some p) (ep : effectOp p.op = true) (h1 : isBefore (Region.before ops) i j = false) (h2 : isBefore (Region.before ops) j i = false) (hne : j ≠ i) :
    j ∈ loose ops (Region.before ops) i := by
  unfold loose
  rw [List.mem_filter]
  exact ⟨List.mem_range.2 (Array.getElem?_eq_some_iff.1 hp).1, by rw [hp]; simp [ep, h1, h2, hne]⟩

theorem lookup_filterMap {f : Nat → List Nat} : ∀ (l : List Nat) (i : Nat), i ∈ l → f i ≠ [] → l.Nodup →
    (l.filterMap fun i => match f i with | [] => none | l => some (i, l)).lookup i = some (f i)
  | a :: l, i, hi, hf, hn => by
    rw [List.nodup_cons] at hn
    by_cases ha : a = i
    · subst ha
      rw [List.filterMap_cons]
      cases hfa : f a with
      | nil => exact absurd hfa hf
      | cons x xs => simp [List.lookup]
    · have hi' : i ∈ l := by rcases List.mem_cons.1 hi with h | h; exact absurd h.symm ha; exact h
      have ih := lookup_filterMap l i hi' hf hn.2
      rw [List.filterMap_cons]
      cases hfa : f a with
      | nil => exact ih
      | cons x xs =>
        simp only [List.lookup]
        have : (i == a) = false := by simpa using fun e => ha e.symm
        rw [this]; exact ih

theorem looseReads_ok {lr : List (Nat × List Nat)} (h : looseReads ops = some lr) : clash ops (Region.before ops) = false ∧
    ∀ i o, ops[i]? = some o → readOp o.op = true → loose ops (Region.before ops) i ≠ [] → lr.lookup i = some (loose ops (Region.before ops) i) := by
  unfold looseReads at h
  simp only at h
  split at h
  · cases h
  · rename_i hc
    refine ⟨by simpa using hc, fun i o ho hr hl => ?_⟩
    cases h
    refine lookup_filterMap (f := loose ops (Region.before ops)) _ i ?_ hl ?_
    · rw [List.mem_filter]
      exact ⟨List.mem_range.2 (Array.getElem?_eq_some_iff.1 ho).1, by rw [ho]; exact hr⟩
    · exact (List.nodup_range).filter _
end
end Ev
