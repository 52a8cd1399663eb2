/-
  The evaluator's memory operations are the model's.
-/
import Derived.Test.YtfbcfmgmcldogaaGreatEv1
import Derived.Laws.Cells
namespace Ev
open Go

/-! ### Extractors -/
section ex
variable {x : AV}
theorem asBool_eq {b : Bool} (h : x.asBool = some b) : x = .bool b := by
  cases x <;> simp [AV.asBool] at h; rw [h]
theorem asInt_eq {p : IntKind × Int} (h : x.asInt = some p) : x = .int p.1 p.2 := by
  cases x <;> simp [AV.asInt] at h; rw [← h]
theorem asNat_eq {n : Nat} (h : x.asNat = some n) : ∃ k, x = .int k (Int.ofNat n) := by
  cases x <;> simp [AV.asNat] at h
  case int k i => cases i <;> simp [natOfI] at h; exact ⟨k, by rw [h]⟩
theorem asStr_eq {l : List Nat} (h : x.asStr = some l) : x = .str l := by
  cases x <;> simp [AV.asStr] at h; rw [h]
theorem asPtr_eq {p : Nat × Nat} (h : x.asPtr = some p) : x = .ptr p.1 p.2 := by
  cases x <;> simp [AV.asPtr] at h; rw [← h]
theorem asAgg_eq {l : List AV} (h : x.asAgg = some l) : x = .agg l := by
  cases x <;> simp [AV.asAgg] at h; rw [h]
theorem asTup_eq {l : List AV} (h : x.asTup = some l) : x = .tup l := by
  cases x <;> simp [AV.asTup] at h; rw [h]
theorem asMap_eq {i : Nat} (h : x.asMap = some i) : x = .map i := by
  cases x <;> simp [AV.asMap] at h; rw [h]
theorem asSl_eq {q : Nat × Nat × Nat} (h : x.asSl = some q) : (∃ c, x = .slice q.1 q.2.1 q.2.2 c) ∨ (∃ e, x = .oslice q.1 q.2.1 q.2.2 e) := by
  cases x <;> simp [AV.asSl] at h
  case slice a b c d => left; exact ⟨d, by rw [← h]⟩
  case oslice a b c d => right; exact ⟨d, by rw [← h]⟩
theorem asAgg_none (h : x.asAgg = none) : x.cells = [x] := by
  cases x <;> simp [AV.asAgg] at h <;> rfl
end ex

/-! ### Types -/
structure TyOK (E : Env) (P : Program) : Prop where
  ty : ∀ t i, E.ty t = some i → ∃ info, P.info? t = some info ∧ P.underlying t = some i.u ∧ info.size = i.size ∧ info.bytes = i.bytes ∧
    (∀ z, i.zero = some z → ∃ zv, info.zero = some zv ∧ ofVal zv = some z) ∧ i.held = P.stoodInHeld t
  depth : 20 ≤ P.depth

/-! ### What a constant is -/
mutual
theorem ofVal_rel (μ : Mu) : ∀ {v : Value} {a : AV}, ofVal v = some a → VRel μ a v
  | .bool b, a, h => by simp [ofVal] at h; subst h; rfl
  | .int k n, a, h => by simp [ofVal] at h; subst h; rfl
  | .float .., a, h => by simp [ofVal] at h
  | .complex .., a, h => by simp [ofVal] at h
  | .string s, a, h => by
    simp [ofVal] at h; subst h
    refine ⟨?_, ?_⟩
    · obtain ⟨d⟩ := s
      congr 2
      apply Array.ext'
      simp only [List.map_map]
      rw [show (UInt8.ofNat ∘ fun x : UInt8 => x.toNat) = id from funext fun x => by simp]
      simp
    · intro x hx
      simp only [List.mem_map] at hx
      obtain ⟨u, _, rfl⟩ := hx
      exact UInt8.toNat_lt u
  | .pointer none, a, h => by simp [ofVal] at h; subst h; rfl
  | .pointer (some _), a, h => by simp [ofVal] at h
  | .slice none 0 0, a, h => by simp [ofVal] at h; subst h; rfl
  | .slice none (_ + 1) _, a, h => by simp [ofVal] at h
  | .slice none 0 (_ + 1), a, h => by simp [ofVal] at h
  | .slice (some _) _ _, a, h => by simp [ofVal] at h
  | .map none, a, h => by simp [ofVal] at h; subst h; rfl
  | .map (some _), a, h => by simp [ofVal] at h
  | .chan _, a, h => by simp [ofVal] at h
  | .func .., a, h => by simp [ofVal] at h
  | .nilFunc, a, h => by simp [ofVal] at h; subst h; rfl
  | .iface .., a, h => by simp [ofVal] at h
  | .nilIface, a, h => by simp [ofVal] at h; subst h; rfl
  | .agg ⟨l⟩, a, h => by
    simp only [ofVal] at h
    split at h
    · rename_i r hr
      split at h
      · rename_i hs
        simp at h; subst h
        exact ⟨l, rfl, ofVals_rel μ hr, hs⟩
      · cases h
    · cases h
  | .tuple ⟨l⟩, a, h => by
    simp only [ofVal] at h
    split at h
    · rename_i r hr
      simp at h; subst h
      exact ⟨l, rfl, ofVals_rel μ hr⟩
    · cases h
theorem ofVals_rel (μ : Mu) : ∀ {l : List Value} {r : List AV}, ofVals l = some r → VsRel μ r l
  | [], r, h => by simp [ofVals] at h; subst h; rfl
  | v :: l, r, h => by
    simp only [ofVals] at h
    split at h
    · rename_i a ha
      split at h
      · rename_i b hb
        simp at h; subst h
        exact .cons (ofVal_rel μ ha) (ofVals_rel μ hb)
      · cases h
    · cases h
end

/-! ### Addresses, cells -/
theorem add_plain (b o j : Nat) : (⟨b, o, none⟩ : Addr).add j = ⟨b, o + j, none⟩ := by
  unfold Addr.add
  split
  · next h => subst h; rfl
  · rfl
theorem cell_of {w : World} {b o : Nat} {c : Array Value} {e : TypeId} {f : Nat × Nat} (h : w.heap[b]? = some (.cells c e f)) : w.cell? ⟨b, o, none⟩ = c[o]? := by
  simp [World.cell?, h]
theorem frozen_of {w : World} {b o : Nat} {c : Array Value} {e : TypeId} {lo hi : Nat} (h : w.heap[b]? = some (.cells c e (lo, hi))) (ho : o < c.size) (hf : lo = hi ∨ c.size ≤ lo) :
    w.frozen? ⟨b, o, none⟩ = false := by
  simp only [World.frozen?, h]
  rw [Bool.and_eq_false_iff]
  rcases hf with rfl | hf
  · by_cases h' : lo ≤ o
    · right; exact decide_eq_false (by omega)
    · left; exact decide_eq_false h'
  · left; exact decide_eq_false (by omega)

/-- the same but for one block -/
structure OnlyAt (b : Nat) (w w' : World) : Prop where
  size : w'.heap.size = w.heap.size
  other : ∀ b', b' ≠ b → w'.heap[b']? = w.heap[b']?
  rest : w'.os = w.os ∧ w'.output = w.output ∧ w'.tape = w.tape
theorem OnlyAt.refl (b : Nat) (w : World) : OnlyAt b w w := ⟨rfl, fun _ _ => rfl, rfl, rfl, rfl⟩
theorem OnlyAt.trans {b : Nat} {w w₁ w₂ : World} (h : OnlyAt b w w₁) (h' : OnlyAt b w₁ w₂) : OnlyAt b w w₂ :=
  ⟨h'.size.trans h.size, fun b' hb => (h'.other b' hb).trans (h.other b' hb), h'.rest.1.trans h.rest.1, h'.rest.2.1.trans h.rest.2.1, h'.rest.2.2.trans h.rest.2.2⟩

theorem setCell_spec {w : World} {b o : Nat} {c : Array Value} {e : TypeId} {f : Nat × Nat} (h : w.heap[b]? = some (.cells c e f)) (v : Value) :
    OnlyAt b w (w.setCell ⟨b, o, none⟩ v) ∧ (w.setCell ⟨b, o, none⟩ v).heap[b]? = some (.cells (c.setIfInBounds o v) e f) := by
  refine ⟨⟨by simp [World.setCell], fun b' hb => ?_, rfl, rfl, rfl⟩, ?_⟩
  · simp [World.setCell, Array.getElem?_modify, Ne.symm hb]
  · simp [World.setCell, Array.getElem?_modify, h]

theorem run_storeCells (P : Program) {b : Nat} {e : TypeId} {lo hi : Nat} : ∀ (vs : List Value) (w : World) (c : Array Value) (o i : Nat), w.heap[b]? = some (.cells c e (lo, hi)) →
    (∀ v ∈ vs, v.oneCell' = true) → o + i + vs.length ≤ c.size → (lo = hi ∨ c.size ≤ lo) →
    ∃ w' c', (storeCells ⟨b, o, none⟩ vs i).run P w = .ok () w' ∧ OnlyAt b w w' ∧ w'.heap[b]? = some (.cells c' e (lo, hi)) ∧ c'.size = c.size ∧
      ∀ j, c'[j]? = if o + i ≤ j ∧ j < o + i + vs.length then vs[j - (o + i)]? else c[j]?
  | [], w, c, o, i, h, _, _, _ => ⟨w, c, rfl, .refl _ _, h, rfl, fun j => by rw [if_neg (by intro hh; simp only [List.length_nil] at hh; omega)]⟩
  | v :: vs, w, c, o, i, h, hv, hl, hf => by
    simp only [List.length_cons] at hl
    have hin : o + i < c.size := by omega
    have hcell : w.cell? ⟨b, o + i, none⟩ = some (c[o + i]) := by rw [cell_of h]; simp [hin]
    have hfr : w.frozen? ⟨b, o + i, none⟩ = false := frozen_of h hin hf
    obtain ⟨hs1, hs2⟩ := setCell_spec (o := o + i) h v
    obtain ⟨w', c', h1, h2, h3, h4, h5⟩ := run_storeCells P vs (w.setCell ⟨b, o + i, none⟩ v) (c.setIfInBounds (o + i) v) o (i + 1) hs2
      (fun u hu => hv u (List.mem_cons_of_mem _ hu)) (by simp; omega) (by simpa using hf)
    refine ⟨w', c', ?_, hs1.trans h2, h3, by simpa using h4, fun j => ?_⟩
    · simp only [storeCells, Sem.run_bind, add_plain]
      rw [run_store P w _ v .plain (hv v (List.mem_cons_self ..))]
      simp only [hcell, hfr, Bool.false_eq_true, if_false, Result.andThen_ok]
      exact h1
    · rw [h5 j]
      simp only [List.length_cons]
      by_cases hj : j = o + i
      · subst hj
        rw [if_neg (by omega), if_pos (by omega)]
        simp [hin]
      · by_cases hj' : o + i ≤ j ∧ j < o + i + (vs.length + 1)
        · rw [if_pos (by omega), if_pos hj', show j - (o + i) = (j - (o + (i + 1))) + 1 by omega, List.getElem?_cons_succ]
        · rw [if_neg (by omega), if_neg hj', Array.getElem?_setIfInBounds, if_neg (fun e => hj e.symm)]

/-! ### Steps -/
theorem Rep.of_heap {μ : Mu} {m : AMem} {w w' : World} (h : Rep μ m w) (hh : w'.heap = w.heap) : Rep μ m w' :=
  ⟨fun id A L hA hL => (h.blk id A L hA hL).heap (by rw [hh]), h.inj⟩

theorem Step.of_heap {μ : Mu} {m : AMem} {w w' : World} (h : Rep μ m w) (hh : w'.heap = w.heap) (hr : w'.os = w.os ∧ w'.output = w.output ∧ w'.tape = w.tape) : Step μ m w μ m w' :=
  ⟨Nat.le_refl _, fun _ _ => rfl, Mu.le_refl _, h.of_heap hh, by rw [hh]; exact Nat.le_refl _, fun _ h _ => h, fun _ _ _ => by rw [hh], hr⟩

/-- one block is written -/
theorem Step.write {μ : Mu} {m : AMem} {w w' : World} {id : Nat} {A A' : ABlk} {L : Loc} (h : Rep μ m w) (hA : m.get id = some A) (hL : μ id = some L)
    (ho : OnlyAt L.b w w') (hb : BRel μ A' L w') : Step μ m w μ (m.put id A') w' where
  next := Nat.le_refl _
  old := fun _ _ => rfl
  le := Mu.le_refl _
  rep := by
    constructor
    · intro id' B M hB hM
      by_cases hi : id' = id
      · subst hi
        rw [AMem.get_put_same _ _ _ (AMem.get_lt hA)] at hB
        cases hB
        rw [hL] at hM; cases hM
        exact hb
      · rw [AMem.get_put_other _ _ hi] at hB
        have hne : M.b ≠ L.b := fun e => hi (h.inj _ _ _ _ _ _ hB hA hM hL e)
        exact (h.blk _ _ _ hB hM).heap (ho.other _ hne)
    · intro i j B B' M M' hB hB' hM hM' e
      have key : ∀ {i B}, (m.put id A').get i = some B → ∃ B₀, m.get i = some B₀ := by
        intro i B hB
        by_cases hi : i = id
        · subst hi; exact ⟨A, hA⟩
        · rw [AMem.get_put_other _ _ hi] at hB; exact ⟨B, hB⟩
      obtain ⟨B₀, h0⟩ := key hB
      obtain ⟨B₁, h1⟩ := key hB'
      exact h.inj _ _ _ _ _ _ h0 h1 hM hM' e
  size := by rw [ho.size]; exact Nat.le_refl _
  own := by
    rintro b ⟨i, B, M, hB, hM, rfl⟩ _
    by_cases hi : i = id
    · subst hi; exact ⟨i, A, M, hA, hM, rfl⟩
    · rw [AMem.get_put_other _ _ hi] at hB; exact ⟨i, B, M, hB, hM, rfl⟩
  frame := fun b _ hn => ho.other b (fun e => hn ⟨id, A, L, hA, hL, e.symm⟩)
  rest := ho.rest

/-- one more number, for a new block -/
def Mu.with (μ : Mu) (id : Nat) (L : Loc) : Mu := fun i => if i = id then some L else μ i
theorem Mu.with_same (μ : Mu) (id : Nat) (L : Loc) : (μ.with id L) id = some L := by simp [Mu.with]
theorem Mu.with_other (μ : Mu) {id i : Nat} (L : Loc) (h : i ≠ id) : (μ.with id L) i = μ i := by simp [Mu.with, h]
theorem Mu.le_with {μ : Mu} {id : Nat} {L : Loc} (h : μ id = none) : μ.le (μ.with id L) := by
  intro i M hM
  by_cases hi : i = id
  · subst hi; rw [h] at hM; cases hM
  · rw [Mu.with_other _ _ hi]; exact hM

theorem Step.alloc {μ : Mu} {m : AMem} {w w' : World} {A : ABlk} {n : Nat} {o : Obj} (h : Rep μ m w) (hf : μ m.next = none) (hw : w'.heap = w.heap.push o)
    (hr : w'.os = w.os ∧ w'.output = w.output ∧ w'.tape = w.tape)
    (hb : BRel (μ.with m.next ⟨w.heap.size, 0, n⟩) A ⟨w.heap.size, 0, n⟩ w') : Step μ m w (μ.with m.next ⟨w.heap.size, 0, n⟩) (m.add A) w' where
  next := by simp
  old := fun id hid => by
    simp only [AMem.add_next] at hid
    exact Mu.with_other _ _ (by omega)
  le := Mu.le_with hf
  rep := by
    have hold : ∀ b, b < w.heap.size → w'.heap[b]? = w.heap[b]? := fun b hb => by
      rw [hw, Array.getElem?_push]; split
      · omega
      · rfl
    constructor
    · intro id' B M hB hM
      by_cases hi : id' = m.next
      · subst hi
        rw [AMem.get_add_new] at hB
        cases hB
        rw [Mu.with_same] at hM; cases hM
        exact hb
      · rw [AMem.get_add_old _ _ hi] at hB
        rw [Mu.with_other _ _ hi] at hM
        have := h.blk _ _ _ hB hM
        exact (this.heap (hold _ this.lt)).mono (Mu.le_with hf)
    · intro i j B B' M M' hB hB' hM hM' e
      by_cases hi : i = m.next <;> by_cases hj : j = m.next
      · rw [hi, hj]
      · subst hi
        rw [Mu.with_same] at hM; cases hM
        rw [AMem.get_add_old _ _ hj] at hB'
        rw [Mu.with_other _ _ hj] at hM'
        have := (h.blk _ _ _ hB' hM').lt
        simp at e; omega
      · subst hj
        rw [Mu.with_same] at hM'; cases hM'
        rw [AMem.get_add_old _ _ hi] at hB
        rw [Mu.with_other _ _ hi] at hM
        have := (h.blk _ _ _ hB hM).lt
        simp at e; omega
      · rw [AMem.get_add_old _ _ hi] at hB
        rw [AMem.get_add_old _ _ hj] at hB'
        rw [Mu.with_other _ _ hi] at hM
        rw [Mu.with_other _ _ hj] at hM'
        exact h.inj _ _ _ _ _ _ hB hB' hM hM' e
  size := by rw [hw]; simp
  own := by
    rintro b ⟨i, B, M, hB, hM, rfl⟩ hlt
    by_cases hi : i = m.next
    · subst hi
      rw [Mu.with_same] at hM; cases hM
      simp at hlt
    · rw [AMem.get_add_old _ _ hi] at hB
      rw [Mu.with_other _ _ hi] at hM
      exact ⟨i, B, M, hB, hM, rfl⟩
  frame := fun b hlt _ => by
    rw [hw, Array.getElem?_push]; split
    · omega
    · rfl
  rest := hr

/-- a new row of cells, whole -/
theorem newRow_rel {μ : Mu} {w w' : World} {l : List AV} {vs : List Value} {e : TypeId} (hw : w'.heap = w.heap.push (.cells vs.toArray e)) (hv : VsRel μ l vs) (hs : l.all AV.scalar = true)
    (closed : Bool) : BRel μ (.row l.length l .nil closed) ⟨w.heap.size, 0, vs.length⟩ w' := by
  refine ⟨vs.toArray, e, 0, 0, ?_, by simp, rfl, by simp [hv.length], fun _ => ⟨rfl, hv.length⟩, .inl rfl, hs, ?_⟩
  · rw [hw]; simp
  · simp only [ovl_nil, List.drop_zero]
    rw [hv.length, List.take_of_length_le (by simp)]
    exact hv
/-- a new row of which the first cells are known -/
theorem newRow_open {μ : Mu} {w w' : World} {l : List AV} {vs rest : List Value} {e : TypeId} (hw : w'.heap = w.heap.push (.cells (vs ++ rest).toArray e)) (hv : VsRel μ l vs) (hs : l.all AV.scalar = true) :
    BRel μ (.row l.length l .nil false) ⟨w.heap.size, 0, vs.length + rest.length⟩ w' := by
  refine ⟨(vs ++ rest).toArray, e, 0, 0, ?_, by simp, rfl, by simp [hv.length], fun h => (by cases h), .inl rfl, hs, ?_⟩
  · rw [hw]; simp
  · simp only [ovl_nil, List.drop_zero]
    rw [hv.length, List.take_append_of_le_length (Nat.le_refl _), List.take_of_length_le (Nat.le_refl _)]
    exact hv

/-! ### Reading and writing cells -/
section rw
variable {μ : Mu} {m : AMem} {w : World}
theorem takeCells_eq {id off n : Nat} {l : List AV} (h : takeCells m id off n = some l) :
    ∃ size cells ov closed, m.get id = some (.row size cells ov closed) ∧ off + n ≤ size ∧ l = ((ovl ov cells 0).drop off).take n := by
  unfold takeCells at h
  cases hg : m.get id with
  | none => rw [hg] at h; cases h
  | some A =>
    rw [hg] at h
    cases A with
    | row size cells ov closed =>
      simp only [takeBlk, takeRow] at h
      cases hb : Nat.ble (off.add n) size with
      | false => rw [hb] at h; cases h
      | true =>
        rw [hb] at h
        refine ⟨size, cells, ov, closed, rfl, Nat.le_of_ble_eq_true hb, ?_⟩
        have h' : some (ovl ov ((cells.drop off).take n) off) = some l := h
        rw [ovl_part] at h'
        exact (Option.some.inj h').symm
    | map es => cases h
    | loop => cases h
theorem oneCell_eq {id off : Nat} {a : AV} (h : oneCell m id off = some a) :
    ∃ size cells ov closed, m.get id = some (.row size cells ov closed) ∧ off < size ∧ (cells.length = size → (ovl ov cells 0)[off]? = some a) := by
  unfold oneCell at h
  cases hg : m.get id with
  | none => rw [hg] at h; cases h
  | some A =>
    rw [hg] at h
    cases A with
    | row size cells ov closed =>
      simp only [oneBlk, oneRow] at h
      cases hb : Nat.blt off size with
      | false => rw [hb] at h; cases h
      | true =>
        rw [hb] at h
        have hlt : off < size := Nat.le_of_ble_eq_true hb
        refine ⟨size, cells, ov, closed, rfl, hlt, fun hl => ?_⟩
        rw [ovl_get, Nat.zero_add]
        have h' : (Option.casesOn (motive := fun _ => Option AV) (ov.get off) (nthCell cells off) (fun a => some a)) = some a := h
        have hin : off < cells.length := by omega
        cases ho : ov.get off with
        | none => rw [ho] at h'; rw [nthCell_eq] at h'; simp only at h'; rw [h']; simp
        | some x => rw [ho] at h'; simp only at h'; rw [List.getElem?_eq_getElem hin]; simpa using h'
    | map es => cases h
    | loop => cases h

/-- what a row's relation gives at a place -/
theorem BRel.cellAt {size : Nat} {cells : List AV} {ov : Tr AV} {closed : Bool} {L : Loc} (hb : BRel μ (.row size cells ov closed) L w) {j : Nat} {a : AV}
    (h : (ovl ov cells 0)[j]? = some a) : ∃ v, w.cell? ⟨L.b, L.sh + j, none⟩ = some v ∧ VRel μ a v := by
  obtain ⟨c, e, lo, hi, h1, h2, h3, h4, h5, h6, h7, h8⟩ := hb
  obtain ⟨v, hv1, hv2⟩ := h8.get j a h
  refine ⟨v, ?_, hv2⟩
  rw [cell_of h1]
  have hj : j < size := by
    have := (List.getElem?_eq_some_iff.1 h).1
    rw [ovl_length] at this; omega
  rw [List.getElem?_take_of_lt hj, List.getElem?_drop] at hv1
  rw [← hv1]; simp

theorem run_load_one (P : Program) {id off : Nat} {a : AV} {L : Loc} (hr : Rep μ m w) (h : oneCell m id off = some a) (hL : μ id = some L) :
    ∃ v, (load ⟨L.b, L.sh + off, none⟩).run P w = .ok v w ∧ VRel μ a v := by
  obtain ⟨size, cells, ov, closed, hg, hlt, ho⟩ := oneCell_eq h
  have hb := hr.blk _ _ _ hg hL
  obtain ⟨v, hv1, hv2⟩ := hb.cellAt (ho hb.choose_spec.choose_spec.choose_spec.choose_spec.2.2.1)
  exact ⟨v, by rw [run_load, hv1], hv2⟩

theorem run_load_cells (P : Program) {id off n : Nat} {l : List AV} {L : Loc} (hr : Rep μ m w) (h : takeCells m id off n = some l) (hL : μ id = some L) :
    ∃ vs : List Value, (∀ w' : World, w'.heap = w.heap → (loadCells ⟨L.b, L.sh + off, none⟩ n).run P w' = .ok vs.toArray w') ∧ VsRel μ l vs ∧ l.length = n ∧ l.all AV.scalar = true := by
  obtain ⟨size, cells, ov, closed, hg, hlt, rfl⟩ := takeCells_eq h
  have hb := hr.blk _ _ _ hg hL
  obtain ⟨c, e, lo, hi, h1, h2, h3, h4, h5, h6, h7, h8⟩ := hb
  have hlen : (((ovl ov cells 0).drop off).take n).length = n := by simp [ovl_length]; omega
  have hrel := (h8.drop off).take n
  refine ⟨((List.drop off ((c.toList.drop L.sh).take size)).take n), ?_, hrel, hlen, ?_⟩
  · intro w' hw'
    rw [← hw'] at h1
    have hn : n = ((List.drop off ((c.toList.drop L.sh).take size)).take n).length := by rw [← hrel.length, hlen]
    have key := run_loadCells_list (P := P) w' ⟨L.b, L.sh + off, none⟩ ((List.drop off ((c.toList.drop L.sh).take size)).take n) (fun j v hj => by
      rw [add_plain, cell_of h1]
      have hjn : j < n := by
        have := (List.getElem?_eq_some_iff.1 hj).1
        rw [← hn] at this; exact this
      rw [List.getElem?_take_of_lt hjn, List.getElem?_drop, List.getElem?_take_of_lt (by omega), List.getElem?_drop] at hj
      rw [← hj]; simp [Nat.add_assoc])
    rw [← hn] at key
    exact key
  · rw [List.all_eq_true] at h7 ⊢
    exact fun x hx => h7 x (List.mem_of_mem_drop (List.mem_of_mem_take hx))

theorem putCells_eq {id off : Nat} {new : List AV} {m' : AMem} (h : putCells m id off new = some m') :
    ∃ size cells ov closed, m.get id = some (.row size cells ov closed) ∧ off + new.length ≤ size ∧ new.all AV.scalar = true ∧
      m' = m.put id (.row size (splice (ovl ov cells 0) off new) .nil closed) := by
  unfold putCells at h
  cases hg : m.get id with
  | none => rw [hg] at h; cases h
  | some A =>
    rw [hg] at h
    cases A with
    | row size cells ov closed =>
      simp only [putBlk, putRow] at h
      cases hb : (Nat.ble (off.add new.length) size && new.all AV.scalar) with
      | false => rw [hb] at h; cases h
      | true =>
        rw [hb] at h
        simp only [Bool.and_eq_true] at hb
        exact ⟨size, cells, ov, closed, rfl, Nat.le_of_ble_eq_true hb.1, hb.2, (Option.some.inj h).symm⟩
    | map es => cases h
    | loop => cases h
theorem put1_eq {id off : Nat} {x : AV} {m' : AMem} (h : put1 m id off x = some m') :
    ∃ size cells ov closed, m.get id = some (.row size cells ov closed) ∧ off < size ∧ x.scalar = true ∧ m' = m.put id (.row size cells (ov.put off (some x)) closed) := by
  unfold put1 at h
  cases hs : x.scalar with
  | false => rw [hs] at h; cases h
  | true =>
    rw [hs] at h
    cases hg : m.get id with
    | none => rw [hg] at h; cases h
    | some A =>
      rw [hg] at h
      cases A with
      | row size cells ov closed =>
        simp only [put1Blk, put1Row] at h
        cases hb : Nat.blt off size with
        | false => rw [hb] at h; cases h
        | true =>
          rw [hb] at h
          exact ⟨size, cells, ov, closed, rfl, Nat.le_of_ble_eq_true hb, rfl, (Option.some.inj h).symm⟩
      | map es => cases h
      | loop => cases h

theorem splice_get (l new : List AV) (off j : Nat) (h : off + new.length ≤ l.length) :
    (splice l off new)[j]? = if off ≤ j ∧ j < off + new.length then new[j - off]? else l[j]? := by
  unfold splice
  have h1 : (l.take off).length = off := by simp; omega
  by_cases hj : j < off
  · rw [List.getElem?_append_left (by omega), List.getElem?_take_of_lt hj, if_neg (by omega)]
  · rw [List.getElem?_append_right (by omega), h1]
    by_cases hj' : j < off + new.length
    · rw [List.getElem?_append_left (by omega), if_pos (by omega)]
    · rw [List.getElem?_append_right (by omega), if_neg (by omega), List.getElem?_drop]
      congr 1; omega
theorem splice_length (l new : List AV) (off : Nat) (h : off + new.length ≤ l.length) : (splice l off new).length = l.length := by
  simp [splice]; omega

/-- the cells of a row are turned: the relation of the row -/
theorem BRel.turn {size : Nat} {cells cells' : List AV} {ov ov' : Tr AV} {closed : Bool} {L : Loc} {w' : World} {off : Nat} {new : List AV} {vs : List Value} {c c' : Array Value} {e : TypeId} {lo hi : Nat}
    (hb : BRel μ (.row size cells ov closed) L w) (h1 : w.heap[L.b]? = some (.cells c e (lo, hi))) (h1' : w'.heap[L.b]? = some (.cells c' e (lo, hi))) (hsz : c'.size = c.size)
    (hc : ∀ j, c'[j]? = if L.sh + off ≤ j ∧ j < L.sh + off + vs.length then vs[j - (L.sh + off)]? else c[j]?) (hv : VsRel μ new vs) (hn : off + new.length ≤ size)
    (hs : new.all AV.scalar = true) (hl : cells'.length = cells.length)
    (hg : ∀ j, (ovl ov' cells' 0)[j]? = if off ≤ j ∧ j < off + new.length then new[j - off]? else (ovl ov cells 0)[j]?) : BRel μ (.row size cells' ov' closed) L w' := by
  obtain ⟨c₀, e₀, lo₀, hi₀, g1, g2, g3, g4, g5, g6, g7, g8⟩ := hb
  rw [h1] at g1; cases g1
  have hvl := hv.length
  refine ⟨c', e, lo, hi, h1', by rw [hsz, g2], by rw [hl, g3], g4, g5, g6, ?_, ?_⟩
  · rw [List.all_eq_true] at g7 hs ⊢
    intro x hx
    obtain ⟨j, hj⟩ := List.getElem?_of_mem hx
    rw [hg j] at hj
    split at hj
    · exact hs x (List.mem_of_getElem? hj)
    · exact g7 x (List.mem_of_getElem? hj)
  · apply VsRel.of_get
    · rw [ovl_length, hl, g3]; simp; omega
    · intro j a v ha hv'
      rw [hg j] at ha
      have hjs : j < size := by
        have := (List.getElem?_eq_some_iff.1 hv').1
        simp at this; omega
      rw [List.getElem?_take_of_lt hjs, List.getElem?_drop] at hv'
      have hv2 : c'[L.sh + j]? = some v := by rw [← hv']; simp
      rw [hc] at hv2
      by_cases hin : off ≤ j ∧ j < off + new.length
      · rw [if_pos hin] at ha
        rw [if_pos (by omega), show L.sh + j - (L.sh + off) = j - off by omega] at hv2
        obtain ⟨u, hu1, hu2⟩ := hv.get _ _ ha
        rw [hv2] at hu1; cases hu1; exact hu2
      · rw [if_neg hin] at ha
        rw [if_neg (by omega)] at hv2
        obtain ⟨u, hu1, hu2⟩ := g8.get _ _ ha
        rw [List.getElem?_take_of_lt hjs, List.getElem?_drop] at hu1
        have : c[L.sh + j]? = some u := by rw [← hu1]; simp
        rw [hv2] at this; cases this; exact hu2

theorem run_store_cells (P : Program) {id off : Nat} {new : List AV} {vs : List Value} {m' : AMem} {L : Loc} (hr : Rep μ m w) (h : putCells m id off new = some m') (hL : μ id = some L) (hv : VsRel μ new vs) :
    ∃ w', (storeCells ⟨L.b, L.sh + off, none⟩ vs).run P w = .ok () w' ∧ Step μ m w μ m' w' := by
  obtain ⟨size, cells, ov, closed, hg, hle, hs, rfl⟩ := putCells_eq h
  have hb := hr.blk _ _ _ hg hL
  obtain ⟨c, e, lo, hi, h1, h2, h3, h4, h5, h6, h7, h8⟩ := _root_.id hb
  have hvl := hv.length
  obtain ⟨w', c', r1, r2, r3, r4, r5⟩ := run_storeCells P vs w c (L.sh + off) 0 h1 (hv.one hs) (by rw [h2]; omega) (by rw [h2]; exact h6)
  refine ⟨w', r1, Step.write hr hg hL r2 ?_⟩
  have hlen : off + new.length ≤ (ovl ov cells 0).length := by rw [ovl_length]; omega
  refine hb.turn (off := off) (new := new) (vs := vs) h1 r3 r4 (fun j => by simpa using r5 j) hv hle hs (by rw [splice_length _ _ _ hlen, ovl_length]) (fun j => ?_)
  rw [ovl_nil, splice_get _ _ _ _ hlen]
theorem run_store_one (P : Program) {id off : Nat} {x : AV} {v : Value} {m' : AMem} {L : Loc} (hr : Rep μ m w) (h : put1 m id off x = some m') (hL : μ id = some L) (hv : VRel μ x v) :
    ∃ w', (storeCells ⟨L.b, L.sh + off, none⟩ [v]).run P w = .ok () w' ∧ Step μ m w μ m' w' := by
  obtain ⟨size, cells, ov, closed, hg, hle, hs, rfl⟩ := put1_eq h
  have hb := hr.blk _ _ _ hg hL
  obtain ⟨c, e, lo, hi, h1, h2, h3, h4, h5, h6, h7, h8⟩ := _root_.id hb
  obtain ⟨w', c', r1, r2, r3, r4, r5⟩ := run_storeCells P [v] w c (L.sh + off) 0 h1 (by simpa using hv.one hs) (by rw [h2]; simp; omega) (by rw [h2]; exact h6)
  refine ⟨w', r1, Step.write hr hg hL r2 ?_⟩
  refine hb.turn (off := off) (new := [x]) (vs := [v]) h1 r3 r4 (fun j => by simpa using r5 j) (.cons hv .nil) (by simp only [List.length_singleton]; omega) (by simpa using hs) rfl (fun j => ?_)
  rw [ovl_put, List.getElem?_set, ovl_length]
  by_cases hj : j = off
  · subst hj; rw [if_pos rfl, if_pos (by omega), if_pos (by simp)]; simp
  · rw [if_neg (fun e => hj e.symm), if_neg (by simp; omega)]
end rw
end Ev
