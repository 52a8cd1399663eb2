/-
  The evaluator's memory against the model's: the relation, and what it keeps.
-/
import Derived.Test.YtfbcfmgmcldogaaGreatEv0k
import Derived.RangeFuncLeaves
import Derived.OrdersIn
namespace Ev
open Go

/-! ### Tries -/
section tr
variable {α : Type}

@[simp] theorem Tr.get_nil (k : Nat) : (Tr.nil : Tr α).get k = none := rfl
theorem Tr.get_zero (l : Tr α) (v : Option α) (r : Tr α) : (Tr.node l v r).get 0 = v := rfl
theorem Tr.get_succ (l : Tr α) (v : Option α) (r : Tr α) (n : Nat) : (Tr.node l v r).get (n + 1) = if n % 2 = 0 then l.get (n / 2) else r.get (n / 2) := by
  show Nat.casesOn (motive := fun _ => Option α) (n % 2) (l.get (n / 2)) (fun _ => r.get (n / 2)) = _
  rcases Nat.mod_two_eq_zero_or_one n with e | e <;> rw [e] <;> rfl

theorem Tr.setF_zero (x : Option α) (f : Nat) (l : Tr α) (v : Option α) (r : Tr α) : Tr.setF x (f + 1) (.node l v r) 0 = .node l x r := rfl
theorem Tr.setF_succ (x : Option α) (f : Nat) (l : Tr α) (v : Option α) (r : Tr α) (n : Nat) :
    Tr.setF x (f + 1) (.node l v r) (n + 1) = if n % 2 = 0 then .node (Tr.setF x f l (n / 2)) v r else .node l v (Tr.setF x f r (n / 2)) := by
  show Nat.casesOn (motive := fun _ => Tr α) (n % 2) (.node (Tr.setF x f l (n / 2)) v r) (fun _ => .node l v (Tr.setF x f r (n / 2))) = _
  rcases Nat.mod_two_eq_zero_or_one n with e | e <;> rw [e] <;> rfl
theorem Tr.setF_nil (x : Option α) (f : Nat) (n : Nat) : Tr.setF x (f + 1) .nil n = Tr.setF x (f + 1) (.node .nil none .nil) n := rfl

theorem Tr.get_setF (x : Option α) : ∀ (f : Nat) (t : Tr α) (n k : Nat), n < f → (Tr.setF x f t n).get k = if k = n then x else t.get k
  | 0, _, _, _, h => absurd h (by omega)
  | f + 1, t, n, k, h => by
    have hnode : ∀ (l : Tr α) (v : Option α) (r : Tr α), (Tr.setF x (f + 1) (.node l v r) n).get k = if k = n then x else (Tr.node l v r).get k := by
      intro l v r
      cases n with
      | zero => rw [Tr.setF_zero]; cases k with
        | zero => rw [if_pos rfl, Tr.get_zero]
        | succ k => rw [if_neg (by omega), Tr.get_succ, Tr.get_succ]
      | succ n =>
        rw [Tr.setF_succ]
        cases k with
        | zero =>
          have h0 : ¬ (0 = n + 1) := by omega
          rw [if_neg h0]
          rcases Nat.mod_two_eq_zero_or_one n with e | e
          · rw [if_pos e]; rfl
          · rw [if_neg (by omega)]; rfl
        | succ k =>
          rcases Nat.mod_two_eq_zero_or_one n with e | e
          · rw [if_pos e, Tr.get_succ, Tr.get_succ]
            by_cases e' : k % 2 = 0
            · rw [if_pos e', if_pos e', Tr.get_setF x f l (n / 2) (k / 2) (by omega)]
              by_cases hk : k = n
              · subst hk; simp
              · rw [if_neg (by omega), if_neg (by omega)]
            · rw [if_neg e', if_neg e', if_neg (by omega)]
          · rw [if_neg (by omega), Tr.get_succ, Tr.get_succ]
            by_cases e' : k % 2 = 0
            · rw [if_pos e', if_pos e', if_neg (by omega)]
            · rw [if_neg e', if_neg e', Tr.get_setF x f r (n / 2) (k / 2) (by omega)]
              by_cases hk : k = n
              · subst hk; simp
              · rw [if_neg (by omega), if_neg (by omega)]
    cases t with
    | node l v r => exact hnode l v r
    | nil =>
      rw [Tr.setF_nil, hnode]
      have hz : (Tr.node (α := α) .nil none .nil).get k = (Tr.nil : Tr α).get k := by
        cases k with
        | zero => rfl
        | succ k => rw [Tr.get_succ]; split <;> rfl
      rw [hz]

theorem Tr.get_put (t : Tr α) (n k : Nat) (x : Option α) : (t.put n x).get k = if k = n then x else t.get k :=
  Tr.get_setF x (n + 1) t n k (by omega)
theorem Tr.get_put_same (t : Tr α) (n : Nat) (x : Option α) : (t.put n x).get n = x := by rw [Tr.get_put, if_pos rfl]
theorem Tr.get_put_other (t : Tr α) {n k : Nat} (x : Option α) (h : k ≠ n) : (t.put n x).get k = t.get k := by rw [Tr.get_put, if_neg h]
end tr

/-! ### Rows: a list, and what was put over it -/
theorem ovGo_get (ov : Tr AV) : ∀ (l : List AV) (i j : Nat), (ovGo ov l i)[j]? = l[j]?.map fun a => (ov.get (i + j)).getD a
  | [], i, j => by simp [ovGo]
  | a :: l, i, j => by
    cases j with
    | zero => simp [ovGo]
    | succ j => simp only [ovGo, List.getElem?_cons_succ]; rw [ovGo_get ov l (i + 1) j]; simp [Nat.add_assoc, Nat.add_comm 1 j]
theorem ovl_eq (ov : Tr AV) (l : List AV) (i : Nat) : ovl ov l i = ovGo ov l i := by
  cases ov with
  | nil => apply List.ext_getElem?; intro j; rw [ovGo_get]; simp [ovl]
  | node l v r => rfl
theorem ovl_get (ov : Tr AV) (l : List AV) (i j : Nat) : (ovl ov l i)[j]? = l[j]?.map fun a => (ov.get (i + j)).getD a := by rw [ovl_eq, ovGo_get]
theorem ovl_length (ov : Tr AV) (l : List AV) (i : Nat) : (ovl ov l i).length = l.length := by
  rw [ovl_eq]
  induction l generalizing i with
  | nil => rfl
  | cons a l ih => simp [ovGo, ih]
theorem ovl_nil (l : List AV) (i : Nat) : ovl .nil l i = l := rfl
theorem ovl_part (ov : Tr AV) (l : List AV) (off n : Nat) : ovl ov ((l.drop off).take n) off = ((ovl ov l 0).drop off).take n := by
  apply List.ext_getElem?
  intro j
  rw [ovl_get]
  by_cases h : j < n
  · rw [List.getElem?_take_of_lt h, List.getElem?_take_of_lt h, List.getElem?_drop, List.getElem?_drop, ovl_get]; simp
  · simp [List.getElem?_take, h]
theorem ovl_put (ov : Tr AV) (l : List AV) (off : Nat) (x : AV) : ovl (ov.put off (some x)) l 0 = (ovl ov l 0).set off x := by
  apply List.ext_getElem?
  intro j
  rw [ovl_get, List.getElem?_set, ovl_get, ovl_length]
  simp only [Nat.zero_add]
  rw [Tr.get_put]
  by_cases h : j = off
  · subst h
    simp only [if_true]
    by_cases h' : j < l.length
    · simp [h']
    · simp [h']
  · rw [if_neg h, if_neg (fun e => h e.symm)]
theorem nthCell_eq : ∀ (l : List AV) (n : Nat), nthCell l n = l[n]?
  | [], _ => rfl
  | a :: l, 0 => rfl
  | a :: l, n + 1 => by show nthCell l n = _; rw [nthCell_eq l n]; simp

/-! ### Memories -/
theorem AMem.get_eq (m : AMem) (i : Nat) : m.get i = if i < m.next then m.blks.get i else none := by
  unfold AMem.get
  by_cases h : i < m.next
  · have : Nat.blt i m.next = true := by simpa [Nat.blt_eq] using h
    rw [this, if_pos h]
  · have : Nat.blt i m.next = false := by
      cases hb : Nat.blt i m.next with
      | false => rfl
      | true => exact absurd (by simpa [Nat.blt_eq] using hb) h
    rw [this, if_neg h]
theorem AMem.get_lt {m : AMem} {i : Nat} {A : ABlk} (h : m.get i = some A) : i < m.next := by
  rw [AMem.get_eq] at h; split at h
  · assumption
  · cases h
theorem AMem.get_ge {m : AMem} {i : Nat} (h : m.next ≤ i) : m.get i = none := by rw [AMem.get_eq, if_neg (by omega)]
theorem AMem.get_add_new (m : AMem) (b : ABlk) : (m.add b).get m.next = some b := by
  rw [AMem.get_eq, if_pos (by simp [AMem.add])]; exact Tr.get_put_same _ _ _
theorem AMem.get_add_old (m : AMem) (b : ABlk) {i : Nat} (h : i ≠ m.next) : (m.add b).get i = m.get i := by
  rw [AMem.get_eq, AMem.get_eq]
  have : (m.add b).blks.get i = m.blks.get i := Tr.get_put_other _ _ h
  rw [this]
  by_cases hi : i < m.next
  · rw [if_pos hi, if_pos (by simp [AMem.add]; omega)]
  · rw [if_neg hi, if_neg (by simp [AMem.add]; omega)]
theorem AMem.get_put_same (m : AMem) (i : Nat) (b : ABlk) (h : i < m.next) : (m.put i b).get i = some b := by
  rw [AMem.get_eq, if_pos (by exact h)]; exact Tr.get_put_same _ _ _
theorem AMem.get_put_other (m : AMem) {i j : Nat} (b : ABlk) (h : j ≠ i) : (m.put i b).get j = m.get j := by
  rw [AMem.get_eq, AMem.get_eq]
  have : (m.put i b).blks.get j = m.blks.get j := Tr.get_put_other _ _ h
  rw [this]; rfl
theorem AMem.get_kill_same (m : AMem) (i : Nat) : (m.kill i).get i = none := by
  rw [AMem.get_eq]
  have : (m.kill i).blks.get i = none := Tr.get_put_same _ _ _
  rw [this]; split <;> rfl
theorem AMem.get_kill_other (m : AMem) {i j : Nat} (h : j ≠ i) : (m.kill i).get j = m.get j := by
  rw [AMem.get_eq, AMem.get_eq]
  have : (m.kill i).blks.get j = m.blks.get j := Tr.get_put_other _ _ h
  rw [this]; rfl
@[simp] theorem AMem.add_next (m : AMem) (b : ABlk) : (m.add b).next = m.next + 1 := rfl
@[simp] theorem AMem.put_next (m : AMem) (i : Nat) (b : ABlk) : (m.put i b).next = m.next := rfl
@[simp] theorem AMem.kill_next (m : AMem) (i : Nat) : (m.kill i).next = m.next := rfl

/-! ### Values -/
structure Loc where
  b : Nat
  sh : Nat
  n : Nat

abbrev Mu := Nat → Option Loc

mutual
def VRel (μ : Mu) : AV → Value → Prop
  | .bool b, v => v = .bool b
  | .int k n, v => v = .int k n
  | .str l, v => v = .string ⟨(l.map UInt8.ofNat).toArray⟩ ∧ ∀ x ∈ l, x < 256
  | .nilptr, v => v = .pointer none
  | .ptr id off, v => ∃ L, μ id = some L ∧ v = .pointer (some ⟨L.b, L.sh + off, none⟩)
  | .nilslice, v => v = .slice none 0 0
  | .slice id off len cap, v => ∃ L o, μ id = some L ∧ v = .slice (some ⟨L.b, o, none⟩) len cap ∧ (o = L.sh + off ∨ cap = 0) ∧ len ≤ cap
  | .oslice id off len es, v => ∃ L o c, μ id = some L ∧ v = .slice (some ⟨L.b, o, none⟩) len c ∧ len ≤ c ∧
      (o = L.sh + off ∧ o + c * es = L.n ∨ c = 0 ∧ L.sh + off = L.n)
  | .nilmap, v => v = .map none
  | .map id, v => ∃ L, μ id = some L ∧ v = .map (some L.b)
  | .nilfunc, v => v = .nilFunc
  | .func f a c, v => ∃ as cs, v = .func (.func f) ⟨as⟩ ⟨cs⟩ ∧ VsRel μ a as ∧ VsRel μ c cs
  | .yieldf l, v => ∃ L, μ l = some L ∧ v = .func (.yield L.b) #[] #[]
  | .nilif, v => v = .nilIface
  | .iface t a, v => ∃ x, v = .iface t x ∧ VRel μ a x
  | .agg l, v => ∃ vs, v = .agg ⟨vs⟩ ∧ VsRel μ l vs ∧ l.all AV.scalar = true
  | .tup l, v => ∃ vs, v = .tuple ⟨vs⟩ ∧ VsRel μ l vs
def VsRel (μ : Mu) : List AV → List Value → Prop
  | [], vs => vs = []
  | a :: l, vs => ∃ v r, vs = v :: r ∧ VRel μ a v ∧ VsRel μ l r
end

def Mu.le (μ μ' : Mu) : Prop := ∀ id L, μ id = some L → μ' id = some L

mutual
theorem VRel.mono {μ μ' : Mu} (h : μ.le μ') : ∀ {a : AV} {v : Value}, VRel μ a v → VRel μ' a v
  | .bool _, _, hv => hv
  | .int _ _, _, hv => hv
  | .str _, _, hv => hv
  | .nilptr, _, hv => hv
  | .ptr _ _, _, ⟨L, hL, e⟩ => ⟨L, h _ _ hL, e⟩
  | .nilslice, _, hv => hv
  | .slice _ _ _ _, _, ⟨L, o, hL, e⟩ => ⟨L, o, h _ _ hL, e⟩
  | .oslice _ _ _ _, _, ⟨L, o, c, hL, e⟩ => ⟨L, o, c, h _ _ hL, e⟩
  | .nilmap, _, hv => hv
  | .map _, _, ⟨L, hL, e⟩ => ⟨L, h _ _ hL, e⟩
  | .nilfunc, _, hv => hv
  | .func _ a c, _, ⟨as, cs, e, h1, h2⟩ => ⟨as, cs, e, VsRel.mono h (l := a) h1, VsRel.mono h (l := c) h2⟩
  | .yieldf _, _, ⟨L, hL, e⟩ => ⟨L, h _ _ hL, e⟩
  | .nilif, _, hv => hv
  | .iface _ a, _, ⟨x, e, h1⟩ => ⟨x, e, VRel.mono h (a := a) h1⟩
  | .agg l, _, ⟨vs, e, h1, h2⟩ => ⟨vs, e, VsRel.mono h (l := l) h1, h2⟩
  | .tup l, _, ⟨vs, e, h1⟩ => ⟨vs, e, VsRel.mono h (l := l) h1⟩
theorem VsRel.mono {μ μ' : Mu} (h : μ.le μ') : ∀ {l : List AV} {vs : List Value}, VsRel μ l vs → VsRel μ' l vs
  | [], _, hv => hv
  | a :: l, _, ⟨v, r, e, h1, h2⟩ => ⟨v, r, e, VRel.mono h (a := a) h1, VsRel.mono h (l := l) h2⟩
end

theorem Mu.le_refl (μ : Mu) : μ.le μ := fun _ _ h => h
theorem Mu.le_trans {μ μ' μ'' : Mu} (h : μ.le μ') (h' : μ'.le μ'') : μ.le μ'' := fun _ _ e => h' _ _ (h _ _ e)

section vs
variable {μ : Mu}
theorem VsRel.length : ∀ {l : List AV} {vs : List Value}, VsRel μ l vs → l.length = vs.length
  | [], _, h => by cases h; rfl
  | _ :: l, _, ⟨_, _, e, _, h⟩ => by subst e; simp [VsRel.length (l := l) h]
theorem VsRel.nil : VsRel μ [] [] := rfl
theorem VsRel.cons {a : AV} {v : Value} {l : List AV} {vs : List Value} (h : VRel μ a v) (h' : VsRel μ l vs) : VsRel μ (a :: l) (v :: vs) := ⟨v, vs, rfl, h, h'⟩
theorem VsRel.get : ∀ {l : List AV} {vs : List Value}, VsRel μ l vs → ∀ (i : Nat) (a : AV), l[i]? = some a → ∃ v, vs[i]? = some v ∧ VRel μ a v
  | [], _, _, i, a, h => by simp at h
  | x :: l, _, ⟨v, r, e, h1, h2⟩, i, a, h => by
    subst e
    cases i with
    | zero => simp at h; subst h; exact ⟨v, rfl, h1⟩
    | succ i => simpa using VsRel.get (l := l) h2 i a (by simpa using h)
theorem VsRel.of_get : ∀ {l : List AV} {vs : List Value}, l.length = vs.length → (∀ (i : Nat) (a : AV) (v : Value), l[i]? = some a → vs[i]? = some v → VRel μ a v) → VsRel μ l vs
  | [], [], _, _ => rfl
  | [], _ :: _, h, _ => by simp at h
  | _ :: _, [], h, _ => by simp at h
  | x :: l, v :: vs, h, hh => .cons (hh 0 x v rfl rfl) (VsRel.of_get (by simpa using h) fun i a u h1 h2 => hh (i + 1) a u (by simpa using h1) (by simpa using h2))
theorem VsRel.append {l l' : List AV} {vs vs' : List Value} (h : VsRel μ l vs) (h' : VsRel μ l' vs') : VsRel μ (l ++ l') (vs ++ vs') := by
  induction l generalizing vs with
  | nil => cases h; exact h'
  | cons a l ih => obtain ⟨v, r, rfl, h1, h2⟩ := h; exact .cons h1 (ih h2)
theorem VsRel.take {l : List AV} {vs : List Value} (h : VsRel μ l vs) (n : Nat) : VsRel μ (l.take n) (vs.take n) := by
  induction l generalizing vs n with
  | nil => cases h; simp [VsRel]
  | cons a l ih =>
    obtain ⟨v, r, rfl, h1, h2⟩ := h
    cases n with
    | zero => exact VsRel.nil
    | succ n => exact .cons h1 (ih h2 n)
theorem VsRel.drop {l : List AV} {vs : List Value} (h : VsRel μ l vs) (n : Nat) : VsRel μ (l.drop n) (vs.drop n) := by
  induction l generalizing vs n with
  | nil => cases h; simp [VsRel]
  | cons a l ih =>
    obtain ⟨v, r, rfl, h1, h2⟩ := h
    cases n with
    | zero => exact .cons h1 h2
    | succ n => exact ih h2 n
theorem VRel.one {a : AV} {v : Value} (ha : a.scalar = true) (h : VRel μ a v) : v.oneCell' = true := by
  cases a <;> simp only [VRel] at h
  case agg l => simp [AV.scalar] at ha
  case tup l => simp [AV.scalar] at ha
  case bool b => subst h; rfl
  case int b => subst h; rfl
  case str b => obtain ⟨rfl, h⟩ := h; rfl
  case nilptr => subst h; rfl
  case ptr => obtain ⟨L, h, rfl⟩ := h; rfl
  case nilslice => subst h; rfl
  case slice => obtain ⟨L, o, h, rfl, h'⟩ := h; rfl
  case oslice => obtain ⟨L, o, c, h, rfl, h'⟩ := h; rfl
  case nilmap => subst h; rfl
  case map => obtain ⟨L, h, rfl⟩ := h; rfl
  case nilfunc => subst h; rfl
  case func => obtain ⟨L, o, rfl, h'⟩ := h; rfl
  case yieldf => obtain ⟨L, h, rfl⟩ := h; rfl
  case nilif => subst h; rfl
  case iface => obtain ⟨x, rfl, h'⟩ := h; rfl
theorem VRel.cells {a : AV} {v : Value} (h : VRel μ a v) : VsRel μ a.cells v.cells.toList := by
  cases a <;> simp only [VRel, AV.cells] at h ⊢
  case agg l => obtain ⟨vs, rfl, h1, _⟩ := h; exact h1
  case bool b => subst h; exact .cons rfl .nil
  case int b => subst h; exact .cons rfl .nil
  case str b => obtain ⟨rfl, h⟩ := h; exact .cons ⟨rfl, h⟩ .nil
  case nilptr => subst h; exact .cons rfl .nil
  case ptr => obtain ⟨L, h, rfl⟩ := h; exact .cons ⟨L, h, rfl⟩ .nil
  case nilslice => subst h; exact .cons rfl .nil
  case slice => obtain ⟨L, o, h, rfl, h'⟩ := h; exact .cons ⟨L, o, h, rfl, h'⟩ .nil
  case oslice => obtain ⟨L, o, c, h, rfl, h'⟩ := h; exact .cons ⟨L, o, c, h, rfl, h'⟩ .nil
  case nilmap => subst h; exact .cons rfl .nil
  case map => obtain ⟨L, h, rfl⟩ := h; exact .cons ⟨L, h, rfl⟩ .nil
  case nilfunc => subst h; exact .cons rfl .nil
  case func => obtain ⟨L, o, rfl, h'⟩ := h; exact .cons ⟨L, o, rfl, h'⟩ .nil
  case yieldf => obtain ⟨L, h, rfl⟩ := h; exact .cons ⟨L, h, rfl⟩ .nil
  case nilif => subst h; exact .cons rfl .nil
  case iface => obtain ⟨x, rfl, h'⟩ := h; exact .cons ⟨x, rfl, h'⟩ .nil
  case tup => obtain ⟨x, rfl, h'⟩ := h; exact .cons ⟨x, rfl, h'⟩ .nil
theorem VsRel.one {l : List AV} {vs : List Value} (hl : l.all AV.scalar = true) (h : VsRel μ l vs) : ∀ v ∈ vs, v.oneCell' = true := by
  induction l generalizing vs with
  | nil => cases h; simp
  | cons a l ih =>
    obtain ⟨v, r, rfl, h1, h2⟩ := h
    simp only [List.all_cons, Bool.and_eq_true] at hl
    intro x hx
    rcases List.mem_cons.1 hx with rfl | hx
    · exact h1.one hl.1
    · exact ih hl.2 h2 x hx
end vs

/-! ### Blocks and memories against the model's heap -/
def EsRel (μ : Mu) : List (AV × AV) → List MapEntry → Prop
  | [], es => es = []
  | (k, v) :: l, es => ∃ e r, es = e :: r ∧ VRel μ k e.key ∧ VRel μ v e.val ∧ EsRel μ l r

def exCode : Ex → Option Code
  | .normal => none
  | .exit id => some (.exit id)
  | .ret => some .ret

def TRel (μ : Mu) (tm : Tr AV) (tmps : Array Value) : Prop := ∀ t, VRel μ ((tm.get t).getD .undef) (tmps.getD t undef)

def BRel (μ : Mu) (A : ABlk) (L : Loc) (w : World) : Prop :=
  match A with
  | .row size cells ov closed => ∃ c elem lo hi, w.heap[L.b]? = some (.cells c elem (lo, hi)) ∧ c.size = L.n ∧ cells.length = size ∧ L.sh + size ≤ L.n ∧
      (closed = true → L.sh = 0 ∧ size = L.n) ∧ (lo = hi ∨ L.n ≤ lo) ∧ (ovl ov cells 0).all AV.scalar = true ∧ VsRel μ (ovl ov cells 0) ((c.toList.drop L.sh).take size)
  | .map es => ∃ ents clock, w.heap[L.b]? = some (.map ents clock) ∧ EsRel μ es ents.toList
  | .loop st pend tm ps asg bd => ∃ R : Loop, w.heap[L.b]? = some (.loop R) ∧ R.state = st ∧ R.pending = pend.bind exCode ∧ R.params.toList = ps ∧ R.assign = asg ∧ R.body = bd ∧
      TRel μ tm R.tmps ∧ okCode R.tmps.size asg = true ∧ okCode R.tmps.size bd = true ∧ (∀ p ∈ ps, p < R.tmps.size) ∧ (∀ e, pend = some e → e ≠ .normal)

theorem EsRel.mono {μ μ' : Mu} (h : μ.le μ') : ∀ {l : List (AV × AV)} {es : List MapEntry}, EsRel μ l es → EsRel μ' l es
  | [], _, he => he
  | (_, _) :: l, _, ⟨e, r, h0, h1, h2, h3⟩ => ⟨e, r, h0, h1.mono h, h2.mono h, EsRel.mono h (l := l) h3⟩
theorem TRel.mono {μ μ' : Mu} (h : μ.le μ') {tm : Tr AV} {tmps : Array Value} (ht : TRel μ tm tmps) : TRel μ' tm tmps := fun t => (ht t).mono h
theorem BRel.mono {μ μ' : Mu} (h : μ.le μ') {A : ABlk} {L : Loc} {w : World} (hb : BRel μ A L w) : BRel μ' A L w := by
  cases A with
  | row size cells ov closed => obtain ⟨c, e, lo, hi, h1, h2, h3, h4, h5, h6, h7, h8⟩ := hb; exact ⟨c, e, lo, hi, h1, h2, h3, h4, h5, h6, h7, h8.mono h⟩
  | map es => obtain ⟨ents, clock, h1, h2⟩ := hb; exact ⟨ents, clock, h1, h2.mono h⟩
  | loop st pend tm ps asg bd => obtain ⟨R, h1, h2, h3, h4, h5, h6, h7, h8⟩ := hb; exact ⟨R, h1, h2, h3, h4, h5, h6, h7.mono h, h8⟩
theorem BRel.heap {μ : Mu} {A : ABlk} {L : Loc} {w w' : World} (hb : BRel μ A L w) (h : w'.heap[L.b]? = w.heap[L.b]?) : BRel μ A L w' := by
  cases A <;> simp only [BRel, h] at hb ⊢ <;> exact hb
theorem BRel.lt {μ : Mu} {A : ABlk} {L : Loc} {w : World} (hb : BRel μ A L w) : L.b < w.heap.size := by
  cases A with
  | row size cells ov closed => obtain ⟨c, e, lo, hi, h1, _⟩ := hb; exact (Array.getElem?_eq_some_iff.1 h1).1
  | map es => obtain ⟨ents, clock, h1, h2⟩ := hb; exact (Array.getElem?_eq_some_iff.1 h1).1
  | loop st pend tm ps asg bd => obtain ⟨R, h1, _⟩ := hb; exact (Array.getElem?_eq_some_iff.1 h1).1

structure Rep (μ : Mu) (m : AMem) (w : World) : Prop where
  blk : ∀ id A L, m.get id = some A → μ id = some L → BRel μ A L w
  inj : ∀ id id' A A' L L', m.get id = some A → m.get id' = some A' → μ id = some L → μ id' = some L' → L.b = L'.b → id = id'

/-- is block b one of those that the memory describes? -/
def Owned (μ : Mu) (m : AMem) (b : Nat) : Prop := ∃ id A L, m.get id = some A ∧ μ id = some L ∧ L.b = b

structure Step (μ : Mu) (m : AMem) (w : World) (μ' : Mu) (m' : AMem) (w' : World) : Prop where
  next : m.next ≤ m'.next
  old : ∀ id, (id < m.next ∨ m'.next ≤ id) → μ' id = μ id
  le : μ.le μ'
  rep : Rep μ' m' w'
  size : w.heap.size ≤ w'.heap.size
  own : ∀ b, Owned μ' m' b → b < w.heap.size → Owned μ m b
  frame : ∀ b, b < w.heap.size → ¬ Owned μ m b → w'.heap[b]? = w.heap[b]?
  rest : w'.os = w.os ∧ w'.output = w.output ∧ w'.tape = w.tape

/-- the numbers that are still to be given are free -/
def Fresh (μ : Mu) (a b : Nat) : Prop := ∀ id, a ≤ id → id < b → μ id = none

theorem Step.refl {μ : Mu} {m : AMem} {w : World} (h : Rep μ m w) : Step μ m w μ m w :=
  ⟨Nat.le_refl _, fun _ _ => rfl, Mu.le_refl _, h, Nat.le_refl _, fun _ h _ => h, fun _ _ _ => rfl, rfl, rfl, rfl⟩

theorem Step.trans {μ μ₁ μ₂ : Mu} {m m₁ m₂ : AMem} {w w₁ w₂ : World} (h : Step μ m w μ₁ m₁ w₁) (h' : Step μ₁ m₁ w₁ μ₂ m₂ w₂) : Step μ m w μ₂ m₂ w₂ where
  next := Nat.le_trans h.next h'.next
  old := fun id hid => by
    have := h.next; have := h'.next
    rw [h'.old id (by omega), h.old id (by omega)]
  le := Mu.le_trans h.le h'.le
  rep := h'.rep
  size := Nat.le_trans h.size h'.size
  own := fun b hb hlt => h.own b (h'.own b hb (by have := h.size; omega)) hlt
  frame := fun b hlt hn => by
    rw [h'.frame b (by have := h.size; omega) (fun ho => hn (h.own b ho hlt)), h.frame b hlt hn]
  rest := ⟨h'.rest.1.trans h.rest.1, h'.rest.2.1.trans h.rest.2.1, h'.rest.2.2.trans h.rest.2.2⟩

theorem Step.fresh {μ μ₁ : Mu} {m m₁ : AMem} {w w₁ : World} (h : Step μ m w μ₁ m₁ w₁) {b : Nat} (hf : Fresh μ m.next b) : Fresh μ₁ m₁.next b := by
  intro id h1 h2
  have := h.next
  rw [h.old id (Or.inr h1)]; exact hf id (by omega) h2

end Ev
