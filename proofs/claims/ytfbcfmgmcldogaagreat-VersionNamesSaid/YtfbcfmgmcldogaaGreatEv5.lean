/-
  Strings; bools; what is compared cell by cell.
-/
import Derived.Test.YtfbcfmgmcldogaaGreatEv4
import Derived.Laws.Strings
import Derived.Laws.Concat
namespace Ev
open Go

/-! ### Strings -/
def strV (l : List Nat) : ByteArray := ⟨(l.map UInt8.ofNat).toArray⟩

theorem ofNat_inj {a b : Nat} (ha : a < 256) (hb : b < 256) (h : UInt8.ofNat a = UInt8.ofNat b) : a = b := by
  have := congrArg UInt8.toNat h
  simp at this; omega
theorem map_inj : ∀ {l r : List Nat}, (∀ x ∈ l, x < 256) → (∀ x ∈ r, x < 256) → l.map UInt8.ofNat = r.map UInt8.ofNat → l = r
  | [], [], _, _, _ => rfl
  | [], _ :: _, _, _, h => by simp at h
  | _ :: _, [], _, _, h => by simp at h
  | a :: l, b :: r, hl, hr, h => by
    simp only [List.map_cons, List.cons.injEq] at h
    rw [ofNat_inj (hl a (by simp)) (hr b (by simp)) h.1, map_inj (fun x hx => hl x (by simp [hx])) (fun x hx => hr x (by simp [hx])) h.2]
theorem eqList_iff : ∀ (l r : List Nat), eqList l r = true ↔ l = r
  | [], [] => by simp [eqList]
  | [], _ :: _ => by simp [eqList]
  | _ :: _, [] => by simp [eqList]
  | a :: l, b :: r => by
    show (Bool.casesOn (motive := fun _ => Bool) (Nat.beq a b) false (eqList l r)) = true ↔ _
    rw [bsel]
    have : (Nat.beq a b = true) = (a = b) := by rw [Nat.beq_eq]
    simp only [this, List.cons.injEq]
    split
    · rename_i h; rw [eqList_iff l r]; simp [h]
    · rename_i h; simp [h]
theorem strV_eq {l r : List Nat} (hl : ∀ x ∈ l, x < 256) (hr : ∀ x ∈ r, x < 256) : (strV l = strV r) ↔ l = r := by
  constructor
  · intro h
    have : (strV l).data.toList = (strV r).data.toList := by rw [h]
    exact map_inj hl hr (by simpa [strV] using this)
  · rintro rfl; rfl
theorem strV_beq {l r : List Nat} (hl : ∀ x ∈ l, x < 256) (hr : ∀ x ∈ r, x < 256) : (strV l == strV r) = eqList l r := by
  have e : (strV l == strV r) = ((strV l).data == (strV r).data) := rfl
  rw [Bool.eq_iff_iff, eqList_iff, ← strV_eq hl hr, e, beq_iff_eq]
  constructor
  · intro h; cases hh : strV l; cases hh' : strV r; rw [hh, hh'] at h; simp at h; rw [h]
  · intro h; rw [h]
theorem strV_size (l : List Nat) : (strV l).size = l.length := by simp [strV, ByteArray.size]
theorem strV_data (l : List Nat) : (strV l).data.toList = l.map UInt8.ofNat := by simp [strV]

theorem less_eq : ∀ {l r : List Nat}, (∀ x ∈ l, x < 256) → (∀ x ∈ r, x < 256) → Op.bytesLess (l.map UInt8.ofNat) (r.map UInt8.ofNat) = strLess l r
  | [], [], _, _ => rfl
  | [], _ :: _, _, _ => rfl
  | _ :: _, [], _, _ => rfl
  | a :: l, b :: r, hl, hr => by
    have ha := hl a (by simp)
    have hb := hr b (by simp)
    simp only [List.map_cons, Op.bytesLess, strLess]
    rw [less_eq (fun x hx => hl x (by simp [hx])) (fun x hx => hr x (by simp [hx]))]
    have h1 : decide (UInt8.ofNat a < UInt8.ofNat b) = Nat.blt a b := by
      rw [Bool.eq_iff_iff, decide_eq_true_iff, blt_iff, UInt8.lt_iff_toNat_lt]
      simp; omega
    have h2 : (UInt8.ofNat a == UInt8.ofNat b) = Nat.beq a b := by
      rw [Bool.eq_iff_iff, beq_iff_eq, Nat.beq_eq]
      exact ⟨ofNat_inj ha hb, fun h => by rw [h]⟩
    rw [h1, h2]

section
variable {P : Program} {w : World}
theorem str_run {op : BinOp} {t : Nat} {a b : List Nat} {r : AV} (h : evStr op a b = some r) (ha : ∀ x ∈ a, x < 256) (hb : ∀ x ∈ b, x < 256) :
    ∃ v, (binOp op t (.string (strV a)) (.string (strV b))).run P w = .ok v w ∧ ∀ μ, VRel μ r v := by
  have eqv : ((strV a).toList == (strV b).toList) = eqList a b := by
    rw [ByteArray.toList_eq, ByteArray.toList_eq, strV_data, strV_data, Bool.eq_iff_iff, eqList_iff, beq_iff_eq]
    exact ⟨map_inj ha hb, fun h => by rw [h]⟩
  have ltv : Op.bytesLess (strV a).toList (strV b).toList = strLess a b := by
    rw [ByteArray.toList_eq, ByteArray.toList_eq, strV_data, strV_data, less_eq ha hb]
  have hrun : ∀ op, op ≠ BinOp.shl → op ≠ .shr → binOp op t (.string (strV a)) (.string (strV b)) = Op.stringOp op (strV a) (strV b) := by
    intro op h1 h2; cases op <;> first | rfl | exact absurd rfl h1 | exact absurd rfl h2
  cases op <;> simp only [evStr] at h <;> (try cases h) <;> rw [hrun _ (by simp) (by simp)] <;> simp only [Op.stringOp, eqv, ltv]
  case add =>
    split at h
    · rename_i hl
      rw [blt_iff] at hl
      cases h
      have hsz : ¬ ((((strV a).size + (strV b).size : Nat) : Int) > IntKind.i64.max) := by
        rw [strV_size, strV_size]; simp [IntKind.max, IntKind.signed, IntKind.bits]; omega
      simp only [hsz, if_false, Sem.run_pure]
      refine ⟨_, rfl, fun μ => ⟨?_, ?_⟩⟩
      · congr 1
        show strV a ++ strV b = strV (a ++ b)
        unfold strV; rw [ByteArray.mk_append_mk, List.map_append]
      · intro x hx
        rcases List.mem_append.1 hx with h | h
        · exact ha x h
        · exact hb x h
    · cases h
  all_goals exact ⟨_, rfl, fun μ => rfl⟩

/-! ### Cells compared one by one -/
/-- what two related cells' comparison says of the model's values -/
theorem eqCell_ok {μ : Mu} {k : CK} {a b : AV} {x y : Value} {r : Bool} (h : eqCell k a b = some r) (hx : VRel μ a x) (hy : VRel μ b y) :
    (∃ p q, k = .bool ∧ x = .bool p ∧ y = .bool q ∧ r = (p == q)) ∨ (∃ j p q, k = .int ∧ x = .int j p ∧ y = .int j q ∧ r = (p == q)) ∨
      (∃ p q : ByteArray, k = .str ∧ x = .string p ∧ y = .string q ∧ r = (p == q)) := by
  cases k with
  | bool =>
    simp only [eqCell, eqBoolC] at h
    cases h1 : a.asBool with
    | none => rw [h1] at h; cases h
    | some p =>
      rw [h1] at h
      cases h2 : b.asBool with
      | none => rw [h2] at h; cases h
      | some q =>
        rw [h2] at h
        have e1 := asBool_eq h1; have e2 := asBool_eq h2
        subst e1; subst e2
        left
        refine ⟨p, q, rfl, hx, hy, ?_⟩
        have h' : some (eqBool p q) = some r := h
        rw [← Option.some.inj h']
        cases p <;> cases q <;> rfl
  | int =>
    simp only [eqCell, eqIntC] at h
    cases h1 : a.asInt with
    | none => rw [h1] at h; cases h
    | some p =>
      rw [h1] at h
      cases h2 : b.asInt with
      | none => rw [h2] at h; cases h
      | some q =>
        rw [h2] at h
        have e1 := asInt_eq h1; have e2 := asInt_eq h2
        subst e1; subst e2
        simp only at h
        right; left
        cases hk : eqK p.1 q.1 with
        | false => rw [hk] at h; cases h
        | true =>
          rw [hk] at h
          have hkk : p.1 = q.1 := of_decide_eq_true hk
          refine ⟨p.1, p.2, q.2, rfl, hx, by rw [hkk]; exact hy, ?_⟩
          have h' : some (eqI p.2 q.2) = some r := h
          rw [← Option.some.inj h', eqI_eq]
  | str =>
    simp only [eqCell, eqStrC] at h
    cases h1 : a.asStr with
    | none => rw [h1] at h; cases h
    | some p =>
      rw [h1] at h
      cases h2 : b.asStr with
      | none => rw [h2] at h; cases h
      | some q =>
        rw [h2] at h
        have e1 := asStr_eq h1; have e2 := asStr_eq h2
        subst e1; subst e2
        right; right
        obtain ⟨hx1, hx2⟩ := hx
        obtain ⟨hy1, hy2⟩ := hy
        refine ⟨strV p, strV q, rfl, hx1, hy1, ?_⟩
        have h' : some (eqList p q) = some r := h
        rw [← Option.some.inj h', strV_beq hx2 hy2]

/-- comparing a list of values at kinds -/
def eqVals : List CK → List Value → List Value → Option Bool
  | [], [], [] => some true
  | k :: ks, x :: xs, y :: ys => match k, x, y with
    | .bool, .bool p, .bool q => if p == q then eqVals ks xs ys else (eqVals ks xs ys).map fun _ => false
    | .int, .int j p, .int j' q => if j = j' then (if p == q then eqVals ks xs ys else (eqVals ks xs ys).map fun _ => false) else none
    | .str, .string p, .string q => if p == q then eqVals ks xs ys else (eqVals ks xs ys).map fun _ => false
    | _, _, _ => none
  | _, _, _ => none

theorem eqCells_vals {μ : Mu} : ∀ {ks : List CK} {a b : List AV} {xs ys : List Value} {r : Bool}, eqCells ks a b = some r → VsRel μ a xs → VsRel μ b ys → eqVals ks xs ys = some r
  | [], [], [], _, _, r, h, hx, hy => by cases hx; cases hy; simpa [eqCells, eqVals] using h
  | [], [], _ :: _, _, _, r, h, _, _ => by simp [eqCells] at h
  | [], _ :: _, _, _, _, r, h, _, _ => by simp [eqCells] at h
  | _ :: _, [], _, _, _, r, h, _, _ => by simp [eqCells] at h
  | _ :: _, _ :: _, [], _, _, r, h, _, _ => by simp [eqCells] at h
  | k :: ks, a :: as, b :: bs, _, _, r, h, hx, hy => by
    obtain ⟨x, xs, rfl, hx1, hx2⟩ := hx
    obtain ⟨y, ys, rfl, hy1, hy2⟩ := hy
    simp only [eqCells] at h
    cases hc : eqCell k a b with
    | none => rw [hc] at h; cases h
    | some c =>
      rw [hc] at h
      have key := eqCell_ok hc hx1 hy1
      cases c with
      | true =>
        have ih := eqCells_vals (ks := ks) (a := as) (b := bs) (r := r) h hx2 hy2
        rcases key with ⟨p, q, rfl, rfl, rfl, e⟩ | ⟨j, p, q, rfl, rfl, rfl, e⟩ | ⟨p, q, rfl, rfl, rfl, e⟩ <;> simp [eqVals, ← e, ih]
      | false =>
        simp only at h
        cases hr : eqCells ks as bs with
        | none => rw [hr] at h; cases h
        | some r' =>
          rw [hr] at h
          have ih := eqCells_vals (ks := ks) (a := as) (b := bs) (r := r') hr hx2 hy2
          cases h
          rcases key with ⟨p, q, rfl, rfl, rfl, e⟩ | ⟨j, p, q, rfl, rfl, rfl, e⟩ | ⟨p, q, rfl, rfl, rfl, e⟩ <;> simp [eqVals, ← e, ih]

theorem eqVals_length : ∀ {ks : List CK} {xs ys : List Value} {r : Bool}, eqVals ks xs ys = some r → xs.length = ks.length ∧ ys.length = ks.length
  | [], [], [], _, _ => ⟨rfl, rfl⟩
  | [], [], _ :: _, _, h => by simp [eqVals] at h
  | [], _ :: _, _, _, h => by simp [eqVals] at h
  | _ :: _, [], _, _, h => by simp [eqVals] at h
  | _ :: _, _ :: _, [], _, h => by simp [eqVals] at h
  | k :: ks, x :: xs, y :: ys, r, h => by
    have : ∃ r', eqVals ks xs ys = some r' := by
      simp only [eqVals] at h
      split at h
      · split at h
        · exact ⟨_, h⟩
        · obtain ⟨r', h', _⟩ := Option.map_eq_some_iff.1 h; exact ⟨r', h'⟩
      · split at h
        · split at h
          · exact ⟨_, h⟩
          · obtain ⟨r', h', _⟩ := Option.map_eq_some_iff.1 h; exact ⟨r', h'⟩
        · cases h
      · split at h
        · exact ⟨_, h⟩
        · obtain ⟨r', h', _⟩ := Option.map_eq_some_iff.1 h; exact ⟨r', h'⟩
      · cases h
    obtain ⟨r', hr'⟩ := this
    have := eqVals_length hr'
    simp [this.1, this.2]

/-- the kinds split: so does the comparison -/
theorem eqVals_append : ∀ {ks₁ ks₂ : List CK} {xs₁ xs₂ ys₁ ys₂ : List Value} {r : Bool}, xs₁.length = ks₁.length → ys₁.length = ks₁.length →
    eqVals (ks₁ ++ ks₂) (xs₁ ++ xs₂) (ys₁ ++ ys₂) = some r → ∃ r₁ r₂, eqVals ks₁ xs₁ ys₁ = some r₁ ∧ eqVals ks₂ xs₂ ys₂ = some r₂ ∧ r = (r₁ && r₂)
  | [], ks₂, [], xs₂, [], ys₂, r, _, _, h => ⟨true, r, rfl, by simpa using h, by simp⟩
  | [], _, _ :: _, _, _, _, _, h, _, _ => by simp at h
  | [], _, [], _, _ :: _, _, _, _, h, _ => by simp at h
  | _ :: _, _, [], _, _, _, _, h, _, _ => by simp at h
  | _ :: _, _, _ :: _, _, [], _, _, _, h, _ => by simp at h
  | k :: ks₁, ks₂, x :: xs₁, xs₂, y :: ys₁, ys₂, r, hx, hy, h => by
    have hx' : xs₁.length = ks₁.length := by simpa using hx
    have hy' : ys₁.length = ks₁.length := by simpa using hy
    simp only [List.cons_append, eqVals] at h
    split at h
    · rename_i p q
      split at h
      · rename_i hpq
        obtain ⟨r₁, r₂, h1, h2, h3⟩ := eqVals_append hx' hy' h
        exact ⟨r₁, r₂, by simp [eqVals, hpq, h1], h2, h3⟩
      · rename_i hpq
        obtain ⟨r', h', rfl⟩ := Option.map_eq_some_iff.1 h
        obtain ⟨r₁, r₂, h1, h2, h3⟩ := eqVals_append hx' hy' h'
        exact ⟨false, r₂, by simp [eqVals, hpq, h1], h2, by simp⟩
    · rename_i j p j' q
      split at h
      · rename_i hj
        split at h
        · rename_i hpq
          obtain ⟨r₁, r₂, h1, h2, h3⟩ := eqVals_append hx' hy' h
          exact ⟨r₁, r₂, by simp [eqVals, hj, hpq, h1], h2, h3⟩
        · rename_i hpq
          obtain ⟨r', h', rfl⟩ := Option.map_eq_some_iff.1 h
          obtain ⟨r₁, r₂, h1, h2, h3⟩ := eqVals_append hx' hy' h'
          exact ⟨false, r₂, by simp [eqVals, hj, hpq, h1], h2, by simp⟩
      · cases h
    · rename_i p q
      split at h
      · rename_i hpq
        obtain ⟨r₁, r₂, h1, h2, h3⟩ := eqVals_append hx' hy' h
        exact ⟨r₁, r₂, by simp [eqVals, hpq, h1], h2, h3⟩
      · rename_i hpq
        obtain ⟨r', h', rfl⟩ := Option.map_eq_some_iff.1 h
        obtain ⟨r₁, r₂, h1, h2, h3⟩ := eqVals_append hx' hy' h'
        exact ⟨false, r₂, by simp [eqVals, hpq, h1], h2, by simp⟩
    · cases h
end
end Ev
