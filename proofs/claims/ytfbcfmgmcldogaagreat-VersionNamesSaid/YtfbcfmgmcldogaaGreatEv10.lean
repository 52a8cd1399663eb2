/-
  Slices that are made, grown, copied; conversions.
-/
import Derived.Test.YtfbcfmgmcldogaaGreatEv9
namespace Ev
open Go

section
variable {E : Env} {P : Program} {μ : Mu} {m m' : AMem} {w : World}

theorem s2ap_run (hE : TyOK E P) {t : Nat} {a r : AV} {x : Value} (h : evS2ap E t a = some r) (hx : VRel μ a x) : ∃ v, (Instr.arrayAt t x).run P w = .ok v w ∧ VRel μ r v := by
  unfold evS2ap at h
  split at h
  · rename_i i hi
    have hU := run_und (w := w) hE hi
    split at h
    · rename_i n e hu
      rw [hu] at hU
      split at h
      · rename_i hn
        rw [blt_iff] at hn
        split at h
        · rename_i id off len cap
          split at h
          · rename_i hle
            have hle := Nat.le_of_ble_eq_true hle
            cases h
            obtain ⟨L, o, hL, rfl, ho, hcap⟩ := hx
            have ho : o = L.sh + off := by
              rcases ho with ho | ho
              · exact ho
              · omega
            subst ho
            refine ⟨_, ?_, L, hL, rfl⟩
            simp only [Instr.arrayAt, Sem.run_bind, hU, Result.andThen_ok]
            rw [if_neg (by omega)]; rfl
          · cases h
        · rename_i id off len es'
          split at h
          · rename_i hle
            have hle := Nat.le_of_ble_eq_true hle
            cases h
            obtain ⟨L, o, c, hL, rfl, hcap, ho⟩ := hx
            have ho : o = L.sh + off := by
              rcases ho with ho | ho
              · exact ho.1
              · omega
            subst ho
            refine ⟨_, ?_, L, hL, rfl⟩
            simp only [Instr.arrayAt, Sem.run_bind, hU, Result.andThen_ok]
            rw [if_neg (by omega)]; rfl
          · cases h
        · cases h
      · cases h
    · cases h
  · cases h

theorem makeSlice_good (hE : TyOK E P) (hr : Rep μ m w) {t : Nat} {a b r : AV} {x y : Value} (h : evMakeSlice E t a b m = some (r, m')) (hx : VRel μ a x) (hy : VRel μ b y) (hf : μ m.next = none) :
    ∃ v w' μ', (Instr.makeSlice t x y).run P w = .ok v w' ∧ VRel μ' r v ∧ Step μ m w μ' m' w' := by
  unfold evMakeSlice at h
  split at h
  · rename_i i hi
    have hU := run_und (w := w) hE hi
    split at h
    · rename_i e hu
      rw [hu] at hU
      split at h
      · rename_i ie hie
        split at h
        · rename_i z hz
          split at h
          · rename_i l c
            split at h
            · rename_i hc
              obtain ⟨c1, c2, c3, c4, c5⟩ := hc
              obtain ⟨rfl, rfl⟩ := Prod.mk.inj (Option.some.inj h)
              cases hx; cases hy
              obtain ⟨zv, hz1, hz2⟩ := run_zeroT (w := w) hE hie hz
              obtain ⟨info, hi1, hi2, hi3⟩ := run_bytesT (w := w) hE hie
              have hzc := (hz2 μ).cells
              have hzvl : zv.cells.toList.length = ie.size := by rw [← hzc.length, c4]
              have hrl : ((List.replicate c zv.cells.toList).flatten).length = c * ie.size := by simp [hzvl]
              refine ⟨.slice (some ⟨w.heap.size, 0, none⟩) l c, { w with heap := w.heap.push (.cells ⟨(List.replicate c zv.cells.toList).flatten⟩ e) }, μ.with m.next ⟨w.heap.size, 0, ((List.replicate c zv.cells.toList).flatten).length⟩, ?_,
                ⟨⟨w.heap.size, 0, ((List.replicate c zv.cells.toList).flatten).length⟩, 0, Mu.with_same _ _ _, rfl, .inl rfl, c1⟩, ?_⟩
              rotate_left
              · refine Step.alloc (o := .cells ⟨(List.replicate c zv.cells.toList).flatten⟩ e) hr hf rfl ⟨rfl, rfl, rfl⟩ ?_
                have := newRow_rel (w := w) (w' := { w with heap := w.heap.push (.cells ⟨(List.replicate c zv.cells.toList).flatten⟩ e) }) (e := e) rfl ((rep_rel hzc c).mono (Mu.le_with (L := ⟨w.heap.size, 0, ((List.replicate c zv.cells.toList).flatten).length⟩) hf)) (all_rep c5 c) true
                have hlen : (rep c z.cells).length = c * ie.size := by rw [rep_length, c4]
                rw [hlen] at this
                exact this
              · have hwl : IntKind.i64.wrap (Int.ofNat l) = (l : Int) := by
                  rw [wrap_def]; simp only [IntKind.bits, IntKind.signed, true_and, Int.reducePow, Nat.reduceSub, Int.ofNat_eq_natCast]
                  have : l < 4611686018427387904 := by omega
                  split <;> omega
                have hwc : IntKind.i64.wrap (Int.ofNat c) = (c : Int) := by
                  rw [wrap_def]; simp only [IntKind.bits, IntKind.signed, true_and, Int.reducePow, Nat.reduceSub, Int.ofNat_eq_natCast]
                  have : c < 4611686018427387904 := by omega
                  split <;> omega
                have hbig : (info.bytes : Int) * (c : Int) ≤ 2 ^ 48 := by
                  have h1 : c * ie.bytes ≤ 281474976710656 := Nat.le_trans c2 (by decide)
                  have h2 : ((c * ie.bytes : Nat) : Int) ≤ 281474976710656 := by omega
                  rw [Int.natCast_mul] at h2
                  rw [hi2, Int.mul_comm]; exact h2
                have hcond : ¬ (((decide ((c : Int) < 0) || decide ((info.bytes : Int) * (c : Int) > 2 ^ 48)) || decide ((l : Int) < 0) || decide ((l : Int) > (c : Int))) = true) := by
                  simp only [Bool.or_eq_true, decide_eq_true_eq, not_or]
                  refine ⟨⟨⟨by omega, by omega⟩, by omega⟩, ?_⟩
                  have : (l : Int) ≤ (c : Int) := by exact_mod_cast c1
                  omega
                have harr : ((Array.range (c * ie.size)).map fun x => zv.cells[x % zv.cells.size]!) = ⟨(List.replicate c zv.cells.toList).flatten⟩ := by
                  apply Array.ext'
                  have := range_rep zv.cells.toList c
                  rw [hzvl] at this
                  simpa using this
                simp only [Instr.makeSlice, Sem.run_bind, hU, Result.andThen_ok, asInt, asIntOf, Sem.run_pure, hi1, hwl, hwc]
                rw [if_neg hcond]
                simp only [Sem.run_bind, run_askRoom, Result.andThen_ok, run_sizeOfT hE hie, Int.toNat_natCast]
                by_cases hn : c * ie.size = 0
                · have hempty : (List.replicate c zv.cells.toList).flatten = [] := by
                    rw [← List.length_eq_zero_iff, hrl, hn]
                  have hz0 : (Array.map (fun x => (#[] : Array Value)[x % (#[] : Array Value).size]!) (Array.range 0)) = #[] := by simp
                  simp only [hn, if_true, Sem.run_pure, Result.andThen_ok, newRow, Sem.run_bind, run_newObj, hempty, hz0]
                · simp only [hn, if_false, Sem.run_bind, hz1, Sem.run_pure, Result.andThen_ok, harr, newRow, run_newObj]
            · cases h
          · cases h
        · cases h
      · cases h
    · cases h
  · cases h

theorem sliceCells_run (P : Program) (hr : Rep μ m w) {es : Nat} {a : AV} {l : List AV} {x : Value} (h : sliceCells m es a = some l) (hx : VRel μ a x) :
    ∃ (o : Option Addr) (len cap : Nat) (vs : List Value), x = .slice o len cap ∧ (o = none → len = 0) ∧ (∀ ad, o = some ad → ∀ w' : World, w'.heap = w.heap → (loadCells ad (len * es)).run P w' = .ok vs.toArray w') ∧ (o = none → vs = []) ∧
      VsRel μ l vs ∧ l.length = len * es ∧ l.all AV.scalar = true := by
  unfold sliceCells at h
  split at h
  · cases h; cases hx
    exact ⟨none, 0, 0, [], rfl, fun _ => rfl, fun _ h => (by cases h), fun _ => rfl, rfl, by simp, rfl⟩
  · rename_i id off len cap
    obtain ⟨L, o, hL, rfl, ho, hcap⟩ := hx
    split at h
    · rename_i h0
      have h0 : len = 0 := Nat.eq_of_beq_eq_true h0
      subst h0
      cases h
      exact ⟨_, _, _, [], rfl, fun h => (by cases h), fun ad _ w' _ => by simp [loadCells, loadCellsFrom], fun _ => rfl, rfl, by simp, rfl⟩
    · rename_i h0
      have h0 : len ≠ 0 := by intro e; rw [e] at h0; exact h0 rfl
      have ho : o = L.sh + off := by
        rcases ho with ho | ho
        · exact ho
        · omega
      subst ho
      obtain ⟨vs, h1, h2, h3, h4⟩ := run_load_cells P hr h hL
      exact ⟨_, _, _, vs, rfl, fun h => (by cases h), fun ad had => by cases had; exact h1, fun h => (by cases h), h2, h3, h4⟩
  · rename_i id off len es'
    obtain ⟨L, o, c, hL, rfl, hcap, ho⟩ := hx
    split at h
    · rename_i h0
      have h0 : len = 0 := Nat.eq_of_beq_eq_true h0
      subst h0
      cases h
      exact ⟨_, _, _, [], rfl, fun h => (by cases h), fun ad _ w' _ => by simp [loadCells, loadCellsFrom], fun _ => rfl, rfl, by simp, rfl⟩
    · rename_i h0
      have h0 : len ≠ 0 := by intro e; rw [e] at h0; exact h0 rfl
      have ho : o = L.sh + off := by
        rcases ho with ho | ho
        · exact ho.1
        · omega
      subst ho
      obtain ⟨vs, h1, h2, h3, h4⟩ := run_load_cells P hr h hL
      exact ⟨_, _, _, vs, rfl, fun h => (by cases h), fun ad had => by cases had; exact h1, fun h => (by cases h), h2, h3, h4⟩
  · cases h

theorem bytesOf_ok : ∀ {l : List AV} {r : List Nat}, bytesOf l = some r → l = r.map (fun n => .int .u8 (Int.ofNat n)) ∧ ∀ x ∈ r, x < 256
  | [], r, h => by simp [bytesOf] at h; subst h; simp
  | a :: l, r, h => by
    unfold bytesOf at h
    split at h
    · rename_i heq; cases heq
    · rename_i n l' heq
      obtain ⟨rfl, rfl⟩ := List.cons.inj heq
      split at h
      · rename_i hlt
        rw [blt_iff] at hlt
        split at h
        · rename_i q hq
          cases h
          obtain ⟨h1, h2⟩ := bytesOf_ok hq
          refine ⟨by rw [List.map_cons, ← h1], ?_⟩
          intro x hx
          rcases List.mem_cons.1 hx with rfl | hx
          · exact hlt
          · exact h2 x hx
        · cases h
      · cases h
    · cases h

theorem bytes_vals {r : List Nat} {vs : List Value} (h : VsRel μ (r.map fun n => .int .u8 (Int.ofNat n)) vs) : vs = r.map fun (n : Nat) => .int .u8 (n : Int) := by
  induction r generalizing vs with
  | nil => cases h; rfl
  | cons a r ih =>
    obtain ⟨v, q, rfl, h1, h2⟩ := h
    rw [ih h2, List.map_cons]
    congr 1
theorem bytesTo_run {r : List Nat} : ∀ (acc : ByteArray) , (∀ x ∈ r, x < 256) →
    (forIn (r.map fun (n : Nat) => Value.int .u8 (n : Int)) acc (fun c s => (match c with
      | .int .u8 n => pure (ForInStep.yield (s.push (UInt8.ofNat n.toNat)))
      | _ => do
        stuck "bytesToString: byte expected"
        pure (ForInStep.yield s) : Sem (ForInStep ByteArray)))).run P w = .ok ⟨(acc.data.toList ++ r.map UInt8.ofNat).toArray⟩ w := by
  induction r with
  | nil => intro acc _; obtain ⟨d⟩ := acc; simp
  | cons a r ih =>
    intro acc h
    rw [List.map_cons, List.forIn_cons]
    simp only [Sem.run_bind, Sem.run_pure, Result.andThen_ok, Int.toNat_natCast]
    rw [ih _ (fun x hx => h x (by simp [hx]))]
    congr 2
    simp [ByteArray.push, List.append_assoc]

theorem bytesToString_run (hr : Rep μ m w) {a : AV} {l : List AV} {q : List Nat} {x : Value} (h : sliceCells m 1 a = some l) (hb : bytesOf l = some q) (hx : VRel μ a x) :
    (Conv.bytesToString x).run P w = .ok (.string (strV q)) w ∧ ∀ y ∈ q, y < 256 := by
  obtain ⟨h1, h2⟩ := bytesOf_ok hb
  obtain ⟨o, len, cap, vs, rfl, g1, g2, g3, g4, g5, g6⟩ := sliceCells_run P hr h hx
  refine ⟨?_, h2⟩
  rw [h1] at g4
  have hvs := bytes_vals g4
  cases o with
  | none =>
    have := g3 rfl
    subst this
    cases q with
    | nil => rfl
    | cons a q => simp at hvs
  | some ad =>
    have hl := g2 ad rfl w rfl
    rw [Nat.mul_one] at hl
    simp only [Conv.bytesToString, Sem.run_bind, hl, Result.andThen_ok]
    have := bytesTo_run (P := P) (w := w) (r := q) ByteArray.empty h2
    rw [← hvs] at this
    refine (congrArg (fun r => Result.andThen r fun a w' => Sem.run P (pure (Value.string a)) w') (?_ : _ = Result.ok (strV q) w)).trans rfl
    rw [List.forIn_toArray]
    refine Eq.trans ?_ (this.trans rfl)
    rfl
end
end Ev
