/-
  append, copy; conversions.
-/
import Derived.Test.YtfbcfmgmcldogaaGreatEv10
namespace Ev
open Go

section
variable {E : Env} {P : Program} {μ : Mu} {m m' : AMem} {w : World}

theorem next_le (need old : Nat) (h : old < need) : Builtin.nextslicecap need old ≤ 2 * need := by
  unfold Builtin.nextslicecap
  split
  · omega
  · split
    · omega
    · have : ∀ r c, c < need → 256 ≤ c → Builtin.growBy need r c ≤ 2 * need := by
        intro r
        induction r with
        | zero => intro c hc _; simp only [Builtin.growBy]; omega
        | succ r ih =>
          intro c hc h256
          simp only [Builtin.growBy]
          rw [if_neg (by omega)]
          by_cases h' : c + (c + 768) / 4 < need
          · exact ih _ h' (by omega)
          · have : ∀ r c, need ≤ c → Builtin.growBy need r c = c := by
              intro r c hc
              cases r with
              | zero => rfl
              | succ r => simp only [Builtin.growBy]; rw [if_pos hc]
            rw [this _ _ (by omega)]
            omega
      exact this 4 old h (by omega)

/-- what append's second operand gives: so many elements, these cells, whatever has been drawn -/
structure Src (P : Program) (μ : Mu) (es : Nat) (w : World) (appended : Sem (Array Value)) (n : Nat) (new : List AV) (vs : List Value) : Prop where
  run : ∀ w' : World, w'.heap = w.heap → appended.run P w' = .ok vs.toArray w'
  rel : VsRel μ new vs
  len : new.length = n * es

theorem srcCells_run (hr : Rep μ m w) {es n : Nat} {a : AV} {l : List AV} {x : Value} (h : srcCells m es a = some l) (hn : lenOf a = some n) (hx : VRel μ a x) :
    (Builtin.lenOf x).run P w = .ok n w ∧ ∃ vs, Src P μ es w (Builtin.firstCells es n x) n l vs := by
  unfold srcCells at h
  split at h
  · rename_i s
    split at h
    · rename_i he
      have he : es = 1 := Nat.eq_of_beq_eq_true he
      subst he
      cases h
      obtain ⟨rfl, hlt⟩ := hx
      simp [lenOf] at hn
      subst hn
      refine ⟨by simp [Builtin.lenOf, ByteArray.size], s.map fun (b : Nat) => .int .u8 (b : Int), ?_, ?_, by simp⟩
      · intro w' _
        simp only [Builtin.firstCells, Sem.run_pure]
        congr 1
        apply Array.ext'
        have hex : ((⟨(s.map UInt8.ofNat).toArray⟩ : ByteArray).extract 0 s.length).data.toList = s.map UInt8.ofNat := by
          rw [ByteArray.data_extract]; simp [List.take_of_length_le]
        rw [Array.toList_map, hex, List.map_map]
        apply List.map_congr_left
        intro b hb
        have := hlt b hb
        simp
        omega
      · induction s with
        | nil => rfl
        | cons b s ih => exact .cons rfl (ih (fun x hx => hlt x (by simp [hx])))
    · cases h
  · rename_i hns
    obtain ⟨o, len, cap, vs, rfl, g1, g2, g3, g4, g5, g6⟩ := sliceCells_run P hr h hx
    have hlen : n = len := by
      cases a <;> simp only [sliceCells] at h <;> (try cases h)
      case nilslice => simp [lenOf] at hn; cases hx; exact hn.symm
      case slice => simp [lenOf] at hn; obtain ⟨L, o, _, e, _⟩ := hx; cases e; exact hn.symm
      case oslice => simp [lenOf] at hn; obtain ⟨L, o, c, _, e, _⟩ := hx; cases e; exact hn.symm
    subst hlen
    refine ⟨by simp [Builtin.lenOf], vs, ?_, g4, g5⟩
    intro w' hw
    cases o with
    | none => rw [g3 rfl]; simp [Builtin.firstCells]
    | some ad => exact g2 ad rfl w' hw

/-! ### append: there is room -/
theorem append_room {t u elem ty n es : Nat} {ud : TypeDesc} {b : Option Addr} {sLen sCap : Nat} {x : Value} {vs : List Value} {new : List AV}
    (hU : ∀ w : World, (underlying t).run P w = .ok (.slice elem) w) (hU2 : ∀ w : World, (underlying u).run P w = .ok ud w) (hud : ∀ k, ud ≠ .int k) (hse : ∀ w : World, (Go.sizeOf elem).run P w = .ok es w)
    (hn : (Builtin.lenOf x).run P w = .ok n w) (hS : Src P μ es w (Builtin.firstCells es n x) n new vs) (hle : sLen + n ≤ sCap) {w' : World}
    (hst : (match b with | some a => storeCells (a.add (sLen * es)) vs | none => pure ()).run P w = .ok () w') :
    (Builtin.append_ #[t, u] ty #[.slice b sLen sCap, x]).run P w = .ok (.slice b (sLen + n) sCap) w' := by
  simp only [Builtin.append_, Sem.run_bind, List.getElem?_toArray, List.getElem?_cons_zero, List.getElem?_cons_succ, hU, hU2, Result.andThen_ok, hse, Sem.run_pure, Bool.false_eq_true, if_false, hn, Bool.not_false, if_true, hle, hS.run w rfl]
  cases b with
  | none => simpa using hst
  | some a => simp only [Sem.run_bind, hst, Result.andThen_ok, Sem.run_pure]

/-- n elements that are zero -/
def zeroSrc (elem es n : Nat) : Sem (Array Value) := if n * es = 0 then pure #[] else do pure (Builtin.zeroCells (← zeroValue elem).cells n)
theorem zeroSrc_run (hE : TyOK E P) {elem n : Nat} {ie : TyI} {z : AV} (hi : E.ty elem = some ie) (hz : ie.zero = some z) (hl : z.cells.length = ie.size) :
    ∃ vs, Src P μ ie.size w (zeroSrc elem ie.size n) n (rep n z.cells) vs := by
  obtain ⟨info, h1, h2, h3, h4, h5, _⟩ := hE.ty elem ie hi
  obtain ⟨zv, e1, e2⟩ := h5 z hz
  have hzc := (ofVal_rel μ e2).cells
  have hzvl : zv.cells.toList.length = ie.size := by rw [← hzc.length, hl]
  refine ⟨(List.replicate n zv.cells.toList).flatten, ?_, rep_rel hzc n, by rw [rep_length, hl]⟩
  intro w' _
  unfold zeroSrc
  by_cases h0 : n * ie.size = 0
  · rw [if_pos h0]
    have : (List.replicate n zv.cells.toList).flatten = [] := by rw [← List.length_eq_zero_iff]; simp [hzvl, h0]
    rw [this]; rfl
  · rw [if_neg h0]
    simp only [zeroValue, typeInfo, Sem.run_bind, run_program, Result.andThen_ok, h1, Sem.run_pure, e1]
    congr 1
    apply Array.ext'
    have := range_rep zv.cells.toList n
    simpa [Builtin.zeroCells] using this

theorem append_room0 (hE : TyOK E P) {t u elem ty n : Nat} {k : IntKind} {ie : TyI} {b : Option Addr} {sLen sCap : Nat} {vs : List Value} {new : List AV} (hi : E.ty elem = some ie)
    (hU : ∀ w : World, (underlying t).run P w = .ok (.slice elem) w) (hU2 : ∀ w : World, (underlying u).run P w = .ok (.int k) w)
    (hS : Src P μ ie.size w (zeroSrc elem ie.size n) n new vs) (hle : sLen + n ≤ sCap) {w' : World} (hnb : n < 2 ^ 62) (hb : n * ie.bytes ≤ mostBytes)
    (hst : (match b with | some a => storeCells (a.add (sLen * ie.size)) vs | none => pure ()).run P w = .ok () w') :
    (Builtin.append_ #[t, u] ty #[.slice b sLen sCap, .int .i64 (n : Int)]).run P w = .ok (.slice b (sLen + n) sCap) w' := by
  have hwn : IntKind.i64.wrap (n : Int) = (n : Int) := by
    rw [wrap_def]; simp only [IntKind.bits, IntKind.signed, true_and, Int.reducePow, Nat.reduceSub]
    have : n < 4611686018427387904 := by omega
    split <;> omega
  obtain ⟨info, hi1, hi2, hi3⟩ := run_bytesT (w := w) hE hi
  have hneg : ¬ ((n : Int) < 0) := by omega
  have hbig : ¬ ((n : Int) * (info.bytes : Int) > 2 ^ 48) := by
    have h1 : n * ie.bytes ≤ 281474976710656 := Nat.le_trans hb (by decide)
    have h2 : ((n * ie.bytes : Nat) : Int) ≤ 281474976710656 := by omega
    rw [Int.natCast_mul] at h2
    rw [hi2]; omega
  have hrun := hS.run w rfl
  unfold zeroSrc at hrun
  simp only [Builtin.append_, Sem.run_bind, List.getElem?_toArray, List.getElem?_cons_zero, List.getElem?_cons_succ, hU, hU2, Result.andThen_ok, run_sizeOfT hE hi, Sem.run_pure, if_true, asInt, asIntOf, hwn, if_neg hneg, hi1, if_neg hbig,
    Int.toNat_natCast, Bool.not_true, Bool.false_eq_true, if_false, hle]
  rw [hrun]
  simp only [Result.andThen_ok]
  cases b with
  | none => simpa using hst
  | some a => simp only [Sem.run_bind, hst, Result.andThen_ok, Sem.run_pure]

/-! ### append: it must grow -/
/-- the new capacity, as the tape has it -/
def capOf (w : World) (need cap elem : Nat) : Nat := need + w.tape w.drawn (.appendCap need cap elem) % (2 ^ 63 - need)
theorem capOf_le (w : World) (need cap elem : Nat) : need ≤ capOf w need cap elem := Nat.le_add_right _ _

theorem grow_tail {elem _es need cap : Nat} {old news zs : List Value} (w : World) :
    (do pure (Value.slice (some (← newRow elem ((⟨old⟩ : Array Value) ++ ⟨news⟩ ++ ⟨zs⟩))) need cap) : Sem Value).run P w =
      .ok (.slice (some ⟨w.heap.size, 0, none⟩) need cap) { w with heap := w.heap.push (.cells ⟨old ++ news ++ zs⟩ elem) } := by
  simp [newRow]

theorem append_grow (hE : TyOK E P) {t u elem ty n : Nat} {ie : TyI} {ud : TypeDesc} {b : Option Addr} {sLen sCap : Nat} {x : Value} {vs olds : List Value} {new old : List AV} {z : AV} (hi : E.ty elem = some ie) (hz : ie.zero = some z)
    (hU : ∀ w : World, (underlying t).run P w = .ok (.slice elem) w) (hU2 : ∀ w : World, (underlying u).run P w = .ok ud w) (hud : ∀ k, ud ≠ .int k)
    (hn : (Builtin.lenOf x).run P w = .ok n w) (hS : Src P μ ie.size w (Builtin.firstCells ie.size n x) n new vs) (hO : Src P μ ie.size w (Builtin.firstCells ie.size sLen (.slice b sLen sCap)) sLen old olds)
    (hgt : sCap < sLen + n) (hb : (sLen + n) * ie.bytes ≤ mostBytes) (hne : ie.bytes ≠ 0) (hzl : z.cells.length = ie.size) :
    ∃ rest : List Value, (Builtin.append_ #[t, u] ty #[.slice b sLen sCap, x]).run P w =
        .ok (.slice (some ⟨w.heap.size, 0, none⟩) (sLen + n) (capOf w (sLen + n) sCap elem)) { w with heap := w.heap.push (.cells ⟨olds ++ vs ++ rest⟩ elem), drawn := w.drawn + 1 } ∧
      rest.length = (capOf w (sLen + n) sCap elem - (sLen + n)) * ie.size := by
  obtain ⟨info, h1, h2, h3, h4, h5, _⟩ := hE.ty elem ie hi
  obtain ⟨zv, e1, e2⟩ := h5 z hz
  have hzc := (ofVal_rel μ e2).cells
  have hzvl : zv.cells.toList.length = ie.size := by rw [← hzc.length, hzl]
  have hzsz : zv.cells.size = ie.size := by rw [← Array.length_toList, hzvl]
  have hle : ¬ (sLen + n ≤ sCap) := by omega
  have hnext := next_le (sLen + n) sCap hgt
  have hbig : ¬ (Builtin.nextslicecap (sLen + n) sCap * info.bytes > 2 ^ 48) := by
    have h7 : Builtin.nextslicecap (sLen + n) sCap * ie.bytes ≤ 2 * (sLen + n) * ie.bytes := Nat.mul_le_mul_right _ hnext
    have h8 : 2 * (sLen + n) * ie.bytes ≤ 2 * mostBytes := by rw [Nat.mul_assoc]; exact Nat.mul_le_mul_left _ hb
    have h9 : 2 * mostBytes ≤ 2 ^ 48 := by decide
    rw [h4]; omega
  have hmax : ∀ q : Prop, ¬ (((sLen + n : Nat) : Int) > IntKind.i64.max ∧ q) := by
    intro q hq
    have h7 : sLen + n ≤ mostBytes := Nat.le_trans (Nat.le_mul_of_pos_right _ (Nat.pos_of_ne_zero hne)) hb
    have h8 : mostBytes = 70368744177664 := by decide
    have h9 : IntKind.i64.max = 9223372036854775807 := by decide
    rw [h9] at hq; omega
  refine ⟨(Builtin.zeroCells zv.cells (capOf w (sLen + n) sCap elem - (sLen + n))).toList, ?_, by simp [Builtin.zeroCells, hzsz]⟩
  have hd : ({ w with drawn := w.drawn + 1 } : World).heap = w.heap := rfl
  have hti : ∀ w : World, (typeInfo elem).run P w = .ok info w := fun w => by simp [typeInfo, h1]
  have hzv : ∀ w : World, (zeroValue elem).run P w = .ok zv w := fun w => by simp [zeroValue, typeInfo, h1, e1]
  have hrs : ∀ w : World, (Go.sizeOf elem).run P w = .ok ie.size w := fun w => run_sizeOfT hE hi
  simp only [Builtin.append_, Sem.run_bind, List.getElem?_toArray, List.getElem?_cons_zero, List.getElem?_cons_succ, hU, hU2, Result.andThen_ok, hrs, Sem.run_pure, Bool.false_eq_true, if_false, hn, Bool.not_false, if_true, if_neg hle,
    hti, if_neg (hmax _), if_neg hbig, run_choose, Question.forced, Question.cut, run_askRoom, hO.run _ hd, hS.run _ hd, hzv, newRow, run_newObj]
  have hcap : capOf w (sLen + n) sCap elem - (sLen + n) = w.tape w.drawn (.appendCap (sLen + n) sCap elem) % (2 ^ 63 - (sLen + n)) := by simp [capOf]
  rw [hcap]
  congr 2
  simp only [List.append_assoc, Nat.add_sub_cancel_left]
  congr 2
  apply Array.ext'
  simp

theorem append_grow0 (hE : TyOK E P) {t u elem ty n : Nat} {ie : TyI} {k : IntKind} {b : Option Addr} {sLen sCap : Nat} {vs olds : List Value} {new old : List AV} {z : AV} (hi : E.ty elem = some ie) (hz : ie.zero = some z)
    (hU : ∀ w : World, (underlying t).run P w = .ok (.slice elem) w) (hU2 : ∀ w : World, (underlying u).run P w = .ok (.int k) w)
    (hS : Src P μ ie.size w (zeroSrc elem ie.size n) n new vs) (hO : Src P μ ie.size w (Builtin.firstCells ie.size sLen (.slice b sLen sCap)) sLen old olds)
    (hgt : sCap < sLen + n) (hb : (sLen + n) * ie.bytes ≤ mostBytes) (hne : ie.bytes ≠ 0) (hzl : z.cells.length = ie.size) (hnb : n < 2 ^ 62) :
    ∃ rest : List Value, (Builtin.append_ #[t, u] ty #[.slice b sLen sCap, .int .i64 (n : Int)]).run P w =
        .ok (.slice (some ⟨w.heap.size, 0, none⟩) (sLen + n) (capOf w (sLen + n) sCap elem)) { w with heap := w.heap.push (.cells ⟨olds ++ vs ++ rest⟩ elem), drawn := w.drawn + 1 } ∧
      rest.length = (capOf w (sLen + n) sCap elem - (sLen + n)) * ie.size := by
  obtain ⟨info, h1, h2, h3, h4, h5, _⟩ := hE.ty elem ie hi
  obtain ⟨zv, e1, e2⟩ := h5 z hz
  have hzc := (ofVal_rel μ e2).cells
  have hzvl : zv.cells.toList.length = ie.size := by rw [← hzc.length, hzl]
  have hzsz : zv.cells.size = ie.size := by rw [← Array.length_toList, hzvl]
  have hle : ¬ (sLen + n ≤ sCap) := by omega
  have hnext := next_le (sLen + n) sCap hgt
  have hwn : IntKind.i64.wrap (n : Int) = (n : Int) := by
    rw [wrap_def]; simp only [IntKind.bits, IntKind.signed, true_and, Int.reducePow, Nat.reduceSub]
    have : n < 4611686018427387904 := by omega
    split <;> omega
  have hneg : ¬ ((n : Int) < 0) := by omega
  have hbig0 : ¬ ((n : Int) * (info.bytes : Int) > 2 ^ 48) := by
    have h0 : n * ie.bytes ≤ (sLen + n) * ie.bytes := Nat.mul_le_mul_right _ (by omega)
    have h1 : n * ie.bytes ≤ 281474976710656 := Nat.le_trans h0 (Nat.le_trans hb (by decide))
    have h2 : ((n * ie.bytes : Nat) : Int) ≤ 281474976710656 := by omega
    rw [Int.natCast_mul] at h2
    rw [h4]; omega
  have hbig : ¬ (Builtin.nextslicecap (sLen + n) sCap * info.bytes > 2 ^ 48) := by
    have h7 : Builtin.nextslicecap (sLen + n) sCap * ie.bytes ≤ 2 * (sLen + n) * ie.bytes := Nat.mul_le_mul_right _ hnext
    have h8 : 2 * (sLen + n) * ie.bytes ≤ 2 * mostBytes := by rw [Nat.mul_assoc]; exact Nat.mul_le_mul_left _ hb
    have h9 : 2 * mostBytes ≤ 2 ^ 48 := by decide
    rw [h4]; omega
  have hmax : ∀ q : Prop, ¬ (((sLen + n : Nat) : Int) > IntKind.i64.max ∧ q) := by
    intro q hq
    have h7 : sLen + n ≤ mostBytes := Nat.le_trans (Nat.le_mul_of_pos_right _ (Nat.pos_of_ne_zero hne)) hb
    have h8 : mostBytes = 70368744177664 := by decide
    have h9 : IntKind.i64.max = 9223372036854775807 := by decide
    rw [h9] at hq; omega
  refine ⟨(Builtin.zeroCells zv.cells (capOf w (sLen + n) sCap elem - (sLen + n))).toList, ?_, by simp [Builtin.zeroCells, hzsz]⟩
  have hd : ({ w with drawn := w.drawn + 1 } : World).heap = w.heap := rfl
  have hti : ∀ w : World, (typeInfo elem).run P w = .ok info w := fun w => by simp [typeInfo, h1]
  have hzv : ∀ w : World, (zeroValue elem).run P w = .ok zv w := fun w => by simp [zeroValue, typeInfo, h1, e1]
  have hrs : ∀ w : World, (Go.sizeOf elem).run P w = .ok ie.size w := fun w => run_sizeOfT hE hi
  have hrun := hS.run _ hd
  unfold zeroSrc at hrun
  simp only [Builtin.append_, Sem.run_bind, List.getElem?_toArray, List.getElem?_cons_zero, List.getElem?_cons_succ, hU, hU2, Result.andThen_ok, hrs, Sem.run_pure, if_true, asInt, asIntOf, hwn, if_neg hneg, if_neg hbig0,
    Int.toNat_natCast, Bool.not_true, Bool.false_eq_true, if_false, if_neg hle, hti, if_neg (hmax _), if_neg hbig, run_choose, Question.forced, Question.cut, run_askRoom, hO.run _ hd]
  rw [hrun]
  simp only [Result.andThen_ok, Sem.run_bind, hzv, newRow, run_newObj, Sem.run_pure]
  have hcap : capOf w (sLen + n) sCap elem - (sLen + n) = w.tape w.drawn (.appendCap (sLen + n) sCap elem) % (2 ^ 63 - (sLen + n)) := by simp [capOf]
  rw [hcap]
  congr 2
  simp only [List.append_assoc, Nat.add_sub_cancel_left]
  congr 2
  apply Array.ext'
  simp
end
end Ev
