/-
  What the evaluator's own steps do with its memory, whatever the model does.
-/
import Derived.Test.YtfbcfmgmcldogaaGreatEv19
namespace Ev
open Go

section
variable {E : Env} {m m' : AMem} {call : CallF} {tm : Tr AV}

theorem putCells_next {id off : Nat} {new : List AV} (h : putCells m id off new = some m') : m'.next = m.next := by
  obtain ⟨_, _, _, _, _, _, _, rfl⟩ := putCells_eq h; rfl
theorem put1_next {id off : Nat} {x : AV} (h : put1 m id off x = some m') : m'.next = m.next := by
  obtain ⟨_, _, _, _, _, _, _, rfl⟩ := put1_eq h; rfl

theorem unitR_some {q : Option AMem} {r : AV} (h : unitR q = some (r, m')) : q = some m' := by
  cases q with
  | none => cases h
  | some x => cases h; rfl
theorem evStore_next {t : Nat} {a x r : AV} (h : evStore E t a x m = some (r, m')) : m'.next = m.next := by
  unfold evStore at h
  cases hi : E.ty t with
  | none => rw [hi] at h; cases h
  | some i =>
    rw [hi] at h
    cases hp : a.asPtr with
    | none => rw [hp] at h; cases h
    | some p =>
      rw [hp] at h
      simp only [evStoreAt] at h
      cases hl : x.asAgg with
      | none =>
        rw [hl] at h
        cases hb : Nat.beq i.size 1 with
        | false => rw [hb] at h; cases h
        | true => rw [hb] at h; exact put1_next (unitR_some h)
      | some l =>
        rw [hl] at h
        simp only at h
        cases hb : Nat.beq l.length i.size with
        | false => rw [hb] at h; cases h
        | true => rw [hb] at h; exact putCells_next (unitR_some h)
theorem evLoad_same {t : Nat} {a r : AV} (h : evLoad E t a m = some (r, m')) : m' = m := by
  unfold evLoad at h
  cases hi : E.ty t with
  | none => rw [hi] at h; cases h
  | some i =>
    rw [hi] at h
    cases hp : a.asPtr with
    | none => rw [hp] at h; cases h
    | some p =>
      rw [hp] at h
      simp only [evLoadAt] at h
      cases hb : isAggD i.u with
      | false => rw [hb] at h; exact (vm_some h).2
      | true =>
        rw [hb] at h
        simp only [aggR] at h
        cases hq : takeCells m p.1 p.2 i.size with
        | none => rw [hq] at h; cases h
        | some l => rw [hq] at h; cases h; rfl
theorem evLookup_same {t : Nat} {x k r : AV} {ok : Bool} (h : evLookup E t x k ok m = some (r, m')) : m' = m := by
  unfold evLookup lookR at h
  repeat' split at h
  all_goals first | (cases h; done) | (cases h; rfl)
theorem evMapUpdate_next {t : Nat} {x k y r : AV} (h : evMapUpdate E t x k y m = some (r, m')) : m'.next = m.next := by
  unfold evMapUpdate putMapR at h
  repeat' split at h
  all_goals first | (cases h; done) | (cases h; rfl)
theorem evDelete_next {t : Nat} {x k r : AV} (h : evDelete E t x k m = some (r, m')) : m'.next = m.next := by
  unfold evDelete putMapR at h
  repeat' split at h
  all_goals first | (cases h; done) | (cases h; rfl)
theorem evClear_next {t : Nat} {x r : AV} (h : evClear E t x m = some (r, m')) : m'.next = m.next := by
  unfold evClear at h
  repeat' split at h
  all_goals first | (cases h; done) | (cases h; rfl) | (rename_i hp; cases h; exact putCells_next hp)
theorem evAppend_next {es bytes n : Nat} {x r : AV} {new : List AV} (h : evAppend m es bytes x n new = some (r, m')) : m.next ≤ m'.next := by
  unfold evAppend at h
  repeat' split at h
  all_goals first | (cases h; done) | (cases h; exact Nat.le_refl _) | (cases h; simp; done) | (rename_i hp; cases h; exact Nat.le_of_eq (putCells_next hp).symm)
theorem evAppendOp_next {ts : List Nat} {x y r : AV} (h : evAppendOp E ts x y m = some (r, m')) : m.next ≤ m'.next := by
  unfold evAppendOp appZeros appCells at h
  repeat' split at h
  all_goals first | (cases h; done) | exact evAppend_next h
theorem evCopy_next {es : Nat} {d s r : AV} (h : evCopy m es d s = some (r, m')) : m'.next = m.next := by
  unfold evCopy copyTo at h
  repeat' split at h
  all_goals first | (cases h; done) | (cases h; rfl) | (rename_i hp; cases h; exact putCells_next hp)
theorem evLen_same {t : Nat} {x r : AV} (h : evLen E t x m = some (r, m')) : m' = m := by
  unfold evLen at h
  repeat' split at h
  all_goals first | (cases h; done) | (cases h; rfl)
theorem evCap_same {t : Nat} {x r : AV} (h : evCap E t x m = some (r, m')) : m' = m := by
  unfold evCap at h
  repeat' split at h
  all_goals first | (cases h; done) | (cases h; rfl)
theorem evBuiltin_next {b : Builtin} {ts : List Nat} {args : List AV} {r : AV} (h : evBuiltin E b ts args m = some (r, m')) : m.next ≤ m'.next := by
  unfold evBuiltin at h
  split at h
  · exact Nat.le_of_eq (by rw [evLen_same h])
  · exact Nat.le_of_eq (by rw [evCap_same h])
  · exact evAppendOp_next h
  · repeat' split at h
    all_goals first | (cases h; done) | exact Nat.le_of_eq (evCopy_next h).symm
  · exact Nat.le_of_eq (by rw [(vm_some h).2])
  · exact Nat.le_of_eq (by rw [(vm_some h).2])
  · exact Nat.le_of_eq (evDelete_next h).symm
  · exact Nat.le_of_eq (evClear_next h).symm
  · cases h

def CallMono (call : CallF) : Prop := ∀ t args m r m', call t args m = some (r, m') → m.next ≤ m'.next

/-- an operation that is no effect: it leaves the memory, or lays one block; and what it does hangs on the memory only if it reads -/
structure Quiet (E : Env) (call : CallF) (op : Op) (tm : Tr AV) (m : AMem) (v : AV) (m' : AMem) : Prop where
  ok : (m' = m ∧ (readOp op = false → ∀ m₁, evOp E call op tm m₁ = some (v, m₁))) ∨ (readOp op = true ∧ ∃ b, m' = m.add b ∧ ∀ m₁ : AMem, m₁.next = m.next → evOp E call op tm m₁ = some (v, m₁.add b))

theorem evAlloc_quiet {t : Nat} {r : AV} (h : evAlloc E t m = some (r, m')) : ∃ b, m' = m.add b ∧ ∀ m₁ : AMem, m₁.next = m.next → evAlloc E t m₁ = some (r, m₁.add b) := by
  unfold evAlloc at h
  repeat' split at h
  all_goals first | (cases h; done) | skip
  all_goals
    cases h
    refine ⟨_, rfl, fun m₁ e => ?_⟩
    unfold evAlloc
    simp_all [newRowC]
theorem evBox_quiet {x r : AV} (h : evBox x m = some (r, m')) : ∃ b, m' = m.add b ∧ ∀ m₁ : AMem, m₁.next = m.next → evBox x m₁ = some (r, m₁.add b) := by
  unfold evBox at h
  repeat' split at h
  all_goals first | (cases h; done) | skip
  all_goals
    cases h
    refine ⟨_, rfl, fun m₁ e => ?_⟩
    unfold evBox
    simp_all [newRowC]
theorem evBuildSlice_quiet {t len : Nat} {ps : List (Nat × AV)} {r : AV} (h : evBuildSlice E t len ps m = some (r, m')) : ∃ b, m' = m.add b ∧ ∀ m₁ : AMem, m₁.next = m.next → evBuildSlice E t len ps m₁ = some (r, m₁.add b) := by
  unfold evBuildSlice at h
  repeat' split at h
  all_goals first | (cases h; done) | skip
  all_goals
    cases h
    refine ⟨_, rfl, fun m₁ e => ?_⟩
    unfold evBuildSlice
    simp_all [newRowC]
theorem evMakeSlice_quiet {t : Nat} {a b r : AV} (h : evMakeSlice E t a b m = some (r, m')) : ∃ b', m' = m.add b' ∧ ∀ m₁ : AMem, m₁.next = m.next → evMakeSlice E t a b m₁ = some (r, m₁.add b') := by
  unfold evMakeSlice at h
  repeat' split at h
  all_goals first | (cases h; done) | skip
  all_goals
    cases h
    refine ⟨_, rfl, fun m₁ e => ?_⟩
    unfold evMakeSlice
    simp_all
theorem evConvert_quiet {s d : Nat} {x r : AV} (h : evConvert E s d x m = some (r, m')) : m' = m ∨ ∃ b, m' = m.add b ∧ ∀ m₁ : AMem, m₁.next = m.next → evConvert E s d x m₁ = some (r, m₁.add b) := by
  unfold evConvert at h
  repeat' split at h
  all_goals first | (cases h; done) | (left; cases h; rfl) | skip
  all_goals
    right
    cases h
    refine ⟨_, rfl, fun m₁ e => ?_⟩
    unfold evConvert
    simp_all

theorem quiet_of {op : Op} {v : AV} (he : effectOp op = false) (h : evOp E call op tm m = some (v, m')) : Quiet E call op tm m v m' := by
  have pure1 : m' = m → (∀ m₁, evOp E call op tm m₁ = some (v, m₁)) → Quiet E call op tm m v m' := fun h1 h2 => ⟨.inl ⟨h1, fun _ => h2⟩⟩
  have read1 : m' = m → readOp op = true → Quiet E call op tm m v m' := fun h1 h2 => ⟨.inl ⟨h1, fun h3 => by rw [h2] at h3; cases h3⟩⟩
  have vmq : ∀ {q : Option AV}, vm m q = some (v, m') → ∀ m₁, vm m₁ q = some (v, m₁) := by
    intro q hq m₁; obtain ⟨rfl, rfl⟩ := vm_some hq; rfl
  unfold evOp at h
  cases op with
  | store | mapUpdate | insert => cases he
  | move x => exact pure1 (vm_some h).2 (vmq h)
  | assign x => exact pure1 (vm_some h).2 (vmq h)
  | pick c x y => exact pure1 (vm_some h).2 (vmq h)
  | alloc t =>
    obtain ⟨b, h1, h2⟩ := evAlloc_quiet h
    exact ⟨.inr ⟨rfl, b, h1, h2⟩⟩
  | box t x =>
    obtain ⟨y, hy, h⟩ := on1_some h
    obtain ⟨b, h1, h2⟩ := evBox_quiet h
    refine ⟨.inr ⟨rfl, b, h1, fun m₁ e => ?_⟩⟩
    show on1 (rd tm x) _ = _
    rw [hy]; exact h2 m₁ e
  | build t ps =>
    simp only [evOpF, opBuild] at h
    split at h
    · rename_i l hl
      refine pure1 (vm_some h).2 fun m₁ => ?_
      show opBuild t ps E call tm m₁ = _
      simp only [opBuild, hl]; exact vmq h m₁
    · cases h
  | buildSlice t n ps =>
    simp only [evOpF, opBuildSlice] at h
    split at h
    · rename_i l hl
      obtain ⟨b, h1, h2⟩ := evBuildSlice_quiet h
      refine ⟨.inr ⟨rfl, b, h1, fun m₁ e => ?_⟩⟩
      show opBuildSlice t n ps E call tm m₁ = _
      simp only [opBuildSlice, hl]; exact h2 m₁ e
    · cases h
  | load t x =>
    obtain ⟨y, hy, h⟩ := on1_some h
    exact read1 (evLoad_same h) rfl
  | nilCheck x =>
    obtain ⟨y, hy, h⟩ := on1_some h
    refine pure1 (vm_some h).2 fun m₁ => ?_
    show on1 (rd tm x) _ = _
    rw [hy]; exact vmq h m₁
  | binOp op t x y t' =>
    obtain ⟨b, c, hb, hc, h⟩ := on2_some h
    refine pure1 (vm_some h).2 fun m₁ => ?_
    show on2 (rd tm x) (rd tm y) _ = _
    rw [hb, hc]; exact vmq h m₁
  | unOp op t x =>
    obtain ⟨y, hy, h⟩ := on1_some h
    refine pure1 (vm_some h).2 fun m₁ => ?_
    show on1 (rd tm x) _ = _
    rw [hy]; exact vmq h m₁
  | convert s d x =>
    obtain ⟨y, hy, h⟩ := on1_some h
    rcases evConvert_quiet h with h1 | ⟨b, h1, h2⟩
    · exact read1 h1 rfl
    · refine ⟨.inr ⟨rfl, b, h1, fun m₁ e => ?_⟩⟩
      show on1 (rd tm x) _ = _
      rw [hy]; exact h2 m₁ e
  | sliceToArrayPointer t x =>
    obtain ⟨y, hy, h⟩ := on1_some h
    refine pure1 (vm_some h).2 fun m₁ => ?_
    show on1 (rd tm x) _ = _
    rw [hy]; exact vmq h m₁
  | makeInterface t x =>
    obtain ⟨y, hy, h⟩ := on1_some h
    split at h
    · cases h
    · rename_i hif
      obtain ⟨rfl, rfl⟩ := Prod.mk.inj (Option.some.inj h)
      refine pure1 rfl fun m₁ => ?_
      show on1 (rd tm x) _ = _
      rw [hy]; exact if_neg hif
  | makeFunc fn first captured => exact pure1 (vm_some h).2 (vmq h)
  | makeMap t r =>
    cases r with
    | some x => cases h
    | none =>
      obtain ⟨rfl, rfl⟩ := Prod.mk.inj (Option.some.inj h)
      exact ⟨.inr ⟨rfl, _, rfl, fun m₁ e => by show some (AV.map m₁.next, _) = _; rw [e]⟩⟩
  | makeSlice t x y =>
    obtain ⟨b, c, hb, hc, h⟩ := on2_some h
    obtain ⟨b', h1, h2⟩ := evMakeSlice_quiet h
    refine ⟨.inr ⟨rfl, b', h1, fun m₁ e => ?_⟩⟩
    show on2 (rd tm x) (rd tm y) _ = _
    rw [hb, hc]; exact h2 m₁ e
  | slice t x lo hi mx =>
    obtain ⟨y, hy, h⟩ := on1_some h
    split at h
    · exact read1 (vm_some h).2 rfl
    · cases h
  | fieldAddr t x j =>
    obtain ⟨y, hy, h⟩ := on1_some h
    refine pure1 (vm_some h).2 fun m₁ => ?_
    show on1 (rd tm x) _ = _
    rw [hy]; exact vmq h m₁
  | field t x j =>
    obtain ⟨y, hy, h⟩ := on1_some h
    refine pure1 (vm_some h).2 fun m₁ => ?_
    show on1 (rd tm x) _ = _
    rw [hy]; exact vmq h m₁
  | indexAddr t x ix =>
    obtain ⟨b, hb, h⟩ := on1_some h
    obtain ⟨k, n, hn, h⟩ := onNat_some h
    refine pure1 (vm_some h).2 fun m₁ => ?_
    show on1 (rd tm x) _ = _
    rw [hb]
    show onNat (rd tm ix) _ = _
    rw [hn]; exact vmq h m₁
  | index t x ix =>
    obtain ⟨b, hb, h⟩ := on1_some h
    obtain ⟨k, n, hn, h⟩ := onNat_some h
    refine pure1 (vm_some h).2 fun m₁ => ?_
    show on1 (rd tm x) _ = _
    rw [hb]
    show onNat (rd tm ix) _ = _
    rw [hn]; exact vmq h m₁
  | lookup t x k ok =>
    obtain ⟨b, c, hb, hc, h⟩ := on2_some h
    exact read1 (evLookup_same h) rfl
  | typeAssert x s t ok =>
    obtain ⟨y, hy, h⟩ := on1_some h
    refine pure1 (vm_some h).2 fun m₁ => ?_
    show on1 (rd tm x) _ = _
    rw [hy]; exact vmq h m₁
  | extract x i =>
    obtain ⟨y, hy, h⟩ := on1_some h
    refine pure1 (vm_some h).2 fun m₁ => ?_
    show on1 (rd tm x) _ = _
    rw [hy]; exact vmq h m₁
  | call c =>
    have h0 : evCallOp E call c tm m = some (v, m') := h
    unfold evCallOp at h0
    split at h0
    · rename_i args hargs
      split at h0
      · rename_i f hc; simp [effectOp, hc] at he
      · rename_i x name hc; simp [effectOp, hc] at he
      · rename_i b hc
        have hev : ∀ m₁, evOp E call (.call c) tm m₁ = evBuiltin E b c.argTypes.toList args m₁ := by
          intro m₁
          show evCallOp E call c tm m₁ = _
          unfold evCallOp
          rw [hargs, hc]
        simp only [effectOp, hc] at he
        unfold evBuiltin at h0
        split at h0
        · exact read1 (evLen_same h0) (by simp [readOp, hc])
        · rename_i x t rest hts
          refine pure1 (evCap_same h0) fun m₁ => ?_
          rw [hev]
          unfold evBuiltin
          rw [hts]
          show evCap E t x m₁ = _
          revert h0
          unfold evCap
          repeat' split
          all_goals (intro h0; first | (cases h0; done) | (cases h0; rfl))
        · cases he
        · cases he
        · refine pure1 (vm_some h0).2 fun m₁ => ?_
          rw [hev]
          simp only [evBuiltin]
          exact vmq h0 m₁
        · refine pure1 (vm_some h0).2 fun m₁ => ?_
          rw [hev]
          simp only [evBuiltin]
          exact vmq h0 m₁
        · cases he
        · cases he
        · cases h0
    · cases h0
  | _ => cases h

theorem evOp_next (hc : CallMono call) {op : Op} {v : AV} (h : evOp E call op tm m = some (v, m')) : m.next ≤ m'.next := by
  cases he : effectOp op with
  | false =>
    rcases (quiet_of he h).ok with ⟨rfl, _⟩ | ⟨_, b, rfl, _⟩
    · exact Nat.le_refl _
    · simp
  | true =>
    unfold evOp at h
    cases op with
    | store t x y =>
      obtain ⟨b, c, _, _, h⟩ := on2_some h
      exact Nat.le_of_eq (evStore_next h).symm
    | insert t x k y =>
      obtain ⟨b, c, _, _, h⟩ := on2_some h
      obtain ⟨d, _, h⟩ := on1_some h
      exact Nat.le_of_eq (evMapUpdate_next h).symm
    | mapUpdate t x k y =>
      obtain ⟨b, c, _, _, h⟩ := on2_some h
      obtain ⟨d, _, h⟩ := on1_some h
      exact Nat.le_of_eq (evMapUpdate_next h).symm
    | call c =>
      have h0 : evCallOp E call c tm m = some (v, m') := h
      unfold evCallOp at h0
      repeat' split at h0
      all_goals first | (cases h0; done) | exact hc _ _ _ _ _ h0 | exact evBuiltin_next h0
    | _ => cases he
end
end Ev
