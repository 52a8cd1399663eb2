/-
  Equality at a type that is compared cell by cell.
-/
import Derived.Test.YtfbcfmgmcldogaaGreatEv5
import Derived.Laws.StructEq
import Derived.ChangeKeysEq
namespace Ev
open Go

def valOf (u : TypeDesc) (xs : List Value) : Value := if isAggD u then .agg ⟨xs⟩ else xs.headD undef

section
variable {E : Env} {P : Program} {w : World}

theorem part_run (hE : TyOK E P) {t : Nat} {i : TyI} (hi : E.ty t = some i) (cs : List Value) (off : Nat) (hl : off + i.size ≤ cs.length) (h1 : isAggD i.u = false → i.size = 1) :
    (part t ⟨cs⟩ off).run P w = .ok (valOf i.u ((cs.drop off).take i.size)) w := by
  simp only [part, Sem.run_bind, run_isAggT hE hi, Result.andThen_ok]
  cases hagg : isAggD i.u with
  | true =>
    simp only [if_true, Sem.run_bind, run_sizeOfT hE hi, Result.andThen_ok, Sem.run_pure, valOf, hagg]
    congr 2
    simp [List.take_drop]
  | false =>
    have hs := h1 hagg
    rw [hs] at hl
    have hlt : off < cs.length := by omega
    have : (⟨cs⟩ : Array Value)[off]? = some cs[off] := by simp [hlt]
    simp only [Bool.false_eq_true, if_false, this, Sem.run_pure, valOf, hagg, hs]
    congr 1
    simp [List.head?_take, List.head?_drop, hlt]

theorem one_bool {x y : Value} {r : Bool} (h : eqVals [.bool] [x] [y] = some r) : ∃ p q, x = .bool p ∧ y = .bool q ∧ r = (p == q) := by
  cases x <;> cases y <;> simp only [eqVals] at h <;> (try cases h)
  rename_i p q
  refine ⟨p, q, rfl, rfl, ?_⟩
  cases p <;> cases q <;> simp_all
theorem one_int {x y : Value} {r : Bool} (h : eqVals [.int] [x] [y] = some r) : ∃ k p q, x = .int k p ∧ y = .int k q ∧ r = (p == q) := by
  cases x <;> cases y <;> simp only [eqVals] at h <;> (try cases h)
  rename_i j p k q
  split at h
  · rename_i hj
    subst hj
    refine ⟨j, p, q, rfl, rfl, ?_⟩
    split at h <;> simp_all
  · cases h
theorem one_str {x y : Value} {r : Bool} (h : eqVals [.str] [x] [y] = some r) : ∃ p q, x = .string p ∧ y = .string q ∧ r = (p == q) := by
  cases x <;> cases y <;> simp only [eqVals] at h <;> (try cases h)
  rename_i p q
  refine ⟨p, q, rfl, rfl, ?_⟩
  split at h <;> simp_all

theorem flat_scalar {d t : Nat} {ks : List CK} {i : TyI} (h : flatT E d t = some ks) (hi : E.ty t = some i) (ha : isAggD i.u = false) : i.size = 1 := by
  cases d with
  | zero => simp [flatT] at h
  | succ d =>
    simp only [flatT, hi] at h
    cases hu : i.u <;> rw [hu] at h ha <;> simp [isAggD] at h ha <;> exact h.1

theorem foldl_none {α β : Type} (f : Option β → α → Option β) (hf : ∀ a, f none a = none) : ∀ l : List α, l.foldl f none = none
  | [] => rfl
  | a :: l => by rw [List.foldl_cons, hf]; exact foldl_none f hf l

theorem sizeT_eq {t : Nat} {i : TyI} (hi : E.ty t = some i) : sizeT E t = i.size := by simp [sizeT, hi]

theorem fieldsOf_eq {t : Nat} {fs : Array Field} (h : P.underlying t = some (.struct fs)) : P.fieldsOf t = fs := by simp [Program.fieldsOf, h]

theorem equalIn_flat (hE : TyOK E P) : ∀ (d t : Nat) (ks : List CK) (i : TyI), flatT E d t = some ks → E.ty t = some i → ∀ D, d ≤ D → ∀ (xs ys : List Value) (r : Bool), eqVals ks xs ys = some r →
    ∀ w : World, (Op.equalIn D t (valOf i.u xs) (valOf i.u ys)).run P w = .ok r w
  | 0, t, ks, i, h, _, _, _, _, _, _, _, _ => by simp [flatT] at h
  | d + 1, t, ks, i, h, hi, D, hD, xs, ys, r, hv, w => by
    obtain ⟨D, rfl⟩ : ∃ D', D = D' + 1 := ⟨D - 1, by omega⟩
    obtain ⟨info, i1, i2, i3, i4, i5, i6⟩ := hE.ty t i hi
    have hlen := eqVals_length hv
    simp only [flatT, hi] at h
    cases hu : i.u with
    | bool =>
      rw [hu] at h i2
      simp only at h
      split at h
      · cases h
        match xs, ys, hlen, hv with
        | [x], [y], _, hv =>
          obtain ⟨p, q, rfl, rfl, rfl⟩ := one_bool hv
          simp [valOf, isAggD, Op.equalIn, run_underlying i2]
      · cases h
    | int k =>
      rw [hu] at h i2
      simp only at h
      split at h
      · cases h
        match xs, ys, hlen, hv with
        | [x], [y], _, hv =>
          obtain ⟨k, p, q, rfl, rfl, rfl⟩ := one_int hv
          simp [valOf, isAggD, Op.equalIn, run_underlying i2]
      · cases h
    | string =>
      rw [hu] at h i2
      simp only at h
      split at h
      · cases h
        match xs, ys, hlen, hv with
        | [x], [y], _, hv =>
          obtain ⟨p, q, rfl, rfl, rfl⟩ := one_str hv
          simp [valOf, isAggD, Op.equalIn, run_underlying i2]
      · cases h
    | struct fs =>
      rw [hu] at h i2
      simp only at h
      split at h
      · cases h
      · rename_i hheld
        have hheld' : P.stoodInHeld t = false := by rw [← i6]; simpa using hheld
        have hval : ∀ l, valOf (.struct fs) l = .agg ⟨l⟩ := fun _ => rfl
        rw [hval, hval, run_equalIn_struct w D t _ _ (by rw [fieldsOf_eq i2]; exact i2) hheld', fieldsOf_eq i2]
        -- the fields, one by one
        have key : ∀ (l : List Field) (acc : List CK), l.foldl (fun acc f => match acc with
              | some l => if f.name != "_" && Nat.beq f.offset l.length then (match flatT E d f.type with
                | some r => if Nat.beq r.length (sizeT E f.type) then some (l ++ r) else none
                | none => none) else none
              | none => none) (some acc) = some ks → acc.length ≤ xs.length → acc.length ≤ ys.length →
              ∀ r', eqVals (ks.drop acc.length) (xs.drop acc.length) (ys.drop acc.length) = some r' → ks.take acc.length = acc →
              ∀ w : World, (Op.eqFields D ⟨xs⟩ ⟨ys⟩ l).run P w = .ok r' w := by
          intro l
          induction l with
          | nil =>
            intro acc hf hx hy r' hr' htake w
            simp at hf; subst hf
            rw [List.drop_of_length_le (Nat.le_refl _)] at hr'
            cases hxd : xs.drop acc.length <;> cases hyd : ys.drop acc.length <;> rw [hxd, hyd] at hr' <;> simp [eqVals] at hr'
            subst hr'
            simp [Op.eqFields]
          | cons f l ih =>
            intro acc hf hx hy r' hr' htake w
            rw [List.foldl_cons] at hf
            simp only at hf
            split at hf
            · rename_i hname
              simp only [Bool.and_eq_true, bne_iff_ne, ne_eq] at hname
              have hoff : f.offset = acc.length := by have := hname.2; rwa [Nat.beq_eq] at this
              cases hft : flatT E d f.type with
              | none => simp only [hft] at hf; rw [foldl_none _ (fun _ => rfl)] at hf; cases hf
              | some rk =>
                simp only [hft] at hf
                split at hf
                · rename_i hrl
                  rw [Nat.beq_eq] at hrl
                  cases hfi : E.ty f.type with
                  | none => cases d <;> simp [flatT, hfi] at hft
                  | some fi =>
                    rw [sizeT_eq hfi] at hrl
                    -- ks = acc ++ rk ++ ..
                    have hpre : ∃ rest, ks = acc ++ rk ++ rest := by
                      clear ih hr'
                      have gen : ∀ (l : List Field) (a : List CK), l.foldl (fun acc f => match acc with
                          | some l => if f.name != "_" && Nat.beq f.offset l.length then (match flatT E d f.type with
                            | some r => if Nat.beq r.length (sizeT E f.type) then some (l ++ r) else none
                            | none => none) else none
                          | none => none) (some a) = some ks → ∃ rest, ks = a ++ rest := by
                        intro l
                        induction l with
                        | nil => intro a h; simp at h; exact ⟨[], by simp [h]⟩
                        | cons g l ih =>
                          intro a h
                          rw [List.foldl_cons] at h
                          simp only at h
                          split at h
                          · cases hg : flatT E d g.type with
                            | none => simp only [hg] at h; rw [foldl_none _ (fun _ => rfl)] at h; cases h
                            | some gk =>
                              simp only [hg] at h
                              split at h
                              · obtain ⟨rest, hr⟩ := ih _ h; exact ⟨gk ++ rest, by rw [hr, List.append_assoc]⟩
                              · rw [foldl_none _ (fun _ => rfl)] at h; cases h
                          · rw [foldl_none _ (fun _ => rfl)] at h; cases h
                      exact gen l _ hf
                    obtain ⟨rest, hks⟩ := hpre
                    have hkl : ks.length = acc.length + rk.length + rest.length := by rw [hks]; simp; omega
                    have hxl : xs.length = ks.length := hlen.1
                    have hyl : ys.length = ks.length := hlen.2
                    have hdrop : ks.drop acc.length = rk ++ rest := by rw [hks, List.append_assoc]; simp
                    have hxs : xs.drop acc.length = (xs.drop acc.length).take rk.length ++ xs.drop (acc.length + rk.length) := by
                      rw [← List.drop_drop, List.take_append_drop]
                    have hys : ys.drop acc.length = (ys.drop acc.length).take rk.length ++ ys.drop (acc.length + rk.length) := by
                      rw [← List.drop_drop, List.take_append_drop]
                    rw [hdrop, hxs, hys] at hr'
                    obtain ⟨r₁, r₂, e1, e2, e3⟩ := eqVals_append (by simp; omega) (by simp; omega) hr'
                    have p1 := part_run (w := w) hE hfi xs f.offset (by rw [hoff]; omega) (flat_scalar hft hfi)
                    have p2 := part_run (w := w) hE hfi ys f.offset (by rw [hoff]; omega) (flat_scalar hft hfi)
                    have p3 := equalIn_flat hE d f.type rk fi hft hfi D (by omega) ((xs.drop f.offset).take fi.size) ((ys.drop f.offset).take fi.size) r₁ (by rw [hoff, ← hrl]; exact e1) w
                    have hd2 : ks.drop (acc ++ rk).length = rest := by rw [hks]; exact List.drop_left
                    have ht2 : ks.take (acc ++ rk).length = acc ++ rk := by rw [hks]; exact List.take_left
                    have p4 := ih (acc ++ rk) hf (by simp; omega) (by simp; omega) r₂ (by rw [hd2, List.length_append]; exact e2) ht2 w
                    simp only [Op.eqFields, ne_eq, hname.1, not_false_eq_true, if_true, Sem.run_bind, p1, p2, p3, Result.andThen_ok]
                    cases r₁ with
                    | true => simp only [Bool.not_true, Bool.false_eq_true, if_false, p4, e3, Bool.true_and]
                    | false => simp [e3]
                · rw [foldl_none _ (fun _ => rfl)] at hf; cases hf
            · rw [foldl_none _ (fun _ => rfl)] at hf; cases hf
        exact key fs.toList [] h (Nat.zero_le _) (Nat.zero_le _) r (by simpa using hv) (by simp) w
    | array n e =>
      rw [hu] at h i2
      simp only at h
      cases hft : flatT E d e with
      | none => rw [hft] at h; cases h
      | some rk =>
        rw [hft] at h
        simp only at h
        split at h
        · rename_i hrl
          rw [Nat.beq_eq] at hrl
          cases h
          cases hfi : E.ty e with
          | none => cases d <;> simp [flatT, hfi] at hft
          | some fi =>
            rw [sizeT_eq hfi] at hrl
            obtain ⟨einfo, j1, j2, j3, _⟩ := hE.ty e fi hfi
            have hcs : P.cellsOf e = rk.length := by simp [Program.cellsOf, j1, j3, hrl]
            have hval : ∀ l, valOf (.array n e) l = .agg ⟨l⟩ := fun _ => rfl
            rw [hval, hval, run_equalIn_array w D _ _ i2 j1, hcs]
            have hfl : ∀ n, ((List.replicate n rk).flatten).length = n * rk.length := fun n => by simp
            rw [hfl] at hlen
            have key : ∀ (j k : Nat) (r' : Bool), k + j = n → eqVals ((List.replicate j rk).flatten) (xs.drop (k * rk.length)) (ys.drop (k * rk.length)) = some r' →
                ∀ w : World, (Op.eqItems D e rk.length ⟨xs⟩ ⟨ys⟩ (List.range' k j)).run P w = .ok r' w := by
              intro j
              induction j with
              | zero =>
                intro k r' _ hr' w
                simp only [List.replicate_zero, List.flatten_nil] at hr'
                cases hxd : xs.drop (k * rk.length) <;> cases hyd : ys.drop (k * rk.length) <;> rw [hxd, hyd] at hr' <;> simp [eqVals] at hr'
                subst hr'
                simp [Op.eqItems]
              | succ j ih =>
                intro k r' hk hr' w
                rw [List.replicate_succ, List.flatten_cons] at hr'
                have hb : k * rk.length + rk.length ≤ n * rk.length := by
                  rw [← Nat.succ_mul]; exact Nat.mul_le_mul_right _ (by omega)
                have hxs : xs.drop (k * rk.length) = (xs.drop (k * rk.length)).take rk.length ++ xs.drop ((k + 1) * rk.length) := by
                  rw [Nat.succ_mul, ← List.drop_drop, List.take_append_drop]
                have hys : ys.drop (k * rk.length) = (ys.drop (k * rk.length)).take rk.length ++ ys.drop ((k + 1) * rk.length) := by
                  rw [Nat.succ_mul, ← List.drop_drop, List.take_append_drop]
                rw [hxs, hys] at hr'
                obtain ⟨r₁, r₂, e1, e2, e3⟩ := eqVals_append (by simp; omega) (by simp; omega) hr'
                have p1 := part_run (w := w) hE hfi xs (k * rk.length) (by rw [← hrl]; omega) (flat_scalar hft hfi)
                have p2 := part_run (w := w) hE hfi ys (k * rk.length) (by rw [← hrl]; omega) (flat_scalar hft hfi)
                have p3 := equalIn_flat hE d e rk fi hft hfi D (by omega) ((xs.drop (k * rk.length)).take fi.size) ((ys.drop (k * rk.length)).take fi.size) r₁ (by rw [← hrl]; exact e1) w
                have p4 := ih (k + 1) r₂ (by omega) e2 w
                simp only [List.range'_succ, Op.eqItems, Sem.run_bind, p1, p2, p3, Result.andThen_ok]
                cases r₁ with
                | true => simp only [Bool.not_true, Bool.false_eq_true, if_false, p4, e3, Bool.true_and]
                | false => simp [e3]
            rw [List.range_eq_range']
            exact key n 0 r (by omega) (by simpa using hv) w
        · cases h
    | _ => rw [hu] at h; cases h

/-- no value of such a type meets the guard of an interface's nil -/
theorem guard_flat (hE : TyOK E P) : ∀ (d t : Nat) (ks : List CK), flatT E d t = some ks → ∀ D, d ≤ D → P.eqGuardType D t = false
  | 0, t, ks, h, _, _ => by simp [flatT] at h
  | d + 1, t, ks, h, D, hD => by
    obtain ⟨D, rfl⟩ : ∃ D', D = D' + 1 := ⟨D - 1, by omega⟩
    simp only [flatT] at h
    cases hi : E.ty t with
    | none => rw [hi] at h; cases h
    | some i =>
      obtain ⟨info, i1, i2, _⟩ := hE.ty t i hi
      rw [hi] at h
      simp only at h
      simp only [Program.eqGuardType, i2]
      cases hu : i.u with
      | struct fs =>
        rw [hu] at h
        simp only at h ⊢
        split at h
        · cases h
        · rw [Array.any_eq_false']
          have key : ∀ (l : List Field) (a : List CK), l.foldl (fun acc f => match acc with
              | some l => if f.name != "_" && Nat.beq f.offset l.length then (match flatT E d f.type with
                | some r => if Nat.beq r.length (sizeT E f.type) then some (l ++ r) else none
                | none => none) else none
              | none => none) (some a) = some ks → ∀ f ∈ l, ∃ rk, flatT E d f.type = some rk := by
            intro l
            induction l with
            | nil => intro a _ f hf; cases hf
            | cons g l ih =>
              intro a h f hf
              rw [List.foldl_cons] at h
              simp only at h
              split at h
              · cases hg : flatT E d g.type with
                | none => simp only [hg] at h; rw [foldl_none _ (fun _ => rfl)] at h; cases h
                | some gk =>
                  simp only [hg] at h
                  split at h
                  · rcases List.mem_cons.1 hf with rfl | hf
                    · exact ⟨gk, hg⟩
                    · exact ih _ h f hf
                  · rw [foldl_none _ (fun _ => rfl)] at h; cases h
              · rw [foldl_none _ (fun _ => rfl)] at h; cases h
          intro f hf
          obtain ⟨rk, hrk⟩ := key fs.toList [] h f (by simpa using hf)
          simp [guard_flat hE d f.type rk hrk D (by omega)]
      | array n e =>
        rw [hu] at h
        simp only at h ⊢
        cases hft : flatT E d e with
        | none => rw [hft] at h; cases h
        | some rk => exact guard_flat hE d e rk hft D (by omega)
      | bool => rfl
      | int k => rfl
      | string => rfl
      | _ => first | rfl | (rw [hu] at h; cases h)
end
end Ev
