/-
  Maps: their keys, how they are found, what is put and dropped.
-/
import Derived.Test.YtfbcfmgmcldogaaGreatEv13
import Derived.MapKept
namespace Ev
open Go

section
variable {E : Env} {P : Program} {μ : Mu} {m m' : AMem} {w : World}

theorem fold_pre (d : Nat) {ks : List CK} : ∀ (l : List Field) (a : List CK), l.foldl (fun acc f => match acc with
    | some l => if f.name != "_" && Nat.beq f.offset l.length then (match flatT E d f.type with
      | some r => if Nat.beq r.length (sizeT E f.type) then some (l ++ r) else none
      | none => none) else none
    | none => none) (some a) = some ks → ∃ rest, ks = a ++ rest := by
  intro l
  induction l with
  | nil => intro a h; simp at h; exact ⟨[], by simp [h]⟩
  | cons g l ih =>
    intro a h
    rw [List.foldl_cons] at h
    simp only at h
    split at h
    · cases hg : flatT E d g.type with
      | none => simp only [hg] at h; rw [foldl_none _ (fun _ => rfl)] at h; cases h
      | some gk =>
        simp only [hg] at h
        split at h
        · obtain ⟨rest, hr⟩ := ih _ h; exact ⟨gk ++ rest, by rw [hr, List.append_assoc]⟩
        · rw [foldl_none _ (fun _ => rfl)] at h; cases h
    · rw [foldl_none _ (fun _ => rfl)] at h; cases h

/-- a key whose cells are compared one by one can be hashed -/
theorem checkKey_flat (hE : TyOK E P) (em : Bool) : ∀ (d t : Nat) (ks : List CK) (i : TyI), flatT E d t = some ks → E.ty t = some i → ∀ D, d ≤ D → ∀ (xs : List Value), xs.length = ks.length →
    ∀ w : World, (Instr.checkKey em D t (valOf i.u xs)).run P w = .ok () w
  | 0, t, ks, i, h, _, _, _, _, _, _ => by simp [flatT] at h
  | d + 1, t, ks, i, h, hi, D, hD, xs, hlen, w => by
    obtain ⟨D, rfl⟩ : ∃ D', D = D' + 1 := ⟨D - 1, by omega⟩
    obtain ⟨info, i1, i2, i3, i4, i5, i6⟩ := hE.ty t i hi
    simp only [flatT, hi] at h
    cases hu : i.u with
    | bool => rw [hu] at i2; simp [Instr.checkKey, run_underlying i2]
    | int k => rw [hu] at i2; simp [Instr.checkKey, run_underlying i2]
    | string => rw [hu] at i2; simp [Instr.checkKey, run_underlying i2]
    | struct fs =>
      rw [hu] at h i2
      simp only at h
      split at h
      · cases h
      · have hval : valOf (.struct fs) xs = .agg ⟨xs⟩ := rfl
        rw [hval, Instr.checkKey]
        simp only [Sem.run_bind, run_underlying i2, Result.andThen_ok]
        rw [← Array.forIn_toList]
        generalize hL : fs.toList = L at h
        clear hL hval
        have key : ∀ (l : List Field) (acc : List CK), l.foldl (fun acc f => match acc with
              | some l => if f.name != "_" && Nat.beq f.offset l.length then (match flatT E d f.type with
                | some r => if Nat.beq r.length (sizeT E f.type) then some (l ++ r) else none
                | none => none) else none
              | none => none) (some acc) = some ks → ∀ w : World, (forIn (m := Sem) l PUnit.unit (fun f _ => if f.name ≠ "_" then (do
                  Instr.checkKey em D f.type (← part f.type ⟨xs⟩ f.offset)
                  pure (ForInStep.yield PUnit.unit)) else pure (ForInStep.yield PUnit.unit))).run P w = .ok PUnit.unit w := by
          intro l
          induction l with
          | nil => intro acc _ w; simp
          | cons f l ih =>
            intro acc hf w
            rw [List.foldl_cons] at hf
            simp only at hf
            split at hf
            · rename_i hname
              simp only [Bool.and_eq_true, bne_iff_ne, ne_eq] at hname
              have hoff : f.offset = acc.length := by have := hname.2; rwa [Nat.beq_eq] at this
              cases hft : flatT E d f.type with
              | none => simp only [hft] at hf; rw [foldl_none _ (fun _ => rfl)] at hf; cases hf
              | some rk =>
                simp only [hft] at hf
                split at hf
                · rename_i hrl
                  rw [Nat.beq_eq] at hrl
                  cases hfi : E.ty f.type with
                  | none => cases d <;> simp [flatT, hfi] at hft
                  | some fi =>
                    rw [sizeT_eq hfi] at hrl
                    obtain ⟨rest, hks⟩ := fold_pre d l _ hf
                    have hkl : ks.length = acc.length + rk.length + rest.length := by rw [hks]; simp; omega
                    have p1 := part_run (w := w) hE hfi xs f.offset (by rw [hoff]; omega) (flat_scalar hft hfi)
                    have p2 := checkKey_flat hE em d f.type rk fi hft hfi D (by omega) ((xs.drop f.offset).take fi.size) (by simp; omega) w
                    simp only [List.forIn_cons, Sem.run_bind, hname.1, ne_eq, not_false_eq_true, if_true, Result.andThen_ok, p1, p2, Sem.run_pure]
                    exact ih _ hf w
                · rw [foldl_none _ (fun _ => rfl)] at hf; cases hf
            · rw [foldl_none _ (fun _ => rfl)] at hf; cases hf
        rw [key L [] h w]; rfl
    | array n e =>
      rw [hu] at h i2
      simp only at h
      cases hft : flatT E d e with
      | none => rw [hft] at h; cases h
      | some rk =>
        rw [hft] at h
        simp only at h
        split at h
        · rename_i hrl
          rw [Nat.beq_eq] at hrl
          cases h
          cases hfi : E.ty e with
          | none => cases d <;> simp [flatT, hfi] at hft
          | some fi =>
            rw [sizeT_eq hfi] at hrl
            have hval : valOf (.array n e) xs = .agg ⟨xs⟩ := rfl
            rw [hval, Instr.checkKey]
            simp only [Sem.run_bind, run_underlying i2, Result.andThen_ok]
            simp only [Std.Legacy.Range.forIn_eq_forIn_range', Std.Legacy.Range.size, Nat.sub_zero, Nat.add_one_sub_one, Nat.div_one]
            have hfl : ((List.replicate n rk).flatten).length = n * rk.length := by simp
            rw [hfl] at hlen
            have hin : ∀ j ∈ List.range' 0 n, j < n := by intro j hj; simpa using hj
            generalize List.range' 0 n = is at hin
            induction is with
            | nil => simp
            | cons j is ih =>
              have hj := hin j (by simp)
              have hb : j * rk.length + rk.length ≤ n * rk.length := by rw [← Nat.succ_mul]; exact Nat.mul_le_mul_right _ hj
              have p1 := part_run (w := w) hE hfi xs (j * fi.size) (by rw [← hrl]; omega) (flat_scalar hft hfi)
              have p2 := checkKey_flat hE em d e rk fi hft hfi D (by omega) ((xs.drop (j * fi.size)).take fi.size) (by rw [← hrl]; simp; omega) w
              simp only [List.forIn_cons, Sem.run_bind, run_sizeOfT hE hfi, Result.andThen_ok, p1, p2, Sem.run_pure]
              exact ih (fun y hy => hin y (by simp [hy]))
        · cases h
    | _ => rw [hu] at h; cases h

/-! ### Where a key lies -/
def idxOf (eq : AV → Option Bool) : List (AV × AV) → Option (Option Nat)
  | [] => some none
  | (k, _) :: r => match eq k with
    | some true => some (some 0)
    | some false => match idxOf eq r with
      | some (some i) => some (some (i + 1))
      | some none => some none
      | none => none
    | none => none

theorem findKey_idx {eq : AV → Option Bool} : ∀ {es : List (AV × AV)} {r : Option AV}, findKey eq es = some r → ∃ o, idxOf eq es = some o ∧ (o = none → r = none) ∧ (∀ i, o = some i → ∃ k v, es[i]? = some (k, v) ∧ r = some v)
  | [], r, h => by simp [findKey] at h; subst h; exact ⟨none, rfl, fun _ => rfl, fun _ h => by cases h⟩
  | (k, v) :: es, r, h => by
    simp only [findKey] at h
    split at h
    · rename_i he; cases h; exact ⟨some 0, by simp [idxOf, he], fun h => (by cases h), fun i h => by cases h; exact ⟨k, v, rfl, rfl⟩⟩
    · rename_i he
      obtain ⟨o, h1, h2, h3⟩ := findKey_idx h
      cases o with
      | none => exact ⟨none, by simp [idxOf, he, h1], h2, fun _ h => by cases h⟩
      | some i => exact ⟨some (i + 1), by simp [idxOf, he, h1], fun h => (by cases h), fun j h => by cases h; obtain ⟨k, v, g1, g2⟩ := h3 i rfl; exact ⟨k, v, by simpa using g1, g2⟩⟩
    · cases h

theorem putKey_idx {eq : AV → Option Bool} {k v : AV} : ∀ {es es' : List (AV × AV)}, putKey eq k v es = some es' → ∃ o, idxOf eq es = some o ∧ (o = none → es' = es ++ [(k, v)]) ∧ (∀ i, o = some i → es' = es.set i (k, v))
  | [], es', h => by simp [putKey] at h; subst h; exact ⟨none, rfl, fun _ => rfl, fun _ h => by cases h⟩
  | (k', v') :: es, es', h => by
    simp only [putKey] at h
    split at h
    · rename_i he; cases h; exact ⟨some 0, by simp [idxOf, he], fun h => (by cases h), fun i h => by cases h; rfl⟩
    · rename_i he
      split at h
      · rename_i r hr
        cases h
        obtain ⟨o, h1, h2, h3⟩ := putKey_idx hr
        cases o with
        | none => exact ⟨none, by simp [idxOf, he, h1], fun _ => by rw [h2 rfl]; rfl, fun _ h => by cases h⟩
        | some i => exact ⟨some (i + 1), by simp [idxOf, he, h1], fun h => (by cases h), fun j h => by cases h; rw [h3 i rfl]; rfl⟩
      · cases h
    · cases h

theorem delKey_idx {eq : AV → Option Bool} : ∀ {es es' : List (AV × AV)}, delKey eq es = some es' → ∃ o, idxOf eq es = some o ∧ (o = none → es' = es) ∧ (∀ i, o = some i → es' = es.eraseIdx i)
  | [], es', h => by simp [delKey] at h; subst h; exact ⟨none, rfl, fun _ => rfl, fun _ h => by cases h⟩
  | (k', v') :: es, es', h => by
    simp only [delKey] at h
    split at h
    · rename_i he; cases h; exact ⟨some 0, by simp [idxOf, he], fun h => (by cases h), fun i h => by cases h; rfl⟩
    · rename_i he
      split at h
      · rename_i r hr
        cases h
        obtain ⟨o, h1, h2, h3⟩ := delKey_idx hr
        cases o with
        | none => exact ⟨none, by simp [idxOf, he, h1], fun _ => by rw [h2 rfl], fun _ h => by cases h⟩
        | some i => exact ⟨some (i + 1), by simp [idxOf, he, h1], fun h => (by cases h), fun j h => by cases h; rw [h3 i rfl]; rfl⟩
      · cases h
    · cases h

theorem idxOf_true {eq : AV → Option Bool} : ∀ {es : List (AV × AV)} {i : Nat}, idxOf eq es = some (some i) → ∃ k v, es[i]? = some (k, v) ∧ eq k = some true
  | [], i, h => by simp [idxOf] at h
  | (k, v) :: es, i, h => by
    simp only [idxOf] at h
    split at h
    · rename_i he; cases h; exact ⟨k, v, rfl, he⟩
    · split at h
      · rename_i j hj
        cases h
        obtain ⟨k, v, g1, g2⟩ := idxOf_true hj
        exact ⟨k, v, by simpa using g1, g2⟩
      · cases h
      · cases h
    · cases h

/-! ### Keys against the model's -/
/-- what is known of a key and one that lies in the map -/
structure KeyRun (P : Program) (kt : Nat) (u : TypeDesc) (quick : Bool) (x y : Value) (r : Bool) : Prop where
  eq : ∀ w : World, (Op.equal kt x y).run P w = .ok r w
  now : quick = true → Instr.sameNow u x y = some r
  slow : quick = false → Instr.sameNow u x y = none
  same : r = true → Instr.sameBits 10000 y x = true

theorem sameBits_cells : ∀ {ks : List CK} {xs ys : List Value}, eqVals ks xs ys = some true → ∀ n, (ys.zip xs).all (fun (x, y) => Instr.sameBits n x y) = true
  | [], [], [], _, _ => rfl
  | [], [], _ :: _, h, _ => by simp [eqVals] at h
  | [], _ :: _, _, h, _ => by simp [eqVals] at h
  | _ :: _, [], _, h, _ => by simp [eqVals] at h
  | _ :: _, _ :: _, [], h, _ => by simp [eqVals] at h
  | k :: ks, x :: xs, y :: ys, h, n => by
    simp only [eqVals] at h
    split at h
    · rename_i p q
      split at h
      · rename_i hpq
        simp only [List.zip_cons_cons, List.all_cons, sameBits_cells h n, Bool.and_true, Instr.sameBits]
        cases p <;> cases q <;> simp_all
      · cases he : eqVals ks xs ys <;> rw [he] at h <;> simp at h
    · rename_i j p j' q
      split at h
      · rename_i hj
        subst hj
        split at h
        · rename_i hpq
          simp only [List.zip_cons_cons, List.all_cons, sameBits_cells h n, Bool.and_true, Instr.sameBits]
          simp_all
        · cases he : eqVals ks xs ys <;> rw [he] at h <;> simp at h
      · cases h
    · rename_i p q
      split at h
      · rename_i hpq
        simp only [List.zip_cons_cons, List.all_cons, sameBits_cells h n, Bool.and_true, Instr.sameBits]
        have : p = q := (MapKept.bytes_beq _ _).1 hpq
        subst this; simp [MapKept.bytes_beq]
      · cases he : eqVals ks xs ys <;> rw [he] at h <;> simp at h
    · cases h

theorem checkKey_base (em : Bool) {t : Nat} {u : TypeDesc} (h : P.underlying t = some u) (hu : u = .bool ∨ (∃ k, u = .int k) ∨ u = .string) (x : Value) (n : Nat) : (Instr.checkKey em (n + 1) t x).run P w = .ok () w := by
  rcases hu with rfl | ⟨k, rfl⟩ | rfl <;> simp [Instr.checkKey, run_underlying h]
theorem same_bool (p : Bool) (n : Nat) : Instr.sameBits n (.bool p) (.bool p) = true := by simp [Instr.sameBits]
theorem same_int (k : IntKind) (p : Int) (n : Nat) : Instr.sameBits n (.int k p) (.int k p) = true := by simp [Instr.sameBits]
theorem same_str (p : ByteArray) (n : Nat) : Instr.sameBits n (.string p) (.string p) = true := by simp [Instr.sameBits, MapKept.bytes_beq]
theorem equalIn_base {t : Nat} {u : TypeDesc} (h : P.underlying t = some u) (n : Nat) (w : World) : 
    (∀ p q, u = .bool → (Op.equalIn (n + 1) t (.bool p) (.bool q)).run P w = .ok (p == q) w) ∧ (∀ k p q, (∃ k, u = .int k) → (Op.equalIn (n + 1) t (.int k p) (.int k q)).run P w = .ok (p == q) w) ∧
    (∀ p q, u = .string → (Op.equalIn (n + 1) t (.string p) (.string q)).run P w = .ok (p == q) w) := by
  refine ⟨?_, ?_, ?_⟩
  · rintro p q rfl; simp [Op.equalIn, run_underlying h]
  · rintro k p q ⟨k', rfl⟩; simp [Op.equalIn, run_underlying h]
  · rintro p q rfl; simp [Op.equalIn, run_underlying h]
theorem equal_base {t : Nat} {u : TypeDesc} (h : P.underlying t = some u) (w : World) : 
    (∀ p q, u = .bool → (Op.equal t (.bool p) (.bool q)).run P w = .ok (p == q) w) ∧ (∀ k p q, (∃ k, u = .int k) → (Op.equal t (.int k p) (.int k q)).run P w = .ok (p == q) w) ∧
    (∀ p q, u = .string → (Op.equal t (.string p) (.string q)).run P w = .ok (p == q) w) := equalIn_base h 9999 w

theorem key_run (hE : TyOK E P) {kt : Nat} {eq : AV → AV → Option Bool} (h : keyEqAt E kt = some eq) : ∃ u quick, (∀ w : World, (underlying kt).run P w = .ok u w) ∧
    (∀ (k : AV) (x : Value) (em : Bool) (w : World), keyHere eq k = true → VRel μ k x → (Instr.checkKey em 10000 kt x).run P w = .ok () w) ∧
    (∀ (k a : AV) (x y : Value) (r : Bool), eq k a = some r → VRel μ k x → VRel μ a y → KeyRun P kt u quick x y r) := by
  unfold keyEqAt at h
  split at h
  · rename_i i hi
    obtain ⟨info, i1, i2, _⟩ := hE.ty kt i hi
    have hU : ∀ w : World, (underlying kt).run P w = .ok i.u w := fun w => run_und hE hi
    split at h
    · rename_i hu
      cases h
      rw [hu] at i2 hU
      refine ⟨_, true, hU, fun k x em w _ _ => checkKey_base em i2 (.inl rfl) x 9999, fun k a x y r he hx hy => ?_⟩
      have := eqCell_ok (k := .bool) he hx hy
      rcases this with ⟨p, q, _, rfl, rfl, rfl⟩ | ⟨j, p, q, e, _⟩ | ⟨p, q, e, _⟩
      · exact ⟨fun w => (equal_base i2 w).1 _ _ rfl, fun _ => rfl, fun h => (by cases h), fun hr => by simp only [beq_iff_eq] at hr; subst hr; exact same_bool _ _⟩
      · cases e
      · cases e
    · rename_i k₀ hu
      cases h
      rw [hu] at i2 hU
      refine ⟨_, true, hU, fun k x em w _ _ => checkKey_base em i2 (.inr (.inl ⟨_, rfl⟩)) x 9999, fun k a x y r he hx hy => ?_⟩
      have := eqCell_ok (k := .int) he hx hy
      rcases this with ⟨p, q, e, _⟩ | ⟨j, p, q, _, rfl, rfl, rfl⟩ | ⟨p, q, e, _⟩
      · cases e
      · exact ⟨fun w => (equal_base i2 w).2.1 _ _ _ ⟨_, rfl⟩, fun _ => by simp [Instr.sameNow], fun h => (by cases h), fun hr => by simp only [beq_iff_eq] at hr; subst hr; exact same_int _ _ _⟩
      · cases e
    · rename_i hu
      cases h
      rw [hu] at i2 hU
      refine ⟨_, true, hU, fun k x em w _ _ => checkKey_base em i2 (.inr (.inr rfl)) x 9999, fun k a x y r he hx hy => ?_⟩
      have := eqCell_ok (k := .str) he hx hy
      rcases this with ⟨p, q, e, _⟩ | ⟨j, p, q, e, _⟩ | ⟨p, q, _, rfl, rfl, rfl⟩
      · cases e
      · cases e
      · exact ⟨fun w => (equal_base i2 w).2.2 _ _ rfl, fun _ => rfl, fun h => (by cases h), fun hr => by have : p = q := (MapKept.bytes_beq _ _).1 hr; subst this; exact same_str _ _⟩
    all_goals first | (cases h; done) | skip
    all_goals
      rename_i hu
      split at h
      · rename_i ks hks
        cases h
        have hagg : isAggD i.u = true := by rw [hu]; rfl
        have hval : ∀ l, valOf i.u l = .agg ⟨l⟩ := fun l => by rw [hu]; rfl
        refine ⟨_, false, hU, fun k x em w hk hx => ?_, fun k a x y r he hx hy => ?_⟩
        · unfold keyHere at hk
          cases hkk : aggEq ks k k with
          | none => rw [hkk] at hk; cases hk
          | some r =>
            unfold aggEq at hkk
            split at hkk
            · rename_i l1 l2 e1 e2
              have := asAgg_eq e1; subst this
              obtain ⟨vs, rfl, hvs, _⟩ := hx
              have hl := (eqVals_length (eqCells_vals hkk hvs (by simp only [AV.asAgg] at e2; cases e2; exact hvs))).1
              rw [← hval]
              exact checkKey_flat hE em 20 kt ks i hks hi 10000 (by decide) vs hl w
            · cases hkk
        · unfold aggEq at he
          split at he
          · rename_i l1 l2 e1 e2
            have := asAgg_eq e1; subst this
            have := asAgg_eq e2; subst this
            obtain ⟨xs, rfl, hxs, _⟩ := hx
            obtain ⟨ys, rfl, hys, _⟩ := hy
            have hv := eqCells_vals he hxs hys
            refine ⟨fun w => ?_, fun h => (by cases h), fun _ => by rw [hu]; rfl, fun hr => ?_⟩
            · rw [← hval, ← hval]
              exact equalIn_flat hE 20 kt ks i hks hi _ (by decide) xs ys r hv w
            · subst hr
              have hl := eqVals_length hv
              simp only [Instr.sameBits, List.size_toArray, hl.1, hl.2, beq_self_eq_true, Bool.true_and]
              exact sameBits_cells hv _
          · cases he
      · cases h
  · cases h
end
end Ev
