/-
  The evaluator's operations in the model. Conditions: none.
-/
import Derived.Test.YtmbkjhcmbbcphaaEvA
import Derived.MapKept
/-
  Values put together.
-/
namespace Ev
open Go

section
variable {E : Env} {P : Program} {μ : Mu} {m m' : AMem} {w : World}

/-! ### Parts laid into cells -/
theorem foldl_set : ∀ (l : List Value) (k : Nat) (cs : Array Value) (off : Nat), off + k + l.length ≤ cs.size →
    ((l.zipIdx k).foldl (fun cs (c, j) => cs.setIfInBounds (off + j) c) cs).toList = cs.toList.take (off + k) ++ (l ++ cs.toList.drop (off + k + l.length))
  | [], k, cs, off, _ => by simp
  | v :: l, k, cs, off, h => by
    simp only [List.length_cons] at h
    rw [List.zipIdx_cons, List.foldl_cons]
    rw [foldl_set l (k + 1) _ off (by simp; omega)]
    apply List.ext_getElem?
    intro j
    simp only [List.getElem?_append, List.length_take, Array.length_toList, Array.size_setIfInBounds, List.length_cons, List.getElem?_take, List.getElem?_drop, Array.getElem?_toList, Array.getElem?_setIfInBounds]
    by_cases h1 : j < off + k
    · rw [if_pos (by omega), if_pos (by omega), if_neg (by omega), if_pos (by omega), if_pos (by omega)]
    · by_cases h2 : j = off + k
      · subst h2
        rw [if_pos (by omega), if_pos (by omega), if_pos rfl, if_pos (by omega), if_neg (by omega), if_pos (by omega)]
        have : off + k - min (off + k) cs.size = 0 := by omega
        rw [this]; simp
      · by_cases h3 : j < off + k + (l.length + 1)
        · rw [if_neg (by omega), if_pos (by omega), if_neg (by omega), if_pos (by omega)]
          rw [show j - min (off + k) cs.size = (j - min (off + (k + 1)) cs.size) + 1 by omega, List.getElem?_cons_succ]
        · rw [if_neg (by omega), if_neg (by omega), if_neg (by omega), if_neg (by omega), if_neg (by omega)]
          congr 1; omega

def PsRel (μ : Mu) : List (Nat × AV) → List (Nat × Value) → Prop
  | [], qs => qs = []
  | (i, a) :: ps, qs => ∃ v r, qs = (i, v) :: r ∧ VRel μ a v ∧ PsRel μ ps r

theorem fill_rel {place place' : Nat → Option (Nat × Nat)} (hp : ∀ i x, place i = some x → place' i = some x) : ∀ {ps : List (Nat × AV)} {qs : List (Nat × Value)} {cells r : List AV} {vs : List Value},
    fillParts place cells ps = some r → VsRel μ cells vs → PsRel μ ps qs → cells.all AV.scalar = true →
    ∃ rs, Instr.fill place' ⟨vs⟩ qs = some ⟨rs⟩ ∧ VsRel μ r rs ∧ r.all AV.scalar = true ∧ r.length = cells.length
  | [], qs, cells, r, vs, h, hc, hq, hs => by
    cases hq
    simp [fillParts] at h; subst h
    exact ⟨vs, rfl, hc, hs, rfl⟩
  | (i, a) :: ps, qs, cells, r, vs, h, hc, hq, hs => by
    obtain ⟨v, q, rfl, hv, hq⟩ := hq
    simp only [fillParts] at h
    split at h
    · cases h
    · rename_i off size hpl
      split at h
      · rename_i hcond
        obtain ⟨c1, c2, c3⟩ := hcond
        have hvc := hv.cells
        have hvl := hvc.length
        have hcl := hc.length
        have hsz : v.cells.size = size := by rw [← Array.length_toList, ← hvl, c1]
        have hle : off + 0 + v.cells.toList.length ≤ (⟨vs⟩ : Array Value).size := by simp; omega
        have hnew : VsRel μ (splice cells off a.cells) (vs.take off ++ (v.cells.toList ++ vs.drop (off + v.cells.toList.length))) := by
          unfold splice
          rw [← hvl]
          exact (hc.take _).append (hvc.append (hc.drop _))
        have hsc : (splice cells off a.cells).all AV.scalar = true := by
          unfold splice
          rw [List.all_eq_true] at hs c3 ⊢
          intro x hx
          rcases List.mem_append.1 hx with hx | hx
          · exact hs x (List.mem_of_mem_take hx)
          · rcases List.mem_append.1 hx with hx | hx
            · exact c3 x hx
            · exact hs x (List.mem_of_mem_drop hx)
        obtain ⟨rs, h1, h2, h3, h4⟩ := fill_rel hp (ps := ps) h hnew hq hsc
        refine ⟨rs, ?_, h2, h3, by rw [h4, splice_length _ _ _ (by omega)]⟩
        simp only [Instr.fill, hp _ _ hpl]
        rw [if_neg]
        · have := foldl_set v.cells.toList 0 ⟨vs⟩ off hle
          have e : (v.cells.zipIdx.foldl (fun cs (c, j) => cs.setIfInBounds (off + j) c) (⟨vs⟩ : Array Value)) = ⟨vs.take off ++ (v.cells.toList ++ vs.drop (off + v.cells.toList.length))⟩ := by
            apply Array.ext'
            rw [← Array.foldl_toList]
            simpa using this
          rw [e]; exact h1
        · simp [hsz]; omega
      · cases h

theorem all_rep {z : List AV} (h : z.all AV.scalar = true) (n : Nat) : (rep n z).all AV.scalar = true := by
  rw [List.all_eq_true] at h ⊢
  intro x hx
  simp only [rep, List.mem_flatten, List.mem_replicate] at hx
  obtain ⟨l, ⟨_, rfl⟩, hl⟩ := hx
  exact h x hl
theorem rep_length (n : Nat) (z : List AV) : (rep n z).length = n * z.length := by simp [rep]
theorem rep_rel {z : List AV} {zs : List Value} (h : VsRel μ z zs) : ∀ n, VsRel μ (rep n z) (List.replicate n zs).flatten
  | 0 => rfl
  | n + 1 => by
    show VsRel μ (List.replicate (n + 1) z).flatten _
    rw [List.replicate_succ, List.flatten_cons, List.replicate_succ, List.flatten_cons]
    exact h.append (rep_rel h n)
theorem range_rep (zs : List Value) (n : Nat) : ((Array.range (n * zs.length)).map fun i => (⟨zs⟩ : Array Value)[i % (⟨zs⟩ : Array Value).size]!).toList = (List.replicate n zs).flatten := by
  apply List.ext_getElem
  · simp
  · intro i h1 h2
    simp only [Array.length_toList, Array.size_map, Array.size_range] at h1
    have hpos : 0 < zs.length := by
      rcases Nat.eq_zero_or_pos zs.length with h | h
      · rw [h] at h1; simp at h1
      · exact h
    have hm : i % zs.length < zs.length := Nat.mod_lt _ hpos
    have : (List.replicate n zs).flatten[i] = zs[i % zs.length] := by
      have gen : ∀ (n i : Nat) (h : i < ((List.replicate n zs).flatten).length), ((List.replicate n zs).flatten)[i] = zs[i % zs.length]'(Nat.mod_lt _ hpos) := by
        intro n
        induction n with
        | zero => intro i h; simp at h
        | succ n ih =>
          intro i h
          have e : (List.replicate (n + 1) zs).flatten = zs ++ (List.replicate n zs).flatten := by rw [List.replicate_succ, List.flatten_cons]
          have hi : i < (zs ++ (List.replicate n zs).flatten).length := by rw [← e]; exact h
          rw [List.getElem_of_eq e h]
          by_cases hlt : i < zs.length
          · rw [List.getElem_append_left hlt]
            congr 1
            exact (Nat.mod_eq_of_lt hlt).symm
          · rw [List.getElem_append_right (by omega), ih]
            congr 1
            exact (Nat.mod_eq_sub_mod (by omega)).symm
      exact gen n i h2
    rw [this]
    simp [hm]

theorem mapM_places (hE : TyOK E P) : ∀ (fs : List Field), (fs.all fun f => (E.ty f.type).isSome) = true →
    (fs.mapM fun f => do pure (f.offset, ← Go.sizeOf f.type) : Sem (List (Nat × Nat))).run P w = .ok (fs.map fun f => (f.offset, sizeT E f.type)) w
  | [], _ => by simp
  | f :: fs, h => by
    simp only [List.all_cons, Bool.and_eq_true] at h
    obtain ⟨i, hi⟩ := Option.isSome_iff_exists.1 h.1
    have ih := mapM_places hE fs h.2
    simp only [List.mapM_cons, Sem.run_bind, run_sizeOfT hE hi, Result.andThen_ok, Sem.run_pure, ih, List.map_cons, sizeT_eq hi]

theorem build_run (hE : TyOK E P) {t : Nat} {ps : List (Nat × AV)} {qs : List (Nat × Value)} {r : AV} (h : evBuild E t ps = some r) (hq : PsRel μ ps qs) :
    ∃ v, (Instr.build t ⟨qs⟩).run P w = .ok v w ∧ VRel μ r v := by
  unfold evBuild at h
  split at h
  · rename_i i hi
    split at h
    · rename_i z hz
      obtain ⟨zv, hz1, hz2⟩ := run_zeroT (w := w) hE hi hz
      have hzc := (hz2 μ).cells
      split at h
      · rename_i hs
        have hU := run_und (w := w) hE hi
        split at h
        · rename_i fs hu
          rw [hu] at hU
          split at h
          · rename_i hall
            split at h
            · rename_i cs hf
              cases h
              have hm := mapM_places (w := w) hE fs.toList (by simpa using hall)
              obtain ⟨rs, h1, h2, h3, h4⟩ := fill_rel (μ := μ) (place' := fun j => (fs.map fun f => (f.offset, sizeT E f.type))[j]?) (fun j x hx => by
                simp only [Array.getElem?_map]
                cases hfj : fs[j]? with
                | none => rw [hfj] at hx; cases hx
                | some f => rw [hfj] at hx; simpa using hx) hf hzc hq hs
              refine ⟨.agg ⟨rs⟩, ?_, rs, rfl, h2, h3⟩
              have hm' : (fs.mapM fun f => do pure (f.offset, ← Go.sizeOf f.type) : Sem (Array (Nat × Nat))).run P w = .ok (fs.map fun f => (f.offset, sizeT E f.type)) w := by
                rw [Array.mapM_eq_mapM_toList, Sem.run_map, hm]
                simp only [Result.andThen_ok]
                congr 1
                apply Array.ext'
                simp
              simp only [Instr.build, Sem.run_bind, hz1, Result.andThen_ok, hU, hm', h1, Sem.run_pure]
            · cases h
          · cases h
        · rename_i n e hu
          rw [hu] at hU
          split at h
          · rename_i hall
            obtain ⟨ei, hei⟩ := Option.isSome_iff_exists.1 hall
            split at h
            · rename_i cs hf
              cases h
              obtain ⟨rs, h1, h2, h3, h4⟩ := fill_rel (μ := μ) (place' := fun j => some (j * ei.size, ei.size)) (fun j x hx => by rw [sizeT_eq hei] at hx; exact hx) hf hzc hq hs
              refine ⟨.agg ⟨rs⟩, ?_, rs, rfl, h2, h3⟩
              simp only [Instr.build, Sem.run_bind, hz1, Result.andThen_ok, hU, run_sizeOfT hE hei, h1, Sem.run_pure]
            · cases h
          · cases h
        · cases h
      · cases h
    · cases h
  · cases h

theorem buildSlice_good (hE : TyOK E P) (hr : Rep μ m w) {t len : Nat} {ps : List (Nat × AV)} {qs : List (Nat × Value)} {r : AV} (h : evBuildSlice E t len ps m = some (r, m')) (hq : PsRel μ ps qs) (hf : μ m.next = none) :
    ∃ v w' μ', (Instr.buildSlice t len ⟨qs⟩).run P w = .ok v w' ∧ VRel μ' r v ∧ Step μ m w μ' m' w' := by
  unfold evBuildSlice at h
  split at h
  · rename_i i hi
    have hU := run_und (w := w) hE hi
    split at h
    · rename_i e hu
      rw [hu] at hU
      split at h
      · rename_i ie hie
        split at h
        · rename_i z hz
          split at h
          · rename_i hc
            simp only [Bool.and_eq_true] at hc
            obtain ⟨⟨hs, hzl⟩, hle⟩ := hc
            rw [Nat.beq_eq] at hzl
            have hle : len * ie.size ≤ 16777216 := Nat.le_of_ble_eq_true hle
            split at h
            · rename_i cells hfill
              obtain ⟨rfl, rfl⟩ := Prod.mk.inj (Option.some.inj h)
              obtain ⟨zv, hz1, hz2⟩ := run_zeroT (w := w) hE hie hz
              have hzc := (hz2 μ).cells
              have hzvl : zv.cells.toList.length = ie.size := by rw [← hzc.length, hzl]
              obtain ⟨rs, h1, h2, h3, h4⟩ := fill_rel (μ := μ) (place' := fun j => some (j * ie.size, ie.size)) (fun j x hx => hx) hfill (rep_rel hzc len) hq (all_rep hs len)
              have hcl : cells.length = len * ie.size := by rw [h4, rep_length, hzl]
              refine ⟨_, { w with heap := w.heap.push (.cells ⟨rs⟩ e) }, μ.with m.next ⟨w.heap.size, 0, rs.length⟩, ?_, ⟨⟨w.heap.size, 0, rs.length⟩, 0, Mu.with_same _ _ _, rfl, .inl rfl, Nat.le_refl _⟩, ?_⟩
              rotate_left
              · refine Step.alloc (n := rs.length) (o := .cells ⟨rs⟩ e) hr hf rfl ⟨rfl, rfl, rfl⟩ ?_
                exact newRow_rel (e := e) rfl (h2.mono (Mu.le_with hf)) h3 true
              · have hlim : ¬ (len * ie.size > 2 ^ 24) := by simp; omega
                have harr : ((Array.range (len * ie.size)).map fun x => zv.cells[x % zv.cells.size]!) = ⟨(List.replicate len zv.cells.toList).flatten⟩ := by
                  apply Array.ext'
                  have := range_rep zv.cells.toList len
                  rw [hzvl] at this
                  simpa using this
                by_cases hn : len * ie.size = 0
                · have hempty : (List.replicate len zv.cells.toList).flatten = [] := by
                    rw [← List.length_eq_zero_iff]; simp [hzvl, hn]
                  rw [hempty] at h1
                  simp only [Instr.buildSlice, Sem.run_bind, hU, Result.andThen_ok, run_sizeOfT hE hie, if_neg hlim]
                  simp only [hn, if_true, Sem.run_bind, Sem.run_pure, Result.andThen_ok]
                  have : (Array.map (fun x => (#[] : Array Value)[x % (#[] : Array Value).size]!) (Array.range 0)) = #[] := by simp
                  rw [this, show (#[] : Array Value) = ⟨[]⟩ from rfl, h1]
                  rfl
                · simp only [Instr.buildSlice, Sem.run_bind, hU, Result.andThen_ok, run_sizeOfT hE hie, hlim, if_false, Sem.run_pure, hn, hz1, harr, h1]
                  rfl
            · cases h
          · cases h
        · cases h
      · cases h
    · cases h
  · cases h
end
end Ev

/-
  Parts of values; addresses of parts; slices.
-/
namespace Ev
open Go

section
variable {E : Env} {P : Program} {μ : Mu} {m m' : AMem} {w : World}

theorem nilCheck_ok {a r : AV} {x : Value} (h : evNilCheck a = some r) (hx : VRel μ a x) : r = a ∧ x ≠ .pointer none ∧ x ≠ .nilIface ∧ x ≠ .nilFunc ∧ ∀ n f c, x ≠ .func (.method n) f c := by
  unfold evNilCheck at h
  split at h <;> cases h
  · obtain ⟨L, _, rfl⟩ := hx; simp
  · obtain ⟨L, rfl, _⟩ := hx; simp
  · obtain ⟨L, o, rfl, _⟩ := hx; simp

theorem part_good (hE : TyOK E P) {t off : Nat} {cs : List AV} {vs : List Value} {r : AV} (h : evPart E t cs off = some r) (hc : VsRel μ cs vs) (hs : cs.all AV.scalar = true) :
    ∃ v, (part t ⟨vs⟩ off).run P w = .ok v w ∧ VRel μ r v := by
  unfold evPart at h
  split at h
  · rename_i i hi
    simp only [part, Sem.run_bind, run_isAggT hE hi, Result.andThen_ok]
    split at h
    · rename_i hagg
      cases h
      refine ⟨.agg ⟨(vs.drop off).take i.size⟩, ?_, _, rfl, (hc.drop _).take _, ?_⟩
      · simp only [hagg, if_true, Sem.run_bind, run_sizeOfT hE hi, Result.andThen_ok, Sem.run_pure]
        congr 2
        simp [List.take_drop]
      · rw [List.all_eq_true] at hs ⊢
        exact fun x hx => hs x (List.mem_of_mem_drop (List.mem_of_mem_take hx))
    · rename_i hagg
      obtain ⟨v, hv1, hv2⟩ := hc.get _ _ h
      refine ⟨v, ?_, hv2⟩
      have : (⟨vs⟩ : Array Value)[off]? = some v := by simpa using hv1
      simp [hagg, this]
  · cases h

theorem fieldAt_ok (hE : TyOK E P) {t j : Nat} {f : Field} (h : fieldAt E t j = some f) : ∃ fs, (underlying t).run P w = .ok (.struct fs) w ∧ fs[j]? = some f := by
  unfold fieldAt at h
  split at h
  · rename_i i hi
    have hU := run_und (w := w) hE hi
    cases hu : i.u <;> rw [hu] at h hU <;> simp [fieldsOf] at h
    exact ⟨_, hU, h⟩
  · cases h

theorem field_run (hE : TyOK E P) {t j : Nat} {a r : AV} {x : Value} (h : evField E t a j = some r) (hx : VRel μ a x) : ∃ v, (Instr.field t x j).run P w = .ok v w ∧ VRel μ r v := by
  unfold evField at h
  cases hf : fieldAt E t j with
  | none => rw [hf] at h; cases h
  | some f =>
    rw [hf] at h
    cases ha : a.asAgg with
    | none => rw [ha] at h; cases h
    | some cs =>
      rw [ha] at h
      have := asAgg_eq ha; subst this
      obtain ⟨vs, rfl, hvs, hs⟩ := hx
      obtain ⟨fs, h1, h2⟩ := fieldAt_ok (P := P) (w := w) hE hf
      obtain ⟨v, h3, h4⟩ := part_good (P := P) (w := w) hE h hvs hs
      exact ⟨v, by simp [Instr.field, h1, h2, asAgg, h3], h4⟩

theorem fieldAddr_run (hE : TyOK E P) {t j : Nat} {a r : AV} {x : Value} (h : evFieldAddr E t a j = some r) (hx : VRel μ a x) : ∃ v, (Instr.fieldAt t x j).run P w = .ok v w ∧ VRel μ r v := by
  unfold evFieldAddr at h
  cases hf : fieldOff E t j with
  | none => rw [hf] at h; cases h
  | some o =>
    rw [hf] at h
    cases ha : a.asPtr with
    | none => rw [ha] at h; cases h
    | some p =>
      rw [ha] at h
      have := asPtr_eq ha; subst this
      obtain ⟨L, hL, rfl⟩ := hx
      cases h
      unfold fieldOff at hf
      split at hf
      · rename_i f hfa
        split at hf
        · cases hf
        · rename_i hz
          cases hf
          have hz' : sizeT E f.type ≠ 0 := by
            intro e; rw [e] at hz; exact hz rfl
          obtain ⟨fs, h1, h2⟩ := fieldAt_ok (P := P) (w := w) hE hfa
          refine ⟨.pointer (some ⟨L.b, L.sh + p.2 + f.offset, none⟩), ?_, L, hL, ?_⟩
          · simp [Instr.fieldAt, h1, h2, Instr.sureAddr, fieldPlace, run_sizeT hE hz', hz', add_plain]
          · show Value.pointer (some ⟨L.b, L.sh + p.2 + f.offset, none⟩) = .pointer (some ⟨L.b, L.sh + (p.2 + f.offset), none⟩)
            rw [Nat.add_assoc]
      · cases hf

theorem asNat_rel {b : AV} {y : Value} {n : Nat} (h : b.asNat = some n) (hy : VRel μ b y) : ∃ k, y = .int k (n : Int) := by
  obtain ⟨k, rfl⟩ := asNat_eq h
  exact ⟨k, hy⟩

theorem index_run (hE : TyOK E P) {t n : Nat} {a r : AV} {x : Value} {k : IntKind} (h : evIndex E t a n = some r) (hx : VRel μ a x) : ∃ v, (Instr.index t x (.int k (n : Int))).run P w = .ok v w ∧ VRel μ r v := by
  unfold evIndex at h
  split at h
  · rename_i i hi
    have hU := run_und (w := w) hE hi
    split at h
    · rename_i len e cs hu
      rw [hu] at hU
      split at h
      · rename_i hlt
        rw [blt_iff] at hlt
        obtain ⟨vs, rfl, hvs, hs⟩ := hx
        obtain ⟨v, h3, h4⟩ := part_good (P := P) (w := w) hE h hvs hs
        refine ⟨v, ?_, h4⟩
        have hse : (Go.sizeOf e).run P w = .ok (sizeT E e) w := by
          cases he : E.ty e with
          | none => simp [evPart, he] at h
          | some ie => rw [sizeT_eq he]; exact run_sizeOfT hE he
        have hcond : (0 : Int) ≤ (n : Int) ∧ (n : Int) < (len : Int) := ⟨Int.natCast_nonneg _, by exact_mod_cast hlt⟩
        simp [Instr.index, asIntOf, hU, hlt, hse, h3]
      · cases h
    · rename_i s hu
      rw [hu] at hU
      split at h
      · rename_i b hb
        cases h
        obtain ⟨rfl, hs⟩ := hx
        refine ⟨.int .u8 (b : Int), ?_, rfl⟩
        have hlt : n < s.length := (List.getElem?_eq_some_iff.1 hb).1
        have hsz : n < (strV s).size := by rw [strV_size]; exact hlt
        have hget : (strV s)[n]? = some (UInt8.ofNat b) := by
          rw [getElem?_pos (strV s) n hsz]
          congr 1
          show ((s.map UInt8.ofNat).toArray)[n]'(by simpa using hlt) = _
          simp [(List.getElem?_eq_some_iff.1 hb).2]
        have hget : (⟨(s.map UInt8.ofNat).toArray⟩ : ByteArray)[n]? = some (UInt8.ofNat b) := hget
        have hb' : b < 256 := hs b (List.mem_of_getElem? hb)
        simp [Instr.index, asIntOf, hU, hget]
        omega
      · cases h
    · cases h
  · cases h

theorem idxT_ok (hE : TyOK E P) {t : Nat} {l : Option Nat} {es : Nat} (h : idxT E t = some (l, es)) : ∃ e, (Go.sizeOf e).run P w = .ok es w ∧
    ((∃ len, l = some len ∧ (underlying t).run P w = .ok (.array len e) w) ∨ (l = none ∧ (underlying t).run P w = .ok (.slice e) w)) := by
  unfold idxT at h
  split at h
  · rename_i i hi
    have hU := run_und (w := w) hE hi
    split at h
    · rename_i len e hu
      rw [hu] at hU
      unfold withSize at h
      split at h
      · rename_i ie hie
        cases h
        exact ⟨e, run_sizeOfT hE hie, .inl ⟨len, rfl, hU⟩⟩
      · cases h
    · rename_i e hu
      rw [hu] at hU
      unfold withSize at h
      split at h
      · rename_i ie hie
        cases h
        exact ⟨e, run_sizeOfT hE hie, .inr ⟨rfl, hU⟩⟩
      · cases h
    · cases h
  · cases h

theorem idxPtr_eq {id off n len es : Nat} {r : AV} (h : idxPtr id off n len es = some r) : n < len ∧ r = .ptr id (off + n * es) := by
  unfold idxPtr at h
  rw [selLt] at h
  split at h
  · rename_i hlt; cases h; exact ⟨hlt, rfl⟩
  · cases h

theorem indexAddr_run (hE : TyOK E P) {t n : Nat} {a r : AV} {x : Value} {k : IntKind} (h : evIndexAddr E t a n = some r) (hx : VRel μ a x) :
    ∃ v, (Instr.indexAt t x (.int k (n : Int))).run P w = .ok v w ∧ VRel μ r v := by
  unfold evIndexAddr at h
  cases hq : idxT E t with
  | none => rw [hq] at h; cases h
  | some q =>
    rw [hq] at h
    obtain ⟨l, es⟩ := q
    obtain ⟨e, hse, hcase⟩ := idxT_ok (P := P) (w := w) hE hq
    simp only [idxAt] at h
    rcases hcase with ⟨len, rfl, hU⟩ | ⟨rfl, hU⟩
    · cases ha : a.asPtr with
      | none => rw [ha] at h; cases h
      | some p =>
        rw [ha] at h
        have := asPtr_eq ha; subst this
        obtain ⟨L, hL, rfl⟩ := hx
        obtain ⟨hlt, rfl⟩ := idxPtr_eq h
        refine ⟨.pointer (some ⟨L.b, L.sh + p.2 + n * es, none⟩), ?_, L, hL, by rw [Nat.add_assoc]⟩
        simp [Instr.indexAt, asIntOf, hU, Instr.sureAddr, hlt, hse, add_plain]
    · cases ha : a.asSl with
      | none => rw [ha] at h; cases h
      | some q =>
        rw [ha] at h
        obtain ⟨hlt, rfl⟩ := idxPtr_eq h
        rcases asSl_eq ha with ⟨c, rfl⟩ | ⟨es', rfl⟩
        · obtain ⟨L, o, hL, rfl, ho, hle⟩ := hx
          have ho : o = L.sh + q.2.1 := by
            rcases ho with ho | ho
            · exact ho
            · omega
          subst ho
          refine ⟨.pointer (some ⟨L.b, L.sh + q.2.1 + n * es, none⟩), ?_, L, hL, by rw [Nat.add_assoc]⟩
          simp [Instr.indexAt, asIntOf, hU, hlt, hse, add_plain]
        · obtain ⟨L, o, c, hL, rfl, hle, ho⟩ := hx
          have ho : o = L.sh + q.2.1 := by
            rcases ho with ho | ho
            · exact ho.1
            · omega
          subst ho
          refine ⟨.pointer (some ⟨L.b, L.sh + q.2.1 + n * es, none⟩), ?_, L, hL, by rw [Nat.add_assoc]⟩
          simp [Instr.indexAt, asIntOf, hU, hlt, hse, add_plain]

/-! ### Slicing -/
/-- an optional bound, and the model's value of it -/
def BndRel (b : Option Nat) (v : Option Value) : Prop := match b with
  | none => v = none
  | some n => ∃ k, v = some (.int k (n : Int))

theorem bound_run {n y : Nat} {k : IntKind} {code : BoundsCode} (h : n ≤ y) : (Instr.sliceBound (.int k (n : Int)) y code).run P w = .ok n w := by
  have : (n : Int) ≤ (y : Int) := by exact_mod_cast h
  simp [Instr.sliceBound, asIntOf, h]

theorem bounds_run {isSl : Bool} {len cap : Nat} {lo hi mx : Option Nat} {vl vh vm : Option Value} (hl : BndRel lo vl) (hh : BndRel hi vh) (hm : BndRel mx vm)
    (h1 : mx.getD cap ≤ cap) (h2 : hi.getD len ≤ mx.getD cap) (h3 : lo.getD 0 ≤ hi.getD len) (h4 : mx.isSome = true → hi.isSome = true) :
    (Instr.sliceBounds isSl len cap vl vh vm).run P w = .ok (lo.getD 0, hi.getD len, mx.getD cap) w := by
  cases mx with
  | none =>
    cases hm
    simp only [Option.getD_none] at h1 h2
    cases hi with
    | none =>
      cases hh
      simp only [Option.getD_none] at h2 h3
      cases lo with
      | none => cases hl; simp [Instr.sliceBounds]
      | some l => obtain ⟨k, rfl⟩ := hl; simp only [Option.getD_some] at h3; simp [Instr.sliceBounds, bound_run h3]
    | some hh' =>
      obtain ⟨k, rfl⟩ := hh
      simp only [Option.getD_some] at h2 h3
      cases lo with
      | none => cases hl; simp [Instr.sliceBounds, bound_run h2]
      | some l => obtain ⟨k, rfl⟩ := hl; simp only [Option.getD_some] at h3; simp [Instr.sliceBounds, bound_run h2, bound_run h3]
  | some c =>
    obtain ⟨k, rfl⟩ := hm
    simp only [Option.getD_some] at h1 h2
    cases hi with
    | none => simp at h4
    | some hh' =>
      obtain ⟨k, rfl⟩ := hh
      simp only [Option.getD_some] at h2 h3
      cases lo with
      | none => cases hl; simp [Instr.sliceBounds, bound_run h1, bound_run h2]
      | some l => obtain ⟨k, rfl⟩ := hl; simp only [Option.getD_some] at h3; simp [Instr.sliceBounds, bound_run h1, bound_run h2, bound_run h3]

/-- the slice expression on a slice whose elements have es cells -/
theorem evSlice_run {es l h c : Nat} {a r : AV} {b o len cap : Nat} {lo hi mx : Option Nat} (hr : Rep μ m w) (hev : evSlice m es a lo hi mx = some r)
    (hx : VRel μ a (.slice (some ⟨b, o, none⟩) len cap)) (hl : l = lo.getD 0) (hh : h = hi.getD len) (hc : c = mx.getD cap) :
    c ≤ cap ∧ h ≤ c ∧ l ≤ h ∧ VRel μ r (.slice (some (if c = l then ⟨b, o, none⟩ else (⟨b, o, none⟩ : Addr).add (l * es))) (h - l) (c - l)) := by
  subst hl; subst hh; subst hc
  rw [add_plain]
  have hif : (if mx.getD cap = lo.getD 0 then (⟨b, o, none⟩ : Addr) else ⟨b, o + lo.getD 0 * es, none⟩) = ⟨b, if mx.getD cap = lo.getD 0 then o else o + lo.getD 0 * es, none⟩ := by split <;> rfl
  rw [hif]
  unfold evSlice at hev
  split at hev
  · cases hx
  · rename_i id off len' cap'
    obtain ⟨L, o', hL, e, ho, hle⟩ := hx
    cases e
    simp only at hev
    split at hev
    · rename_i hcond
      obtain ⟨c1, c2, c3⟩ := hcond
      cases hev
      refine ⟨c1, c2, c3, L, _, hL, rfl, ?_, by omega⟩
      by_cases he : mx.getD cap = lo.getD 0
      · right; omega
      · left
        rw [if_neg he, if_neg he]
        rcases ho with ho | ho
        · omega
        · omega
    · cases hev
  · rename_i id off len' es'
    obtain ⟨L, o', c', hL, e, hle, ho⟩ := hx
    cases e
    simp only at hev
    split at hev
    · rename_i hes
      obtain ⟨rfl, hes⟩ := hes
      split at hev
      · rename_i c
        split at hev
        · rename_i hcond
          obtain ⟨c1, c2, c3⟩ := hcond
          cases hev
          simp only [Option.getD_some] at c2 ⊢
          refine ⟨by omega, c2, c3, L, _, hL, rfl, ?_, by omega⟩
          by_cases he : c = lo.getD 0
          · right; omega
          · left
            rw [if_neg he, if_neg he]
            rcases ho with ho | ho
            · omega
            · omega
        · cases hev
      · simp only [Option.getD_none]
        split at hev
        · rename_i hlh
          have key : ∀ (H : hi.getD len ≤ cap), AV.oslice id (off + lo.getD 0 * es') (hi.getD len - lo.getD 0) es' = r →
              cap ≤ cap ∧ hi.getD len ≤ cap ∧ lo.getD 0 ≤ hi.getD len ∧ VRel μ r (.slice (some ⟨L.b, if cap = lo.getD 0 then o else o + lo.getD 0 * es', none⟩) (hi.getD len - lo.getD 0) (cap - lo.getD 0)) := by
            intro H hreq
            subst hreq
            refine ⟨Nat.le_refl _, H, hlh, L, _, cap - lo.getD 0, hL, rfl, by omega, ?_⟩
            have hmul : (cap - lo.getD 0) * es' + lo.getD 0 * es' = cap * es' := by rw [← Nat.add_mul]; congr 1; omega
            rcases ho with ⟨ho1, ho2⟩ | ⟨ho1, ho2⟩
            · by_cases he : cap = lo.getD 0
              · right; refine ⟨by omega, ?_⟩
                have : (cap - lo.getD 0) * es' = 0 := by rw [he]; simp
                omega
              · left; rw [if_neg he]; exact ⟨by omega, by omega⟩
            · right
              have h0 : lo.getD 0 = 0 := by omega
              refine ⟨by omega, ?_⟩
              rw [h0]; omega
          split at hev
          · rename_i hlen
            exact key (by omega) (Option.some.inj hev)
          · split at hev
            · rename_i size cells ov closed hg
              split at hev
              · rename_i hsz
                have hb := hr.blk _ _ _ hg hL
                obtain ⟨c₀, e₀, lo₀, hi₀, g1, g2, g3, g4, _⟩ := hb
                refine key ?_ (Option.some.inj hev)
                rcases ho with ⟨ho1, ho2⟩ | ⟨ho1, ho2⟩
                · apply Nat.le_of_mul_le_mul_right _ hes
                  omega
                · exfalso
                  have : 0 < hi.getD len := by omega
                  have : 0 < hi.getD len * es' := Nat.mul_pos this hes
                  omega
              · cases hev
            · cases hev
        · cases hev
    · cases hev
  · cases hev

theorem addIf (b o l c n : Nat) : (if c = l then (⟨b, o, none⟩ : Addr) else (⟨b, o, none⟩ : Addr).add n) = ⟨b, if c = l then o else o + n, none⟩ := by
  rw [add_plain]; split <;> rfl

/-- slicing a slice, the model's -/
theorem slice_slice (hE : TyOK E P) (hr : Rep μ m w) {t e : Nat} {a r : AV} {x : Value} {lo hi mx : Option Nat} {vl vh vm : Option Value} (hU : (underlying t).run P w = .ok (.slice e) w)
    (h : evSliceT E m e a lo hi mx = some r) (hx : VRel μ a x) (hl : BndRel lo vl) (hh : BndRel hi vh) (hm : BndRel mx vm) :
    ∃ v, (Instr.slice t x vl vh vm).run P w = .ok v w ∧ VRel μ r v := by
  unfold evSliceT at h
  split at h
  · rename_i ie hie
    split at h
    · rename_i h4
      have h4' : mx.isSome = true → hi.isSome = true := by
        intro hs; rw [Bool.or_eq_true] at h4
        rcases h4 with h4 | h4
        · cases mx <;> simp at h4 hs
        · exact h4
      have hse := run_sizeOfT (w := w) hE hie
      by_cases hnil : a = .nilslice
      · subst hnil
        cases hx
        simp only [evSlice] at h
        split at h
        · rename_i hc
          obtain ⟨c1, c2, c3⟩ := hc
          cases h
          have hb := bounds_run (P := P) (w := w) (isSl := true) (len := 0) (cap := 0) hl hh hm (by omega) (by omega) (by omega) h4'
          refine ⟨.slice none 0 0, ?_, rfl⟩
          simp [Instr.slice, hU, hb, hse, c1, c2, c3]
        · cases h
      · have hform : ∃ b o len cap, x = .slice (some ⟨b, o, none⟩) len cap := by
          cases a <;> simp only [evSlice] at h <;> (try cases h)
          case nilslice => exact absurd rfl hnil
          case slice => obtain ⟨L, o, hL, e, _⟩ := hx; exact ⟨_, _, _, _, e⟩
          case oslice => obtain ⟨L, o, c, hL, e, _⟩ := hx; exact ⟨_, _, _, _, e⟩
        obtain ⟨b, o, len, cap, rfl⟩ := hform
        obtain ⟨c1, c2, c3, hv⟩ := evSlice_run hr h hx rfl rfl rfl
        have hb := bounds_run (P := P) (w := w) (isSl := true) hl hh hm c1 c2 c3 h4'
        refine ⟨_, ?_, hv⟩
        simp only [Instr.slice, Sem.run_bind, hU, Result.andThen_ok, hb, hse, Sem.run_pure]
        split <;> rfl
    · cases h
  · cases h

/-- slicing an array behind an address -/
theorem slice_arr (hE : TyOK E P) (hr : Rep μ m w) {n e : Nat} {a r : AV} {x : Value} {lo hi mx : Option Nat} {vl vh vm : Option Value}
    (h : evSliceArr E m n e a lo hi mx = some r) (hx : VRel μ a x) (hl : BndRel lo vl) (hh : BndRel hi vh) (hm : BndRel mx vm) :
    ∃ b o l h c size, x = .pointer (some ⟨b, o, none⟩) ∧ (Go.sizeOf e).run P w = .ok size w ∧ (Instr.sliceBounds false n n vl vh vm).run P w = .ok (l, h, c) w ∧
      VRel μ r (.slice (some (if c = l then ⟨b, o, none⟩ else (⟨b, o, none⟩ : Addr).add (l * size))) (h - l) (c - l)) := by
  unfold evSliceArr at h
  split at h
  · rename_i p hp
    have := asPtr_eq hp; subst this
    obtain ⟨L, hL, rfl⟩ := hx
    unfold evSliceT at h
    split at h
    · rename_i ie hie
      split at h
      · rename_i h4
        have h4' : mx.isSome = true → hi.isSome = true := by
          intro hs; rw [Bool.or_eq_true] at h4
          rcases h4 with h4 | h4
          · cases mx <;> simp at h4 hs
          · exact h4
        have hse := run_sizeOfT (w := w) hE hie
        have hx' : VRel μ (.slice p.1 p.2 n n) (.slice (some ⟨L.b, L.sh + p.2, none⟩) n n) := ⟨L, _, hL, rfl, .inl rfl, Nat.le_refl _⟩
        obtain ⟨c1, c2, c3, hv⟩ := evSlice_run hr h hx' rfl rfl rfl
        have hb := bounds_run (P := P) (w := w) (isSl := false) hl hh hm c1 c2 c3 h4'
        exact ⟨_, _, _, _, _, _, rfl, hse, hb, hv⟩
      · cases h
    · cases h
  · cases h

theorem sliceOp_run (hE : TyOK E P) (hr : Rep μ m w) {t : Nat} {a r : AV} {x : Value} {lo hi mx : Option Nat} {vl vh vm : Option Value} (h : evSliceOp E t a lo hi mx m = some r) (hx : VRel μ a x)
    (hl : BndRel lo vl) (hh : BndRel hi vh) (hm : BndRel mx vm) :
    ∃ v, (Instr.sliceAt t x vl vh vm).run P w = .ok v w ∧ VRel μ r v := by
  unfold evSliceOp at h
  split at h
  · rename_i i hi'
    have hU := run_und (w := w) hE hi'
    split at h
    · rename_i e hu
      rw [hu] at hU
      obtain ⟨v, h1, h2⟩ := slice_slice hE hr hU h hx hl hh hm
      exact ⟨v, by simp only [Instr.sliceAt, Sem.run_bind, hU, Result.andThen_ok, h1], h2⟩
    · rename_i hu
      rw [hu] at hU
      split at h
      · rename_i s hs
        have := asStr_eq hs; subst this
        obtain ⟨rfl, hlt⟩ := hx
        cases hm
        unfold evSubstr at h
        split at h
        · rename_i hc
          obtain ⟨c1, c2⟩ := hc
          cases h
          have hsz : (⟨(s.map UInt8.ofNat).toArray⟩ : ByteArray).size = s.length := by simp [ByteArray.size]
          have hb := bounds_run (P := P) (w := w) (isSl := false) (len := s.length) (cap := s.length) (mx := none) hl hh rfl (Nat.le_refl _) c1 c2 (by simp)
          refine ⟨.string ((⟨(s.map UInt8.ofNat).toArray⟩ : ByteArray).extract (lo.getD 0) (hi.getD s.length)), ?_, ?_, ?_⟩
          · simp only [Instr.sliceAt, Sem.run_bind, hU, Result.andThen_ok, Instr.slice, Option.isSome_none, Bool.false_eq_true, if_false, hsz, hb, Sem.run_pure]
          · congr 1
            have : ((⟨(s.map UInt8.ofNat).toArray⟩ : ByteArray).extract (lo.getD 0) (hi.getD s.length)).data = (((s.drop (lo.getD 0)).take (hi.getD s.length - lo.getD 0)).map UInt8.ofNat).toArray := by
              apply Array.ext'
              rw [ByteArray.data_extract]
              simp [List.take_drop, List.map_drop, List.map_take]
            cases hx2 : ((⟨(s.map UInt8.ofNat).toArray⟩ : ByteArray).extract (lo.getD 0) (hi.getD s.length))
            rw [hx2] at this; simp only at this; rw [this]
          · intro x hx
            exact hlt x (List.mem_of_mem_drop (List.mem_of_mem_take hx))
        · cases h
      · cases h
    · rename_i n e hu
      rw [hu] at hU
      obtain ⟨b, o, l, h', c, size, rfl, h1, h2, h3⟩ := slice_arr (P := P) hE hr h hx hl hh hm
      exact ⟨_, by simp only [Instr.sliceAt, Sem.run_bind, hU, Result.andThen_ok, Instr.sureAddr, Sem.run_pure, h2, h1], h3⟩
    · rename_i arr hu
      rw [hu] at hU
      split at h
      · rename_i ai hai
        have hU2 := run_und (w := w) hE hai
        split at h
        · rename_i n e hu2
          rw [hu2] at hU2
          obtain ⟨b, o, l, h', c, size, rfl, h1, h2, h3⟩ := slice_arr (P := P) hE hr h hx hl hh hm
          exact ⟨_, by simp only [Instr.sliceAt, Sem.run_bind, hU, Result.andThen_ok, Instr.slice, asAddr, Sem.run_pure, hU2, h2, h1], h3⟩
        · cases h
      · cases h
    · cases h
  · cases h
end
end Ev

/-
  Slices that are made, grown, copied; conversions.
-/
namespace Ev
open Go

section
variable {E : Env} {P : Program} {μ : Mu} {m m' : AMem} {w : World}

theorem s2ap_run (hE : TyOK E P) {t : Nat} {a r : AV} {x : Value} (h : evS2ap E t a = some r) (hx : VRel μ a x) : ∃ v, (Instr.arrayAt t x).run P w = .ok v w ∧ VRel μ r v := by
  unfold evS2ap at h
  split at h
  · rename_i i hi
    have hU := run_und (w := w) hE hi
    split at h
    · rename_i n e hu
      rw [hu] at hU
      split at h
      · rename_i hn
        rw [blt_iff] at hn
        split at h
        · rename_i id off len cap
          split at h
          · rename_i hle
            have hle := Nat.le_of_ble_eq_true hle
            cases h
            obtain ⟨L, o, hL, rfl, ho, hcap⟩ := hx
            have ho : o = L.sh + off := by
              rcases ho with ho | ho
              · exact ho
              · omega
            subst ho
            refine ⟨_, ?_, L, hL, rfl⟩
            simp only [Instr.arrayAt, Sem.run_bind, hU, Result.andThen_ok]
            rw [if_neg (by omega)]; rfl
          · cases h
        · rename_i id off len es'
          split at h
          · rename_i hle
            have hle := Nat.le_of_ble_eq_true hle
            cases h
            obtain ⟨L, o, c, hL, rfl, hcap, ho⟩ := hx
            have ho : o = L.sh + off := by
              rcases ho with ho | ho
              · exact ho.1
              · omega
            subst ho
            refine ⟨_, ?_, L, hL, rfl⟩
            simp only [Instr.arrayAt, Sem.run_bind, hU, Result.andThen_ok]
            rw [if_neg (by omega)]; rfl
          · cases h
        · cases h
      · cases h
    · cases h
  · cases h

theorem makeSlice_good (hE : TyOK E P) (hr : Rep μ m w) {t : Nat} {a b r : AV} {x y : Value} (h : evMakeSlice E t a b m = some (r, m')) (hx : VRel μ a x) (hy : VRel μ b y) (hf : μ m.next = none) :
    ∃ v w' μ', (Instr.makeSlice t x y).run P w = .ok v w' ∧ VRel μ' r v ∧ Step μ m w μ' m' w' := by
  unfold evMakeSlice at h
  split at h
  · rename_i i hi
    have hU := run_und (w := w) hE hi
    split at h
    · rename_i e hu
      rw [hu] at hU
      split at h
      · rename_i ie hie
        split at h
        · rename_i z hz
          split at h
          · rename_i l c
            split at h
            · rename_i hc
              obtain ⟨c1, c2, c3, c4, c5⟩ := hc
              obtain ⟨rfl, rfl⟩ := Prod.mk.inj (Option.some.inj h)
              cases hx; cases hy
              obtain ⟨zv, hz1, hz2⟩ := run_zeroT (w := w) hE hie hz
              obtain ⟨info, hi1, hi2, hi3⟩ := run_bytesT (w := w) hE hie
              have hzc := (hz2 μ).cells
              have hzvl : zv.cells.toList.length = ie.size := by rw [← hzc.length, c4]
              have hrl : ((List.replicate c zv.cells.toList).flatten).length = c * ie.size := by simp [hzvl]
              refine ⟨.slice (some ⟨w.heap.size, 0, none⟩) l c, { w with heap := w.heap.push (.cells ⟨(List.replicate c zv.cells.toList).flatten⟩ e) }, μ.with m.next ⟨w.heap.size, 0, ((List.replicate c zv.cells.toList).flatten).length⟩, ?_,
                ⟨⟨w.heap.size, 0, ((List.replicate c zv.cells.toList).flatten).length⟩, 0, Mu.with_same _ _ _, rfl, .inl rfl, c1⟩, ?_⟩
              rotate_left
              · refine Step.alloc (o := .cells ⟨(List.replicate c zv.cells.toList).flatten⟩ e) hr hf rfl ⟨rfl, rfl, rfl⟩ ?_
                have := newRow_rel (w := w) (w' := { w with heap := w.heap.push (.cells ⟨(List.replicate c zv.cells.toList).flatten⟩ e) }) (e := e) rfl ((rep_rel hzc c).mono (Mu.le_with (L := ⟨w.heap.size, 0, ((List.replicate c zv.cells.toList).flatten).length⟩) hf)) (all_rep c5 c) true
                have hlen : (rep c z.cells).length = c * ie.size := by rw [rep_length, c4]
                rw [hlen] at this
                exact this
              · have hwl : IntKind.i64.wrap (Int.ofNat l) = (l : Int) := by
                  rw [wrap_def]; simp only [IntKind.bits, IntKind.signed, true_and, Int.reducePow, Nat.reduceSub, Int.ofNat_eq_natCast]
                  have : l < 4611686018427387904 := by omega
                  split <;> omega
                have hwc : IntKind.i64.wrap (Int.ofNat c) = (c : Int) := by
                  rw [wrap_def]; simp only [IntKind.bits, IntKind.signed, true_and, Int.reducePow, Nat.reduceSub, Int.ofNat_eq_natCast]
                  have : c < 4611686018427387904 := by omega
                  split <;> omega
                have hbig : (info.bytes : Int) * (c : Int) ≤ 2 ^ 48 := by
                  have h1 : c * ie.bytes ≤ 281474976710656 := Nat.le_trans c2 (by decide)
                  have h2 : ((c * ie.bytes : Nat) : Int) ≤ 281474976710656 := by omega
                  rw [Int.natCast_mul] at h2
                  rw [hi2, Int.mul_comm]; exact h2
                have hcond : ¬ (((decide ((c : Int) < 0) || decide ((info.bytes : Int) * (c : Int) > 2 ^ 48)) || decide ((l : Int) < 0) || decide ((l : Int) > (c : Int))) = true) := by
                  simp only [Bool.or_eq_true, decide_eq_true_eq, not_or]
                  refine ⟨⟨⟨by omega, by omega⟩, by omega⟩, ?_⟩
                  have : (l : Int) ≤ (c : Int) := by exact_mod_cast c1
                  omega
                have harr : ((Array.range (c * ie.size)).map fun x => zv.cells[x % zv.cells.size]!) = ⟨(List.replicate c zv.cells.toList).flatten⟩ := by
                  apply Array.ext'
                  have := range_rep zv.cells.toList c
                  rw [hzvl] at this
                  simpa using this
                simp only [Instr.makeSlice, Sem.run_bind, hU, Result.andThen_ok, asInt, asIntOf, Sem.run_pure, hi1, hwl, hwc]
                rw [if_neg hcond]
                simp only [Sem.run_bind, run_askRoom, Result.andThen_ok, run_sizeOfT hE hie, Int.toNat_natCast]
                by_cases hn : c * ie.size = 0
                · have hempty : (List.replicate c zv.cells.toList).flatten = [] := by
                    rw [← List.length_eq_zero_iff, hrl, hn]
                  have hz0 : (Array.map (fun x => (#[] : Array Value)[x % (#[] : Array Value).size]!) (Array.range 0)) = #[] := by simp
                  simp only [hn, if_true, Sem.run_pure, Result.andThen_ok, newRow, Sem.run_bind, run_newObj, hempty, hz0]
                · simp only [hn, if_false, Sem.run_bind, hz1, Sem.run_pure, Result.andThen_ok, harr, newRow, run_newObj]
            · cases h
          · cases h
        · cases h
      · cases h
    · cases h
  · cases h

theorem sliceCells_run (P : Program) (hr : Rep μ m w) {es : Nat} {a : AV} {l : List AV} {x : Value} (h : sliceCells m es a = some l) (hx : VRel μ a x) :
    ∃ (o : Option Addr) (len cap : Nat) (vs : List Value), x = .slice o len cap ∧ (o = none → len = 0) ∧ (∀ ad, o = some ad → ∀ w' : World, w'.heap = w.heap → (loadCells ad (len * es)).run P w' = .ok vs.toArray w') ∧ (o = none → vs = []) ∧
      VsRel μ l vs ∧ l.length = len * es ∧ l.all AV.scalar = true := by
  unfold sliceCells at h
  split at h
  · cases h; cases hx
    exact ⟨none, 0, 0, [], rfl, fun _ => rfl, fun _ h => (by cases h), fun _ => rfl, rfl, by simp, rfl⟩
  · rename_i id off len cap
    obtain ⟨L, o, hL, rfl, ho, hcap⟩ := hx
    split at h
    · rename_i h0
      have h0 : len = 0 := Nat.eq_of_beq_eq_true h0
      subst h0
      cases h
      exact ⟨_, _, _, [], rfl, fun h => (by cases h), fun ad _ w' _ => by simp [loadCells, loadCellsFrom], fun _ => rfl, rfl, by simp, rfl⟩
    · rename_i h0
      have h0 : len ≠ 0 := by intro e; rw [e] at h0; exact h0 rfl
      have ho : o = L.sh + off := by
        rcases ho with ho | ho
        · exact ho
        · omega
      subst ho
      obtain ⟨vs, h1, h2, h3, h4⟩ := run_load_cells P hr h hL
      exact ⟨_, _, _, vs, rfl, fun h => (by cases h), fun ad had => by cases had; exact h1, fun h => (by cases h), h2, h3, h4⟩
  · rename_i id off len es'
    obtain ⟨L, o, c, hL, rfl, hcap, ho⟩ := hx
    split at h
    · rename_i h0
      have h0 : len = 0 := Nat.eq_of_beq_eq_true h0
      subst h0
      cases h
      exact ⟨_, _, _, [], rfl, fun h => (by cases h), fun ad _ w' _ => by simp [loadCells, loadCellsFrom], fun _ => rfl, rfl, by simp, rfl⟩
    · rename_i h0
      have h0 : len ≠ 0 := by intro e; rw [e] at h0; exact h0 rfl
      have ho : o = L.sh + off := by
        rcases ho with ho | ho
        · exact ho.1
        · omega
      subst ho
      obtain ⟨vs, h1, h2, h3, h4⟩ := run_load_cells P hr h hL
      exact ⟨_, _, _, vs, rfl, fun h => (by cases h), fun ad had => by cases had; exact h1, fun h => (by cases h), h2, h3, h4⟩
  · cases h

theorem bytesOf_ok : ∀ {l : List AV} {r : List Nat}, bytesOf l = some r → l = r.map (fun n => .int .u8 (Int.ofNat n)) ∧ ∀ x ∈ r, x < 256
  | [], r, h => by simp [bytesOf] at h; subst h; simp
  | a :: l, r, h => by
    unfold bytesOf at h
    split at h
    · rename_i heq; cases heq
    · rename_i n l' heq
      obtain ⟨rfl, rfl⟩ := List.cons.inj heq
      split at h
      · rename_i hlt
        rw [blt_iff] at hlt
        split at h
        · rename_i q hq
          cases h
          obtain ⟨h1, h2⟩ := bytesOf_ok hq
          refine ⟨by rw [List.map_cons, ← h1], ?_⟩
          intro x hx
          rcases List.mem_cons.1 hx with rfl | hx
          · exact hlt
          · exact h2 x hx
        · cases h
      · cases h
    · cases h

theorem bytes_vals {r : List Nat} {vs : List Value} (h : VsRel μ (r.map fun n => .int .u8 (Int.ofNat n)) vs) : vs = r.map fun (n : Nat) => .int .u8 (n : Int) := by
  induction r generalizing vs with
  | nil => cases h; rfl
  | cons a r ih =>
    obtain ⟨v, q, rfl, h1, h2⟩ := h
    rw [ih h2, List.map_cons]
    congr 1
theorem bytesTo_run {r : List Nat} : ∀ (acc : ByteArray) , (∀ x ∈ r, x < 256) →
    (forIn (r.map fun (n : Nat) => Value.int .u8 (n : Int)) acc (fun c s => (match c with
      | .int .u8 n => pure (ForInStep.yield (s.push (UInt8.ofNat n.toNat)))
      | _ => do
        stuck "bytesToString: byte expected"
        pure (ForInStep.yield s) : Sem (ForInStep ByteArray)))).run P w = .ok ⟨(acc.data.toList ++ r.map UInt8.ofNat).toArray⟩ w := by
  induction r with
  | nil => intro acc _; obtain ⟨d⟩ := acc; simp
  | cons a r ih =>
    intro acc h
    rw [List.map_cons, List.forIn_cons]
    simp only [Sem.run_bind, Sem.run_pure, Result.andThen_ok, Int.toNat_natCast]
    rw [ih _ (fun x hx => h x (by simp [hx]))]
    congr 2
    simp [ByteArray.push, List.append_assoc]

theorem bytesToString_run (hr : Rep μ m w) {a : AV} {l : List AV} {q : List Nat} {x : Value} (h : sliceCells m 1 a = some l) (hb : bytesOf l = some q) (hx : VRel μ a x) :
    (Conv.bytesToString x).run P w = .ok (.string (strV q)) w ∧ ∀ y ∈ q, y < 256 := by
  obtain ⟨h1, h2⟩ := bytesOf_ok hb
  obtain ⟨o, len, cap, vs, rfl, g1, g2, g3, g4, g5, g6⟩ := sliceCells_run P hr h hx
  refine ⟨?_, h2⟩
  rw [h1] at g4
  have hvs := bytes_vals g4
  cases o with
  | none =>
    have := g3 rfl
    subst this
    cases q with
    | nil => rfl
    | cons a q => simp at hvs
  | some ad =>
    have hl := g2 ad rfl w rfl
    rw [Nat.mul_one] at hl
    simp only [Conv.bytesToString, Sem.run_bind, hl, Result.andThen_ok]
    have := bytesTo_run (P := P) (w := w) (r := q) ByteArray.empty h2
    rw [← hvs] at this
    refine (congrArg (fun r => Result.andThen r fun a w' => Sem.run P (pure (Value.string a)) w') (?_ : _ = Result.ok (strV q) w)).trans rfl
    rw [List.forIn_toArray]
    refine Eq.trans ?_ (this.trans rfl)
    rfl
end
end Ev

/-
  append, copy; conversions.
-/
namespace Ev
open Go

section
variable {E : Env} {P : Program} {μ : Mu} {m m' : AMem} {w : World}

theorem next_le (need old : Nat) (h : old < need) : Builtin.nextslicecap need old ≤ 2 * need := by
  unfold Builtin.nextslicecap
  split
  · omega
  · split
    · omega
    · have : ∀ r c, c < need → 256 ≤ c → Builtin.growBy need r c ≤ 2 * need := by
        intro r
        induction r with
        | zero => intro c hc _; simp only [Builtin.growBy]; omega
        | succ r ih =>
          intro c hc h256
          simp only [Builtin.growBy]
          rw [if_neg (by omega)]
          by_cases h' : c + (c + 768) / 4 < need
          · exact ih _ h' (by omega)
          · have : ∀ r c, need ≤ c → Builtin.growBy need r c = c := by
              intro r c hc
              cases r with
              | zero => rfl
              | succ r => simp only [Builtin.growBy]; rw [if_pos hc]
            rw [this _ _ (by omega)]
            omega
      exact this 4 old h (by omega)

/-- what append's second operand gives: so many elements, these cells, whatever has been drawn -/
structure Src (P : Program) (μ : Mu) (es : Nat) (w : World) (appended : Sem (Array Value)) (n : Nat) (new : List AV) (vs : List Value) : Prop where
  run : ∀ w' : World, w'.heap = w.heap → appended.run P w' = .ok vs.toArray w'
  rel : VsRel μ new vs
  len : new.length = n * es

theorem srcCells_run (hr : Rep μ m w) {es n : Nat} {a : AV} {l : List AV} {x : Value} (h : srcCells m es a = some l) (hn : lenOf a = some n) (hx : VRel μ a x) :
    (Builtin.lenOf x).run P w = .ok n w ∧ ∃ vs, Src P μ es w (Builtin.firstCells es n x) n l vs := by
  unfold srcCells at h
  split at h
  · rename_i s
    split at h
    · rename_i he
      have he : es = 1 := Nat.eq_of_beq_eq_true he
      subst he
      cases h
      obtain ⟨rfl, hlt⟩ := hx
      simp [lenOf] at hn
      subst hn
      refine ⟨by simp [Builtin.lenOf, ByteArray.size], s.map fun (b : Nat) => .int .u8 (b : Int), ?_, ?_, by simp⟩
      · intro w' _
        simp only [Builtin.firstCells, Sem.run_pure]
        congr 1
        apply Array.ext'
        have hex : ((⟨(s.map UInt8.ofNat).toArray⟩ : ByteArray).extract 0 s.length).data.toList = s.map UInt8.ofNat := by
          rw [ByteArray.data_extract]; simp [List.take_of_length_le]
        rw [Array.toList_map, hex, List.map_map]
        apply List.map_congr_left
        intro b hb
        have := hlt b hb
        simp
        omega
      · induction s with
        | nil => rfl
        | cons b s ih => exact .cons rfl (ih (fun x hx => hlt x (by simp [hx])))
    · cases h
  · rename_i hns
    obtain ⟨o, len, cap, vs, rfl, g1, g2, g3, g4, g5, g6⟩ := sliceCells_run P hr h hx
    have hlen : n = len := by
      cases a <;> simp only [sliceCells] at h <;> (try cases h)
      case nilslice => simp [lenOf] at hn; cases hx; exact hn.symm
      case slice => simp [lenOf] at hn; obtain ⟨L, o, _, e, _⟩ := hx; cases e; exact hn.symm
      case oslice => simp [lenOf] at hn; obtain ⟨L, o, c, _, e, _⟩ := hx; cases e; exact hn.symm
    subst hlen
    refine ⟨by simp [Builtin.lenOf], vs, ?_, g4, g5⟩
    intro w' hw
    cases o with
    | none => rw [g3 rfl]; simp [Builtin.firstCells]
    | some ad => exact g2 ad rfl w' hw

/-! ### append: there is room -/
theorem append_room {t u elem ty n es : Nat} {ud : TypeDesc} {b : Option Addr} {sLen sCap : Nat} {x : Value} {vs : List Value} {new : List AV}
    (hU : ∀ w : World, (underlying t).run P w = .ok (.slice elem) w) (hU2 : ∀ w : World, (underlying u).run P w = .ok ud w) (hud : ∀ k, ud ≠ .int k) (hse : ∀ w : World, (Go.sizeOf elem).run P w = .ok es w)
    (hn : (Builtin.lenOf x).run P w = .ok n w) (hS : Src P μ es w (Builtin.firstCells es n x) n new vs) (hle : sLen + n ≤ sCap) {w' : World}
    (hst : (match b with | some a => storeCells (a.add (sLen * es)) vs | none => pure ()).run P w = .ok () w') :
    (Builtin.append_ #[t, u] ty #[.slice b sLen sCap, x]).run P w = .ok (.slice b (sLen + n) sCap) w' := by
  simp only [Builtin.append_, Sem.run_bind, List.getElem?_toArray, List.getElem?_cons_zero, List.getElem?_cons_succ, hU, hU2, Result.andThen_ok, hse, Sem.run_pure, Bool.false_eq_true, if_false, hn, Bool.not_false, if_true, hle, hS.run w rfl]
  cases b with
  | none => simpa using hst
  | some a => simp only [Sem.run_bind, hst, Result.andThen_ok, Sem.run_pure]

/-- n elements that are zero -/
def zeroSrc (elem es n : Nat) : Sem (Array Value) := if n * es = 0 then pure #[] else do pure (Builtin.zeroCells (← zeroValue elem).cells n)
theorem zeroSrc_run (hE : TyOK E P) {elem n : Nat} {ie : TyI} {z : AV} (hi : E.ty elem = some ie) (hz : ie.zero = some z) (hl : z.cells.length = ie.size) :
    ∃ vs, Src P μ ie.size w (zeroSrc elem ie.size n) n (rep n z.cells) vs := by
  obtain ⟨info, h1, h2, h3, h4, h5, _⟩ := hE.ty elem ie hi
  obtain ⟨zv, e1, e2⟩ := h5 z hz
  have hzc := (ofVal_rel μ e2).cells
  have hzvl : zv.cells.toList.length = ie.size := by rw [← hzc.length, hl]
  refine ⟨(List.replicate n zv.cells.toList).flatten, ?_, rep_rel hzc n, by rw [rep_length, hl]⟩
  intro w' _
  unfold zeroSrc
  by_cases h0 : n * ie.size = 0
  · rw [if_pos h0]
    have : (List.replicate n zv.cells.toList).flatten = [] := by rw [← List.length_eq_zero_iff]; simp [hzvl, h0]
    rw [this]; rfl
  · rw [if_neg h0]
    simp only [zeroValue, typeInfo, Sem.run_bind, run_program, Result.andThen_ok, h1, Sem.run_pure, e1]
    congr 1
    apply Array.ext'
    have := range_rep zv.cells.toList n
    simpa [Builtin.zeroCells] using this

theorem append_room0 (hE : TyOK E P) {t u elem ty n : Nat} {k : IntKind} {ie : TyI} {b : Option Addr} {sLen sCap : Nat} {vs : List Value} {new : List AV} (hi : E.ty elem = some ie)
    (hU : ∀ w : World, (underlying t).run P w = .ok (.slice elem) w) (hU2 : ∀ w : World, (underlying u).run P w = .ok (.int k) w)
    (hS : Src P μ ie.size w (zeroSrc elem ie.size n) n new vs) (hle : sLen + n ≤ sCap) {w' : World} (hnb : n < 2 ^ 62) (hb : n * ie.bytes ≤ mostBytes)
    (hst : (match b with | some a => storeCells (a.add (sLen * ie.size)) vs | none => pure ()).run P w = .ok () w') :
    (Builtin.append_ #[t, u] ty #[.slice b sLen sCap, .int .i64 (n : Int)]).run P w = .ok (.slice b (sLen + n) sCap) w' := by
  have hwn : IntKind.i64.wrap (n : Int) = (n : Int) := by
    rw [wrap_def]; simp only [IntKind.bits, IntKind.signed, true_and, Int.reducePow, Nat.reduceSub]
    have : n < 4611686018427387904 := by omega
    split <;> omega
  obtain ⟨info, hi1, hi2, hi3⟩ := run_bytesT (w := w) hE hi
  have hneg : ¬ ((n : Int) < 0) := by omega
  have hbig : ¬ ((n : Int) * (info.bytes : Int) > 2 ^ 48) := by
    have h1 : n * ie.bytes ≤ 281474976710656 := Nat.le_trans hb (by decide)
    have h2 : ((n * ie.bytes : Nat) : Int) ≤ 281474976710656 := by omega
    rw [Int.natCast_mul] at h2
    rw [hi2]; omega
  have hrun := hS.run w rfl
  unfold zeroSrc at hrun
  simp only [Builtin.append_, Sem.run_bind, List.getElem?_toArray, List.getElem?_cons_zero, List.getElem?_cons_succ, hU, hU2, Result.andThen_ok, run_sizeOfT hE hi, Sem.run_pure, if_true, asInt, asIntOf, hwn, if_neg hneg, hi1, if_neg hbig,
    Int.toNat_natCast, Bool.not_true, Bool.false_eq_true, if_false, hle]
  rw [hrun]
  simp only [Result.andThen_ok]
  cases b with
  | none => simpa using hst
  | some a => simp only [Sem.run_bind, hst, Result.andThen_ok, Sem.run_pure]

/-! ### append: it must grow -/
/-- the new capacity, as the tape has it -/
def capOf (w : World) (need cap elem : Nat) : Nat := need + w.tape w.drawn (.appendCap need cap elem) % (2 ^ 63 - need)
theorem capOf_le (w : World) (need cap elem : Nat) : need ≤ capOf w need cap elem := Nat.le_add_right _ _

theorem grow_tail {elem _es need cap : Nat} {old news zs : List Value} (w : World) :
    (do pure (Value.slice (some (← newRow elem ((⟨old⟩ : Array Value) ++ ⟨news⟩ ++ ⟨zs⟩))) need cap) : Sem Value).run P w =
      .ok (.slice (some ⟨w.heap.size, 0, none⟩) need cap) { w with heap := w.heap.push (.cells ⟨old ++ news ++ zs⟩ elem) } := by
  simp [newRow]

theorem append_grow (hE : TyOK E P) {t u elem ty n : Nat} {ie : TyI} {ud : TypeDesc} {b : Option Addr} {sLen sCap : Nat} {x : Value} {vs olds : List Value} {new old : List AV} {z : AV} (hi : E.ty elem = some ie) (hz : ie.zero = some z)
    (hU : ∀ w : World, (underlying t).run P w = .ok (.slice elem) w) (hU2 : ∀ w : World, (underlying u).run P w = .ok ud w) (hud : ∀ k, ud ≠ .int k)
    (hn : (Builtin.lenOf x).run P w = .ok n w) (hS : Src P μ ie.size w (Builtin.firstCells ie.size n x) n new vs) (hO : Src P μ ie.size w (Builtin.firstCells ie.size sLen (.slice b sLen sCap)) sLen old olds)
    (hgt : sCap < sLen + n) (hb : (sLen + n) * ie.bytes ≤ mostBytes) (hne : ie.bytes ≠ 0) (hzl : z.cells.length = ie.size) :
    ∃ rest : List Value, (Builtin.append_ #[t, u] ty #[.slice b sLen sCap, x]).run P w =
        .ok (.slice (some ⟨w.heap.size, 0, none⟩) (sLen + n) (capOf w (sLen + n) sCap elem)) { w with heap := w.heap.push (.cells ⟨olds ++ vs ++ rest⟩ elem), drawn := w.drawn + 1 } ∧
      rest.length = (capOf w (sLen + n) sCap elem - (sLen + n)) * ie.size := by
  obtain ⟨info, h1, h2, h3, h4, h5, _⟩ := hE.ty elem ie hi
  obtain ⟨zv, e1, e2⟩ := h5 z hz
  have hzc := (ofVal_rel μ e2).cells
  have hzvl : zv.cells.toList.length = ie.size := by rw [← hzc.length, hzl]
  have hzsz : zv.cells.size = ie.size := by rw [← Array.length_toList, hzvl]
  have hle : ¬ (sLen + n ≤ sCap) := by omega
  have hnext := next_le (sLen + n) sCap hgt
  have hbig : ¬ (Builtin.nextslicecap (sLen + n) sCap * info.bytes > 2 ^ 48) := by
    have h7 : Builtin.nextslicecap (sLen + n) sCap * ie.bytes ≤ 2 * (sLen + n) * ie.bytes := Nat.mul_le_mul_right _ hnext
    have h8 : 2 * (sLen + n) * ie.bytes ≤ 2 * mostBytes := by rw [Nat.mul_assoc]; exact Nat.mul_le_mul_left _ hb
    have h9 : 2 * mostBytes ≤ 2 ^ 48 := by decide
    rw [h4]; omega
  have hmax : ∀ q : Prop, ¬ (((sLen + n : Nat) : Int) > IntKind.i64.max ∧ q) := by
    intro q hq
    have h7 : sLen + n ≤ mostBytes := Nat.le_trans (Nat.le_mul_of_pos_right _ (Nat.pos_of_ne_zero hne)) hb
    have h8 : mostBytes = 70368744177664 := by decide
    have h9 : IntKind.i64.max = 9223372036854775807 := by decide
    rw [h9] at hq; omega
  refine ⟨(Builtin.zeroCells zv.cells (capOf w (sLen + n) sCap elem - (sLen + n))).toList, ?_, by simp [Builtin.zeroCells, hzsz]⟩
  have hd : ({ w with drawn := w.drawn + 1 } : World).heap = w.heap := rfl
  have hti : ∀ w : World, (typeInfo elem).run P w = .ok info w := fun w => by simp [typeInfo, h1]
  have hzv : ∀ w : World, (zeroValue elem).run P w = .ok zv w := fun w => by simp [zeroValue, typeInfo, h1, e1]
  have hrs : ∀ w : World, (Go.sizeOf elem).run P w = .ok ie.size w := fun w => run_sizeOfT hE hi
  simp only [Builtin.append_, Sem.run_bind, List.getElem?_toArray, List.getElem?_cons_zero, List.getElem?_cons_succ, hU, hU2, Result.andThen_ok, hrs, Sem.run_pure, Bool.false_eq_true, if_false, hn, Bool.not_false, if_true, if_neg hle,
    hti, if_neg (hmax _), if_neg hbig, run_choose, Question.forced, Question.cut, run_askRoom, hO.run _ hd, hS.run _ hd, hzv, newRow, run_newObj]
  have hcap : capOf w (sLen + n) sCap elem - (sLen + n) = w.tape w.drawn (.appendCap (sLen + n) sCap elem) % (2 ^ 63 - (sLen + n)) := by simp [capOf]
  rw [hcap]
  congr 2
  simp only [List.append_assoc, Nat.add_sub_cancel_left]
  congr 2
  apply Array.ext'
  simp

theorem append_grow0 (hE : TyOK E P) {t u elem ty n : Nat} {ie : TyI} {k : IntKind} {b : Option Addr} {sLen sCap : Nat} {vs olds : List Value} {new old : List AV} {z : AV} (hi : E.ty elem = some ie) (hz : ie.zero = some z)
    (hU : ∀ w : World, (underlying t).run P w = .ok (.slice elem) w) (hU2 : ∀ w : World, (underlying u).run P w = .ok (.int k) w)
    (hS : Src P μ ie.size w (zeroSrc elem ie.size n) n new vs) (hO : Src P μ ie.size w (Builtin.firstCells ie.size sLen (.slice b sLen sCap)) sLen old olds)
    (hgt : sCap < sLen + n) (hb : (sLen + n) * ie.bytes ≤ mostBytes) (hne : ie.bytes ≠ 0) (hzl : z.cells.length = ie.size) (hnb : n < 2 ^ 62) :
    ∃ rest : List Value, (Builtin.append_ #[t, u] ty #[.slice b sLen sCap, .int .i64 (n : Int)]).run P w =
        .ok (.slice (some ⟨w.heap.size, 0, none⟩) (sLen + n) (capOf w (sLen + n) sCap elem)) { w with heap := w.heap.push (.cells ⟨olds ++ vs ++ rest⟩ elem), drawn := w.drawn + 1 } ∧
      rest.length = (capOf w (sLen + n) sCap elem - (sLen + n)) * ie.size := by
  obtain ⟨info, h1, h2, h3, h4, h5, _⟩ := hE.ty elem ie hi
  obtain ⟨zv, e1, e2⟩ := h5 z hz
  have hzc := (ofVal_rel μ e2).cells
  have hzvl : zv.cells.toList.length = ie.size := by rw [← hzc.length, hzl]
  have hzsz : zv.cells.size = ie.size := by rw [← Array.length_toList, hzvl]
  have hle : ¬ (sLen + n ≤ sCap) := by omega
  have hnext := next_le (sLen + n) sCap hgt
  have hwn : IntKind.i64.wrap (n : Int) = (n : Int) := by
    rw [wrap_def]; simp only [IntKind.bits, IntKind.signed, true_and, Int.reducePow, Nat.reduceSub]
    have : n < 4611686018427387904 := by omega
    split <;> omega
  have hneg : ¬ ((n : Int) < 0) := by omega
  have hbig0 : ¬ ((n : Int) * (info.bytes : Int) > 2 ^ 48) := by
    have h0 : n * ie.bytes ≤ (sLen + n) * ie.bytes := Nat.mul_le_mul_right _ (by omega)
    have h1 : n * ie.bytes ≤ 281474976710656 := Nat.le_trans h0 (Nat.le_trans hb (by decide))
    have h2 : ((n * ie.bytes : Nat) : Int) ≤ 281474976710656 := by omega
    rw [Int.natCast_mul] at h2
    rw [h4]; omega
  have hbig : ¬ (Builtin.nextslicecap (sLen + n) sCap * info.bytes > 2 ^ 48) := by
    have h7 : Builtin.nextslicecap (sLen + n) sCap * ie.bytes ≤ 2 * (sLen + n) * ie.bytes := Nat.mul_le_mul_right _ hnext
    have h8 : 2 * (sLen + n) * ie.bytes ≤ 2 * mostBytes := by rw [Nat.mul_assoc]; exact Nat.mul_le_mul_left _ hb
    have h9 : 2 * mostBytes ≤ 2 ^ 48 := by decide
    rw [h4]; omega
  have hmax : ∀ q : Prop, ¬ (((sLen + n : Nat) : Int) > IntKind.i64.max ∧ q) := by
    intro q hq
    have h7 : sLen + n ≤ mostBytes := Nat.le_trans (Nat.le_mul_of_pos_right _ (Nat.pos_of_ne_zero hne)) hb
    have h8 : mostBytes = 70368744177664 := by decide
    have h9 : IntKind.i64.max = 9223372036854775807 := by decide
    rw [h9] at hq; omega
  refine ⟨(Builtin.zeroCells zv.cells (capOf w (sLen + n) sCap elem - (sLen + n))).toList, ?_, by simp [Builtin.zeroCells, hzsz]⟩
  have hd : ({ w with drawn := w.drawn + 1 } : World).heap = w.heap := rfl
  have hti : ∀ w : World, (typeInfo elem).run P w = .ok info w := fun w => by simp [typeInfo, h1]
  have hzv : ∀ w : World, (zeroValue elem).run P w = .ok zv w := fun w => by simp [zeroValue, typeInfo, h1, e1]
  have hrs : ∀ w : World, (Go.sizeOf elem).run P w = .ok ie.size w := fun w => run_sizeOfT hE hi
  have hrun := hS.run _ hd
  unfold zeroSrc at hrun
  simp only [Builtin.append_, Sem.run_bind, List.getElem?_toArray, List.getElem?_cons_zero, List.getElem?_cons_succ, hU, hU2, Result.andThen_ok, hrs, Sem.run_pure, if_true, asInt, asIntOf, hwn, if_neg hneg, if_neg hbig0,
    Int.toNat_natCast, Bool.not_true, Bool.false_eq_true, if_false, if_neg hle, hti, if_neg (hmax _), if_neg hbig, run_choose, Question.forced, Question.cut, run_askRoom, hO.run _ hd]
  rw [hrun]
  simp only [Result.andThen_ok, Sem.run_bind, hzv, newRow, run_newObj, Sem.run_pure]
  have hcap : capOf w (sLen + n) sCap elem - (sLen + n) = w.tape w.drawn (.appendCap (sLen + n) sCap elem) % (2 ^ 63 - (sLen + n)) := by simp [capOf]
  rw [hcap]
  congr 2
  simp only [List.append_assoc, Nat.add_sub_cancel_left]
  congr 2
  apply Array.ext'
  simp
end
end Ev

/-
  append, as the evaluator has it.
-/
namespace Ev
open Go

section
variable {E : Env} {P : Program} {μ : Mu} {m m' : AMem} {w : World}

/-- a row that is forgotten -/
theorem Step.kill {id : Nat} (h : Rep μ m w) : Step μ m w μ (m.kill id) w where
  next := Nat.le_refl _
  old := fun _ _ => rfl
  le := Mu.le_refl _
  rep := by
    have key : ∀ {i B}, (m.kill id).get i = some B → m.get i = some B := by
      intro i B hB
      by_cases hi : i = id
      · subst hi; rw [AMem.get_kill_same] at hB; cases hB
      · rwa [AMem.get_kill_other _ hi] at hB
    exact ⟨fun i A L hA hL => h.blk i A L (key hA) hL, fun i j A A' L L' hA hA' hL hL' e => h.inj i j A A' L L' (key hA) (key hA') hL hL' e⟩
  size := Nat.le_refl _
  own := by
    rintro b ⟨i, B, M, hB, hM, rfl⟩ _
    by_cases hi : i = id
    · subst hi; rw [AMem.get_kill_same] at hB; cases hB
    · rw [AMem.get_kill_other _ hi] at hB; exact ⟨i, B, M, hB, hM, rfl⟩
  frame := fun _ _ _ => rfl
  rest := ⟨rfl, rfl, rfl⟩

/-- a row goes on under a new number -/
theorem Step.move {id : Nat} {A A' : ABlk} {L L' : Loc} {w' : World} (h : Rep μ m w) (hA : m.get id = some A) (hL : μ id = some L) (hf : μ m.next = none) (hb : L'.b = L.b)
    (ho : OnlyAt L.b w w') (hB : BRel (μ.with m.next L') A' L' w') : Step μ m w (μ.with m.next L') ((m.kill id).add A') w' where
  next := by simp
  old := fun i hi => by
    simp only [AMem.add_next, AMem.kill_next] at hi
    exact Mu.with_other _ _ (by omega)
  le := Mu.le_with hf
  rep := by
    have key : ∀ {i B}, i ≠ m.next → ((m.kill id).add A').get i = some B → i ≠ id ∧ m.get i = some B := by
      intro i B hi hB
      have hB : (m.kill id).get i = some B := (AMem.get_add_old (m.kill id) A' (i := i) hi).symm.trans hB
      by_cases hi' : i = id
      · subst hi'; rw [AMem.get_kill_same] at hB; cases hB
      · rw [AMem.get_kill_other _ hi'] at hB; exact ⟨hi', hB⟩
    constructor
    · intro i B M hBi hM
      by_cases hi : i = m.next
      · subst hi
        have : ((m.kill id).add A').get m.next = some A' := AMem.get_add_new (m.kill id) A'
        rw [this] at hBi; cases hBi
        rw [Mu.with_same] at hM; cases hM
        exact hB
      · obtain ⟨h1, h2⟩ := key hi hBi
        rw [Mu.with_other _ _ hi] at hM
        have hne : M.b ≠ L.b := fun e => h1 (h.inj _ _ _ _ _ _ h2 hA hM hL e)
        exact ((h.blk _ _ _ h2 hM).heap (ho.other _ hne)).mono (Mu.le_with hf)
    · intro i j B B' M M' hBi hBj hM hM' e
      by_cases hi : i = m.next <;> by_cases hj : j = m.next
      · rw [hi, hj]
      · subst hi
        rw [Mu.with_same] at hM; cases hM
        obtain ⟨h1, h2⟩ := key hj hBj
        rw [Mu.with_other _ _ hj] at hM'
        exact absurd (h.inj _ _ _ _ _ _ h2 hA hM' hL (by rw [← e, hb])) h1
      · subst hj
        rw [Mu.with_same] at hM'; cases hM'
        obtain ⟨h1, h2⟩ := key hi hBi
        rw [Mu.with_other _ _ hi] at hM
        exact absurd (h.inj _ _ _ _ _ _ h2 hA hM hL (by rw [e, hb])) h1
      · obtain ⟨_, h2⟩ := key hi hBi
        obtain ⟨_, h2'⟩ := key hj hBj
        rw [Mu.with_other _ _ hi] at hM
        rw [Mu.with_other _ _ hj] at hM'
        exact h.inj _ _ _ _ _ _ h2 h2' hM hM' e
  size := by rw [ho.size]; exact Nat.le_refl _
  own := by
    rintro b ⟨i, B, M, hBi, hM, rfl⟩ _
    by_cases hi : i = m.next
    · subst hi
      rw [Mu.with_same] at hM; cases hM
      exact ⟨id, A, L, hA, hL, hb.symm⟩
    · have hBi : (m.kill id).get i = some B := (AMem.get_add_old (m.kill id) A' (i := i) hi).symm.trans hBi
      rw [Mu.with_other _ _ hi] at hM
      by_cases hi' : i = id
      · subst hi'; rw [AMem.get_kill_same] at hBi; cases hBi
      · rw [AMem.get_kill_other _ hi'] at hBi; exact ⟨i, B, M, hBi, hM, rfl⟩
  frame := fun b _ hn => ho.other b (fun e => hn ⟨id, A, L, hA, hL, e.symm⟩)
  rest := ho.rest

/-- how append answers, be the second operand a slice, a string or a number of zeros -/
structure AppendRuns (E : Env) (P : Program) (μ : Mu) (w : World) (elem : Nat) (ie : TyI) (n : Nat) (new : List AV) (vs : List Value) (run : Value → Sem Value) : Prop where
  rel : VsRel μ new vs
  len : new.length = n * ie.size
  room : ∀ (b : Option Addr) (sLen sCap : Nat) (w' : World), sLen + n ≤ sCap → (match b with | some a => storeCells (a.add (sLen * ie.size)) vs | none => pure ()).run P w = .ok () w' →
    (run (.slice b sLen sCap)).run P w = .ok (.slice b (sLen + n) sCap) w'
  grow : ∀ (b : Option Addr) (sLen sCap : Nat) (old : List AV) (olds : List Value), Src P μ ie.size w (Builtin.firstCells ie.size sLen (.slice b sLen sCap)) sLen old olds → sCap < sLen + n →
    (sLen + n) * ie.bytes ≤ mostBytes → ie.bytes ≠ 0 → ∃ (rest : List Value) (C : Nat), sLen + n ≤ C ∧ (run (.slice b sLen sCap)).run P w =
        .ok (.slice (some ⟨w.heap.size, 0, none⟩) (sLen + n) C) { w with heap := w.heap.push (.cells ⟨olds ++ vs ++ rest⟩ elem), drawn := w.drawn + 1 } ∧ rest.length = (C - (sLen + n)) * ie.size

theorem sliceSrc (hr : Rep μ m w) {es : Nat} {a : AV} {old : List AV} {b : Option Addr} {sLen sCap : Nat} (h : sliceCells m es a = some old) (hx : VRel μ a (.slice b sLen sCap)) :
    ∃ olds, Src P μ es w (Builtin.firstCells es sLen (.slice b sLen sCap)) sLen old olds ∧ old.all AV.scalar = true := by
  obtain ⟨o, len, cap, vs, e, g1, g2, g3, g4, g5, g6⟩ := sliceCells_run P hr h hx
  cases e
  refine ⟨vs, ⟨?_, g4, g5⟩, g6⟩
  intro w' hw
  cases b with
  | none => rw [g3 rfl]; simp [Builtin.firstCells]
  | some ad => exact g2 ad rfl w' hw

/-- what a grown slice is -/
theorem grown_good (hr : Rep μ m w) (hf : μ m.next = none) {elem n es sLen C : Nat} {old new : List AV} {olds vs rest : List Value} (ho : VsRel μ old olds) (hol : old.length = sLen * es) (hv : VsRel μ new vs)
    (hvl : new.length = n * es) (hos : old.all AV.scalar = true) (hns : new.all AV.scalar = true) (hrl : rest.length = (C - (sLen + n)) * es) (hC : sLen + n ≤ C) :
    VRel (μ.with m.next ⟨w.heap.size, 0, C * es⟩) (.oslice m.next 0 (sLen + n) es) (.slice (some ⟨w.heap.size, 0, none⟩) (sLen + n) C) ∧
      Step μ m w (μ.with m.next ⟨w.heap.size, 0, C * es⟩) (m.add (.row ((sLen + n) * es) (old ++ new) .nil false)) { w with heap := w.heap.push (.cells ⟨olds ++ vs ++ rest⟩ elem), drawn := w.drawn + 1 } := by
  have hl : (olds ++ vs).length + rest.length = C * es := by
    rw [List.length_append, ← ho.length, ← hv.length, hol, hvl, hrl, ← Nat.add_mul, ← Nat.add_mul]; congr 1; omega
  refine ⟨⟨_, 0, C, Mu.with_same _ _ _, rfl, hC, .inl ⟨rfl, by simp⟩⟩, ?_⟩
  refine Step.alloc (o := .cells ⟨olds ++ vs ++ rest⟩ elem) hr hf rfl ⟨rfl, rfl, rfl⟩ ?_
  have hsc : (old ++ new).all AV.scalar = true := by rw [List.all_append, hos, hns]; rfl
  have := newRow_open (w := w) (w' := { w with heap := w.heap.push (.cells ⟨olds ++ vs ++ rest⟩ elem), drawn := w.drawn + 1 }) (rest := rest) (e := elem) rfl ((ho.append hv).mono (Mu.le_with (L := ⟨w.heap.size, 0, C * es⟩) hf)) hsc
  rw [hl] at this
  have hlen : (old ++ new).length = (sLen + n) * es := by rw [List.length_append, hol, hvl, Nat.add_mul]
  rw [hlen] at this
  exact this

theorem append_good {elem n : Nat} {ie : TyI} {new : List AV} {vs : List Value} {run : Value → Sem Value} (hr : Rep μ m w) (hR : AppendRuns E P μ w elem ie n new vs run) {a r : AV} {x : Value}
    (h : evAppend m ie.size ie.bytes a n new = some (r, m')) (hx : VRel μ a x) (hf : m.next < m'.next → μ m.next = none) :
    ∃ v w' μ', (run x).run P w = .ok v w' ∧ VRel μ' r v ∧ Step μ m w μ' m' w' := by
  unfold evAppend at h
  split at h
  · -- nothing is appended
    rename_i h0
    have h0 : n = 0 := Nat.eq_of_beq_eq_true h0
    have hform : r = a ∧ m' = m ∧ ∃ b sLen sCap, x = .slice b sLen sCap ∧ sLen ≤ sCap := by
      split at h
      · obtain ⟨rfl, rfl⟩ := Prod.mk.inj (Option.some.inj h); cases hx; exact ⟨rfl, rfl, _, _, _, rfl, Nat.le_refl _⟩
      · obtain ⟨rfl, rfl⟩ := Prod.mk.inj (Option.some.inj h); obtain ⟨L, o, _, rfl, _, hle⟩ := hx; exact ⟨rfl, rfl, _, _, _, rfl, hle⟩
      · obtain ⟨rfl, rfl⟩ := Prod.mk.inj (Option.some.inj h); obtain ⟨L, o, c, _, rfl, hle, _⟩ := hx; exact ⟨rfl, rfl, _, _, _, rfl, hle⟩
      · cases h
    obtain ⟨rfl, rfl, b, sLen, sCap, rfl, hle⟩ := hform
    subst h0
    have hvs : vs = [] := by
      have h1 := hR.rel.length; have h2 := hR.len
      rw [Nat.zero_mul] at h2; rw [h2] at h1; exact List.length_eq_zero_iff.1 h1.symm
    have := hR.room b sLen sCap w (by omega) (by rw [hvs]; cases b <;> rfl)
    exact ⟨_, w, μ, this, hx, Step.refl hr⟩
  · rename_i hn0
    have hn0 : n ≠ 0 := by intro e; rw [e] at hn0; exact hn0 rfl
    split at h
    · cases h
    · rename_i hc
      simp only [Bool.or_eq_true, not_or, Bool.not_eq_true, Bool.not_eq_false'] at hc
      obtain ⟨⟨⟨hes, hby⟩, hsc⟩, hlen⟩ := hc
      have hes : ie.size ≠ 0 := by intro e; rw [e] at hes; exact absurd hes (by simp)
      have hby : ie.bytes ≠ 0 := by intro e; rw [e] at hby; exact absurd hby (by simp)
      have hsc : new.all AV.scalar = true := by simpa using hsc
      split at h
      · -- of nothing
        split at h
        · rename_i hbm
          obtain ⟨rfl, rfl⟩ := Prod.mk.inj (Option.some.inj h)
          cases hx
          have hf := hf (by simp)
          have hO : Src P μ ie.size w (Builtin.firstCells ie.size 0 (.slice none 0 0)) 0 [] [] := ⟨fun w' _ => by simp [Builtin.firstCells], rfl, by simp⟩
          obtain ⟨rest, C, h1, h2, h3⟩ := hR.grow none 0 0 [] [] hO (by omega) (by simpa using hbm) hby
          obtain ⟨g1, g2⟩ := grown_good (elem := elem) (sLen := 0) hr hf (old := []) (olds := []) rfl (by simp) hR.rel hR.len rfl hsc h3 h1
          simp only [Nat.zero_add, List.nil_append] at g1 g2 h2
          exact ⟨_, _, _, h2, g1, g2⟩
        · cases h
      · -- of a slice whose capacity is known
        rename_i id off len cap
        obtain ⟨L, o, hL, rfl, ho, hle⟩ := _root_.id hx
        split at h
        · rename_i hroom
          split at h
          · rename_i m₁ hp
            obtain ⟨rfl, rfl⟩ := Prod.mk.inj (Option.some.inj h)
            have ho : o = L.sh + off := by
              rcases ho with ho | ho
              · exact ho
              · omega
            subst ho
            obtain ⟨w', h1, h2⟩ := run_store_cells P hr hp hL hR.rel
            refine ⟨_, w', μ, hR.room _ _ _ w' hroom ?_, ⟨L, _, hL, rfl, .inl rfl, hroom⟩, h2⟩
            rw [← Nat.add_assoc] at h1
            simp only [add_plain]; exact h1
          · cases h
        · rename_i hroom
          split at h
          · rename_i hbm
            split at h
            · rename_i old hold
              obtain ⟨rfl, rfl⟩ := Prod.mk.inj (Option.some.inj h)
              have hf := hf (by simp)
              obtain ⟨olds, hO, hos⟩ := sliceSrc (P := P) hr hold hx
              obtain ⟨rest, C, h1, h2, h3⟩ := hR.grow _ _ _ old olds hO (by omega) hbm hby
              obtain ⟨g1, g2⟩ := grown_good (elem := elem) hr hf hO.rel hO.len hR.rel hR.len hos hsc h3 h1
              exact ⟨_, _, _, h2, g1, g2⟩
            · cases h
          · cases h
      · -- of a slice whose capacity is not known
        rename_i id off len es'
        obtain ⟨L, o, c, hL, rfl, hle, ho⟩ := _root_.id hx
        split at h
        · rename_i size cells ov hg
          split at h
          · rename_i hcond
            obtain ⟨rfl, hbm, hoff⟩ := hcond
            have hb := hr.blk _ _ _ hg hL
            obtain ⟨cc, e, lo, hi, b1, b2, b3, b4, b5, b6, b7, b8⟩ := _root_.id hb
            have hpos : 0 < ie.size := Nat.pos_of_ne_zero hes
            split at h
            · rename_i hin
              split at h
              · rename_i m₁ hp
                obtain ⟨rfl, rfl⟩ := Prod.mk.inj (Option.some.inj h)
                have hroom : len + n ≤ c ∧ o = L.sh + off ∧ o + c * ie.size = L.n := by
                  rcases ho with ⟨ho1, ho2⟩ | ⟨ho1, ho2⟩
                  · refine ⟨?_, ho1, ho2⟩
                    apply Nat.le_of_mul_le_mul_right _ hpos
                    omega
                  · exfalso
                    have : 0 < (len + n) * ie.size := Nat.mul_pos (by omega) hpos
                    omega
                obtain ⟨hroom, rfl, hcn⟩ := hroom
                obtain ⟨w', h1, h2⟩ := run_store_cells P hr hp hL hR.rel
                refine ⟨_, w', μ, hR.room _ _ _ w' hroom ?_, ⟨L, _, c, hL, rfl, hroom, .inl ⟨rfl, hcn⟩⟩, h2⟩
                rw [← Nat.add_assoc] at h1
                simp only [add_plain]; exact h1
              · cases h
            · rename_i hout
              split at h
              · rename_i old hold
                obtain ⟨rfl, rfl⟩ := Prod.mk.inj (Option.some.inj h)
                have hf := hf (by simp)
                -- the old cells
                obtain ⟨olds, hor, horel, holen, hos⟩ := run_load_cells P hr hold hL
                have hO : Src P μ ie.size w (Builtin.firstCells ie.size len (.slice (some ⟨L.b, o, none⟩) len c)) len old olds := by
                  refine ⟨?_, horel, holen⟩
                  intro w' hw'
                  simp only [Builtin.firstCells]
                  rcases ho with ⟨ho1, _⟩ | ⟨ho1, _⟩
                  · rw [ho1]; exact hor w' hw'
                  · have h0 : len = 0 := by omega
                    subst h0
                    have : olds = [] := by
                      have := horel.length; rw [holen, Nat.zero_mul] at this; exact List.length_eq_zero_iff.1 this.symm
                    rw [this]; simp [loadCells, loadCellsFrom]
                by_cases hroom : len + n ≤ c
                · -- in its place
                  have ho' : o = L.sh + off ∧ o + c * ie.size = L.n := by
                    rcases ho with ho | ⟨ho1, _⟩
                    · exact ho
                    · omega
                  obtain ⟨rfl, hcn⟩ := ho'
                  have hvl := hR.rel.length
                  have hnl := hR.len
                  have hmul : (len + n) * ie.size ≤ c * ie.size := Nat.mul_le_mul_right _ hroom
                  rw [Nat.add_mul] at hmul
                  obtain ⟨w', c', r1, r2, r3, r4, r5⟩ := run_storeCells P vs w cc (L.sh + off + len * ie.size) 0 b1 (hR.rel.one hsc) (by rw [b2]; omega) (by rw [b2]; exact b6)
                  refine ⟨_, w', μ.with m.next ⟨L.b, L.sh + off, L.n⟩, hR.room _ _ _ w' hroom (by simp only [add_plain]; exact r1), ⟨⟨L.b, L.sh + off, L.n⟩, L.sh + off, c, Mu.with_same _ _ _, rfl, hroom, .inl ⟨rfl, hcn⟩⟩, ?_⟩
                  refine Step.move hr hg hL hf rfl r2 ?_
                  have hlen2 : (old ++ new).length = (len + n) * ie.size := by rw [List.length_append, holen, hnl, Nat.add_mul]
                  refine ⟨c', e, lo, hi, r3, by rw [r4, b2], hlen2, ?_, fun hh => (by cases hh), b6, by rw [ovl_nil, List.all_append, hos, hsc]; rfl, ?_⟩
                  · show L.sh + off + (len + n) * ie.size ≤ L.n
                    rw [Nat.add_mul]; omega
                  · rw [ovl_nil]
                    have hcells : (c'.toList.drop (L.sh + off)).take ((len + n) * ie.size) = olds ++ vs := by
                      have hol2 := horel.length
                      obtain ⟨s0, ce0, ov0, cl0, t1, t2, t3⟩ := takeCells_eq hold
                      rw [hg] at t1; cases t1
                      -- the old ones as the row has them
                      have hold2 : olds = ((cc.toList.drop (L.sh + off)).take (len * ie.size)) := by
                        have q1 := hor w rfl
                        have q2 := run_loadCells_list (P := P) w ⟨L.b, L.sh + off, none⟩ ((cc.toList.drop (L.sh + off)).take (len * ie.size)) (fun j v hj => by
                          rw [add_plain, cell_of b1]
                          have hjn := (List.getElem?_eq_some_iff.1 hj).1
                          rw [List.getElem?_take_of_lt (by simp at hjn; omega), List.getElem?_drop] at hj
                          rw [← hj]; simp)
                        have hll : ((cc.toList.drop (L.sh + off)).take (len * ie.size)).length = len * ie.size := by simp; omega
                        rw [hll, q1] at q2
                        have := congrArg (fun r => match r with | Result.ok a _ => Array.toList a | _ => []) q2
                        simpa using this
                      apply List.ext_getElem?
                      intro j
                      by_cases hj : j < (len + n) * ie.size
                      · rw [List.getElem?_take_of_lt hj, List.getElem?_drop]
                        have := r5 (L.sh + off + j)
                        simp only [Nat.add_zero] at this
                        rw [show c'.toList[L.sh + off + j]? = c'[L.sh + off + j]? by simp, this]
                        rw [Nat.add_mul] at hj
                        by_cases hj2 : j < len * ie.size
                        · rw [if_neg (by omega), List.getElem?_append_left (by rw [← hol2, holen]; exact hj2), hold2, List.getElem?_take_of_lt hj2, List.getElem?_drop]
                          simp
                        · rw [if_pos (by omega), List.getElem?_append_right (by rw [← hol2, holen]; omega), ← hol2, holen]
                          congr 1; omega
                      · rw [List.getElem?_take, if_neg hj, List.getElem?_eq_none]
                        rw [List.length_append, ← horel.length, ← hvl, holen, hnl, ← Nat.add_mul]; omega
                    show VsRel _ _ ((c'.toList.drop (L.sh + off)).take ((len + n) * ie.size))
                    rw [hcells]
                    exact (horel.append hR.rel).mono (Mu.le_with hf)
                · obtain ⟨rest, C, h1, h2, h3⟩ := hR.grow _ _ _ old olds hO (by omega) hbm hby
                  have hk := Step.kill (id := id) hr
                  obtain ⟨g1, g2⟩ := grown_good (m := m.kill id) (elem := elem) hk.rep hf hO.rel hO.len hR.rel hR.len hos hsc h3 h1
                  exact ⟨_, _, _, h2, g1, hk.trans g2⟩
              · cases h
          · cases h
        · cases h
      · cases h
end
end Ev

/-
  The builtins on slices; conversions.
-/
namespace Ev
open Go

section
variable {E : Env} {P : Program} {μ : Mu} {m m' : AMem} {w : World}

theorem run_und' (hE : TyOK E P) {t : Nat} {i : TyI} (h : E.ty t = some i) : ∀ w : World, (underlying t).run P w = .ok i.u w := fun _ => run_und hE h

theorem isIntD_false {u : TypeDesc} (h : isIntD u = false) : ∀ k, u ≠ .int k := by
  intro k e; subst e; simp [isIntD] at h
theorem isIntD_true {u : TypeDesc} (h : isIntD u = true) : ∃ k, u = .int k := by
  cases u <;> simp [isIntD] at h; exact ⟨_, rfl⟩

theorem appendOp_good (hE : TyOK E P) (hr : Rep μ m w) {ts : Array TypeId} {ty : Nat} {a b r : AV} {x y : Value} (h : evAppendOp E ts.toList a b m = some (r, m')) (hx : VRel μ a x) (hy : VRel μ b y)
    (hf : m.next < m'.next → μ m.next = none) : ∃ v w' μ', (Builtin.append_ ts ty #[x, y]).run P w = .ok v w' ∧ VRel μ' r v ∧ Step μ m w μ' m' w' := by
  obtain ⟨ts⟩ := ts
  unfold evAppendOp at h
  split at h
  · rename_i ie z zb hT
    unfold appT at hT
    split at hT
    · rename_i t u hts
      simp only at hts
      subst hts
      split at hT
      · rename_i i hi
        have hU := run_und' (P := P) hE hi
        split at hT
        · rename_i e hu
          rw [hu] at hU
          split at hT
          · rename_i ie' iu hie hiu
            have hU2 := run_und' (P := P) hE hiu
            split at hT
            · rename_i z' hz
              split at hT
              · rename_i hzl
                rw [Nat.beq_eq] at hzl
                cases hT
                have hse : ∀ w : World, (Go.sizeOf e).run P w = .ok ie.size w := fun w => run_sizeOfT hE hie
                split at h
                · rename_i hint
                  obtain ⟨k, hk⟩ := isIntD_true hint
                  rw [hk] at hU2
                  unfold appZeros at h
                  split at h
                  · rename_i n
                    split at h
                    · rename_i hc
                      simp only [Bool.and_eq_true] at hc
                      obtain ⟨hnb, hn62⟩ := hc
                      have hnb := Nat.le_of_ble_eq_true hnb
                      rw [blt_iff] at hn62
                      cases hy
                      obtain ⟨vs, hS⟩ := zeroSrc_run (w := w) (μ := μ) (n := n) hE hie hz hzl
                      have hR : AppendRuns E P μ w e ie n (rep n z.cells) vs (fun x => Builtin.append_ #[t, u] ty #[x, .int .i64 (n : Int)]) := by
                        refine ⟨hS.rel, hS.len, ?_, ?_⟩
                        · intro b sLen sCap w' hle hst
                          exact append_room0 hE hie hU hU2 hS hle hn62 hnb hst
                        · intro b sLen sCap old olds hO hgt hbm hby
                          obtain ⟨rest, g1, g2⟩ := append_grow0 (ty := ty) hE hie hz hU hU2 hS hO hgt hbm hby hzl hn62
                          exact ⟨rest, _, capOf_le _ _ _ _, g1, g2⟩
                      exact append_good hr hR h hx hf
                    · cases h
                  · cases h
                · rename_i hint
                  have hud := isIntD_false (by simpa using hint)
                  unfold appCells at h
                  split at h
                  · rename_i n new hn hnew
                    obtain ⟨hl, vs, hS⟩ := srcCells_run (P := P) hr hnew hn hy
                    have hR : AppendRuns E P μ w e ie n new vs (fun x => Builtin.append_ #[t, u] ty #[x, y]) := by
                      refine ⟨hS.rel, hS.len, ?_, ?_⟩
                      · intro b sLen sCap w' hle hst
                        exact append_room hU hU2 hud hse hl hS hle hst
                      · intro b sLen sCap old olds hO hgt hbm hby
                        obtain ⟨rest, g1, g2⟩ := append_grow (ty := ty) hE hie hz hU hU2 hud hl hS hO hgt hbm hby hzl
                        exact ⟨rest, _, capOf_le _ _ _ _, g1, g2⟩
                    exact append_good hr hR h hx hf
                  · cases h
              · cases hT
            · cases hT
          · cases hT
        · cases hT
      · cases hT
    · cases hT
  · cases h

/-! ### copy -/
theorem lenOf_run (P : Program) {sl : Nat} {a : AV} {x : Value} (hn : lenOf a = some sl) (hx : VRel μ a x) : (Builtin.lenOf x).run P w = .ok sl w := by
  cases a <;> simp [lenOf] at hn
  case str s => obtain ⟨rfl, _⟩ := hx; subst hn; simp [Builtin.lenOf, ByteArray.size]
  case nilslice => cases hx; subst hn; simp [Builtin.lenOf]
  case slice => obtain ⟨L, o, _, rfl, _⟩ := hx; subst hn; simp [Builtin.lenOf]
  case oslice => obtain ⟨L, o, c, _, rfl, _⟩ := hx; subst hn; simp [Builtin.lenOf]

/-- a slice that is no nil, by its row -/
theorem rowOf_ok {id off : Nat} {a : AV} {x : Value} (h : rowOf a = some (id, off)) (hx : VRel μ a x) :
    ∃ L o len cap, μ id = some L ∧ x = .slice (some ⟨L.b, o, none⟩) len cap ∧ lenOf a = some len ∧ (len ≠ 0 → o = L.sh + off) := by
  cases a <;> simp [rowOf] at h
  case slice => obtain ⟨rfl, rfl⟩ := h; obtain ⟨L, o, hL, rfl, ho, hle⟩ := hx; exact ⟨L, o, _, _, hL, rfl, rfl, fun hn => by rcases ho with ho | ho <;> omega⟩
  case oslice => obtain ⟨rfl, rfl⟩ := h; obtain ⟨L, o, c, hL, rfl, hle, ho⟩ := hx; exact ⟨L, o, _, _, hL, rfl, rfl, fun hn => by rcases ho with ho | ho <;> omega⟩

theorem firstC_run (P : Program) (hr : Rep μ m w) {es n sl : Nat} {a : AV} {l : List AV} {x : Value} (h : firstC m es n a = some l) (hn : lenOf a = some sl) (hle : n ≤ sl) (hx : VRel μ a x) :
    ∃ vs : List Value, (Builtin.firstCells es n x).run P w = .ok vs.toArray w ∧ VsRel μ l vs ∧ l.length = n * es := by
  unfold firstC at h
  split at h
  · rename_i s hs
    have := asStr_eq hs; subst this
    split at h
    · rename_i he
      have he : es = 1 := Nat.eq_of_beq_eq_true he
      subst he
      cases h
      obtain ⟨rfl, hlt⟩ := hx
      simp [lenOf] at hn
      subst hn
      refine ⟨(s.take n).map fun (b : Nat) => .int .u8 (b : Int), ?_, ?_, by simp; omega⟩
      · simp only [Builtin.firstCells, Sem.run_pure]
        congr 1
        apply Array.ext'
        have hex : ((⟨(s.map UInt8.ofNat).toArray⟩ : ByteArray).extract 0 n).data.toList = (s.take n).map UInt8.ofNat := by
          rw [ByteArray.data_extract]; simp [List.map_take]
        rw [Array.toList_map, hex, List.map_map]
        apply List.map_congr_left
        intro b hb
        have := hlt b (List.mem_of_mem_take hb)
        simp
        omega
      · have hlt' : ∀ x ∈ s.take n, x < 256 := fun x hx => hlt x (List.mem_of_mem_take hx)
        generalize s.take n = q
        induction q with
        | nil => rfl
        | cons b q ih => exact .cons rfl ih
    · cases h
  · split at h
    · rename_i h0
      have h0 : n * es = 0 := Nat.eq_of_beq_eq_true h0
      cases h
      refine ⟨[], ?_, rfl, by simp [h0]⟩
      cases a <;> simp [lenOf] at hn
      case str s =>
        exfalso
        simp_all [AV.asStr]
      case nilslice => cases hx; simp [Builtin.firstCells]
      case slice => obtain ⟨L, o, _, rfl, _⟩ := hx; simp [Builtin.firstCells, h0, loadCells, loadCellsFrom]
      case oslice => obtain ⟨L, o, c, _, rfl, _⟩ := hx; simp [Builtin.firstCells, h0, loadCells, loadCellsFrom]
    · rename_i h0
      have h0 : n * es ≠ 0 := by intro e; rw [e] at h0; exact h0 rfl
      split at h
      · rename_i id off hro
        obtain ⟨L, o, len, cap, hL, rfl, hlen, ho⟩ := rowOf_ok hro hx
        rw [hn] at hlen; cases hlen
        have hn0 : n ≠ 0 := by intro e; rw [e, Nat.zero_mul] at h0; exact h0 rfl
        have ho := ho (by omega)
        subst ho
        obtain ⟨vs, h1, h2, h3, h4⟩ := run_load_cells P hr h hL
        exact ⟨vs, by simpa [Builtin.firstCells] using h1 w rfl, h2, h3⟩
      · cases h

theorem copy_good (hr : Rep μ m w) {t e es : Nat} {_u ty : Nat} {d s r : AV} {x y : Value} (hU : ∀ w : World, (underlying t).run P w = .ok (.slice e) w) (hse : ∀ w : World, (Go.sizeOf e).run P w = .ok es w)
    (h : evCopy m es d s = some (r, m')) (hx : VRel μ d x) (hy : VRel μ s y) (rest : List TypeId) :
    ∃ v w', (Builtin.copy_ ⟨t :: rest⟩ ty #[x, y]).run P w = .ok v w' ∧ VRel μ r v ∧ Step μ m w μ m' w' := by
  unfold evCopy at h
  split at h
  · rename_i dl sl hds hd hs
    split at h
    · rename_i new hnew
      obtain ⟨vs, f1, f2, f3⟩ := firstC_run P hr hnew hs (Nat.min_le_left _ _) hy
      have hls := lenOf_run (w := w) P hs hy
      -- the destination is a slice
      have hform : ∃ b cap, x = .slice b dl cap ∧ (b = none → dl = 0) := by
        cases d <;> simp [lenOf] at hd
        case str => simp [AV.asStr] at hds
        case nilslice => cases hx; subst hd; exact ⟨none, 0, rfl, fun _ => rfl⟩
        case slice => obtain ⟨L, o, _, rfl, _⟩ := hx; subst hd; exact ⟨_, _, rfl, fun h => by cases h⟩
        case oslice => obtain ⟨L, o, c, _, rfl, _⟩ := hx; subst hd; exact ⟨_, _, rfl, fun h => by cases h⟩
      obtain ⟨b, cap, rfl, hb0⟩ := hform
      have key : ∀ w', (match b with | some a => storeCells a vs | none => pure ()).run P w = .ok () w' →
          (Builtin.copy_ ⟨t :: rest⟩ ty #[.slice b dl cap, y]).run P w = .ok (.int .i64 (Nat.min sl dl : Nat)) w' := by
        intro w' hst
        simp only [Builtin.copy_, List.getElem?_toArray, List.getElem?_cons_zero, List.getElem?_cons_succ, Sem.run_bind, hU, hse, hls, f1, Result.andThen_ok]
        cases b with
        | none => simpa [goInt] using hst
        | some a => simp only [Sem.run_bind, hst, Result.andThen_ok, Sem.run_pure, goInt]
      unfold copyTo at h
      split at h
      · obtain ⟨rfl, rfl⟩ := Prod.mk.inj (Option.some.inj h)
        cases f2
        exact ⟨_, w, key w (by cases b <;> rfl), rfl, Step.refl hr⟩
      · rename_i hne
        split at h
        · rename_i id off hro
          split at h
          · rename_i m₁ hp
            obtain ⟨rfl, rfl⟩ := Prod.mk.inj (Option.some.inj h)
            obtain ⟨L, o, len, cap', hL, e, hlen, ho⟩ := rowOf_ok hro hx
            cases e
            rw [hd] at hlen
            have hdl : dl ≠ 0 := by
              intro e0
              have : Nat.min sl dl = 0 := by rw [e0]; exact Nat.min_zero _
              rw [this, Nat.zero_mul] at f3
              exact hne (List.length_eq_zero_iff.1 f3)
            have ho := ho hdl
            subst ho
            obtain ⟨w', g1, g2⟩ := run_store_cells P hr hp hL f2
            exact ⟨_, w', key w' g1, rfl, g2⟩
          · cases h
        · cases h
    · cases h
  · cases h

/-! ### Conversions -/
theorem isByte_ok (hE : TyOK E P) {e : Nat} (h : isByte E e = true) : (underlying e).run P w = .ok (.int .u8) w := by
  unfold isByte at h
  split at h
  · rename_i ei hei
    have hU := run_und (w := w) hE hei
    split at h
    · rename_i hu; rw [hu] at hU; exact hU
    · cases h
  · cases h

theorem ints_rel (μ : Mu) : ∀ l : List Nat, VsRel μ (l.map fun b => .int .u8 (Int.ofNat b)) (l.map fun (b : Nat) => Value.int .u8 (b : Int))
  | [] => rfl
  | _ :: l => .cons rfl (ints_rel μ l)

theorem modify_last {α : Type} (h : Array α) (a : α) (f : α → α) : (h.push a).modify h.size f = h.push (f a) := by
  apply Array.ext_getElem?
  intro i
  simp only [Array.getElem?_modify, Array.getElem?_push]
  by_cases hi : i = h.size
  · subst hi; simp
  · simp [hi, Ne.symm hi]

theorem stringToBytes_run (P : Program) (w : World) (e : TypeId) (l : List Nat) (hlt : ∀ x ∈ l, x < 256) : ∃ (rest : List Value) (c : Nat), (Conv.stringToBytes e ⟨(l.map UInt8.ofNat).toArray⟩).run P w =
    .ok (.slice (some ⟨w.heap.size, 0, none⟩) l.length c) { w with heap := w.heap.push (.cells ((l.map fun (b : Nat) => Value.int .u8 (b : Int)) ++ rest).toArray e (c, c + 1)), drawn := w.drawn + 1 } ∧
    c = l.length + rest.length := by
  have hsz : (⟨(l.map UInt8.ofNat).toArray⟩ : ByteArray).size = l.length := by simp [ByteArray.size]
  have hel : (⟨(l.map UInt8.ofNat).toArray⟩ : ByteArray).data.map (fun b => Value.int .u8 b.toNat) = (l.map fun (b : Nat) => Value.int .u8 (b : Int)).toArray := by
    apply Array.ext'
    simp only [Array.toList_map, List.map_map]
    apply List.map_congr_left
    intro b hb
    have := hlt b hb
    simp
    omega
  refine ⟨List.replicate (w.tape w.drawn (.appendCap l.length 0 e) % (2 ^ 63 - l.length)) (.int .u8 0), capOf w l.length 0 e, ?_, by simp [capOf]⟩
  simp only [Conv.stringToBytes, Sem.run_bind, run_choose, Question.forced, Question.cut, hsz, Bool.false_eq_true, if_false, Result.andThen_ok, newRow, run_newObj, hel, Sem.run_pure, markStringish, run_shape, World.shape?]
  simp only [Array.getElem?_push_size, capOf, Nat.add_sub_cancel_left, Result.andThen_ok, run_freeze, World.freeze]
  simp [modify_last]
  congr 1
  simp

theorem convert_good (hE : TyOK E P) (hr : Rep μ m w) {s d : Nat} {a r : AV} {x : Value} (h : evConvert E s d a m = some (r, m')) (hx : VRel μ a x) (hf : m.next < m'.next → μ m.next = none) :
    ∃ v w' μ', (convert s d x).run P w = .ok v w' ∧ VRel μ' r v ∧ Step μ m w μ' m' w' := by
  unfold evConvert at h
  have hT : ∀ cv, convT E s d = some cv → ∃ si di, E.ty s = some si ∧ E.ty d = some di ∧
      ((∃ k j, cv = .int k ∧ di.u = .int k ∧ si.u = .int j) ∨ (cv = .str ∧ di.u = .string ∧ si.u = .string) ∨ (∃ e, cv = .toBytes ∧ di.u = .slice e ∧ si.u = .string ∧ isByte E e = true) ∨
       (∃ e, cv = .toStr ∧ di.u = .string ∧ si.u = .slice e ∧ isByte E e = true)) := by
    intro cv hcv
    unfold convT at hcv
    split at hcv
    · rename_i si hsi
      split at hcv
      · rename_i di hdi
        refine ⟨si, di, hsi, hdi, ?_⟩
        split at hcv
        · rename_i k j h1 h2; cases hcv; exact .inl ⟨_, _, rfl, h1, h2⟩
        · rename_i h1 h2; cases hcv; exact .inr (.inl ⟨rfl, h1, h2⟩)
        · rename_i e h1 h2
          split at hcv
          · rename_i hb; cases hcv; exact .inr (.inr (.inl ⟨e, rfl, h1, h2, hb⟩))
          · cases hcv
        · rename_i e h1 h2
          split at hcv
          · rename_i hb; cases hcv; exact .inr (.inr (.inr ⟨e, rfl, h1, h2, hb⟩))
          · cases hcv
        · cases hcv
      · cases hcv
    · cases hcv
  split at h
  · rename_i k hcv
    obtain ⟨si, di, hsi, hdi, hc⟩ := hT _ hcv
    have hS := run_und (w := w) hE hsi
    have hD := run_und (w := w) hE hdi
    rcases hc with ⟨k', j, e, h1, h2⟩ | ⟨e, _⟩ | ⟨_, e, _⟩ | ⟨_, e, _⟩ <;> cases e
    rw [h1] at hD; rw [h2] at hS
    split at h
    · rename_i p hp
      have := asInt_eq hp; subst this
      cases hx
      obtain ⟨rfl, rfl⟩ := Prod.mk.inj (Option.some.inj h)
      exact ⟨_, w, μ, by simp only [convert, Sem.run_bind, hS, hD, Result.andThen_ok]; rfl, by simp [VRel, wrapI_eq], Step.refl hr⟩
    · cases h
  · rename_i hcv
    obtain ⟨si, di, hsi, hdi, hc⟩ := hT _ hcv
    have hS := run_und (w := w) hE hsi
    have hD := run_und (w := w) hE hdi
    rcases hc with ⟨k', j, e, h1, h2⟩ | ⟨e, h1, h2⟩ | ⟨_, e, _⟩ | ⟨_, e, _⟩ <;> cases e
    rw [h1] at hD; rw [h2] at hS
    split at h
    · rename_i l hp
      have := asStr_eq hp; subst this
      obtain ⟨rfl, rfl⟩ := Prod.mk.inj (Option.some.inj h)
      have hx' := hx
      obtain ⟨rfl, _⟩ := hx
      exact ⟨_, w, μ, by simp only [convert, Sem.run_bind, hS, hD, Result.andThen_ok]; rfl, hx', Step.refl hr⟩
    · cases h
  · rename_i hcv
    obtain ⟨si, di, hsi, hdi, hc⟩ := hT _ hcv
    have hS := run_und (w := w) hE hsi
    have hD := run_und (w := w) hE hdi
    rcases hc with ⟨k', j, e, h1, h2⟩ | ⟨e, h1, h2⟩ | ⟨el, e, h1, h2, h3⟩ | ⟨_, e, _⟩ <;> cases e
    rw [h1] at hD; rw [h2] at hS
    have hB := isByte_ok (w := w) hE h3
    split at h
    · rename_i l hp
      have := asStr_eq hp; subst this
      obtain ⟨rfl, rfl⟩ := Prod.mk.inj (Option.some.inj h)
      obtain ⟨rfl, hlt⟩ := hx
      have hf := hf (by simp)
      obtain ⟨rest, c, hrun, hc⟩ := stringToBytes_run P w el l hlt
      refine ⟨_, _, μ.with m.next ⟨w.heap.size, 0, l.length + rest.length⟩, by simp only [convert, Sem.run_bind, hS, hD, Result.andThen_ok, hB]; exact hrun, ⟨_, _, _, Mu.with_same _ _ _, rfl, by omega, .inl ⟨rfl, by simp [hc]⟩⟩, ?_⟩
      refine Step.alloc hr hf rfl ⟨rfl, rfl, rfl⟩ ⟨((l.map fun (b : Nat) => Value.int .u8 (b : Int)) ++ rest).toArray, el, c, c + 1, by simp, by simp, by simp, by simp, fun h => (by cases h), .inr (by simp [hc]), ?_, ?_⟩
      · simp [ovl_nil, AV.scalar]
      · simp only [ovl_nil, List.drop_zero]
        rw [List.take_append_of_le_length (by simp), List.take_of_length_le (by simp)]
        exact ints_rel _ l
    · cases h
  · rename_i hcv
    obtain ⟨si, di, hsi, hdi, hc⟩ := hT _ hcv
    have hS := run_und (w := w) hE hsi
    have hD := run_und (w := w) hE hdi
    rcases hc with ⟨k', j, e, h1, h2⟩ | ⟨e, h1, h2⟩ | ⟨el, e, h1, h2, h3⟩ | ⟨el, e, h1, h2, h3⟩ <;> cases e
    rw [h1] at hD; rw [h2] at hS
    have hB := isByte_ok (w := w) hE h3
    split at h
    · rename_i cs hcs
      split at h
      · rename_i l hl
        obtain ⟨rfl, rfl⟩ := Prod.mk.inj (Option.some.inj h)
        obtain ⟨g1, g2⟩ := bytesToString_run (P := P) hr hcs hl hx
        obtain ⟨o, len, cap, vs, rfl, _⟩ := sliceCells_run P hr hcs hx
        exact ⟨_, w, μ, by simp only [convert, Sem.run_bind, hS, hD, Result.andThen_ok, hB]; exact g1, ⟨rfl, g2⟩, Step.refl hr⟩
      · cases h
    · cases h
  · cases h
end
end Ev

/-
  Maps: their keys, how they are found, what is put and dropped.
-/
namespace Ev
open Go

section
variable {E : Env} {P : Program} {μ : Mu} {m m' : AMem} {w : World}

theorem fold_pre (d : Nat) {ks : List CK} : ∀ (l : List Field) (a : List CK), l.foldl (fun acc f => match acc with
    | some l => if f.name != "_" && Nat.beq f.offset l.length then (match flatT E d f.type with
      | some r => if Nat.beq r.length (sizeT E f.type) then some (l ++ r) else none
      | none => none) else none
    | none => none) (some a) = some ks → ∃ rest, ks = a ++ rest := by
  intro l
  induction l with
  | nil => intro a h; simp at h; exact ⟨[], by simp [h]⟩
  | cons g l ih =>
    intro a h
    rw [List.foldl_cons] at h
    simp only at h
    split at h
    · cases hg : flatT E d g.type with
      | none => simp only [hg] at h; rw [foldl_none _ (fun _ => rfl)] at h; cases h
      | some gk =>
        simp only [hg] at h
        split at h
        · obtain ⟨rest, hr⟩ := ih _ h; exact ⟨gk ++ rest, by rw [hr, List.append_assoc]⟩
        · rw [foldl_none _ (fun _ => rfl)] at h; cases h
    · rw [foldl_none _ (fun _ => rfl)] at h; cases h

/-- a key whose cells are compared one by one can be hashed -/
theorem checkKey_flat (hE : TyOK E P) (em : Bool) : ∀ (d t : Nat) (ks : List CK) (i : TyI), flatT E d t = some ks → E.ty t = some i → ∀ D, d ≤ D → ∀ (xs : List Value), xs.length = ks.length →
    ∀ w : World, (Instr.checkKey em D t (valOf i.u xs)).run P w = .ok () w
  | 0, t, ks, i, h, _, _, _, _, _, _ => by simp [flatT] at h
  | d + 1, t, ks, i, h, hi, D, hD, xs, hlen, w => by
    obtain ⟨D, rfl⟩ : ∃ D', D = D' + 1 := ⟨D - 1, by omega⟩
    obtain ⟨info, i1, i2, i3, i4, i5, i6⟩ := hE.ty t i hi
    simp only [flatT, hi] at h
    cases hu : i.u with
    | bool => rw [hu] at i2; simp [Instr.checkKey, run_underlying i2]
    | int k => rw [hu] at i2; simp [Instr.checkKey, run_underlying i2]
    | string => rw [hu] at i2; simp [Instr.checkKey, run_underlying i2]
    | struct fs =>
      rw [hu] at h i2
      simp only at h
      split at h
      · cases h
      · have hval : valOf (.struct fs) xs = .agg ⟨xs⟩ := rfl
        rw [hval, Instr.checkKey]
        simp only [Sem.run_bind, run_underlying i2, Result.andThen_ok]
        rw [← Array.forIn_toList]
        generalize hL : fs.toList = L at h
        clear hL hval
        have key : ∀ (l : List Field) (acc : List CK), l.foldl (fun acc f => match acc with
              | some l => if f.name != "_" && Nat.beq f.offset l.length then (match flatT E d f.type with
                | some r => if Nat.beq r.length (sizeT E f.type) then some (l ++ r) else none
                | none => none) else none
              | none => none) (some acc) = some ks → ∀ w : World, (forIn (m := Sem) l PUnit.unit (fun f _ => if f.name ≠ "_" then (do
                  Instr.checkKey em D f.type (← part f.type ⟨xs⟩ f.offset)
                  pure (ForInStep.yield PUnit.unit)) else pure (ForInStep.yield PUnit.unit))).run P w = .ok PUnit.unit w := by
          intro l
          induction l with
          | nil => intro acc _ w; simp
          | cons f l ih =>
            intro acc hf w
            rw [List.foldl_cons] at hf
            simp only at hf
            split at hf
            · rename_i hname
              simp only [Bool.and_eq_true, bne_iff_ne, ne_eq] at hname
              have hoff : f.offset = acc.length := by have := hname.2; rwa [Nat.beq_eq] at this
              cases hft : flatT E d f.type with
              | none => simp only [hft] at hf; rw [foldl_none _ (fun _ => rfl)] at hf; cases hf
              | some rk =>
                simp only [hft] at hf
                split at hf
                · rename_i hrl
                  rw [Nat.beq_eq] at hrl
                  cases hfi : E.ty f.type with
                  | none => cases d <;> simp [flatT, hfi] at hft
                  | some fi =>
                    rw [sizeT_eq hfi] at hrl
                    obtain ⟨rest, hks⟩ := fold_pre d l _ hf
                    have hkl : ks.length = acc.length + rk.length + rest.length := by rw [hks]; simp; omega
                    have p1 := part_run (w := w) hE hfi xs f.offset (by rw [hoff]; omega) (flat_scalar hft hfi)
                    have p2 := checkKey_flat hE em d f.type rk fi hft hfi D (by omega) ((xs.drop f.offset).take fi.size) (by simp; omega) w
                    simp only [List.forIn_cons, Sem.run_bind, hname.1, ne_eq, not_false_eq_true, if_true, Result.andThen_ok, p1, p2, Sem.run_pure]
                    exact ih _ hf w
                · rw [foldl_none _ (fun _ => rfl)] at hf; cases hf
            · rw [foldl_none _ (fun _ => rfl)] at hf; cases hf
        rw [key L [] h w]; rfl
    | array n e =>
      rw [hu] at h i2
      simp only at h
      cases hft : flatT E d e with
      | none => rw [hft] at h; cases h
      | some rk =>
        rw [hft] at h
        simp only at h
        split at h
        · rename_i hrl
          rw [Nat.beq_eq] at hrl
          cases h
          cases hfi : E.ty e with
          | none => cases d <;> simp [flatT, hfi] at hft
          | some fi =>
            rw [sizeT_eq hfi] at hrl
            have hval : valOf (.array n e) xs = .agg ⟨xs⟩ := rfl
            rw [hval, Instr.checkKey]
            simp only [Sem.run_bind, run_underlying i2, Result.andThen_ok]
            simp only [Std.Legacy.Range.forIn_eq_forIn_range', Std.Legacy.Range.size, Nat.sub_zero, Nat.add_one_sub_one, Nat.div_one]
            have hfl : ((List.replicate n rk).flatten).length = n * rk.length := by simp
            rw [hfl] at hlen
            have hin : ∀ j ∈ List.range' 0 n, j < n := by intro j hj; simpa using hj
            generalize List.range' 0 n = is at hin
            induction is with
            | nil => simp
            | cons j is ih =>
              have hj := hin j (by simp)
              have hb : j * rk.length + rk.length ≤ n * rk.length := by rw [← Nat.succ_mul]; exact Nat.mul_le_mul_right _ hj
              have p1 := part_run (w := w) hE hfi xs (j * fi.size) (by rw [← hrl]; omega) (flat_scalar hft hfi)
              have p2 := checkKey_flat hE em d e rk fi hft hfi D (by omega) ((xs.drop (j * fi.size)).take fi.size) (by rw [← hrl]; simp; omega) w
              simp only [List.forIn_cons, Sem.run_bind, run_sizeOfT hE hfi, Result.andThen_ok, p1, p2, Sem.run_pure]
              exact ih (fun y hy => hin y (by simp [hy]))
        · cases h
    | _ => rw [hu] at h; cases h

/-! ### Where a key lies -/
def idxOf (eq : AV → Option Bool) : List (AV × AV) → Option (Option Nat)
  | [] => some none
  | (k, _) :: r => match eq k with
    | some true => some (some 0)
    | some false => match idxOf eq r with
      | some (some i) => some (some (i + 1))
      | some none => some none
      | none => none
    | none => none

theorem findKey_idx {eq : AV → Option Bool} : ∀ {es : List (AV × AV)} {r : Option AV}, findKey eq es = some r → ∃ o, idxOf eq es = some o ∧ (o = none → r = none) ∧ (∀ i, o = some i → ∃ k v, es[i]? = some (k, v) ∧ r = some v)
  | [], r, h => by simp [findKey] at h; subst h; exact ⟨none, rfl, fun _ => rfl, fun _ h => by cases h⟩
  | (k, v) :: es, r, h => by
    simp only [findKey] at h
    split at h
    · rename_i he; cases h; exact ⟨some 0, by simp [idxOf, he], fun h => (by cases h), fun i h => by cases h; exact ⟨k, v, rfl, rfl⟩⟩
    · rename_i he
      obtain ⟨o, h1, h2, h3⟩ := findKey_idx h
      cases o with
      | none => exact ⟨none, by simp [idxOf, he, h1], h2, fun _ h => by cases h⟩
      | some i => exact ⟨some (i + 1), by simp [idxOf, he, h1], fun h => (by cases h), fun j h => by cases h; obtain ⟨k, v, g1, g2⟩ := h3 i rfl; exact ⟨k, v, by simpa using g1, g2⟩⟩
    · cases h

theorem putKey_idx {eq : AV → Option Bool} {k v : AV} : ∀ {es es' : List (AV × AV)}, putKey eq k v es = some es' → ∃ o, idxOf eq es = some o ∧ (o = none → es' = es ++ [(k, v)]) ∧ (∀ i, o = some i → es' = es.set i (k, v))
  | [], es', h => by simp [putKey] at h; subst h; exact ⟨none, rfl, fun _ => rfl, fun _ h => by cases h⟩
  | (k', v') :: es, es', h => by
    simp only [putKey] at h
    split at h
    · rename_i he; cases h; exact ⟨some 0, by simp [idxOf, he], fun h => (by cases h), fun i h => by cases h; rfl⟩
    · rename_i he
      split at h
      · rename_i r hr
        cases h
        obtain ⟨o, h1, h2, h3⟩ := putKey_idx hr
        cases o with
        | none => exact ⟨none, by simp [idxOf, he, h1], fun _ => by rw [h2 rfl]; rfl, fun _ h => by cases h⟩
        | some i => exact ⟨some (i + 1), by simp [idxOf, he, h1], fun h => (by cases h), fun j h => by cases h; rw [h3 i rfl]; rfl⟩
      · cases h
    · cases h

theorem delKey_idx {eq : AV → Option Bool} : ∀ {es es' : List (AV × AV)}, delKey eq es = some es' → ∃ o, idxOf eq es = some o ∧ (o = none → es' = es) ∧ (∀ i, o = some i → es' = es.eraseIdx i)
  | [], es', h => by simp [delKey] at h; subst h; exact ⟨none, rfl, fun _ => rfl, fun _ h => by cases h⟩
  | (k', v') :: es, es', h => by
    simp only [delKey] at h
    split at h
    · rename_i he; cases h; exact ⟨some 0, by simp [idxOf, he], fun h => (by cases h), fun i h => by cases h; rfl⟩
    · rename_i he
      split at h
      · rename_i r hr
        cases h
        obtain ⟨o, h1, h2, h3⟩ := delKey_idx hr
        cases o with
        | none => exact ⟨none, by simp [idxOf, he, h1], fun _ => by rw [h2 rfl], fun _ h => by cases h⟩
        | some i => exact ⟨some (i + 1), by simp [idxOf, he, h1], fun h => (by cases h), fun j h => by cases h; rw [h3 i rfl]; rfl⟩
      · cases h
    · cases h

theorem idxOf_true {eq : AV → Option Bool} : ∀ {es : List (AV × AV)} {i : Nat}, idxOf eq es = some (some i) → ∃ k v, es[i]? = some (k, v) ∧ eq k = some true
  | [], i, h => by simp [idxOf] at h
  | (k, v) :: es, i, h => by
    simp only [idxOf] at h
    split at h
    · rename_i he; cases h; exact ⟨k, v, rfl, he⟩
    · split at h
      · rename_i j hj
        cases h
        obtain ⟨k, v, g1, g2⟩ := idxOf_true hj
        exact ⟨k, v, by simpa using g1, g2⟩
      · cases h
      · cases h
    · cases h

/-! ### Keys against the model's -/
/-- what is known of a key and one that lies in the map -/
structure KeyRun (P : Program) (kt : Nat) (u : TypeDesc) (quick : Bool) (x y : Value) (r : Bool) : Prop where
  eq : ∀ w : World, (Op.equal kt x y).run P w = .ok r w
  now : quick = true → Instr.sameNow u x y = some r
  slow : quick = false → Instr.sameNow u x y = none
  same : r = true → Instr.sameBits 10000 y x = true

theorem sameBits_cells : ∀ {ks : List CK} {xs ys : List Value}, eqVals ks xs ys = some true → ∀ n, (ys.zip xs).all (fun (x, y) => Instr.sameBits n x y) = true
  | [], [], [], _, _ => rfl
  | [], [], _ :: _, h, _ => by simp [eqVals] at h
  | [], _ :: _, _, h, _ => by simp [eqVals] at h
  | _ :: _, [], _, h, _ => by simp [eqVals] at h
  | _ :: _, _ :: _, [], h, _ => by simp [eqVals] at h
  | k :: ks, x :: xs, y :: ys, h, n => by
    simp only [eqVals] at h
    split at h
    · rename_i p q
      split at h
      · rename_i hpq
        simp only [List.zip_cons_cons, List.all_cons, sameBits_cells h n, Bool.and_true, Instr.sameBits]
        cases p <;> cases q <;> simp_all
      · cases he : eqVals ks xs ys <;> rw [he] at h <;> simp at h
    · rename_i j p j' q
      split at h
      · rename_i hj
        subst hj
        split at h
        · rename_i hpq
          simp only [List.zip_cons_cons, List.all_cons, sameBits_cells h n, Bool.and_true, Instr.sameBits]
          simp_all
        · cases he : eqVals ks xs ys <;> rw [he] at h <;> simp at h
      · cases h
    · rename_i p q
      split at h
      · rename_i hpq
        simp only [List.zip_cons_cons, List.all_cons, sameBits_cells h n, Bool.and_true, Instr.sameBits]
        have : p = q := (MapKept.bytes_beq _ _).1 hpq
        subst this; simp [MapKept.bytes_beq]
      · cases he : eqVals ks xs ys <;> rw [he] at h <;> simp at h
    · cases h

theorem checkKey_base (em : Bool) {t : Nat} {u : TypeDesc} (h : P.underlying t = some u) (hu : u = .bool ∨ (∃ k, u = .int k) ∨ u = .string) (x : Value) (n : Nat) : (Instr.checkKey em (n + 1) t x).run P w = .ok () w := by
  rcases hu with rfl | ⟨k, rfl⟩ | rfl <;> simp [Instr.checkKey, run_underlying h]
theorem same_bool (p : Bool) (n : Nat) : Instr.sameBits n (.bool p) (.bool p) = true := by simp [Instr.sameBits]
theorem same_int (k : IntKind) (p : Int) (n : Nat) : Instr.sameBits n (.int k p) (.int k p) = true := by simp [Instr.sameBits]
theorem same_str (p : ByteArray) (n : Nat) : Instr.sameBits n (.string p) (.string p) = true := by simp [Instr.sameBits, MapKept.bytes_beq]
theorem equalIn_base {t : Nat} {u : TypeDesc} (h : P.underlying t = some u) (n : Nat) (w : World) : 
    (∀ p q, u = .bool → (Op.equalIn (n + 1) t (.bool p) (.bool q)).run P w = .ok (p == q) w) ∧ (∀ k p q, (∃ k, u = .int k) → (Op.equalIn (n + 1) t (.int k p) (.int k q)).run P w = .ok (p == q) w) ∧
    (∀ p q, u = .string → (Op.equalIn (n + 1) t (.string p) (.string q)).run P w = .ok (p == q) w) := by
  refine ⟨?_, ?_, ?_⟩
  · rintro p q rfl; simp [Op.equalIn, run_underlying h]
  · rintro k p q ⟨k', rfl⟩; simp [Op.equalIn, run_underlying h]
  · rintro p q rfl; simp [Op.equalIn, run_underlying h]
theorem equal_base {t : Nat} {u : TypeDesc} (h : P.underlying t = some u) (w : World) : 
    (∀ p q, u = .bool → (Op.equal t (.bool p) (.bool q)).run P w = .ok (p == q) w) ∧ (∀ k p q, (∃ k, u = .int k) → (Op.equal t (.int k p) (.int k q)).run P w = .ok (p == q) w) ∧
    (∀ p q, u = .string → (Op.equal t (.string p) (.string q)).run P w = .ok (p == q) w) := equalIn_base h 9999 w

theorem key_run (hE : TyOK E P) {kt : Nat} {eq : AV → AV → Option Bool} (h : keyEqAt E kt = some eq) : ∃ u quick, (∀ w : World, (underlying kt).run P w = .ok u w) ∧
    (∀ (k : AV) (x : Value) (em : Bool) (w : World), keyHere eq k = true → VRel μ k x → (Instr.checkKey em 10000 kt x).run P w = .ok () w) ∧
    (∀ (k a : AV) (x y : Value) (r : Bool), eq k a = some r → VRel μ k x → VRel μ a y → KeyRun P kt u quick x y r) := by
  unfold keyEqAt at h
  split at h
  · rename_i i hi
    obtain ⟨info, i1, i2, _⟩ := hE.ty kt i hi
    have hU : ∀ w : World, (underlying kt).run P w = .ok i.u w := fun w => run_und hE hi
    split at h
    · rename_i hu
      cases h
      rw [hu] at i2 hU
      refine ⟨_, true, hU, fun k x em w _ _ => checkKey_base em i2 (.inl rfl) x 9999, fun k a x y r he hx hy => ?_⟩
      have := eqCell_ok (k := .bool) he hx hy
      rcases this with ⟨p, q, _, rfl, rfl, rfl⟩ | ⟨j, p, q, e, _⟩ | ⟨p, q, e, _⟩
      · exact ⟨fun w => (equal_base i2 w).1 _ _ rfl, fun _ => rfl, fun h => (by cases h), fun hr => by simp only [beq_iff_eq] at hr; subst hr; exact same_bool _ _⟩
      · cases e
      · cases e
    · rename_i k₀ hu
      cases h
      rw [hu] at i2 hU
      refine ⟨_, true, hU, fun k x em w _ _ => checkKey_base em i2 (.inr (.inl ⟨_, rfl⟩)) x 9999, fun k a x y r he hx hy => ?_⟩
      have := eqCell_ok (k := .int) he hx hy
      rcases this with ⟨p, q, e, _⟩ | ⟨j, p, q, _, rfl, rfl, rfl⟩ | ⟨p, q, e, _⟩
      · cases e
      · exact ⟨fun w => (equal_base i2 w).2.1 _ _ _ ⟨_, rfl⟩, fun _ => by simp [Instr.sameNow], fun h => (by cases h), fun hr => by simp only [beq_iff_eq] at hr; subst hr; exact same_int _ _ _⟩
      · cases e
    · rename_i hu
      cases h
      rw [hu] at i2 hU
      refine ⟨_, true, hU, fun k x em w _ _ => checkKey_base em i2 (.inr (.inr rfl)) x 9999, fun k a x y r he hx hy => ?_⟩
      have := eqCell_ok (k := .str) he hx hy
      rcases this with ⟨p, q, e, _⟩ | ⟨j, p, q, e, _⟩ | ⟨p, q, _, rfl, rfl, rfl⟩
      · cases e
      · cases e
      · exact ⟨fun w => (equal_base i2 w).2.2 _ _ rfl, fun _ => rfl, fun h => (by cases h), fun hr => by have : p = q := (MapKept.bytes_beq _ _).1 hr; subst this; exact same_str _ _⟩
    all_goals first | (cases h; done) | skip
    all_goals
      rename_i hu
      split at h
      · rename_i ks hks
        cases h
        have hagg : isAggD i.u = true := by rw [hu]; rfl
        have hval : ∀ l, valOf i.u l = .agg ⟨l⟩ := fun l => by rw [hu]; rfl
        refine ⟨_, false, hU, fun k x em w hk hx => ?_, fun k a x y r he hx hy => ?_⟩
        · unfold keyHere at hk
          cases hkk : aggEq ks k k with
          | none => rw [hkk] at hk; cases hk
          | some r =>
            unfold aggEq at hkk
            split at hkk
            · rename_i l1 l2 e1 e2
              have := asAgg_eq e1; subst this
              obtain ⟨vs, rfl, hvs, _⟩ := hx
              have hl := (eqVals_length (eqCells_vals hkk hvs (by simp only [AV.asAgg] at e2; cases e2; exact hvs))).1
              rw [← hval]
              exact checkKey_flat hE em 20 kt ks i hks hi 10000 (by decide) vs hl w
            · cases hkk
        · unfold aggEq at he
          split at he
          · rename_i l1 l2 e1 e2
            have := asAgg_eq e1; subst this
            have := asAgg_eq e2; subst this
            obtain ⟨xs, rfl, hxs, _⟩ := hx
            obtain ⟨ys, rfl, hys, _⟩ := hy
            have hv := eqCells_vals he hxs hys
            refine ⟨fun w => ?_, fun h => (by cases h), fun _ => by rw [hu]; rfl, fun hr => ?_⟩
            · rw [← hval, ← hval]
              exact equalIn_flat hE 20 kt ks i hks hi _ (by decide) xs ys r hv w
            · subst hr
              have hl := eqVals_length hv
              simp only [Instr.sameBits, List.size_toArray, hl.1, hl.2, beq_self_eq_true, Bool.true_and]
              exact sameBits_cells hv _
          · cases he
      · cases h
  · cases h
end
end Ev

/-
  Maps: looked up, set, dropped, cleared; lengths and capacities.
-/
namespace Ev
open Go

section
variable {E : Env} {P : Program} {μ : Mu} {m m' : AMem} {w : World}

theorem EsRel.length : ∀ {l : List (AV × AV)} {es : List MapEntry}, EsRel μ l es → l.length = es.length
  | [], _, h => by cases h; rfl
  | (_, _) :: l, _, ⟨e, r, h0, _, _, h3⟩ => by subst h0; simp [EsRel.length (l := l) h3]
theorem EsRel.get : ∀ {l : List (AV × AV)} {es : List MapEntry}, EsRel μ l es → ∀ (i : Nat) (k v : AV), l[i]? = some (k, v) → ∃ e : MapEntry, es[i]? = some e ∧ VRel μ k e.key ∧ VRel μ v e.val
  | [], _, _, i, k, v, h => by simp at h
  | (_, _) :: l, _, ⟨e, r, h0, h1, h2, h3⟩, 0, k, v, h => by subst h0; simp at h; obtain ⟨rfl, rfl⟩ := h; exact ⟨e, rfl, h1, h2⟩
  | (_, _) :: l, _, ⟨e, r, h0, h1, h2, h3⟩, i + 1, k, v, h => by subst h0; simpa using EsRel.get (l := l) h3 i k v (by simpa using h)
theorem EsRel.push {k v : AV} {e : MapEntry} : ∀ {l : List (AV × AV)} {es : List MapEntry}, EsRel μ l es → VRel μ k e.key → VRel μ v e.val → EsRel μ (l ++ [(k, v)]) (es ++ [e])
  | [], _, h, hk, hv => by cases h; exact ⟨e, [], rfl, hk, hv, rfl⟩
  | (_, _) :: l, _, ⟨e', r, h0, h1, h2, h3⟩, hk, hv => by subst h0; exact ⟨e', r ++ [e], rfl, h1, h2, EsRel.push (l := l) h3 hk hv⟩
theorem EsRel.set {k v : AV} {f : MapEntry → MapEntry} (hk : ∀ e, VRel μ k (f e).key) (hv : ∀ e, VRel μ v (f e).val) : ∀ {l : List (AV × AV)} {es : List MapEntry} (i : Nat), EsRel μ l es →
    EsRel μ (l.set i (k, v)) (es.modify i f)
  | [], _, i, h => by cases h; cases i <;> rfl
  | (_, _) :: l, _, 0, ⟨e', r, h0, h1, h2, h3⟩ => by subst h0; exact ⟨f e', r, rfl, hk _, hv _, h3⟩
  | (_, _) :: l, _, i + 1, ⟨e', r, h0, h1, h2, h3⟩ => by subst h0; exact ⟨e', r.modify i f, rfl, h1, h2, EsRel.set hk hv (l := l) i h3⟩
theorem EsRel.erase : ∀ {l : List (AV × AV)} {es : List MapEntry} (i : Nat), EsRel μ l es → EsRel μ (l.eraseIdx i) (es.eraseIdx i)
  | [], _, i, h => by cases h; cases i <;> rfl
  | (_, _) :: l, _, 0, ⟨e', r, h0, h1, h2, h3⟩ => by subst h0; exact h3
  | (_, _) :: l, _, i + 1, ⟨e', r, h0, h1, h2, h3⟩ => by subst h0; exact ⟨e', r.eraseIdx i, rfl, h1, h2, EsRel.erase (l := l) i h3⟩

/-- what the model answers, by the place -/
def atPlace (es : List MapEntry) (j : Nat) : Option Nat → Option (Nat × Value)
  | none => none
  | some i => es[i]?.map fun e => (i + j, e.val)

theorem find_quick {kt : Nat} {u : TypeDesc} {eq : AV → AV → Option Bool} {k : AV} {x : Value} (hx : VRel μ k x)
    (hK : ∀ (k a : AV) (x y : Value) (r : Bool), eq k a = some r → VRel μ k x → VRel μ a y → KeyRun P kt u true x y r) :
    ∀ {l : List (AV × AV)} {es : List MapEntry} {o : Option Nat} (j : Nat), EsRel μ l es → idxOf (eq k) l = some o → Instr.findNow u x es j = some (atPlace es j o)
  | [], _, o, j, h, hi => by cases h; simp [idxOf] at hi; subst hi; rfl
  | (a, v) :: l, _, o, j, ⟨e', r, h0, h1, h2, h3⟩, hi => by
    subst h0
    simp only [idxOf] at hi
    split at hi
    · rename_i he
      cases hi
      have := (hK k a x e'.key true he hx h1).now rfl
      simp [Instr.findNow, this, atPlace]
    · rename_i he
      have := (hK k a x e'.key false he hx h1).now rfl
      split at hi
      · rename_i i hi'
        cases hi
        have ih := find_quick hx hK (j + 1) h3 hi'
        simp only [Instr.findNow, this, ih, atPlace, List.getElem?_cons_succ]
        simp [Nat.add_assoc, Nat.add_comm 1 j]
      · rename_i hi'
        cases hi
        have ih := find_quick hx hK (j + 1) h3 hi'
        simp only [Instr.findNow, this, ih, atPlace]
      · cases hi
    · cases hi

theorem find_slow {kt : Nat} {u : TypeDesc} {q : Bool} {eq : AV → AV → Option Bool} {k : AV} {x : Value} (hx : VRel μ k x)
    (hK : ∀ (k a : AV) (x y : Value) (r : Bool), eq k a = some r → VRel μ k x → VRel μ a y → KeyRun P kt u q x y r) :
    ∀ {l : List (AV × AV)} {es : List MapEntry} {o : Option Nat} (j : Nat), EsRel μ l es → idxOf (eq k) l = some o → ∀ w : World, (Instr.findAsking kt x es j).run P w = .ok (atPlace es j o) w
  | [], _, o, j, h, hi, w => by cases h; simp [idxOf] at hi; subst hi; rfl
  | (a, v) :: l, _, o, j, ⟨e', r, h0, h1, h2, h3⟩, hi, w => by
    subst h0
    simp only [idxOf] at hi
    split at hi
    · rename_i he
      cases hi
      have := (hK k a x e'.key true he hx h1).eq
      simp [Instr.findAsking, this, atPlace]
    · rename_i he
      have := (hK k a x e'.key false he hx h1).eq
      split at hi
      · rename_i i hi'
        cases hi
        have ih := find_slow hx hK (j + 1) h3 hi' w
        simp only [Instr.findAsking, Sem.run_bind, this, Result.andThen_ok, Bool.false_eq_true, if_false, ih, atPlace, List.getElem?_cons_succ]
        simp [Nat.add_assoc, Nat.add_comm 1 j]
      · rename_i hi'
        cases hi
        have ih := find_slow hx hK (j + 1) h3 hi' w
        simp only [Instr.findAsking, Sem.run_bind, this, Result.andThen_ok, Bool.false_eq_true, if_false, ih, atPlace]
      · cases hi
    · cases hi

theorem find_run {kt : Nat} {u : TypeDesc} {q : Bool} {eq : AV → AV → Option Bool} {k : AV} {x : Value} (hU : ∀ w : World, (underlying kt).run P w = .ok u w) (hx : VRel μ k x)
    (hK : ∀ (k a : AV) (x y : Value) (r : Bool), eq k a = some r → VRel μ k x → VRel μ a y → KeyRun P kt u q x y r)
    {l : List (AV × AV)} {es : List MapEntry} {o : Option Nat} (h : EsRel μ l es) (hi : idxOf (eq k) l = some o) (w : World) : (Instr.findKey kt x es).run P w = .ok (atPlace es 0 o) w := by
  simp only [Instr.findKey, Sem.run_bind, hU, Result.andThen_ok]
  cases q with
  | true => rw [find_quick hx hK 0 h hi]; rfl
  | false =>
    cases hn : Instr.findNow u x es 0 with
    | none => exact find_slow hx hK 0 h hi w
    | some r =>
      -- only of an empty map
      have : es = [] := by
        cases l with
        | nil => cases h; rfl
        | cons p l =>
          obtain ⟨a, v⟩ := p
          obtain ⟨e', r', h0, h1, h2, h3⟩ := h
          subst h0
          have hs : ∃ b, eq k a = some b := by
            simp only [idxOf] at hi
            split at hi
            · exact ⟨_, by assumption⟩
            · exact ⟨_, by assumption⟩
            · cases hi
          obtain ⟨b, hb⟩ := hs
          have := (hK k a x e'.key b hb hx h1).slow rfl
          simp [Instr.findNow, this] at hn
      subst this
      have hl : l = [] := by cases l with
        | nil => rfl
        | cons p l => obtain ⟨_, _, h0, _⟩ := h; cases h0
      subst hl
      simp [idxOf] at hi
      subst hi
      simp [Instr.findNow] at hn
      subst hn
      rfl

theorem mapT_ok {t : Nat} {p : (AV → AV → Option Bool) × Nat} (hE : TyOK E P) (h : mapT E t = some p) : ∃ kt, (∀ w : World, (underlying t).run P w = .ok (.map kt p.2) w) ∧ keyEqAt E kt = some p.1 := by
  unfold mapT at h
  split at h
  · rename_i i hi
    split at h
    · rename_i kt et hu
      split at h
      · rename_i eq heq
        cases h
        exact ⟨kt, fun w => by rw [run_und hE hi, hu], heq⟩
      · cases h
    · cases h
  · cases h

theorem mapAt_ok (hr : Rep μ m w) {id : Nat} {es : List (AV × AV)} {L : Loc} (h : mapAt m id = some es) (hL : μ id = some L) :
    m.get id = some (.map es) ∧ ∃ ents clock, w.heap[L.b]? = some (.map ents clock) ∧ EsRel μ es ents.toList := by
  unfold mapAt at h
  split at h
  · rename_i es' hg
    cases h
    exact ⟨hg, hr.blk _ _ _ hg hL⟩
  · cases h

theorem run_getMap {b : Nat} {ents : Array MapEntry} {clock : Nat} (h : w.heap[b]? = some (.map ents clock)) : (getObj b).run P w = .ok (.map ents clock) w := by
  simp [getObj, Sem.run, h]
theorem run_setMap {b : Nat} {ents : Array MapEntry} {clock : Nat} (o : Obj) (h : w.heap[b]? = some (.map ents clock)) : (setObj b o).run P w = .ok () { w with heap := w.heap.setIfInBounds b o } := by
  simp [setObj, Sem.run, h]
theorem setMap_step (hr : Rep μ m w) {id : Nat} {es es' : List (AV × AV)} {L : Loc} (hg : m.get id = some (.map es)) (hL : μ id = some L) {ents : Array MapEntry} {clock : Nat} (he : EsRel μ es' ents.toList) :
    Step μ m w μ (m.put id (.map es')) { w with heap := w.heap.setIfInBounds L.b (.map ents clock) } := by
  have hlt := (hr.blk _ _ _ hg hL).lt
  refine Step.write hr hg hL ⟨by simp, fun b' hb => by simp [Ne.symm hb], rfl, rfl, rfl⟩ ⟨ents, clock, by simp [hlt], he⟩

theorem mapList_ok (hr : Rep μ m w) {a : AV} {x : Value} {es : List (AV × AV)} (h : mapList m a = some es) (hx : VRel μ a x) :
    (x = .map none ∧ es = []) ∨ ∃ b ents clock, x = .map (some b) ∧ w.heap[b]? = some (.map ents clock) ∧ EsRel μ es ents.toList := by
  unfold mapList at h
  split at h
  · cases h; cases hx; exact .inl ⟨rfl, rfl⟩
  · obtain ⟨L, hL, rfl⟩ := hx
    obtain ⟨_, ents, clock, h1, h2⟩ := mapAt_ok hr h hL
    exact .inr ⟨_, ents, clock, rfl, h1, h2⟩
  · cases h

theorem lookup_good (hE : TyOK E P) (hr : Rep μ m w) {t : Nat} {a k r : AV} {ok : Bool} {x y : Value} (h : evLookup E t a k ok m = some (r, m')) (hx : VRel μ a x) (hy : VRel μ k y) :
    m' = m ∧ ∃ v, (Instr.lookup t x y ok).run P w = .ok v w ∧ VRel μ r v := by
  unfold evLookup at h
  split at h
  · rename_i eq et hT
    obtain ⟨kt, hU, hkeq⟩ := mapT_ok hE hT
    obtain ⟨u, q, hKU, hchk, hK⟩ := key_run (μ := μ) hE hkeq
    split at h
    · rename_i es hes
      split at h
      · rename_i hkh
        unfold lookR at h
        have hel : ∃ ents : Array MapEntry, EsRel μ es ents.toList ∧ (x = .map none ∧ ents = #[] ∨ ∃ b clock, x = .map (some b) ∧ w.heap[b]? = some (.map ents clock)) := by
          rcases mapList_ok hr hes hx with ⟨rfl, rfl⟩ | ⟨b, ents, clock, rfl, h1, h2⟩
          · exact ⟨#[], rfl, .inl ⟨rfl, rfl⟩⟩
          · exact ⟨ents, h2, .inr ⟨b, clock, rfl, h1⟩⟩
        obtain ⟨ents, hee, hform⟩ := hel
        have hmain : ∀ o, idxOf (eq k) es = some o → ∀ res, (match atPlace ents.toList 0 o with | some (_, v) => pure (v, true) | none => (do pure (← zeroValue et, false)) : Sem (Value × Bool)).run P w = .ok res w →
            (Instr.lookup t x y ok).run P w = .ok (if ok then .tuple #[res.1, .bool res.2] else res.1) w := by
          intro o ho res hres
          have hfr := find_run hKU hy hK hee ho w
          rcases hform with ⟨rfl, rfl⟩ | ⟨b, clock, rfl, hb⟩
          · simp only [Instr.lookup, Sem.run_bind, hU, Result.andThen_ok, hchk k y _ w hkh hy, hfr, Sem.run_pure]
            revert hres
            cases atPlace (#[] : Array MapEntry).toList 0 o with
            | none => intro hres; simp only [Sem.run_bind, Sem.run_pure] at hres ⊢; revert hres; cases (zeroValue et).run P w <;> intro hres <;> simp only [Result.andThen, Result.ok.injEq, reduceCtorEq] at hres ⊢ <;> (obtain ⟨rfl, rfl⟩ := hres; simp)
            | some p => intro hres; simp only [Sem.run_bind, Sem.run_pure] at hres ⊢; simp_all
          · simp only [Instr.lookup, Sem.run_bind, hU, Result.andThen_ok, hchk k y _ w hkh hy, hfr, Sem.run_pure, run_getMap hb]
            revert hres
            cases atPlace ents.toList 0 o with
            | none => intro hres; simp only [Sem.run_bind, Sem.run_pure] at hres ⊢; revert hres; cases (zeroValue et).run P w <;> intro hres <;> simp only [Result.andThen, Result.ok.injEq, reduceCtorEq] at hres ⊢ <;> (obtain ⟨rfl, rfl⟩ := hres; simp)
            | some p => intro hres; simp only [Sem.run_bind, Sem.run_pure] at hres ⊢; simp_all
        split at h
        · rename_i v hf
          obtain ⟨rfl, rfl⟩ := Prod.mk.inj (Option.some.inj h)
          obtain ⟨o, ho, h1, h2⟩ := findKey_idx hf
          cases o with
          | none => cases h1 rfl
          | some i =>
            obtain ⟨k', v', g1, g2⟩ := h2 i rfl
            cases g2
            obtain ⟨e, e1, e2, e3⟩ := hee.get _ _ _ g1
            refine ⟨rfl, _, hmain _ ho (e.val, true) ?_, ?_⟩
            · simp only [atPlace, e1, Option.map_some]; rfl
            · unfold okPair
              cases ok with
              | true => exact ⟨_, rfl, .cons e3 (.cons rfl rfl)⟩
              | false => exact e3
        · rename_i hf
          split at h
          · rename_i z hz
            obtain ⟨rfl, rfl⟩ := Prod.mk.inj (Option.some.inj h)
            obtain ⟨o, ho, h1, h2⟩ := findKey_idx hf
            cases o with
            | some i => obtain ⟨_, _, _, g2⟩ := h2 i rfl; cases g2
            | none =>
              unfold zeroOf at hz
              split at hz
              · rename_i ie hie
                obtain ⟨zv, g1, g2⟩ := run_zeroT (w := w) hE hie hz
                refine ⟨rfl, _, hmain _ ho (zv, false) ?_, ?_⟩
                · simp only [atPlace, Sem.run_bind, g1, Result.andThen_ok]; rfl
                · unfold okPair
                  cases ok with
                  | true => exact ⟨_, rfl, .cons (g2 μ) (.cons rfl rfl)⟩
                  | false => exact g2 μ
              · cases hz
          · cases h
        · cases h
      · cases h
    · cases h
  · cases h

theorem keyStays {o n : Value} (h : Instr.sameBits 10000 o n = true) : (Instr.keyThatStays o n).run P w = .ok n w := by
  simp only [Instr.keyThatStays, h, if_true]; rfl

theorem mapUpdate_good (hE : TyOK E P) (hr : Rep μ m w) {t : Nat} {a k b r : AV} {x y z : Value} (h : evMapUpdate E t a k b m = some (r, m')) (hx : VRel μ a x) (hy : VRel μ k y) (hz : VRel μ b z) :
    ∃ w', (Instr.mapUpdate t x y z).run P w = .ok () w' ∧ r = .undef ∧ Step μ m w μ m' w' := by
  unfold evMapUpdate at h
  split at h
  · rename_i eq et id hT hid
    have := asMap_eq hid; subst this
    obtain ⟨kt, hU, hkeq⟩ := mapT_ok hE hT
    obtain ⟨u, q, hKU, hchk, hK⟩ := key_run (μ := μ) hE hkeq
    obtain ⟨L, hL, rfl⟩ := hx
    split at h
    · rename_i es hes
      obtain ⟨hg, ents, clock, h1, h2⟩ := mapAt_ok hr hes hL
      split at h
      · rename_i hkh
        unfold putMapR at h
        split at h
        · rename_i es' hp
          obtain ⟨rfl, rfl⟩ := Prod.mk.inj (Option.some.inj h)
          obtain ⟨o, ho, p1, p2⟩ := putKey_idx hp
          have hfind := find_run hKU hy hK h2 ho w
          cases o with
          | none =>
            rw [p1 rfl]
            refine ⟨_, ?_, rfl, setMap_step hr hg hL (ents := ents.push ⟨y, z, clock⟩) (clock := clock + 1) ?_⟩
            · simp only [Instr.mapUpdate, Sem.run_bind, hU, Result.andThen_ok, run_getMap h1, hchk k y _ w hkh hy, hfind, atPlace, run_setMap _ h1]
            · rw [Array.toList_push]; exact h2.push hy hz
          | some i =>
            rw [p2 i rfl]
            obtain ⟨k', v', g1, g2⟩ := idxOf_true ho
            obtain ⟨e, e1, e2, e3⟩ := h2.get _ _ _ g1
            have hs := (hK k k' y e.key true g2 hy e2).same rfl
            have e1' : ents[i]? = some e := by rw [← Array.getElem?_toList]; exact e1
            refine ⟨_, ?_, rfl, setMap_step hr hg hL (ents := ents.modify i fun e => { e with key := y, val := z }) (clock := clock) ?_⟩
            · simp only [Instr.mapUpdate, Sem.run_bind, hU, Result.andThen_ok, run_getMap h1, hchk k y _ w hkh hy, hfind, atPlace, e1, Option.map_some, Nat.add_zero, e1', Option.getD_some, keyStays hs, run_setMap _ h1]
            · rw [Array.toList_modify]; exact EsRel.set (fun _ => hy) (fun _ => hz) i h2
        · cases h
      · cases h
    · cases h
  · cases h

theorem delete_good (hE : TyOK E P) (hr : Rep μ m w) {t : Nat} {a k r : AV} {x y : Value} {rest : List Nat} {ty : Nat} (h : evDelete E t a k m = some (r, m')) (hx : VRel μ a x) (hy : VRel μ k y) :
    ∃ v w', (Builtin.delete_ ⟨t :: rest⟩ ty #[x, y]).run P w = .ok v w' ∧ VRel μ r v ∧ Step μ m w μ m' w' := by
  unfold evDelete at h
  split at h
  · rename_i eq et id hT hid
    have := asMap_eq hid; subst this
    obtain ⟨kt, hU, hkeq⟩ := mapT_ok hE hT
    obtain ⟨u, q, hKU, hchk, hK⟩ := key_run (μ := μ) hE hkeq
    obtain ⟨L, hL, rfl⟩ := hx
    split at h
    · rename_i es hes
      obtain ⟨hg, ents, clock, h1, h2⟩ := mapAt_ok hr hes hL
      split at h
      · rename_i hkh
        unfold putMapR at h
        split at h
        · rename_i es' hp
          obtain ⟨rfl, rfl⟩ := Prod.mk.inj (Option.some.inj h)
          obtain ⟨o, ho, p1, p2⟩ := delKey_idx hp
          have hfind := find_run hKU hy hK h2 ho w
          cases o with
          | none =>
            rw [p1 rfl]
            refine ⟨.tuple #[], _, ?_, ⟨_, rfl, rfl⟩, setMap_step hr hg hL (ents := ents) (clock := clock) h2⟩
            simp only [Builtin.delete_, List.getElem?_toArray, List.getElem?_cons_zero, List.getElem?_cons_succ, Sem.run_bind, hU, Result.andThen_ok, run_getMap h1, hchk k y _ w hkh hy, hfind, atPlace, run_setMap _ h1, Sem.run_pure]
          | some i =>
            rw [p2 i rfl]
            obtain ⟨k', v', g1, g2⟩ := idxOf_true ho
            obtain ⟨e, e1, e2, e3⟩ := h2.get _ _ _ g1
            refine ⟨.tuple #[], _, ?_, ⟨_, rfl, rfl⟩, setMap_step hr hg hL (ents := ents.eraseIdxIfInBounds i) (clock := clock) ?_⟩
            · simp only [Builtin.delete_, List.getElem?_toArray, List.getElem?_cons_zero, List.getElem?_cons_succ, Sem.run_bind, hU, Result.andThen_ok, run_getMap h1, hchk k y _ w hkh hy, hfind, atPlace, e1, Option.map_some, Nat.add_zero, run_setMap _ h1, Sem.run_pure]
            · have hi : i < ents.size := by
                have := (List.getElem?_eq_some_iff.1 e1).1; simpa using this
              unfold Array.eraseIdxIfInBounds
              rw [dif_pos hi, Array.toList_eraseIdx]
              exact h2.erase i
        · cases h
      · cases h
    · cases h
  · cases h
end
end Ev
