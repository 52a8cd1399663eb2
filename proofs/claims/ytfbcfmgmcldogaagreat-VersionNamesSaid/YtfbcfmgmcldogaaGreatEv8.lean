/-
  Values put together.
-/
import Derived.Test.YtfbcfmgmcldogaaGreatEv7
namespace Ev
open Go

section
variable {E : Env} {P : Program} {μ : Mu} {m m' : AMem} {w : World}

/-! ### Parts laid into cells -/
theorem foldl_set : ∀ (l : List Value) (k : Nat) (cs : Array Value) (off : Nat), off + k + l.length ≤ cs.size →
    ((l.zipIdx k).foldl (fun cs (c, j) => cs.setIfInBounds (off + j) c) cs).toList = cs.toList.take (off + k) ++ (l ++ cs.toList.drop (off + k + l.length))
  | [], k, cs, off, _ => by simp
  | v :: l, k, cs, off, h => by
    simp only [List.length_cons] at h
    rw [List.zipIdx_cons, List.foldl_cons]
    rw [foldl_set l (k + 1) _ off (by simp; omega)]
    apply List.ext_getElem?
    intro j
    simp only [List.getElem?_append, List.length_take, Array.length_toList, Array.size_setIfInBounds, List.length_cons, List.getElem?_take, List.getElem?_drop, Array.getElem?_toList, Array.getElem?_setIfInBounds]
    by_cases h1 : j < off + k
    · rw [if_pos (by omega), if_pos (by omega), if_neg (by omega), if_pos (by omega), if_pos (by omega)]
    · by_cases h2 : j = off + k
      · subst h2
        rw [if_pos (by omega), if_pos (by omega), if_pos rfl, if_pos (by omega), if_neg (by omega), if_pos (by omega)]
        have : off + k - min (off + k) cs.size = 0 := by omega
        rw [this]; simp
      · by_cases h3 : j < off + k + (l.length + 1)
        · rw [if_neg (by omega), if_pos (by omega), if_neg (by omega), if_pos (by omega)]
          rw [show j - min (off + k) cs.size = (j - min (off + (k + 1)) cs.size) + 1 by omega, List.getElem?_cons_succ]
        · rw [if_neg (by omega), if_neg (by omega), if_neg (by omega), if_neg (by omega), if_neg (by omega)]
          congr 1; omega

def PsRel (μ : Mu) : List (Nat × AV) → List (Nat × Value) → Prop
  | [], qs => qs = []
  | (i, a) :: ps, qs => ∃ v r, qs = (i, v) :: r ∧ VRel μ a v ∧ PsRel μ ps r

theorem fill_rel {place place' : Nat → Option (Nat × Nat)} (hp : ∀ i x, place i = some x → place' i = some x) : ∀ {ps : List (Nat × AV)} {qs : List (Nat × Value)} {cells r : List AV} {vs : List Value},
    fillParts place cells ps = some r → VsRel μ cells vs → PsRel μ ps qs → cells.all AV.scalar = true →
    ∃ rs, Instr.fill place' ⟨vs⟩ qs = some ⟨rs⟩ ∧ VsRel μ r rs ∧ r.all AV.scalar = true ∧ r.length = cells.length
  | [], qs, cells, r, vs, h, hc, hq, hs => by
    cases hq
    simp [fillParts] at h; subst h
    exact ⟨vs, rfl, hc, hs, rfl⟩
  | (i, a) :: ps, qs, cells, r, vs, h, hc, hq, hs => by
    obtain ⟨v, q, rfl, hv, hq⟩ := hq
    simp only [fillParts] at h
    split at h
    · cases h
    · rename_i off size hpl
      split at h
      · rename_i hcond
        obtain ⟨c1, c2, c3⟩ := hcond
        have hvc := hv.cells
        have hvl := hvc.length
        have hcl := hc.length
        have hsz : v.cells.size = size := by rw [← Array.length_toList, ← hvl, c1]
        have hle : off + 0 + v.cells.toList.length ≤ (⟨vs⟩ : Array Value).size := by simp; omega
        have hnew : VsRel μ (splice cells off a.cells) (vs.take off ++ (v.cells.toList ++ vs.drop (off + v.cells.toList.length))) := by
          unfold splice
          rw [← hvl]
          exact (hc.take _).append (hvc.append (hc.drop _))
        have hsc : (splice cells off a.cells).all AV.scalar = true := by
          unfold splice
          rw [List.all_eq_true] at hs c3 ⊢
          intro x hx
          rcases List.mem_append.1 hx with hx | hx
          · exact hs x (List.mem_of_mem_take hx)
          · rcases List.mem_append.1 hx with hx | hx
            · exact c3 x hx
            · exact hs x (List.mem_of_mem_drop hx)
        obtain ⟨rs, h1, h2, h3, h4⟩ := fill_rel hp (ps := ps) h hnew hq hsc
        refine ⟨rs, ?_, h2, h3, by rw [h4, splice_length _ _ _ (by omega)]⟩
        simp only [Instr.fill, hp _ _ hpl]
        rw [if_neg]
        · have := foldl_set v.cells.toList 0 ⟨vs⟩ off hle
          have e : (v.cells.zipIdx.foldl (fun cs (c, j) => cs.setIfInBounds (off + j) c) (⟨vs⟩ : Array Value)) = ⟨vs.take off ++ (v.cells.toList ++ vs.drop (off + v.cells.toList.length))⟩ := by
            apply Array.ext'
            rw [← Array.foldl_toList]
            simpa using this
          rw [e]; exact h1
        · simp [hsz]; omega
      · cases h

theorem all_rep {z : List AV} (h : z.all AV.scalar = true) (n : Nat) : (rep n z).all AV.scalar = true := by
  rw [List.all_eq_true] at h ⊢
  intro x hx
  simp only [rep, List.mem_flatten, List.mem_replicate] at hx
  obtain ⟨l, ⟨_, rfl⟩, hl⟩ := hx
  exact h x hl
theorem rep_length (n : Nat) (z : List AV) : (rep n z).length = n * z.length := by simp [rep]
theorem rep_rel {z : List AV} {zs : List Value} (h : VsRel μ z zs) : ∀ n, VsRel μ (rep n z) (List.replicate n zs).flatten
  | 0 => rfl
  | n + 1 => by
    show VsRel μ (List.replicate (n + 1) z).flatten _
    rw [List.replicate_succ, List.flatten_cons, List.replicate_succ, List.flatten_cons]
    exact h.append (rep_rel h n)
theorem range_rep (zs : List Value) (n : Nat) : ((Array.range (n * zs.length)).map fun i => (⟨zs⟩ : Array Value)[i % (⟨zs⟩ : Array Value).size]!).toList = (List.replicate n zs).flatten := by
  apply List.ext_getElem
  · simp
  · intro i h1 h2
    simp only [Array.length_toList, Array.size_map, Array.size_range] at h1
    have hpos : 0 < zs.length := by
      rcases Nat.eq_zero_or_pos zs.length with h | h
      · rw [h] at h1; simp at h1
      · exact h
    have hm : i % zs.length < zs.length := Nat.mod_lt _ hpos
    have : (List.replicate n zs).flatten[i] = zs[i % zs.length] := by
      have gen : ∀ (n i : Nat) (h : i < ((List.replicate n zs).flatten).length), ((List.replicate n zs).flatten)[i] = zs[i % zs.length]'(Nat.mod_lt _ hpos) := by
        intro n
        induction n with
        | zero => intro i h; simp at h
        | succ n ih =>
          intro i h
          have e : (List.replicate (n + 1) zs).flatten = zs ++ (List.replicate n zs).flatten := by rw [List.replicate_succ, List.flatten_cons]
          have hi : i < (zs ++ (List.replicate n zs).flatten).length := by rw [← e]; exact h
          rw [List.getElem_of_eq e h]
          by_cases hlt : i < zs.length
          · rw [List.getElem_append_left hlt]
            congr 1
            exact (Nat.mod_eq_of_lt hlt).symm
          · rw [List.getElem_append_right (by omega), ih]
            congr 1
            exact (Nat.mod_eq_sub_mod (by omega)).symm
      exact gen n i h2
    rw [this]
    simp [hm]

theorem mapM_places (hE : TyOK E P) : ∀ (fs : List Field), (fs.all fun f => (E.ty f.type).isSome) = true →
    (fs.mapM fun f => do pure (f.offset, ← Go.sizeOf f.type) : Sem (List (Nat × Nat))).run P w = .ok (fs.map fun f => (f.offset, sizeT E f.type)) w
  | [], _ => by simp
  | f :: fs, h => by
    simp only [List.all_cons, Bool.and_eq_true] at h
    obtain ⟨i, hi⟩ := Option.isSome_iff_exists.1 h.1
    have ih := mapM_places hE fs h.2
    simp only [List.mapM_cons, Sem.run_bind, run_sizeOfT hE hi, Result.andThen_ok, Sem.run_pure, ih, List.map_cons, sizeT_eq hi]

theorem build_run (hE : TyOK E P) {t : Nat} {ps : List (Nat × AV)} {qs : List (Nat × Value)} {r : AV} (h : evBuild E t ps = some r) (hq : PsRel μ ps qs) :
    ∃ v, (Instr.build t ⟨qs⟩).run P w = .ok v w ∧ VRel μ r v := by
  unfold evBuild at h
  split at h
  · rename_i i hi
    split at h
    · rename_i z hz
      obtain ⟨zv, hz1, hz2⟩ := run_zeroT (w := w) hE hi hz
      have hzc := (hz2 μ).cells
      split at h
      · rename_i hs
        have hU := run_und (w := w) hE hi
        split at h
        · rename_i fs hu
          rw [hu] at hU
          split at h
          · rename_i hall
            split at h
            · rename_i cs hf
              cases h
              have hm := mapM_places (w := w) hE fs.toList (by simpa using hall)
              obtain ⟨rs, h1, h2, h3, h4⟩ := fill_rel (μ := μ) (place' := fun j => (fs.map fun f => (f.offset, sizeT E f.type))[j]?) (fun j x hx => by
                simp only [Array.getElem?_map]
                cases hfj : fs[j]? with
                | none => rw [hfj] at hx; cases hx
                | some f => rw [hfj] at hx; simpa using hx) hf hzc hq hs
              refine ⟨.agg ⟨rs⟩, ?_, rs, rfl, h2, h3⟩
              have hm' : (fs.mapM fun f => do pure (f.offset, ← Go.sizeOf f.type) : Sem (Array (Nat × Nat))).run P w = .ok (fs.map fun f => (f.offset, sizeT E f.type)) w := by
                rw [Array.mapM_eq_mapM_toList, Sem.run_map, hm]
                simp only [Result.andThen_ok]
                congr 1
                apply Array.ext'
                simp
              simp only [Instr.build, Sem.run_bind, hz1, Result.andThen_ok, hU, hm', h1, Sem.run_pure]
            · cases h
          · cases h
        · rename_i n e hu
          rw [hu] at hU
          split at h
          · rename_i hall
            obtain ⟨ei, hei⟩ := Option.isSome_iff_exists.1 hall
            split at h
            · rename_i cs hf
              cases h
              obtain ⟨rs, h1, h2, h3, h4⟩ := fill_rel (μ := μ) (place' := fun j => some (j * ei.size, ei.size)) (fun j x hx => by rw [sizeT_eq hei] at hx; exact hx) hf hzc hq hs
              refine ⟨.agg ⟨rs⟩, ?_, rs, rfl, h2, h3⟩
              simp only [Instr.build, Sem.run_bind, hz1, Result.andThen_ok, hU, run_sizeOfT hE hei, h1, Sem.run_pure]
            · cases h
          · cases h
        · cases h
      · cases h
    · cases h
  · cases h

theorem buildSlice_good (hE : TyOK E P) (hr : Rep μ m w) {t len : Nat} {ps : List (Nat × AV)} {qs : List (Nat × Value)} {r : AV} (h : evBuildSlice E t len ps m = some (r, m')) (hq : PsRel μ ps qs) (hf : μ m.next = none) :
    ∃ v w' μ', (Instr.buildSlice t len ⟨qs⟩).run P w = .ok v w' ∧ VRel μ' r v ∧ Step μ m w μ' m' w' := by
  unfold evBuildSlice at h
  split at h
  · rename_i i hi
    have hU := run_und (w := w) hE hi
    split at h
    · rename_i e hu
      rw [hu] at hU
      split at h
      · rename_i ie hie
        split at h
        · rename_i z hz
          split at h
          · rename_i hc
            simp only [Bool.and_eq_true] at hc
            obtain ⟨⟨hs, hzl⟩, hle⟩ := hc
            rw [Nat.beq_eq] at hzl
            have hle : len * ie.size ≤ 16777216 := Nat.le_of_ble_eq_true hle
            split at h
            · rename_i cells hfill
              obtain ⟨rfl, rfl⟩ := Prod.mk.inj (Option.some.inj h)
              obtain ⟨zv, hz1, hz2⟩ := run_zeroT (w := w) hE hie hz
              have hzc := (hz2 μ).cells
              have hzvl : zv.cells.toList.length = ie.size := by rw [← hzc.length, hzl]
              obtain ⟨rs, h1, h2, h3, h4⟩ := fill_rel (μ := μ) (place' := fun j => some (j * ie.size, ie.size)) (fun j x hx => hx) hfill (rep_rel hzc len) hq (all_rep hs len)
              have hcl : cells.length = len * ie.size := by rw [h4, rep_length, hzl]
              refine ⟨_, { w with heap := w.heap.push (.cells ⟨rs⟩ e) }, μ.with m.next ⟨w.heap.size, 0, rs.length⟩, ?_, ⟨⟨w.heap.size, 0, rs.length⟩, 0, Mu.with_same _ _ _, rfl, .inl rfl, Nat.le_refl _⟩, ?_⟩
              rotate_left
              · refine Step.alloc (n := rs.length) (o := .cells ⟨rs⟩ e) hr hf rfl ⟨rfl, rfl, rfl⟩ ?_
                exact newRow_rel (e := e) rfl (h2.mono (Mu.le_with hf)) h3 true
              · have hlim : ¬ (len * ie.size > 2 ^ 24) := by simp; omega
                have harr : ((Array.range (len * ie.size)).map fun x => zv.cells[x % zv.cells.size]!) = ⟨(List.replicate len zv.cells.toList).flatten⟩ := by
                  apply Array.ext'
                  have := range_rep zv.cells.toList len
                  rw [hzvl] at this
                  simpa using this
                by_cases hn : len * ie.size = 0
                · have hempty : (List.replicate len zv.cells.toList).flatten = [] := by
                    rw [← List.length_eq_zero_iff]; simp [hzvl, hn]
                  rw [hempty] at h1
                  simp only [Instr.buildSlice, Sem.run_bind, hU, Result.andThen_ok, run_sizeOfT hE hie, if_neg hlim]
                  simp only [hn, if_true, Sem.run_bind, Sem.run_pure, Result.andThen_ok]
                  have : (Array.map (fun x => (#[] : Array Value)[x % (#[] : Array Value).size]!) (Array.range 0)) = #[] := by simp
                  rw [this, show (#[] : Array Value) = ⟨[]⟩ from rfl, h1]
                  rfl
                · simp only [Instr.buildSlice, Sem.run_bind, hU, Result.andThen_ok, run_sizeOfT hE hie, hlim, if_false, Sem.run_pure, hn, hz1, harr, h1]
                  rfl
            · cases h
          · cases h
        · cases h
      · cases h
    · cases h
  · cases h
end
end Ev
