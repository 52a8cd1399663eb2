/-
  append, as the evaluator has it.
-/
import Derived.Test.YtfbcfmgmcldogaaGreatEv11
namespace Ev
open Go

section
variable {E : Env} {P : Program} {μ : Mu} {m m' : AMem} {w : World}

/-- a row that is forgotten -/
theorem Step.kill {id : Nat} (h : Rep μ m w) : Step μ m w μ (m.kill id) w where
  next := Nat.le_refl _
  old := fun _ _ => rfl
  le := Mu.le_refl _
  rep := by
    have key : ∀ {i B}, (m.kill id).get i = some B → m.get i = some B := by
      intro i B hB
      by_cases hi : i = id
      · subst hi; rw [AMem.get_kill_same] at hB; cases hB
      · rwa [AMem.get_kill_other _ hi] at hB
    exact ⟨fun i A L hA hL => h.blk i A L (key hA) hL, fun i j A A' L L' hA hA' hL hL' e => h.inj i j A A' L L' (key hA) (key hA') hL hL' e⟩
  size := Nat.le_refl _
  own := by
    rintro b ⟨i, B, M, hB, hM, rfl⟩ _
    by_cases hi : i = id
    · subst hi; rw [AMem.get_kill_same] at hB; cases hB
    · rw [AMem.get_kill_other _ hi] at hB; exact ⟨i, B, M, hB, hM, rfl⟩
  frame := fun _ _ _ => rfl
  rest := ⟨rfl, rfl, rfl⟩

/-- a row goes on under a new number -/
theorem Step.move {id : Nat} {A A' : ABlk} {L L' : Loc} {w' : World} (h : Rep μ m w) (hA : m.get id = some A) (hL : μ id = some L) (hf : μ m.next = none) (hb : L'.b = L.b)
    (ho : OnlyAt L.b w w') (hB : BRel (μ.with m.next L') A' L' w') : Step μ m w (μ.with m.next L') ((m.kill id).add A') w' where
  next := by simp
  old := fun i hi => by
    simp only [AMem.add_next, AMem.kill_next] at hi
    exact Mu.with_other _ _ (by omega)
  le := Mu.le_with hf
  rep := by
    have key : ∀ {i B}, i ≠ m.next → ((m.kill id).add A').get i = some B → i ≠ id ∧ m.get i = some B := by
      intro i B hi hB
      have hB : (m.kill id).get i = some B := (AMem.get_add_old (m.kill id) A' (i := i) hi).symm.trans hB
      by_cases hi' : i = id
      · subst hi'; rw [AMem.get_kill_same] at hB; cases hB
      · rw [AMem.get_kill_other _ hi'] at hB; exact ⟨hi', hB⟩
    constructor
    · intro i B M hBi hM
      by_cases hi : i = m.next
      · subst hi
        have : ((m.kill id).add A').get m.next = some A' := AMem.get_add_new (m.kill id) A'
        rw [this] at hBi; cases hBi
        rw [Mu.with_same] at hM; cases hM
        exact hB
      · obtain ⟨h1, h2⟩ := key hi hBi
        rw [Mu.with_other _ _ hi] at hM
        have hne : M.b ≠ L.b := fun e => h1 (h.inj _ _ _ _ _ _ h2 hA hM hL e)
        exact ((h.blk _ _ _ h2 hM).heap (ho.other _ hne)).mono (Mu.le_with hf)
    · intro i j B B' M M' hBi hBj hM hM' e
      by_cases hi : i = m.next <;> by_cases hj : j = m.next
      · rw [hi, hj]
      · subst hi
        rw [Mu.with_same] at hM; cases hM
        obtain ⟨h1, h2⟩ := key hj hBj
        rw [Mu.with_other _ _ hj] at hM'
        exact absurd (h.inj _ _ _ _ _ _ h2 hA hM' hL (by rw [← e, hb])) h1
      · subst hj
        rw [Mu.with_same] at hM'; cases hM'
        obtain ⟨h1, h2⟩ := key hi hBi
        rw [Mu.with_other _ _ hi] at hM
        exact absurd (h.inj _ _ _ _ _ _ h2 hA hM hL (by rw [e, hb])) h1
      · obtain ⟨_, h2⟩ := key hi hBi
        obtain ⟨_, h2'⟩ := key hj hBj
        rw [Mu.with_other _ _ hi] at hM
        rw [Mu.with_other _ _ hj] at hM'
        exact h.inj _ _ _ _ _ _ h2 h2' hM hM' e
  size := by rw [ho.size]; exact Nat.le_refl _
  own := by
    rintro b ⟨i, B, M, hBi, hM, rfl⟩ _
    by_cases hi : i = m.next
    · subst hi
      rw [Mu.with_same] at hM; cases hM
      exact ⟨id, A, L, hA, hL, hb.symm⟩
    · have hBi : (m.kill id).get i = some B := (AMem.get_add_old (m.kill id) A' (i := i) hi).symm.trans hBi
      rw [Mu.with_other _ _ hi] at hM
      by_cases hi' : i = id
      · subst hi'; rw [AMem.get_kill_same] at hBi; cases hBi
      · rw [AMem.get_kill_other _ hi'] at hBi; exact ⟨i, B, M, hBi, hM, rfl⟩
  frame := fun b _ hn => ho.other b (fun e => hn ⟨id, A, L, hA, hL, e.symm⟩)
  rest := ho.rest

/-- how append answers, be the second operand a slice, a string or a number of zeros -/
structure AppendRuns (E : Env) (P : Program) (μ : Mu) (w : World) (elem : Nat) (ie : TyI) (n : Nat) (new : List AV) (vs : List Value) (run : Value → Sem Value) : Prop where
  rel : VsRel μ new vs
  len : new.length = n * ie.size
  room : ∀ (b : Option Addr) (sLen sCap : Nat) (w' : World), sLen + n ≤ sCap → (match b with | some a => storeCells (a.add (sLen * ie.size)) vs | none => pure ()).run P w = .ok () w' →
    (run (.slice b sLen sCap)).run P w = .ok (.slice b (sLen + n) sCap) w'
  grow : ∀ (b : Option Addr) (sLen sCap : Nat) (old : List AV) (olds : List Value), Src P μ ie.size w (Builtin.firstCells ie.size sLen (.slice b sLen sCap)) sLen old olds → sCap < sLen + n →
    (sLen + n) * ie.bytes ≤ mostBytes → ie.bytes ≠ 0 → ∃ (rest : List Value) (C : Nat), sLen + n ≤ C ∧ (run (.slice b sLen sCap)).run P w =
        .ok (.slice (some ⟨w.heap.size, 0, none⟩) (sLen + n) C) { w with heap := w.heap.push (.cells ⟨olds ++ vs ++ rest⟩ elem), drawn := w.drawn + 1 } ∧ rest.length = (C - (sLen + n)) * ie.size

theorem sliceSrc (hr : Rep μ m w) {es : Nat} {a : AV} {old : List AV} {b : Option Addr} {sLen sCap : Nat} (h : sliceCells m es a = some old) (hx : VRel μ a (.slice b sLen sCap)) :
    ∃ olds, Src P μ es w (Builtin.firstCells es sLen (.slice b sLen sCap)) sLen old olds ∧ old.all AV.scalar = true := by
  obtain ⟨o, len, cap, vs, e, g1, g2, g3, g4, g5, g6⟩ := sliceCells_run P hr h hx
  cases e
  refine ⟨vs, ⟨?_, g4, g5⟩, g6⟩
  intro w' hw
  cases b with
  | none => rw [g3 rfl]; simp [Builtin.firstCells]
  | some ad => exact g2 ad rfl w' hw

/-- what a grown slice is -/
theorem grown_good (hr : Rep μ m w) (hf : μ m.next = none) {elem n es sLen C : Nat} {old new : List AV} {olds vs rest : List Value} (ho : VsRel μ old olds) (hol : old.length = sLen * es) (hv : VsRel μ new vs)
    (hvl : new.length = n * es) (hos : old.all AV.scalar = true) (hns : new.all AV.scalar = true) (hrl : rest.length = (C - (sLen + n)) * es) (hC : sLen + n ≤ C) :
    VRel (μ.with m.next ⟨w.heap.size, 0, C * es⟩) (.oslice m.next 0 (sLen + n) es) (.slice (some ⟨w.heap.size, 0, none⟩) (sLen + n) C) ∧
      Step μ m w (μ.with m.next ⟨w.heap.size, 0, C * es⟩) (m.add (.row ((sLen + n) * es) (old ++ new) .nil false)) { w with heap := w.heap.push (.cells ⟨olds ++ vs ++ rest⟩ elem), drawn := w.drawn + 1 } := by
  have hl : (olds ++ vs).length + rest.length = C * es := by
    rw [List.length_append, ← ho.length, ← hv.length, hol, hvl, hrl, ← Nat.add_mul, ← Nat.add_mul]; congr 1; omega
  refine ⟨⟨_, 0, C, Mu.with_same _ _ _, rfl, hC, .inl ⟨rfl, by simp⟩⟩, ?_⟩
  refine Step.alloc (o := .cells ⟨olds ++ vs ++ rest⟩ elem) hr hf rfl ⟨rfl, rfl, rfl⟩ ?_
  have hsc : (old ++ new).all AV.scalar = true := by rw [List.all_append, hos, hns]; rfl
  have := newRow_open (w := w) (w' := { w with heap := w.heap.push (.cells ⟨olds ++ vs ++ rest⟩ elem), drawn := w.drawn + 1 }) (rest := rest) (e := elem) rfl ((ho.append hv).mono (Mu.le_with (L := ⟨w.heap.size, 0, C * es⟩) hf)) hsc
  rw [hl] at this
  have hlen : (old ++ new).length = (sLen + n) * es := by rw [List.length_append, hol, hvl, Nat.add_mul]
  rw [hlen] at this
  exact this

theorem append_good {elem n : Nat} {ie : TyI} {new : List AV} {vs : List Value} {run : Value → Sem Value} (hr : Rep μ m w) (hR : AppendRuns E P μ w elem ie n new vs run) {a r : AV} {x : Value}
    (h : evAppend m ie.size ie.bytes a n new = some (r, m')) (hx : VRel μ a x) (hf : m.next < m'.next → μ m.next = none) :
    ∃ v w' μ', (run x).run P w = .ok v w' ∧ VRel μ' r v ∧ Step μ m w μ' m' w' := by
  unfold evAppend at h
  split at h
  · -- nothing is appended
    rename_i h0
    have h0 : n = 0 := Nat.eq_of_beq_eq_true h0
    have hform : r = a ∧ m' = m ∧ ∃ b sLen sCap, x = .slice b sLen sCap ∧ sLen ≤ sCap := by
      split at h
      · obtain ⟨rfl, rfl⟩ := Prod.mk.inj (Option.some.inj h); cases hx; exact ⟨rfl, rfl, _, _, _, rfl, Nat.le_refl _⟩
      · obtain ⟨rfl, rfl⟩ := Prod.mk.inj (Option.some.inj h); obtain ⟨L, o, _, rfl, _, hle⟩ := hx; exact ⟨rfl, rfl, _, _, _, rfl, hle⟩
      · obtain ⟨rfl, rfl⟩ := Prod.mk.inj (Option.some.inj h); obtain ⟨L, o, c, _, rfl, hle, _⟩ := hx; exact ⟨rfl, rfl, _, _, _, rfl, hle⟩
      · cases h
    obtain ⟨rfl, rfl, b, sLen, sCap, rfl, hle⟩ := hform
    subst h0
    have hvs : vs = [] := by
      have h1 := hR.rel.length; have h2 := hR.len
      rw [Nat.zero_mul] at h2; rw [h2] at h1; exact List.length_eq_zero_iff.1 h1.symm
    have := hR.room b sLen sCap w (by omega) (by rw [hvs]; cases b <;> rfl)
    exact ⟨_, w, μ, this, hx, Step.refl hr⟩
  · rename_i hn0
    have hn0 : n ≠ 0 := by intro e; rw [e] at hn0; exact hn0 rfl
    split at h
    · cases h
    · rename_i hc
      simp only [Bool.or_eq_true, not_or, Bool.not_eq_true, Bool.not_eq_false'] at hc
      obtain ⟨⟨⟨hes, hby⟩, hsc⟩, hlen⟩ := hc
      have hes : ie.size ≠ 0 := by intro e; rw [e] at hes; exact absurd hes (by simp)
      have hby : ie.bytes ≠ 0 := by intro e; rw [e] at hby; exact absurd hby (by simp)
      have hsc : new.all AV.scalar = true := by simpa using hsc
      split at h
      · -- of nothing
        split at h
        · rename_i hbm
          obtain ⟨rfl, rfl⟩ := Prod.mk.inj (Option.some.inj h)
          cases hx
          have hf := hf (by simp)
          have hO : Src P μ ie.size w (Builtin.firstCells ie.size 0 (.slice none 0 0)) 0 [] [] := ⟨fun w' _ => by simp [Builtin.firstCells], rfl, by simp⟩
          obtain ⟨rest, C, h1, h2, h3⟩ := hR.grow none 0 0 [] [] hO (by omega) (by simpa using hbm) hby
          obtain ⟨g1, g2⟩ := grown_good (elem := elem) (sLen := 0) hr hf (old := []) (olds := []) rfl (by simp) hR.rel hR.len rfl hsc h3 h1
          simp only [Nat.zero_add, List.nil_append] at g1 g2 h2
          exact ⟨_, _, _, h2, g1, g2⟩
        · cases h
      · -- of a slice whose capacity is known
        rename_i id off len cap
        obtain ⟨L, o, hL, rfl, ho, hle⟩ := _root_.id hx
        split at h
        · rename_i hroom
          split at h
          · rename_i m₁ hp
            obtain ⟨rfl, rfl⟩ := Prod.mk.inj (Option.some.inj h)
            have ho : o = L.sh + off := by
              rcases ho with ho | ho
              · exact ho
              · omega
            subst ho
            obtain ⟨w', h1, h2⟩ := run_store_cells P hr hp hL hR.rel
            refine ⟨_, w', μ, hR.room _ _ _ w' hroom ?_, ⟨L, _, hL, rfl, .inl rfl, hroom⟩, h2⟩
            rw [← Nat.add_assoc] at h1
            simp only [add_plain]; exact h1
          · cases h
        · rename_i hroom
          split at h
          · rename_i hbm
            split at h
            · rename_i old hold
              obtain ⟨rfl, rfl⟩ := Prod.mk.inj (Option.some.inj h)
              have hf := hf (by simp)
              obtain ⟨olds, hO, hos⟩ := sliceSrc (P := P) hr hold hx
              obtain ⟨rest, C, h1, h2, h3⟩ := hR.grow _ _ _ old olds hO (by omega) hbm hby
              obtain ⟨g1, g2⟩ := grown_good (elem := elem) hr hf hO.rel hO.len hR.rel hR.len hos hsc h3 h1
              exact ⟨_, _, _, h2, g1, g2⟩
            · cases h
          · cases h
      · -- of a slice whose capacity is not known
        rename_i id off len es'
        obtain ⟨L, o, c, hL, rfl, hle, ho⟩ := _root_.id hx
        split at h
        · rename_i size cells ov hg
          split at h
          · rename_i hcond
            obtain ⟨rfl, hbm, hoff⟩ := hcond
            have hb := hr.blk _ _ _ hg hL
            obtain ⟨cc, e, lo, hi, b1, b2, b3, b4, b5, b6, b7, b8⟩ := _root_.id hb
            have hpos : 0 < ie.size := Nat.pos_of_ne_zero hes
            split at h
            · rename_i hin
              split at h
              · rename_i m₁ hp
                obtain ⟨rfl, rfl⟩ := Prod.mk.inj (Option.some.inj h)
                have hroom : len + n ≤ c ∧ o = L.sh + off ∧ o + c * ie.size = L.n := by
                  rcases ho with ⟨ho1, ho2⟩ | ⟨ho1, ho2⟩
                  · refine ⟨?_, ho1, ho2⟩
                    apply Nat.le_of_mul_le_mul_right _ hpos
                    omega
                  · exfalso
                    have : 0 < (len + n) * ie.size := Nat.mul_pos (by omega) hpos
                    omega
                obtain ⟨hroom, rfl, hcn⟩ := hroom
                obtain ⟨w', h1, h2⟩ := run_store_cells P hr hp hL hR.rel
                refine ⟨_, w', μ, hR.room _ _ _ w' hroom ?_, ⟨L, _, c, hL, rfl, hroom, .inl ⟨rfl, hcn⟩⟩, h2⟩
                rw [← Nat.add_assoc] at h1
                simp only [add_plain]; exact h1
              · cases h
            · rename_i hout
              split at h
              · rename_i old hold
                obtain ⟨rfl, rfl⟩ := Prod.mk.inj (Option.some.inj h)
                have hf := hf (by simp)
                -- the old cells
                obtain ⟨olds, hor, horel, holen, hos⟩ := run_load_cells P hr hold hL
                have hO : Src P μ ie.size w (Builtin.firstCells ie.size len (.slice (some ⟨L.b, o, none⟩) len c)) len old olds := by
                  refine ⟨?_, horel, holen⟩
                  intro w' hw'
                  simp only [Builtin.firstCells]
                  rcases ho with ⟨ho1, _⟩ | ⟨ho1, _⟩
                  · rw [ho1]; exact hor w' hw'
                  · have h0 : len = 0 := by omega
                    subst h0
                    have : olds = [] := by
                      have := horel.length; rw [holen, Nat.zero_mul] at this; exact List.length_eq_zero_iff.1 this.symm
                    rw [this]; simp [loadCells, loadCellsFrom]
                by_cases hroom : len + n ≤ c
                · -- in its place
                  have ho' : o = L.sh + off ∧ o + c * ie.size = L.n := by
                    rcases ho with ho | ⟨ho1, _⟩
                    · exact ho
                    · omega
                  obtain ⟨rfl, hcn⟩ := ho'
                  have hvl := hR.rel.length
                  have hnl := hR.len
                  have hmul : (len + n) * ie.size ≤ c * ie.size := Nat.mul_le_mul_right _ hroom
                  rw [Nat.add_mul] at hmul
                  obtain ⟨w', c', r1, r2, r3, r4, r5⟩ := run_storeCells P vs w cc (L.sh + off + len * ie.size) 0 b1 (hR.rel.one hsc) (by rw [b2]; omega) (by rw [b2]; exact b6)
                  refine ⟨_, w', μ.with m.next ⟨L.b, L.sh + off, L.n⟩, hR.room _ _ _ w' hroom (by simp only [add_plain]; exact r1), ⟨⟨L.b, L.sh + off, L.n⟩, L.sh + off, c, Mu.with_same _ _ _, rfl, hroom, .inl ⟨rfl, hcn⟩⟩, ?_⟩
                  refine Step.move hr hg hL hf rfl r2 ?_
                  have hlen2 : (old ++ new).length = (len + n) * ie.size := by rw [List.length_append, holen, hnl, Nat.add_mul]
                  refine ⟨c', e, lo, hi, r3, by rw [r4, b2], hlen2, ?_, fun hh => (by cases hh), b6, by rw [ovl_nil, List.all_append, hos, hsc]; rfl, ?_⟩
                  · show L.sh + off + (len + n) * ie.size ≤ L.n
                    rw [Nat.add_mul]; omega
                  · rw [ovl_nil]
                    have hcells : (c'.toList.drop (L.sh + off)).take ((len + n) * ie.size) = olds ++ vs := by
                      have hol2 := horel.length
                      obtain ⟨s0, ce0, ov0, cl0, t1, t2, t3⟩ := takeCells_eq hold
                      rw [hg] at t1; cases t1
                      -- the old ones as the row has them
                      have hold2 : olds = ((cc.toList.drop (L.sh + off)).take (len * ie.size)) := by
                        have q1 := hor w rfl
                        have q2 := run_loadCells_list (P := P) w ⟨L.b, L.sh + off, none⟩ ((cc.toList.drop (L.sh + off)).take (len * ie.size)) (fun j v hj => by
                          rw [add_plain, cell_of b1]
                          have hjn := (List.getElem?_eq_some_iff.1 hj).1
                          rw [List.getElem?_take_of_lt (by simp at hjn; omega), List.getElem?_drop] at hj
                          rw [← hj]; simp)
                        have hll : ((cc.toList.drop (L.sh + off)).take (len * ie.size)).length = len * ie.size := by simp; omega
                        rw [hll, q1] at q2
                        have := congrArg (fun r => match r with | Result.ok a _ => Array.toList a | _ => []) q2
                        simpa using this
                      apply List.ext_getElem?
                      intro j
                      by_cases hj : j < (len + n) * ie.size
                      · rw [List.getElem?_take_of_lt hj, List.getElem?_drop]
                        have := r5 (L.sh + off + j)
                        simp only [Nat.add_zero] at this
                        rw [show c'.toList[L.sh + off + j]? = c'[L.sh + off + j]? by simp, this]
                        rw [Nat.add_mul] at hj
                        by_cases hj2 : j < len * ie.size
                        · rw [if_neg (by omega), List.getElem?_append_left (by rw [← hol2, holen]; exact hj2), hold2, List.getElem?_take_of_lt hj2, List.getElem?_drop]
                          simp
                        · rw [if_pos (by omega), List.getElem?_append_right (by rw [← hol2, holen]; omega), ← hol2, holen]
                          congr 1; omega
                      · rw [List.getElem?_take, if_neg hj, List.getElem?_eq_none]
                        rw [List.length_append, ← horel.length, ← hvl, holen, hnl, ← Nat.add_mul]; omega
                    show VsRel _ _ ((c'.toList.drop (L.sh + off)).take ((len + n) * ie.size))
                    rw [hcells]
                    exact (horel.append hR.rel).mono (Mu.le_with hf)
                · obtain ⟨rest, C, h1, h2, h3⟩ := hR.grow _ _ _ old olds hO (by omega) hbm hby
                  have hk := Step.kill (id := id) hr
                  obtain ⟨g1, g2⟩ := grown_good (m := m.kill id) (elem := elem) hk.rep hf hO.rel hO.len hR.rel hR.len hos hsc h3 h1
                  exact ⟨_, _, _, h2, g1, hk.trans g2⟩
              · cases h
          · cases h
        · cases h
      · cases h
end
end Ev
