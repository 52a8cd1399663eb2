/-
  A region that draws its order: the whole.
-/
import Derived.Test.YtfbcfmgmcldogaaGreatEv26
namespace Ev
open Go

section
variable {E : Env} {P : Program} {call : CallF} {ops : Array Oper} {ro : Option Nat}

theorem Over.step {μ μ' : Mu} {m m' M : AMem} {w w' : World} (h : Over μ m w μ' M w') (hn : m.next ≤ m'.next) (hold : ∀ id, (id < m.next ∨ m'.next ≤ id) → μ' id = μ id)
    (hs : ∀ id A, m'.get id = some A → μ' id ≠ none → M.get id = some A) : Step μ m w μ' m' w' where
  next := hn
  old := hold
  le := h.le
  rep := Over.repOf h.rep hs
  size := h.size
  own := by
    rintro b ⟨id, A, L, h1, h2, h3⟩ hb
    exact h.own b ⟨id, A, L, hs id A h1 (by rw [h2]; simp), h2, h3⟩ hb
  frame := h.frame
  rest := h.rest

theorem any_draw {lr : List (Nat × List Nat)} {S : Nat → St} {sn : Snaps} (C : Ctx E P call ops lr S sn) {μ₀ : Mu} {a₀ : Act} {w₀ : World} (hd : ∀ (i : Nat) (o : Oper), ops[i]? = some o → ∀ k, o.dst = some k → k < a₀.tmps.size)
    {Q : Exit → Act → World → Prop} (hQ : ∀ μ' a' w', TRel μ' (S ops.size).tm a'.tmps → Step μ₀ (S 0).mem w₀ μ' (S ops.size).mem w' → a'.tmps.size = a₀.tmps.size → a'.defers = a₀.defers → Q .normal a' w') :
    ∀ (fuel : Nat) (listed : Array Bool) (a : Act) (w : World) (μ : Mu) (M : AMem), listed.size = ops.size → listed.toList.count false ≤ fuel →
      (∀ (i : Nat) (o : Oper), ops[i]? = some o → listed.getD i false = true → ∀ e ∈ o.after, Region.binds .any e = true → listed.getD e.on false = true) → Inv ops S μ₀ a₀ w₀ (fun k => listed.getD k false) a w μ M →
      wpAnyIn (fw ro) 0 P .any ops Q fuel listed a w := by
  have fin : ∀ (listed : Array Bool) (a : Act) (w : World) (μ : Mu) (M : AMem), listed.size = ops.size → Inv ops S μ₀ a₀ w₀ (fun k => listed.getD k false) a w μ M → Region.ready .any ops listed = [] → Q .normal a w := by
    intro listed a w μ M hsz I hnil
    have all : ∀ i, i < ops.size → listed.getD i false = true := by
      intro i
      induction i using Nat.strongRecOn with
      | _ i ih =>
        intro hi
        cases hl : listed.getD i false with
        | true => rfl
        | false =>
          obtain ⟨o, ho⟩ : ∃ o, ops[i]? = some o := ⟨ops[i]'hi, by simp⟩
          have hm : i ∈ Region.ready .any ops listed := by
            refine mem_ready.2 ⟨?_, o, ho, fun e he hb => ?_⟩
            · have hi' : i < listed.size := by omega
              simp [Array.getD, hi'] at hl ⊢
              exact hl
            · have := C.ord.edge i o ho e he hb
              exact ih e.on this (by omega)
          rw [hnil] at hm; cases hm
    have hp : MPos ops S (fun k => listed.getD k false) ops.size := ⟨Nat.le_refl _, fun e he _ => he.lt, fun e he hl => by rw [all e he.lt] at hl; cases hl⟩
    refine hQ μ a w (fun t => I.tmps t ops.size ⟨Nat.le_refl _, fun i o ho _ _ => (Array.getElem?_eq_some_iff.1 ho).1, fun i o ho _ hl => by rw [all i (Array.getElem?_eq_some_iff.1 ho).1] at hl; cases hl⟩) ?_ I.size I.defers
    exact I.over.step (C.next (Nat.zero_le _) (Nat.le_refl _)) I.old (I.mem _ hp)
  intro fuel
  induction fuel with
  | zero =>
    intro listed a w μ M hsz hcnt hL I
    have hnil : Region.ready .any ops listed = [] := by
      rw [List.eq_nil_iff_forall_not_mem]
      intro i hi
      obtain ⟨h1, o, ho, _⟩ := mem_ready.1 hi
      have hlt : i < listed.size := by rw [hsz]; exact (Array.getElem?_eq_some_iff.1 ho).1
      have h0 : listed.toList.count false = 0 := by omega
      rw [List.count_eq_zero] at h0
      have : listed[i] = false := by simpa [Array.getD, hlt] using h1
      exact h0 (by rw [← this]; simp)
    exact ⟨hnil, fin listed a w μ M hsz I hnil⟩
  | succ fuel ih =>
    intro listed a w μ M hsz hcnt hL I
    refine ⟨fin listed a w μ M hsz I, fun i hi => ?_⟩
    obtain ⟨h1, o, ho, hr⟩ := mem_ready.1 hi
    have hlt : i < listed.size := by rw [hsz]; exact (Array.getElem?_eq_some_iff.1 ho).1
    have hf : listed[i] = false := by simpa [Array.getD, hlt] using h1
    have hi0 : listed.getD i false = false := by simp [Array.getD, hlt, hf]
    have hset : (fun k => (listed.setIfInBounds i true).getD k false) = fun k => if k = i then true else listed.getD k false := by
      funext k
      simp only [Array.getD_eq_getD_getElem?]
      by_cases hk : k = i
      · subst hk; simp [hlt]
      · rw [if_neg hk, Array.getElem?_setIfInBounds_ne (Ne.symm hk)]
    refine step_draw C I hL ho hi0 hr (hd i o ho) fun a' w' μ' M' I' => ?_
    refine ih (listed.setIfInBounds i true) a' w' μ' M' (by simpa using hsz) ?_ ?_ (by rw [hset]; exact I')
    · rw [Array.toList_setIfInBounds, List.count_set (by simpa using hlt)]
      have hmem : false ∈ listed.toList := by rw [← hf]; simp
      have := List.count_pos_iff.2 hmem
      have e : listed.toList[i]'(by simpa using hlt) = false := by simpa using hf
      rw [e]
      have e2 : (false == false) = true := rfl
      have e3 : (true == false) = false := rfl
      rw [e2, e3, if_pos rfl]
      simp only [Bool.false_eq_true, if_false]
      omega
    · intro k p hp hk e he hb
      have h0 : ∀ k, (listed.setIfInBounds i true).getD k false = if k = i then true else listed.getD k false := congrFun hset
      rw [h0] at hk ⊢
      by_cases hek : e.on = i
      · rw [if_pos hek]
      · rw [if_neg hek]
        by_cases hki : k = i
        · subst hki; rw [ho] at hp; cases hp; exact hr e he hb
        · rw [if_neg hki] at hk; exact hL k p hp hk e he hb

theorem draw_sound (hE : EnvOK E P) (hc : CallOK P call) (hm : CallMono call) {s s' : St} {μ : Mu} {a : Act} {w : World} {id : Nat} (h : evRegion E call ops true s = some s') (hok : okDraw ops = true)
    (hdst : ∀ o ∈ ops.toList, okDst a.tmps.size o = true) (hr : Rep μ s.mem w) (ht : TRel μ s.tm a.tmps) (hf : Fresh μ s.mem.next s'.mem.next) {Q : Exit → Act → World → Prop} (hQ : ∀ μ' a' w', SStep μ s a w μ' s' a' w' → Q .normal a' w') :
    (Code.region id ops true).wpIn (fw ro) 0 P Q a w := by
  refine wpIn_region_any hE.mixed ?_
  unfold evRegion at h
  simp only at h
  split at h
  · rename_i lr hlr
    split at h
    · rename_i s₁ sn hd
      split at h
      · rename_i hst
        cases h
        obtain ⟨hcl, hrd⟩ := looseReads_ok hlr
        rw [List.range_eq_range'] at hd
        obtain ⟨S, e1, e2, e3, _⟩ := draw_states ops.size 0 s s' _ sn hd
        rw [Nat.zero_add] at e2
        have C : Ctx E P call ops lr S sn := ⟨hE, hc, hm, fun i hi => e3 i (Nat.zero_le _) (by omega), ordered_of hok, hcl, hrd, hst⟩
        have hr0 : Rep μ s.mem { w with drawn := w.drawn + 1 } := hr.of_heap rfl
        obtain ⟨M, m1, m2⟩ := realize s'.mem.next s.mem.get
        have hnx := C.next (Nat.zero_le ops.size) (Nat.le_refl _)
        rw [e1, e2] at hnx
        have m3 : ∀ i, M.get i = s.mem.get i := by
          intro i
          rw [m2]
          by_cases hi : i < s'.mem.next
          · rw [if_pos hi]
          · rw [if_neg hi, AMem.get_ge (by omega)]
        have hMr : Rep μ M { w with drawn := w.drawn + 1 } := Over.repOf hr0 fun id A h _ => by rw [← m3]; exact h
        have hOver : Over μ s.mem { w with drawn := w.drawn + 1 } μ M { w with drawn := w.drawn + 1 } := by
          refine ⟨Mu.le_refl _, hMr, Nat.le_refl _, ?_, fun _ _ _ => rfl, rfl, rfl, rfl⟩
          rintro b ⟨i, A, L, g1, g2, g3⟩ _
          exact ⟨i, A, L, by rw [← m3]; exact g1, g2, g3⟩
        refine any_draw C (μ₀ := μ) (a₀ := a) (w₀ := { w with drawn := w.drawn + 1 }) (fun i o ho => dst_lt (hdst o (by rw [Array.mem_toList_iff]; exact Array.mem_of_getElem? ho))) (fun μ' a' w' t1 t2 t3 t4 => ?_) ops.size (Array.replicate ops.size false) a _ μ M (by simp) (by simp) ?_ ?_
        · rw [e2] at t1 t2
          rw [e1] at t2
          refine hQ μ' a' w' ⟨t1, ⟨t2.next, t2.old, t2.le, t2.rep, t2.size, t2.own, t2.frame, t2.rest⟩, t3, [], by rw [t4]; rfl, Marks.nil⟩
        · intro i o ho hi
          simp [Array.getD] at hi
        · have hno : ∀ k, (Array.replicate ops.size false).getD k false = false := by intro k; simp [Array.getD]
          refine ⟨by rw [e1]; exact hOver, fun _ _ => rfl, by rw [e2]; exact m1, fun i hi _ id h1 h2 => ?_, fun j hp id A hg hn => ?_, fun i _ hl => (by simp only [hno] at hl; cases hl), fun t j hp => ?_, rfl, rfl⟩
          · have a1 := C.next (Nat.zero_le i) (by omega)
            have a2 := C.next (show i + 1 ≤ ops.size by omega) (Nat.le_refl _)
            rw [e1] at a1; rw [e2] at a2
            exact hf id (by omega) (by omega)
          · have hid : id < (S 0).mem.next := by
              have b1 := AMem.get_lt hg
              have b2 := C.next hp.le (Nat.le_refl _)
              rw [e2] at b2
              by_cases h : id < (S 0).mem.next
              · exact h
              · rw [e1] at h
                exact absurd (hf id (by omega) (by omega)) hn
            rw [C.quiet (Nat.zero_le j) hp.le (fun e _ h2 he => by have := hp.todo e he (hno e); omega) hid, e1] at hg
            rw [m3]; exact hg
          · rw [C.tmBetween (Nat.zero_le j) hp.le (fun i o _ h2 ho hd => by have := hp.todo i o ho hd (hno i); omega), e1]
            exact ht t
      · cases h
    · cases h
  · cases h
end
end Ev
