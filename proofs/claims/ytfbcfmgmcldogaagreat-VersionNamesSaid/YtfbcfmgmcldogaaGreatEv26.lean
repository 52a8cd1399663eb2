/-
  A region that draws its order: one operation, whichever is ready; and the whole.
-/
import Derived.Test.YtfbcfmgmcldogaaGreatEv25
namespace Ev
open Go

section
variable {E : Env} {P : Program} {call : CallF} {ops : Array Oper} {lr : List (Nat × List Nat)} {S : Nat → St} {sn : Snaps} {ro : Option Nat}

theorem empty_get (n id : Nat) : (⟨n, .nil⟩ : AMem).get id = none := by
  rw [AMem.get_eq]; split <;> rfl
theorem empty_rep {μ : Mu} {w : World} (n : Nat) : Rep μ ⟨n, .nil⟩ w :=
  ⟨fun id A L h _ => (by rw [empty_get] at h; cases h), fun i j A B L K h _ _ _ _ => (by rw [empty_get] at h; cases h)⟩

theorem noCall_same {op : Op} (h : readOp op = true) (tm : Tr AV) (m : AMem) : evOp E noCall op tm m = evOp E call op tm m := by
  cases op with
  | call c =>
    show evCallOp E noCall c tm m = evCallOp E call c tm m
    unfold evCallOp
    simp only [readOp] at h
    split
    · split
      · rename_i f hc; rw [hc] at h; cases h
      · rename_i x n hc; rw [hc] at h; cases h
      · rfl
    · rfl
  | _ => first | rfl | cases h

theorem sameAt_run {op : Op} (h : readOp op = true) (he : effectOp op = false) {tm : Tr AV} {v : AV} {m : AMem} (hs : sameAt E op tm v m = true) : evOp E call op tm m = some (v, m) := by
  unfold sameAt at hs
  split at hs
  · rename_i u m' hev
    rw [noCall_same (call := call) h] at hev
    rw [Bool.and_eq_true] at hs
    have hu := beq_eq hs.1
    have hn := Nat.eq_of_beq_eq_true hs.2
    subst hu
    rcases (quiet_of he hev).ok with ⟨rfl, _⟩ | ⟨_, b, rfl, _⟩
    · exact hev
    · simp at hn
  · cases hs

theorem stable_reads (h : stable E lr sn = true) {i : Nat} {op : Op} {tm : Tr AV} {v : AV} (hr : (i, op, tm, v) ∈ sn.reads) {js : List Nat} (hl : lr.lookup i = some js) {j : Nat} {mb ma : AMem} (he : (j, mb, ma) ∈ sn.effs) (hj : j ∈ js) :
    sameAt E op tm v mb = true ∧ sameAt E op tm v ma = true := by
  unfold stable at h
  rw [Bool.and_eq_true, List.all_eq_true, List.all_eq_true] at h
  have := h.1 _ hr
  simp only [hl, List.all_eq_true] at this
  have := this _ he
  simp only [Bool.or_eq_true, Bool.and_eq_true, Bool.not_eq_true'] at this
  rcases this with h | h
  · rw [List.contains_iff_mem.2 hj] at h; cases h
  · exact h
theorem stable_news (h : stable E lr sn = true) {i id : Nat} {b : Option ABlk} (hr : (i, id, b) ∈ sn.news) {js : List Nat} (hl : lr.lookup i = some js) {j : Nat} {mb ma : AMem} (he : (j, mb, ma) ∈ sn.effs) (hj : j ∈ js) (hlt : i < j) :
    blkSame (ma.get id) b = true := by
  unfold stable at h
  rw [Bool.and_eq_true, List.all_eq_true, List.all_eq_true] at h
  have := h.2 _ hr
  simp only [hl, List.all_eq_true] at this
  have := this _ he
  simp only [Bool.or_eq_true, Bool.not_eq_true'] at this
  rcases this with (h | h) | h
  · rw [List.contains_iff_mem.2 hj] at h; cases h
  · rw [blt_iff] at h; omega
  · exact h

theorem step_draw (C : Ctx E P call ops lr S sn) {μ₀ : Mu} {a₀ : Act} {w₀ : World} {L : Nat → Bool} {a : Act} {w : World} {μ : Mu} {M : AMem} (I : Inv ops S μ₀ a₀ w₀ L a w μ M)
    (hL : ∀ i o, ops[i]? = some o → L i = true → ∀ e ∈ o.after, Region.binds .any e = true → L e.on = true) {i : Nat} {o : Oper} (ho : ops[i]? = some o) (hi : L i = false)
    (hr : ∀ e ∈ o.after, Region.binds .any e = true → L e.on = true) (hd : ∀ k, o.dst = some k → k < a₀.tmps.size) {K : Act → World → Prop} {Q : Exit → Act → World → Prop}
    (hK : ∀ a' w' μ' M', Inv ops S μ₀ a₀ w₀ (fun k => if k = i then true else L k) a' w' μ' M' → K a' w') : wpOpIn (fw ro) 0 P ops Q i K a w := by
  have hlt : i < ops.size := (Array.getElem?_eq_some_iff.1 ho).1
  have hrd := C.ord.ready L hL i o ho hr
  have hcl := fun k j h1 h2 => C.ord.closed L hL k j h1 h2
  obtain ⟨o', F⟩ := C.facts i hlt
  have : o' = o := by have := F.op; rw [ho] at this; exact (Option.some.inj this).symm
  subst this
  have hn1 := C.next1 hlt
  have hnN := C.next (show i + 1 ≤ ops.size by omega) (Nat.le_refl _)
  -- the temporaries
  have hop : ORel μ (S i).tm a o'.op.operands.toList := by
    intro x hx y hy
    cases x with
    | tmp t =>
      have hn : t ∈ namesOf ops o' := by
        simp only [namesOf, List.mem_append, List.mem_filterMap]
        exact .inl (.inr ⟨.tmp t, hx, rfl⟩)
      have h0 := I.tmps t i (C.tposAt hL ho hi hr hn)
      have : y = ((S i).tm.get t).getD .undef := by
        simp only [rd, orUndef] at hy
        cases hg : (S i).tm.get t with
        | none => rw [hg] at hy; exact (Option.some.inj hy).symm
        | some z => rw [hg] at hy; exact (Option.some.inj hy).symm
      subst this
      exact h0
    | const v => exact ofVal_rel μ hy
    | global g => cases hy
    | func f => cases hy; exact ⟨[], [], rfl, rfl, rfl⟩
  have hw : Region.wanted o' (yielded ops a.tmps) = wanted ops (S i).tm o' := wanted_eq fun j want oj t hg hj hdt => by
    refine I.tmps t i (C.tposAt hL ho hi hr ?_)
    simp [namesOf, hg, hj, hdt]
  have agree : ∀ {j : Nat}, MPos ops S L j → Rep μ (S j).mem w := fun hp => Over.repOf I.over.rep (I.mem _ hp)
  have hLe : ∀ {e : Nat}, Eff ops S e → ¬ Eff ops S i → (if e = i then true else L e) = L e := by
    intro e he hni
    rw [if_neg]; intro h; subst h; exact hni he
  -- a step that lays nothing: the whole stays as it is
  have calm : ∀ (mm : AMem) (v : AV) (x : Value) (w' : World) (μ₁ : Mu), ¬ Eff ops S i → (S (i + 1)).mem = (S i).mem → (S (i + 1)).tm = setDst (S i).tm o'.dst v → VRel μ₁ v x → Step μ mm w μ₁ mm w' →
      mm.next ≤ M.next → (∀ id A, mm.get id = some A → μ id ≠ none → M.get id = some A) → K (a.put o'.dst x) w' := by
    intro mm v x w' μ₁ hne hSm hSt hv hst hmn hsub
    have hμ : ∀ id, μ₁ id = μ id := fun id => hst.old id (by omega)
    obtain ⟨M', e1, e2, e3, e4⟩ := hst.wider I.over.rep hsub hmn (fun id h1 h2 => by omega)
    have hMM : ∀ id A, M.get id = some A → μ id ≠ none → M'.get id = some A := by
      intro id A hg hn
      cases hmg : mm.get id with
      | some B => rw [hsub id B hmg hn] at hg; cases hg; exact e3 id _ hmg
      | none => rw [e4 id hmg hmg (by omega)]; exact hg
    refine hK _ _ μ₁ M' (C.advance I hL ho hi hd e2 e1 hv hSt (fun id _ => hμ id) (fun j hp id A hg hn => ?_) (fun k hk hLk hnk hef id A h1 h2 hn => ?_))
    · rw [hμ] at hn
      exact hMM id A (I.mem j ⟨hp.le, fun e he hl => hp.done e he (by rw [hLe he hne]; exact hl), fun e he hl => hp.todo e he (by rw [hLe he hne]; exact hl)⟩ id A hg hn) hn
    · rw [hμ] at hn
      by_cases hki : k = i
      · subst hki
        rw [hSm, AMem.get_ge h1] at h2; cases h2
      · rw [if_neg hki] at hLk
        exact hMM id A (I.ahead k hk hLk hnk (fun e he hl => hef e he (by rw [hLe he hne]; exact hl)) id A h1 h2 hn) hn
  have hinM : (S i).mem.next ≤ M.next := by rw [I.mnext]; exact C.next (by omega) (Nat.le_refl _)
  unfold wpOpIn
  rw [ho]
  simp only [hw]
  rcases F.run with ⟨h1, h2⟩ | ⟨h1, v, m, h2, h3, h4, h5, h6⟩
  · -- not wanted
    rw [h1]
    simp only [Bool.false_eq_true, if_false]
    have hne : ¬ Eff ops S i := by
      rintro ⟨p, hp, hwp, _⟩
      rw [ho] at hp; cases hp
      rw [h1] at hwp; cases hwp
    exact ⟨fun _ _ => trivial, calm ⟨(S i).mem.next, .nil⟩ .undef undef w μ hne (by rw [h2]) (by rw [h2]) undef_rel (Step.refl (empty_rep _)) hinM (fun id A h => by rw [empty_get] at h; cases h)⟩
  · rw [h1]
    simp only [if_true]
    cases heff : effectOp o'.op with
    | false =>
      have hne : ¬ Eff ops S i := by
        rintro ⟨p, hp, _, hep⟩
        rw [ho] at hp; cases hp
        rw [heff] at hep; cases hep
      rcases (quiet_of heff h2).ok with ⟨rfl, hpure⟩ | ⟨hread, b, rfl, hnew⟩
      · cases hread : readOp o'.op with
        | false =>
          -- it hangs on no memory
          have hev := hpure hread ⟨(S i).mem.next, .nil⟩
          exact op_sound C.hE C.hc hev (empty_rep _) hop (fun id a1 a2 => by simp only at a1 a2; omega) _ _ fun x w' ⟨μ₁, hv, hst⟩ =>
            calm _ v x w' μ₁ hne (by rw [h3]) (by rw [h3]) hv hst hinM (fun id A h => by rw [empty_get] at h; cases h)
        | true =>
          -- it reads: at a place where what was done comes to
          have place : ∃ j, MPos ops S L j ∧ evOp E call o'.op (S i).tm (S j).mem = some (v, (S j).mem) := by
            by_cases hA : ∃ e, Eff ops S e ∧ L e = true ∧ i ≤ e
            · obtain ⟨e, a1, a2, a3⟩ := hA
              obtain ⟨e, b1, b2, ⟨b3, b4⟩, b5⟩ := last_of (fun e => Eff ops S e ∧ L e = true) ops.size i ⟨e, a3, a1.lt, a1, a2⟩
              have hei : e ≠ i := fun h => by subst h; exact hne b3
              have hlo : e ∈ loose ops (Region.before ops) i := by
                obtain ⟨p, hp, _, hep⟩ := b3
                refine mem_loose hp hep ?_ ?_ hei
                · cases hb : isBefore (Region.before ops) i e with
                  | false => rfl
                  | true => rw [hcl e i b4 hb] at hi; cases hi
                · cases hb : isBefore (Region.before ops) e i with
                  | false => rfl
                  | true => have := C.ord.lt _ _ hb; omega
              have hlk := C.reads i o' ho hread (fun h => by rw [h] at hlo; cases hlo)
              have hrs := h5 heff (by rw [hlk]; rfl) rfl
              obtain ⟨p, hp, hpw, hep⟩ := b3
              obtain ⟨p', F'⟩ := C.facts e (by omega)
              have : p' = p := by have := F'.op; rw [hp] at this; exact (Option.some.inj this).symm
              subst this
              rcases F'.run with ⟨g1, _⟩ | ⟨_, v', m', g2, g3, g4, _⟩
              · rw [hpw] at g1; cases g1
              · have hs := (stable_reads C.stable hrs hlk (g4 hep) hlo).2
                refine ⟨e + 1, ⟨by omega, fun e' he' hl' => ?_, fun e' he' hl' => ?_⟩, ?_⟩
                · by_cases h : e < e'
                  · exact absurd ⟨he', hl'⟩ (b5 e' h he'.lt)
                  · omega
                · by_cases h : e' < e
                  · rw [hcl e e' b4 (C.chain he' ⟨p', hp, hpw, hep⟩ h)] at hl'; cases hl'
                  · by_cases h' : e' = e
                    · subst h'; rw [b4] at hl'; cases hl'
                    · omega
                · have := sameAt_run (call := call) hread heff hs
                  rw [g3]; exact this
            · by_cases hB : ∃ e, Eff ops S e ∧ L e = false ∧ e < i
              · obtain ⟨e, a1, a2, a3⟩ := hB
                obtain ⟨f, f1, ⟨f2, f3⟩, f4⟩ := first_of (fun e => Eff ops S e ∧ L e = false) e ⟨a1, a2⟩
                have hfi : f ≠ i := by omega
                have hlo : f ∈ loose ops (Region.before ops) i := by
                  obtain ⟨p, hp, _, hep⟩ := f2
                  refine mem_loose hp hep ?_ ?_ hfi
                  · cases hb : isBefore (Region.before ops) i f with
                    | false => rfl
                    | true => have := C.ord.lt _ _ hb; omega
                  · cases hb : isBefore (Region.before ops) f i with
                    | false => rfl
                    | true => rw [hrd f hb] at f3; cases f3
                have hlk := C.reads i o' ho hread (fun h => by rw [h] at hlo; cases hlo)
                have hrs := h5 heff (by rw [hlk]; rfl) rfl
                obtain ⟨p, hp, hpw, hep⟩ := f2
                obtain ⟨p', F'⟩ := C.facts f (by omega)
                have : p' = p := by have := F'.op; rw [hp] at this; exact (Option.some.inj this).symm
                subst this
                rcases F'.run with ⟨g1, _⟩ | ⟨_, v', m', g2, g3, g4, _⟩
                · rw [hpw] at g1; cases g1
                · have hs := (stable_reads C.stable hrs hlk (g4 hep) hlo).1
                  refine ⟨f, ⟨by omega, fun e' he' hl' => ?_, fun e' he' hl' => ?_⟩, sameAt_run (call := call) hread heff hs⟩
                  · by_cases h : f < e'
                    · rw [hcl e' f hl' (C.chain ⟨p', hp, hpw, hep⟩ he' h)] at f3; cases f3
                    · by_cases h' : e' = f
                      · subst h'; rw [hl'] at f3; cases f3
                      · omega
                  · by_cases h : e' < f
                    · exact absurd ⟨he', hl'⟩ (f4 e' h)
                    · omega
              · refine ⟨i, ⟨by omega, fun e he hl => ?_, fun e he hl => ?_⟩, h2⟩
                · by_cases h : i ≤ e
                  · exact absurd ⟨e, he, hl, h⟩ hA
                  · omega
                · by_cases h : e < i
                  · exact absurd ⟨e, he, hl, h⟩ hB
                  · omega
          obtain ⟨j, hp, hev⟩ := place
          exact op_sound C.hE C.hc hev (agree hp) hop (fun id a1 a2 => by omega) _ _ fun x w' ⟨μ₁, hv, hst⟩ =>
            calm _ v x w' μ₁ hne (by rw [h3]) (by rw [h3]) hv hst (by rw [I.mnext]; exact C.next hp.le (Nat.le_refl _)) (I.mem j hp)
      · -- it lays a block
        have hev := hnew ⟨(S i).mem.next, .nil⟩ rfl
        have hSn : (S (i + 1)).mem.next = (S i).mem.next + 1 := by rw [h3]; rfl
        have hfr : Fresh μ (S i).mem.next ((S i).mem.next + 1) := fun id a1 a2 => I.fresh i hlt hi id a1 (by omega)
        refine op_sound C.hE C.hc hev (empty_rep _) hop hfr _ _ fun x w' ⟨μ₁, hv, hst⟩ => ?_
        obtain ⟨M', e1, e2, e3, e4⟩ := hst.wider I.over.rep (fun id A h => by rw [empty_get] at h; cases h) (by show (S i).mem.next + 1 ≤ M.next; rw [I.mnext]; omega) hfr
        have hnewM : M'.get (S i).mem.next = some b := e3 _ _ (AMem.get_add_new (⟨(S i).mem.next, .nil⟩ : AMem) b)
        have hoth : ∀ id, id ≠ (S i).mem.next → M'.get id = M.get id := by
          intro id hid
          refine e4 id (empty_get _ _) ?_ (by show id < (S i).mem.next ∨ (S i).mem.next + 1 ≤ id; omega)
          exact (AMem.get_add_old (⟨(S i).mem.next, .nil⟩ : AMem) b (i := id) hid).trans (empty_get _ _)
        have hold : ∀ id, (id < (S i).mem.next ∨ (S (i + 1)).mem.next ≤ id) → μ₁ id = μ id := fun id h => hst.old id (by
          show id < (S i).mem.next ∨ (S i).mem.next + 1 ≤ id; omega)
        have hSi1 : (S (i + 1)).mem.get (S i).mem.next = some b := by rw [h3]; exact AMem.get_add_new _ _
        refine hK _ _ μ₁ M' (C.advance I hL ho hi hd e2 e1 hv (by rw [h3]) hold (fun j hp id A hg hn => ?_) (fun k hk hLk hnk hef id A g1 g2 hn => ?_))
        · have hp0 : MPos ops S L j := ⟨hp.le, fun e he hl => hp.done e he (by rw [hLe he hne]; exact hl), fun e he hl => hp.todo e he (by rw [hLe he hne]; exact hl)⟩
          by_cases hid : id = (S i).mem.next
          · subst hid
            have hij : i + 1 ≤ j := by
              have hh := AMem.get_lt hg
              by_cases h : j ≤ i
              · have := C.next h (by omega); omega
              · omega
            have hb : (S j).mem.get (S i).mem.next = some b := by
              by_cases hx : ∃ e, i + 1 ≤ e ∧ e < j ∧ Eff ops S e
              · obtain ⟨e, b1, b2, b3, b5⟩ := last_of (Eff ops S) j (i + 1) hx
                have hLe' : L e = true := by
                  cases hl : L e with
                  | true => rfl
                  | false => have := hp0.todo e b3 hl; omega
                have hlo : e ∈ loose ops (Region.before ops) i := by
                  obtain ⟨p, hp, _, hep⟩ := b3
                  refine mem_loose hp hep ?_ ?_ (by omega)
                  · cases hb : isBefore (Region.before ops) i e with
                    | false => rfl
                    | true => rw [hcl e i hLe' hb] at hi; cases hi
                  · cases hb : isBefore (Region.before ops) e i with
                    | false => rfl
                    | true => have := C.ord.lt _ _ hb; omega
                have hlk := C.reads i o' ho hread (fun h => by rw [h] at hlo; cases hlo)
                have hns := h6 heff (by rw [hlk]; rfl) (by simp)
                obtain ⟨p, hp', hpw, hep⟩ := b3
                have hej : e < ops.size := by have := hp0.le; omega
                obtain ⟨p', F'⟩ := C.facts e hej
                have : p' = p := by have := F'.op; rw [hp'] at this; exact (Option.some.inj this).symm
                subst this
                rcases F'.run with ⟨g1, _⟩ | ⟨_, v', m', g2, g3, g4, _⟩
                · rw [hpw] at g1; cases g1
                · have hs := stable_news C.stable hns hlk (g4 hep) hlo (by omega)
                  obtain ⟨A', s1, s2⟩ := blkSame_eq hs
                  rw [AMem.get_add_new] at s2
                  cases s2
                  have hlt' : (S i).mem.next < (S (e + 1)).mem.next := by
                    rw [g3]; exact AMem.get_lt s1
                  rw [C.quiet (show e + 1 ≤ j by omega) hp0.le (fun f f1 f2 => b5 f (by omega) f2) hlt', g3]
                  exact s1
              · rw [C.quiet hij hp0.le (fun e e1 e2 he => hx ⟨e, e1, e2, he⟩) (by omega)]
                exact hSi1
            rw [hb] at hg; cases hg
            exact hnewM
          · rw [hoth id hid]
            rw [hold id (by omega)] at hn
            exact I.mem j hp0 id A hg hn
        · by_cases hki : k = i
          · subst hki
            have := AMem.get_lt g2
            have hid : id = (S k).mem.next := by omega
            subst hid
            rw [hSi1] at g2; cases g2
            exact hnewM
          · rw [if_neg hki] at hLk
            have hid : id ≠ (S i).mem.next := by
              have := AMem.get_lt g2
              by_cases h : k < i
              · have := C.next (show k + 1 ≤ i by omega) (by omega); omega
              · have := C.next (show i + 1 ≤ k by omega) (by omega); omega
            rw [hoth id hid]
            rw [hold id (by omega)] at hn
            exact I.ahead k hk hLk hnk (fun e he hl => hef e he (by rw [hLe he hne]; exact hl)) id A g1 g2 hn
    | true =>
      -- an effect: all before it are done, none behind it
      have hei : Eff ops S i := ⟨o', ho, h1, heff⟩
      have hp : MPos ops S L i := by
        refine ⟨by omega, fun e he hl => ?_, fun e he hl => ?_⟩
        · by_cases h : i < e
          · rw [hcl e i hl (C.chain hei he h)] at hi; cases hi
          · by_cases h' : e = i
            · subst h'; rw [hl] at hi; cases hi
            · omega
        · by_cases h : e < i
          · rw [hrd e (C.chain he hei h)] at hl; cases hl
          · omega
      have hSm : (S (i + 1)).mem = m := by rw [h3]
      have hfr : Fresh μ (S i).mem.next m.next := fun id a1 a2 => I.fresh i hlt hi id a1 (by rw [hSm]; exact a2)
      refine op_sound C.hE C.hc h2 (agree hp) hop hfr _ _ fun x w' ⟨μ₁, hv, hst⟩ => ?_
      rw [← hSm] at hst hfr
      obtain ⟨M', e1, e2, e3, e4⟩ := hst.wider I.over.rep (I.mem i hp) (by rw [I.mnext]; exact hnN) hfr
      have hhigh : ∀ id, (S (i + 1)).mem.next ≤ id → M'.get id = M.get id := fun id h => e4 id (AMem.get_ge (by omega)) (AMem.get_ge h) (.inr h)
      have hdone : ∀ e, Eff ops S e → (if e = i then true else L e) = true → e ≤ i := by
        intro e he hl
        by_cases h : e = i
        · omega
        · rw [if_neg h] at hl; exact Nat.le_of_lt (hp.done e he hl)
      refine hK _ _ μ₁ M' (C.advance I hL ho hi hd e2 e1 hv (by rw [h3]) hst.old (fun j hq id A hg hn => ?_) (fun k hk hLk hnk hef id A g1 g2 hn => ?_))
      · have hij : i + 1 ≤ j := hq.done i hei (by rw [if_pos rfl])
        have hnone : ∀ e, i + 1 ≤ e → e < j → ¬ Eff ops S e := by
          intro e a1 a2 he
          cases hl : (if e = i then true else L e) with
          | true => have := hdone e he hl; omega
          | false => have := hq.todo e he hl; omega
        by_cases hid : id < (S (i + 1)).mem.next
        · rw [C.quiet hij hq.le hnone hid] at hg
          exact e3 id A hg
        · obtain ⟨k, k1, k2, k3, k4⟩ := C.whose hij hq.le (by omega) (AMem.get_lt hg)
          have hkn : k < ops.size := by have := hq.le; omega
          rw [hst.old id (.inr (by omega))] at hn
          have hLk : L k = true := by
            cases hl : L k with
            | true => rfl
            | false => exact absurd (I.fresh k hkn hl id k3 k4) hn
          rw [hhigh id (by omega)]
          refine I.ahead k hkn hLk (hnone k k1 k2) (fun e he hl => ?_) id A k3 ?_ hn
          · have := hp.done e he hl; omega
          · rw [← C.quiet (show k + 1 ≤ j by omega) hq.le (fun e a1 a2 => hnone e (by omega) a2) k4]; exact hg
      · have hki : k ≠ i := fun h => by subst h; exact hnk hei
        rw [if_neg hki] at hLk
        have hik : i < k := hef i hei (by rw [if_pos rfl])
        have hSk := C.next (show i + 1 ≤ k by omega) (by omega)
        rw [hst.old id (.inr (by omega))] at hn
        rw [hhigh id (by omega)]
        refine I.ahead k hk hLk hnk (fun e he hl => hef e he ?_) id A g1 g2 hn
        by_cases h : e = i
        · rw [if_pos h]
        · rw [if_neg h]; exact hl
end
end Ev
