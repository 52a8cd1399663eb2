/-
  The evaluator's code in the model. Conditions: none.
-/
import Derived.Test.YtmbkjhcmbbcphaaEvB
import Derived.CallsIn
import Derived.RangeFuncIn
import Derived.RangeFuncLeaves
import Derived.LoopNIn
import Derived.TacticsIn
/-
  Lengths, capacities, clear, the least and the greatest.
-/
namespace Ev
open Go

section
variable {E : Env} {P : Program} {μ : Mu} {m m' : AMem} {w : World}

theorem len_run (hE : TyOK E P) (hr : Rep μ m w) {t : Nat} {a r : AV} {x : Value} {rest : List Nat} {ty : Nat} (h : evLen E t a m = some (r, m')) (hx : VRel μ a x) :
    m' = m ∧ ∃ v, (Builtin.len_ ⟨t :: rest⟩ ty #[x]).run P w = .ok v w ∧ VRel μ r v := by
  unfold evLen at h
  split at h
  · rename_i i hi
    have hU : ∀ w : World, (underlying t).run P w = .ok i.u w := fun _ => run_und hE hi
    split at h
    · rename_i l hu
      obtain ⟨rfl, rfl⟩ := Prod.mk.inj (Option.some.inj h)
      obtain ⟨rfl, _⟩ := hx
      rw [hu] at hU
      refine ⟨rfl, .int .i64 l.length, ?_, rfl⟩
      simp only [Builtin.len_, List.getElem?_toArray, List.getElem?_cons_zero, Sem.run_bind, hU, Result.andThen_ok, Sem.run_pure, goInt]
      simp [ByteArray.size]
    · rename_i e hu
      obtain ⟨rfl, rfl⟩ := Prod.mk.inj (Option.some.inj h)
      cases hx
      rw [hu] at hU
      refine ⟨rfl, .int .i64 0, by simp [Builtin.len_, hU, goInt], rfl⟩
    · rename_i e id off n c hu
      obtain ⟨rfl, rfl⟩ := Prod.mk.inj (Option.some.inj h)
      obtain ⟨L, o, _, rfl, _⟩ := hx
      rw [hu] at hU
      refine ⟨rfl, .int .i64 n, by simp [Builtin.len_, hU, goInt], rfl⟩
    · rename_i e id off n c hu
      obtain ⟨rfl, rfl⟩ := Prod.mk.inj (Option.some.inj h)
      obtain ⟨L, o, c, _, rfl, _⟩ := hx
      rw [hu] at hU
      refine ⟨rfl, .int .i64 n, by simp [Builtin.len_, hU, goInt], rfl⟩
    · rename_i k e hu
      rw [hu] at hU
      split at h
      · rename_i es hes
        obtain ⟨rfl, rfl⟩ := Prod.mk.inj (Option.some.inj h)
        rcases mapList_ok hr hes hx with ⟨rfl, rfl⟩ | ⟨b, ents, clock, rfl, h1, h2⟩
        · refine ⟨rfl, .int .i64 0, by simp [Builtin.len_, hU, goInt], rfl⟩
        · refine ⟨rfl, .int .i64 ents.size, by simp [Builtin.len_, hU, goInt, run_getMap h1], ?_⟩
          simp [VRel, h2.length]
      · cases h
    · rename_i n e hu
      rw [hu] at hU
      obtain ⟨rfl, rfl⟩ := Prod.mk.inj (Option.some.inj h)
      refine ⟨rfl, .int .i64 n, by simp [Builtin.len_, hU, goInt], rfl⟩
    · cases h
  · cases h

theorem cap_run (hE : TyOK E P) {t : Nat} {a r : AV} {x : Value} {rest : List Nat} {ty : Nat} (h : evCap E t a m = some (r, m')) (hx : VRel μ a x) :
    m' = m ∧ ∃ v, (Builtin.cap_ ⟨t :: rest⟩ ty #[x]).run P w = .ok v w ∧ VRel μ r v := by
  unfold evCap at h
  split at h
  · rename_i i hi
    have hU : ∀ w : World, (underlying t).run P w = .ok i.u w := fun _ => run_und hE hi
    split at h
    · rename_i e hu
      obtain ⟨rfl, rfl⟩ := Prod.mk.inj (Option.some.inj h)
      cases hx
      rw [hu] at hU
      refine ⟨rfl, .int .i64 0, by simp [Builtin.cap_, hU, goInt], rfl⟩
    · rename_i e id off n c hu
      obtain ⟨rfl, rfl⟩ := Prod.mk.inj (Option.some.inj h)
      obtain ⟨L, o, _, rfl, _⟩ := hx
      rw [hu] at hU
      refine ⟨rfl, .int .i64 c, by simp [Builtin.cap_, hU, goInt], rfl⟩
    · cases h
  · cases h

theorem clear_good (hE : TyOK E P) (hr : Rep μ m w) {t : Nat} {a r : AV} {x : Value} {rest : List Nat} {ty : Nat} (h : evClear E t a m = some (r, m')) (hx : VRel μ a x) :
    ∃ v w', (Builtin.clear_ ⟨t :: rest⟩ ty #[x]).run P w = .ok v w' ∧ VRel μ r v ∧ Step μ m w μ m' w' := by
  unfold evClear at h
  split at h
  · rename_i i hi
    have hU : ∀ w : World, (underlying t).run P w = .ok i.u w := fun _ => run_und hE hi
    split at h
    · rename_i e hu
      obtain ⟨rfl, rfl⟩ := Prod.mk.inj (Option.some.inj h)
      cases hx
      exact ⟨.tuple #[], w, by simp [Builtin.clear_, hU], ⟨_, rfl, rfl⟩, Step.refl hr⟩
    · rename_i k e hu
      obtain ⟨rfl, rfl⟩ := Prod.mk.inj (Option.some.inj h)
      cases hx
      exact ⟨.tuple #[], w, by simp [Builtin.clear_, hU], ⟨_, rfl, rfl⟩, Step.refl hr⟩
    · rename_i k e id hu
      split at h
      · rename_i es hg
        obtain ⟨rfl, rfl⟩ := Prod.mk.inj (Option.some.inj h)
        obtain ⟨L, hL, rfl⟩ := hx
        obtain ⟨ents, clock, h1, h2⟩ := hr.blk _ _ _ hg hL
        exact ⟨.tuple #[], _, by simp only [Builtin.clear_, List.getElem?_toArray, List.getElem?_cons_zero, Sem.run_bind, hU, Result.andThen_ok, run_getMap h1, run_setMap _ h1, Sem.run_pure], ⟨_, rfl, rfl⟩, setMap_step hr hg hL (ents := #[]) (clock := clock) rfl⟩
      · cases h
    · rename_i e _ hu _
      rw [hu] at hU
      split at h
      · rename_i n hn
        split at h
        · rename_i h0
          have h0 : n = 0 := Nat.eq_of_beq_eq_true h0
          subst h0
          split at h
          · rename_i p hro
            obtain ⟨id, off⟩ := p
            obtain ⟨rfl, rfl⟩ := Prod.mk.inj (Option.some.inj h)
            obtain ⟨L, o, len, cap', hL, rfl, hlen, ho⟩ := rowOf_ok hro hx
            rw [hn] at hlen; cases hlen
            exact ⟨.tuple #[], w, by simp [Builtin.clear_, hU], ⟨_, rfl, rfl⟩, Step.refl hr⟩
          · cases h
        · rename_i h0
          split at h
          · rename_i ie hie
            split at h
            · rename_i z hz
              split at h
              · rename_i hzl
                have hzl : z.cells.length = ie.size := Nat.eq_of_beq_eq_true hzl
                split at h
                · rename_i id off hro
                  split at h
                  · rename_i m₁ hp
                    obtain ⟨rfl, rfl⟩ := Prod.mk.inj (Option.some.inj h)
                    obtain ⟨L, o, len, cap', hL, rfl, hlen, ho⟩ := rowOf_ok hro hx
                    rw [hn] at hlen; cases hlen
                    have hn0 : n ≠ 0 := by intro e; rw [e] at h0; exact h0 rfl
                    have ho := ho hn0
                    subst ho
                    obtain ⟨zv, g1, g2⟩ := run_zeroT (w := w) hE hie hz
                    obtain ⟨w', g3, g4⟩ := run_store_cells P hr hp hL (rep_rel (g2 μ).cells n)
                    refine ⟨.tuple #[], w', ?_, ⟨_, rfl, rfl⟩, g4⟩
                    have hzc : (Builtin.zeroCells zv.cells n).toList = (List.replicate n zv.cells.toList).flatten := range_rep zv.cells.toList n
                    cases n with
                    | zero => cases hn0 rfl
                    | succ n =>
                    simp only [Builtin.clear_, List.getElem?_toArray, List.getElem?_cons_zero, Sem.run_bind, hU, Result.andThen_ok, g1, hzc, g3, Sem.run_pure]
                  · cases h
                · cases h
              · cases h
            · cases h
          · cases h
      · cases h
    · cases h
  · cases h

theorem mm_run {take : Int → Int → Bool} {f : Value → Value → Sem Value} (hf : ∀ k a j b, f (.int k a) (.int j b) = pure (.int k (if take a b then b else a))) {k : IntKind} : ∀ {l : List AV} {vs : List Value} {a : Int} {r : AV}, mmInt take k a l = some r → VsRel μ l vs →
    (vs.foldlM f (.int k a)).run P w = .ok (match r with | .int j b => .int j b | _ => .int k 0) w ∧ ∃ j b, r = .int j b
  | [], _, a, r, h, hv => by cases hv; simp [mmInt] at h; subst h; exact ⟨rfl, _, _, rfl⟩
  | b :: l, _, a, r, h, ⟨v, vs, rfl, h1, h2⟩ => by
    cases b <;> simp only [mmInt] at h <;> try (cases h; done)
    rename_i j b
    cases h1
    cases ht : take a b with
    | true =>
      rw [ht] at h
      obtain ⟨h3, h4⟩ := mm_run hf h h2
      refine ⟨?_, h4⟩
      rw [List.foldlM_cons, hf, Sem.run_bind, Sem.run_pure, Result.andThen_ok, ht, if_pos rfl, h3]
    | false =>
      rw [ht] at h
      obtain ⟨h3, h4⟩ := mm_run hf h h2
      refine ⟨?_, h4⟩
      rw [List.foldlM_cons, hf, Sem.run_bind, Sem.run_pure, Result.andThen_ok, ht, if_neg (by simp), h3]

theorem min_run {l : List AV} {vs : List Value} {r : AV} {ts : Array Nat} {ty : Nat} (h : minInt l = some r) (hv : VsRel μ l vs) : ∃ v, (Builtin.min_ ts ty ⟨vs⟩).run P w = .ok v w ∧ VRel μ r v := by
  cases l with
  | nil => simp [minInt] at h
  | cons a l =>
    obtain ⟨v, vs, rfl, h1, h2⟩ := hv
    cases a <;> simp only [minInt] at h <;> try (cases h; done)
    cases h1
    obtain ⟨h3, j, b, rfl⟩ := mm_run (P := P) (w := w) (f := Builtin.min2) (fun k a j b => by simp [Builtin.min2, ltI_eq]) h h2
    exact ⟨_, by simpa only [Builtin.min_] using h3, rfl⟩
theorem max_run {l : List AV} {vs : List Value} {r : AV} {ts : Array Nat} {ty : Nat} (h : maxInt l = some r) (hv : VsRel μ l vs) : ∃ v, (Builtin.max_ ts ty ⟨vs⟩).run P w = .ok v w ∧ VRel μ r v := by
  cases l with
  | nil => simp [maxInt] at h
  | cons a l =>
    obtain ⟨v, vs, rfl, h1, h2⟩ := hv
    cases a <;> simp only [maxInt] at h <;> try (cases h; done)
    cases h1
    obtain ⟨h3, j, b, rfl⟩ := mm_run (P := P) (w := w) (f := Builtin.max2) (fun k a j b => by simp [Builtin.max2, ltI_eq]) h h2
    exact ⟨_, by simpa only [Builtin.max_] using h3, rfl⟩

/-! ### Interfaces, tuples, functions -/
theorem extract_run {a r : AV} {i : Nat} {x : Value} (h : evExtract a i = some r) (hx : VRel μ a x) : ∃ v, (Instr.extract x i).run P w = .ok v w ∧ VRel μ r v := by
  unfold evExtract at h
  split at h
  · rename_i l
    obtain ⟨vs, rfl, hvs⟩ := hx
    obtain ⟨v, h1, h2⟩ := hvs.get _ _ h
    exact ⟨v, by simp [Instr.extract, h1], h2⟩
  · cases h
end
end Ev

/-
  What an operation does in the model, by what the evaluator says of it.
-/
namespace Ev
open Go

/-- a fence that keeps nothing out, of a round or of none -/
def fw (r : Option Nat) : Fence := { Fence.wide with round := r }

def EndsIn (R : Value → World → Prop) : Ending → World → Prop
  | .returned v, w => R v w
  | _, _ => False

def FnRuns (P : Program) (f : Nat) (vs : List Value) (w : World) (R : Value → World → Prop) : Prop :=
  ((callFunc f ⟨vs⟩).run P w = .ok (.enter f ⟨vs⟩) w ∧ CallsIn (fw none) 0 P f ⟨vs⟩ w (EndsIn R)) ∨ ∃ v w', (callFunc f ⟨vs⟩).run P w = .ok (.value v) w' ∧ R v w'

def YieldRuns (P : Program) (b : Nat) (vs : List Value) (w : World) (R : Value → World → Prop) : Prop :=
  ∃ f tmps asg body w₁, (Instr.yield b ⟨vs⟩).run P w = .ok (.round b f tmps asg body) w₁ ∧ RoundIn (fw none) 0 P b f tmps asg body w₁ (EndsIn R)

def Good (μ : Mu) (m : AMem) (w : World) (r : AV) (m' : AMem) (v : Value) (w' : World) : Prop := ∃ μ', VRel μ' r v ∧ Step μ m w μ' m' w'

def FnOK (P : Program) (f : Nat) (o : List AV → AMem → R) : Prop :=
  ∀ args m r m', o args m = some (r, m') → ∀ μ w vs, Rep μ m w → VsRel μ args vs → Fresh μ m.next m'.next → FnRuns P f vs w (Good μ m w r m')

/-- the record of a loop over a function lies there -/
def LoopAt (m : AMem) (l : Nat) : Prop := ∃ st pend tm ps asg bd, m.get l = some (.loop st pend tm ps asg bd)

structure CallOK (P : Program) (call : CallF) : Prop where
  fn : ∀ f, FnOK P f (call (.fn f))
  yield : ∀ l args m r m', call (.yield l) args m = some (r, m') → ∀ μ w vs L, Rep μ m w → μ l = some L → VsRel μ args vs → Fresh μ m.next m'.next → YieldRuns P L.b vs w (Good μ m w r m')

structure EnvOK (E : Env) (P : Program) : Prop extends TyOK E P where
  fn : ∀ f fn, E.fn f = some fn → P.funcs[f]? = some fn ∧ (fn.body.isSome = true → fn.name ≠ "runtime.NumGoroutine") ∧ okFunc fn = true
  meth : ∀ t name g, E.meth t name = some g → ∀ v w, (method (P.types.size + Made.depth) t v name).run P w = .ok (g, v) w
  orc : ∀ f o, E.orc f = some o → FnOK P f o
  grows : ∀ f o, E.orc f = some o → ∀ args m r m', o args m = some (r, m') → m.next ≤ m'.next
  keeps : ∀ f o, E.orc f = some o → ∀ args m r m' l, o args m = some (r, m') → LoopAt m l → LoopAt m' l
  mixed : P.follows .mixedOrders = true

/-- an operation runs, to what R says -/
def OpRuns (ro : Option Nat) (P : Program) (o : Oper) (a : Act) (w : World) (R : Value → World → Prop) : Prop :=
  ∀ (K : Act → World → Prop) (Q : Exit → Act → World → Prop), (∀ v w', R v w' → K (a.put o.dst v) w') → o.wpIn (fw ro) 0 P a w K Q

section
variable {P : Program} {o : Oper} {a : Act} {w w' : World} {R : Value → World → Prop} {ro : Option Nat}

theorem semAt_exec (hd : ∀ c, o.op ≠ .defer c) (ρ : Operand → Value) : o.semAt ro ρ = execOp ρ o := Oper.semAt_eq ro ρ o hd

theorem OpRuns.value (hd : ∀ c, o.op ≠ .defer c) {v : Value} (h : (execOp a.eval o).run P w = .ok (.value v) w') (hR : R v w') : OpRuns ro P o a w R := by
  intro K Q hK
  refine ⟨fun _ _ => trivial, ?_⟩
  rw [semAt_exec hd, h]
  exact hK _ _ hR
theorem OpRuns.skip (hd : ∀ c, o.op ≠ .defer c) (h : (execOp a.eval o).run P w = .ok .skip w') (hR : R undef w') : OpRuns ro P o a w R := by
  intro K Q hK
  refine ⟨fun _ _ => trivial, ?_⟩
  rw [semAt_exec hd, h]
  exact hK _ _ hR
theorem CallsIn.any {f : Nat} {args : Array Value} {Rr : Ending → World → Prop} (h : CallsIn (fw none) 0 P f args w Rr) (r : Option Nat) : CallsIn (fw r) 0 P f args w Rr := h
theorem RoundIn.any {l f : Nat} {tmps : Array Value} {asg body : Code} {Rr : Ending → World → Prop} (h : RoundIn (fw none) 0 P l f tmps asg body w Rr) (r : Option Nat) : RoundIn (fw r) 0 P l f tmps asg body w Rr := h
theorem OpRuns.enter (hd : ∀ c, o.op ≠ .defer c) {f : Nat} {args : Array Value} (h : (execOp a.eval o).run P w = .ok (.enter f args) w') (hR : CallsIn (fw none) 0 P f args w' (EndsIn R)) : OpRuns ro P o a w R := by
  intro K Q hK
  refine ⟨fun _ _ => trivial, ?_⟩
  rw [semAt_exec hd, h]
  refine ⟨fun h => (by simp [fw, Fence.wide] at h), CallsIn.mono (CallsIn.any hR ro) fun e w'' he => ?_⟩
  cases e with
  | returned v => exact hK _ _ he
  | panicked c => exact he.elim
  | outgrown => exact he.elim
theorem OpRuns.round (hd : ∀ c, o.op ≠ .defer c) {l f : Nat} {tmps : Array Value} {asg body : Code} (h : (execOp a.eval o).run P w = .ok (.round l f tmps asg body) w')
    (hR : RoundIn (fw none) 0 P l f tmps asg body w' (EndsIn R)) : OpRuns ro P o a w R := by
  intro K Q hK
  refine ⟨fun _ _ => trivial, ?_⟩
  rw [semAt_exec hd, h]
  refine ⟨fun h => (by simp [fw, Fence.wide] at h), RoundIn.mono (RoundIn.any hR ro) fun e w'' he => ?_⟩
  cases e with
  | returned v => exact hK _ _ he
  | panicked c => exact he.elim
  | outgrown => exact he.elim
theorem OpRuns.mono {R' : Value → World → Prop} (h : OpRuns ro P o a w R) (hr : ∀ v w', R v w' → R' v w') : OpRuns ro P o a w R' :=
  fun K Q hK => h K Q fun v w' hR => hK v w' (hr v w' hR)

/-- what is called, called -/
theorem FnRuns.op (hd : ∀ c, o.op ≠ .defer c) {f : Nat} {vs : List Value} (h : FnRuns P f vs w R) (he : (execOp a.eval o).run P w = (callFunc f ⟨vs⟩).run P w) : OpRuns ro P o a w R := by
  rcases h with ⟨h1, h2⟩ | ⟨v, w', h1, h2⟩
  · exact .enter hd (he.trans h1) h2
  · exact .value hd (he.trans h1) h2
end

theorem on1_some {a : Option AV} {f : AV → R} {r : AV × AMem} (h : on1 a f = some r) : ∃ x, a = some x ∧ f x = some r := by
  cases a with
  | none => cases h
  | some x => exact ⟨x, rfl, h⟩
theorem on2_some {a b : Option AV} {f : AV → AV → R} {r : AV × AMem} (h : on2 a b f = some r) : ∃ x y, a = some x ∧ b = some y ∧ f x y = some r := by
  cases a with
  | none => cases h
  | some x => cases b with
    | none => cases h
    | some y => exact ⟨x, y, rfl, rfl, h⟩
theorem onNat_some {a : Option AV} {f : Nat → R} {r : AV × AMem} (h : onNat a f = some r) : ∃ k n, a = some (.int k (Int.ofNat n)) ∧ f n = some r := by
  cases a with
  | none => cases h
  | some x =>
    cases hn : x.asNat with
    | none => simp [onNat, hn] at h
    | some n =>
      obtain ⟨k, rfl⟩ := asNat_eq hn
      simp only [onNat, hn] at h
      exact ⟨k, n, rfl, h⟩
theorem vm_some {m : AMem} {a : Option AV} {r : AV} {m' : AMem} (h : vm m a = some (r, m')) : a = some r ∧ m' = m := by
  cases a with
  | none => cases h
  | some x => cases h; exact ⟨rfl, rfl⟩

/-- the operands of an operation against the activation's -/
def ORel (μ : Mu) (tm : Tr AV) (a : Act) (l : List Operand) : Prop := ∀ x ∈ l, ∀ y, rd tm x = some y → VRel μ y (a.eval x)

theorem rd_rel {μ : Mu} {tm : Tr AV} {a : Act} (ht : TRel μ tm a.tmps) (x : Operand) {y : AV} (h : rd tm x = some y) : VRel μ y (a.eval x) := by
  cases x with
  | tmp t =>
    have := ht t
    cases hg : tm.get t with
    | none => simp [rd, orUndef, hg] at h; subst h; rw [hg] at this; exact this
    | some z => simp [rd, orUndef, hg] at h; subst h; rw [hg] at this; exact this
  | const v => exact ofVal_rel μ h
  | global g => cases h
  | func f => cases h; exact ⟨[], [], rfl, rfl, rfl⟩
theorem TRel.orel {μ : Mu} {tm : Tr AV} {a : Act} (ht : TRel μ tm a.tmps) (l : List Operand) : ORel μ tm a l := fun x _ _ h => rd_rel ht x h
theorem ORel.sub {μ : Mu} {tm : Tr AV} {a : Act} {l l' : List Operand} (h : ORel μ tm a l) (hs : ∀ x ∈ l', x ∈ l) : ORel μ tm a l' := fun x hx => h x (hs x hx)

theorem rds_rel {μ : Mu} {tm : Tr AV} {a : Act} : ∀ {l : List Operand} {r : List AV}, rds tm l = some r → ORel μ tm a l → VsRel μ r (l.map a.eval)
  | [], r, h, _ => by cases h; rfl
  | x :: l, r, h, ho => by
    simp only [rds] at h
    split at h
    · rename_i y hy
      split at h
      · rename_i b hb
        cases h
        exact .cons (ho x (List.mem_cons_self ..) y hy) (rds_rel hb (ho.sub fun z hz => List.mem_cons_of_mem _ hz))
      · cases h
    · cases h
theorem rdParts_rel {μ : Mu} {tm : Tr AV} {a : Act} : ∀ {l : List (Nat × Operand)} {r : List (Nat × AV)}, rdParts tm l = some r → ORel μ tm a (l.map (·.2)) → PsRel μ r (l.map fun (i, x) => (i, a.eval x))
  | [], r, h, _ => by cases h; rfl
  | (i, x) :: l, r, h, ho => by
    simp only [rdParts] at h
    split at h
    · rename_i y hy
      split at h
      · rename_i b hb
        cases h
        exact ⟨_, _, rfl, ho x (by simp) y hy, rdParts_rel hb (ho.sub fun z hz => by rw [List.map_cons]; exact List.mem_cons_of_mem _ hz)⟩
      · cases h
    · cases h
end Ev

/-
  Every operation, whatever it is.
-/
namespace Ev
open Go

section
variable {E : Env} {P : Program} {μ : Mu} {m m' : AMem} {w : World}

theorem Fresh.one (h : Fresh μ m.next m'.next) (hlt : m.next < m'.next) : μ m.next = none := h _ (Nat.le_refl _) hlt

theorem arr_map {α β : Type} (f : α → β) (l : Array α) : l.map f = ⟨l.toList.map f⟩ := by apply Array.ext'; simp

theorem evAlloc_next {t : Nat} {r : AV} (h : evAlloc E t m = some (r, m')) : m.next < m'.next := by
  unfold evAlloc at h
  repeat' split at h
  all_goals first | (cases h; done) | (cases h; simp [newRowC])
theorem evBox_next {a r : AV} (h : evBox a m = some (r, m')) : m.next < m'.next := by
  unfold evBox at h
  repeat' split at h
  all_goals first | (cases h; done) | (cases h; simp [newRowC])
theorem evMakeSlice_next {t : Nat} {a b r : AV} (h : evMakeSlice E t a b m = some (r, m')) : m.next < m'.next := by
  unfold evMakeSlice at h
  repeat' split at h
  all_goals first | (cases h; done) | (cases h; simp)
theorem evBuildSlice_next {t len : Nat} {ps : List (Nat × AV)} {r : AV} (h : evBuildSlice E t len ps m = some (r, m')) : m.next < m'.next := by
  unfold evBuildSlice at h
  repeat' split at h
  all_goals first | (cases h; done) | (cases h; simp [newRowC])

theorem typeAssert_run (hE : TyOK E P) {a r : AV} {t s : Nat} {ok : Bool} {x : Value} (h : evTypeAssert E a t ok = some r) (hx : VRel μ a x) : ∃ v, (Instr.typeAssert x s t ok).run P w = .ok v w ∧ VRel μ r v := by
  unfold evTypeAssert at h
  split at h
  · rename_i i hi
    have hU := run_und (w := w) hE hi
    split at h
    · cases h
    · rename_i hnd
      have hfail : ∀ {p q s'}, ok = true → (match i.zero with | some z => some (AV.tup [z, .bool false]) | none => none) = some r →
          ∃ v, ((do if ok then pure (.tuple #[← zeroValue t, .bool false]) else runtimePanic (.typeAssertion p q t s')) : Sem Value).run P w = .ok v w ∧ VRel μ r v := by
        intro p q s' hok hz
        split at hz
        · rename_i z hz'
          cases hz
          obtain ⟨zv, g1, g2⟩ := run_zeroT (w := w) hE hi hz'
          exact ⟨.tuple #[zv, .bool false], by simp only [hok, if_true, Sem.run_bind, g1, Result.andThen_ok, Sem.run_pure], ⟨_, rfl, .cons (g2 μ) (.cons rfl rfl)⟩⟩
        · cases hz
      split at h
      · rename_i d y
        obtain ⟨x, rfl, hx⟩ := hx
        split at h
        · rename_i hd
          have hd : d = t := Nat.eq_of_beq_eq_true hd
          subst hd
          cases h
          refine ⟨if ok then .tuple #[x, .bool true] else x, ?_, ?_⟩
          · simp only [Instr.typeAssert, Sem.run_bind, hU, Result.andThen_ok]
            cases hu : i.u <;> first | exact absurd hu (hnd _) | (simp only [if_true]; done) | (simp only [if_true]; rfl)
          · unfold okPair
            cases ok with
            | true => exact ⟨_, rfl, .cons hx (.cons rfl rfl)⟩
            | false => exact hx
        · rename_i hd
          have hd : ¬ d = t := fun e => hd (by subst e; exact Nat.beq_refl _)
          split at h
          · rename_i hok
            obtain ⟨v, h1, h2⟩ := hfail (p := some s) (q := some d) (s' := "") hok h
            refine ⟨v, ?_, h2⟩
            rw [← h1]
            simp only [Instr.typeAssert, Sem.run_bind, hU, Result.andThen_ok]
            cases hu : i.u <;> first | exact absurd hu (hnd _) | (simp only [if_neg hd]; done) | (simp only [if_neg hd]; rfl)
          · cases h
      · cases hx
        split at h
        · rename_i hok
          obtain ⟨v, h1, h2⟩ := hfail (p := some s) (q := none) (s' := "") hok h
          refine ⟨v, ?_, h2⟩
          rw [← h1]
          simp only [Instr.typeAssert, Sem.run_bind, hU, Result.andThen_ok]
        · cases h
      · cases h
  · cases h

theorem isIf_run (hE : TyOK E P) {t : Nat} (h : isIf E t = false) (x : Value) : (Instr.makeInterface t x).run P w = .ok (.iface t x) w := by
  unfold isIf at h
  split at h
  · rename_i i hi
    have hU := run_und (w := w) hE hi
    split at h
    · cases h
    · rename_i hnd
      simp only [Instr.makeInterface, Sem.run_bind, hU, Result.andThen_ok]
      cases hu : i.u <;> first | exact absurd hu (hnd _) | rfl
  · cases h

theorem builtin_good (hE : TyOK E P) (hr : Rep μ m w) {b : Builtin} {ts : Array TypeId} {ty : Nat} {cs : Array Bool} {args : List AV} {vs : List Value} {r : AV} (h : evBuiltin E b ts.toList args m = some (r, m')) (hv : VsRel μ args vs)
    (hf : Fresh μ m.next m'.next) : ∃ v w', (builtin b ts ty cs ⟨vs⟩).run P w = .ok (.value v) w' ∧ Good μ m w r m' v w' := by
  obtain ⟨ts⟩ := ts
  have fin : ∀ {s : Sem Value} {v : Value} {w' : World}, s.run P w = .ok v w' → (do pure (Next.value (← s)) : Sem Next).run P w = .ok (.value v) w' := by
    intro s v w' h; simp only [Sem.run_bind, h, Result.andThen_ok, Sem.run_pure]
  unfold evBuiltin at h
  split at h
  · rename_i x t rest hts
    subst hts
    obtain ⟨v, _, rfl, h1, rfl⟩ := hv
    obtain ⟨rfl, v', g1, g2⟩ := len_run (ty := ty) (rest := rest) hE hr h h1
    exact ⟨v', w, fin g1, μ, g2, Step.refl hr⟩
  · rename_i x t rest hts
    subst hts
    obtain ⟨v, _, rfl, h1, rfl⟩ := hv
    obtain ⟨rfl, v', g1, g2⟩ := cap_run (w := w) (ty := ty) (rest := rest) hE h h1
    exact ⟨v', w, fin g1, μ, g2, Step.refl hr⟩
  · rename_i x y
    obtain ⟨v, _, rfl, h1, u, _, rfl, h2, rfl⟩ := hv
    obtain ⟨v', w', μ', g1, g2, g3⟩ := appendOp_good (ts := ⟨ts⟩) (ty := ty) hE hr h h1 h2 (fun hlt => hf.one hlt)
    exact ⟨v', w', fin g1, μ', g2, g3⟩
  · rename_i d s t rest hts
    subst hts
    obtain ⟨v, _, rfl, h1, u, _, rfl, h2, rfl⟩ := hv
    split at h
    · rename_i i hi
      have hU : ∀ w : World, (underlying t).run P w = .ok i.u w := fun _ => run_und hE hi
      split at h
      · rename_i e hu
        rw [hu] at hU
        split at h
        · rename_i ie hie
          obtain ⟨v', w', g1, g2, g3⟩ := copy_good (ty := ty) (_u := 0) hr hU (fun w => run_sizeOfT hE hie) h h1 h2 rest
          exact ⟨v', w', fin g1, μ, g2, g3⟩
        · cases h
      · cases h
    · cases h
  · obtain ⟨hv', rfl⟩ := vm_some h
    obtain ⟨v, g1, g2⟩ := min_run (P := P) (w := w) (ts := ⟨ts⟩) (ty := ty) hv' hv
    exact ⟨v, w, fin g1, μ, g2, Step.refl hr⟩
  · obtain ⟨hv', rfl⟩ := vm_some h
    obtain ⟨v, g1, g2⟩ := max_run (P := P) (w := w) (ts := ⟨ts⟩) (ty := ty) hv' hv
    exact ⟨v, w, fin g1, μ, g2, Step.refl hr⟩
  · rename_i x k t rest hts
    subst hts
    obtain ⟨v, _, rfl, h1, u, _, rfl, h2, rfl⟩ := hv
    obtain ⟨v', w', g1, g2, g3⟩ := delete_good (rest := rest) (ty := ty) hE hr h h1 h2
    exact ⟨v', w', fin g1, μ, g2, g3⟩
  · rename_i x t rest hts
    subst hts
    obtain ⟨v, _, rfl, h1, rfl⟩ := hv
    obtain ⟨v', w', g1, g2, g3⟩ := clear_good (rest := rest) (ty := ty) hE hr h h1
    exact ⟨v', w', fin g1, μ, g2, g3⟩
  · cases h
end
end Ev

/-
  Every operation, whatever it is: joined.
-/
namespace Ev
open Go

section
variable {E : Env} {P : Program} {μ : Mu} {m m' : AMem} {w : World} {call : CallF} {tm : Tr AV} {a : Act} {ro : Option Nat}

theorem seqv {s : Sem Value} {v : Value} {w w' : World} (h : s.run P w = .ok v w') : (do pure (Next.value (← s)) : Sem Next).run P w = .ok (.value v) w' := by
  simp only [Sem.run_bind, h, Result.andThen_ok, Sem.run_pure]
theorem sequ {s : Sem Unit} {w w' : World} (h : s.run P w = .ok () w') : (do s; pure Next.skip : Sem Next).run P w = .ok .skip w' := by
  simp only [Sem.run_bind, h, Result.andThen_ok, Sem.run_pure]

theorem callOp_sound (hE : EnvOK E P) (hc : CallOK P call) {dst : Option Nat} {ty : Nat} {pos : String} {after : Array Edge} {guard : Option (Nat × Bool)} {c : Call} {v : AV} (h : evCallOp E call c tm m = some (v, m')) (hr : Rep μ m w) (ho : ORel μ tm a c.operands.toList) (hf : Fresh μ m.next m'.next) :
    OpRuns ro P ⟨dst, .call c, ty, pos, after, guard⟩ a w (Good μ m w v m') := by
  have hd : ∀ c', (Op.call c) ≠ .defer c' := fun _ h => by cases h
  unfold evCallOp at h
  split at h
  · rename_i args hargs
    have hv := rds_rel hargs (ho.sub fun x hx => by simp only [Call.operands, Array.toList_append, List.mem_append]; exact .inr hx)
    have hmap : c.args.map a.eval = ⟨c.args.toList.map a.eval⟩ := arr_map _ _
    split at h
    · rename_i f hcal
      have hof : f ∈ c.operands.toList := by simp [Call.operands, hcal]
      split at h
      · rename_i g first captured hrf
        obtain ⟨fs, cs, e1, e2, e3⟩ := ho f hof _ hrf
        refine FnRuns.op hd (hc.fn g _ _ _ _ h μ w _ hr ((e2.append hv).append e3) hf) ?_
        simp only [execOp, resolve, hcal, hmap, e1, Deferred.ofValue, Sem.run_bind, Sem.run_pure, Result.andThen_ok, invoke]
        simp
      · rename_i l hrf
        obtain ⟨L, hL, e1⟩ := ho f hof _ hrf
        obtain ⟨f', tmps, asg, body, w₁, g1, g2⟩ := hc.yield l _ _ _ _ h μ w _ L hr hL hv hf
        refine OpRuns.round hd ?_ g2
        simp only [execOp, resolve, hcal, hmap, e1, Deferred.ofValue, Sem.run_bind, Sem.run_pure, Result.andThen_ok, invoke]
        simpa using g1
      · cases h
    · rename_i x name hcal
      have hox : x ∈ c.operands.toList := by simp [Call.operands, hcal]
      split at h
      · rename_i t b hrx
        obtain ⟨y, e1, e2⟩ := ho x hox _ hrx
        split at h
        · rename_i g hg
          refine FnRuns.op hd (hc.fn g _ _ _ _ h μ w _ hr (.cons e2 hv) hf) ?_
          simp only [execOp, resolve, hcal, hmap, e1, Sem.run_bind, Sem.run_pure, Result.andThen_ok, invoke]
          simp [callMethod, hE.meth _ _ _ hg]
          rw [List.take_of_length_le (by simp)]
        · cases h
      · cases h
    · rename_i b hcal
      obtain ⟨v', w', g1, g2⟩ := builtin_good (ty := ty) (cs := c.args.map fun | .const _ => true | _ => false) hE.toTyOK hr h hv hf
      refine OpRuns.value hd ?_ g2
      simp only [execOp, resolve, hcal, hmap, Sem.run_bind, Sem.run_pure, Result.andThen_ok, invoke]
      exact g1
  · cases h

theorem op_sound (hE : EnvOK E P) (hc : CallOK P call) {o : Oper} {v : AV} (h : evOp E call o.op tm m = some (v, m')) (hr : Rep μ m w) (ho : ORel μ tm a o.op.operands.toList) (hf : Fresh μ m.next m'.next) :
    OpRuns ro P o a w (Good μ m w v m') := by
  obtain ⟨dst, op, ty, pos, after, guard⟩ := o
  have hT := hE.toTyOK
  unfold evOp at h
  cases op with
  | move x =>
    obtain ⟨hx, rfl⟩ := vm_some h
    exact OpRuns.value (fun _ h => by cases h) (v := a.eval x) rfl ⟨μ, ho x (by simp [Op.operands]) _ hx, Step.refl hr⟩
  | assign x =>
    obtain ⟨hx, rfl⟩ := vm_some h
    exact OpRuns.value (fun _ h => by cases h) (v := a.eval x) rfl ⟨μ, ho x (by simp [Op.operands]) _ hx, Step.refl hr⟩
  | pick c x y =>
    obtain ⟨hx, rfl⟩ := vm_some h
    unfold evPick at hx
    split at hx
    · rename_i hcv
      have e := ho c (by simp [Op.operands]) _ hcv
      refine OpRuns.value (fun _ h => by cases h) (v := a.eval x) ?_ ⟨μ, ho x (by simp [Op.operands]) _ hx, Step.refl hr⟩
      simp only [execOp]
      rw [show a.eval c = .bool true from e]
      rfl
    · rename_i hcv
      have e := ho c (by simp [Op.operands]) _ hcv
      refine OpRuns.value (fun _ h => by cases h) (v := a.eval y) ?_ ⟨μ, ho y (by simp [Op.operands]) _ hx, Step.refl hr⟩
      simp only [execOp]
      rw [show a.eval c = .bool false from e]
      rfl
    · cases hx
  | alloc t =>
    obtain ⟨v', w', μ', g1, g2, g3⟩ := alloc_good hT hr h (hf.one (evAlloc_next h))
    exact OpRuns.value (fun _ h => by cases h) (seqv g1) ⟨μ', g2, g3⟩
  | box t x =>
    obtain ⟨b, hb, h⟩ := on1_some h
    obtain ⟨v', w', μ', g1, g2, g3⟩ := box_good (t := t) hr h (ho x (by simp [Op.operands]) _ hb) (hf.one (evBox_next h))
    exact OpRuns.value (fun _ h => by cases h) (seqv g1) ⟨μ', g2, g3⟩
  | build t ps =>
    simp only [evOpF, opBuild] at h
    split at h
    · rename_i l hl
      obtain ⟨hx, rfl⟩ := vm_some h
      obtain ⟨v', g1, g2⟩ := build_run (w := w) hT hx (rdParts_rel hl (ho.sub fun y hy => by simpa [Op.operands] using hy))
      refine OpRuns.value (fun _ h => by cases h) (v := v') ?_ ⟨μ, g2, Step.refl hr⟩
      simp only [execOp]
      rw [arr_map]
      exact seqv g1
    · cases h
  | buildSlice t n ps =>
    simp only [evOpF, opBuildSlice] at h
    split at h
    · rename_i l hl
      obtain ⟨v', w', μ', g1, g2, g3⟩ := buildSlice_good hT hr h (rdParts_rel hl (ho.sub fun y hy => by simpa [Op.operands] using hy)) (hf.one (evBuildSlice_next h))
      refine OpRuns.value (fun _ h => by cases h) (v := v') ?_ ⟨μ', g2, g3⟩
      simp only [execOp]
      rw [arr_map]
      exact seqv g1
    · cases h
  | insert t x k y =>
    obtain ⟨b, c, hb, hc', h⟩ := on2_some h
    obtain ⟨d, hd, h⟩ := on1_some h
    obtain ⟨w', g1, rfl, g3⟩ := mapUpdate_good hT hr h (ho x (by simp [Op.operands]) _ hb) (ho k (by simp [Op.operands]) _ hc') (ho y (by simp [Op.operands]) _ hd)
    exact OpRuns.skip (fun _ h => by cases h) (sequ g1) ⟨μ, ⟨[], rfl, rfl⟩, g3⟩
  | load t x =>
    obtain ⟨b, hb, h⟩ := on1_some h
    obtain ⟨rfl, v', g1, g2⟩ := load_good hT hr h (ho x (by simp [Op.operands]) _ hb)
    exact OpRuns.value (fun _ h => by cases h) (seqv g1) ⟨μ, g2, Step.refl hr⟩
  | store t x y =>
    obtain ⟨b, c, hb, hc', h⟩ := on2_some h
    obtain ⟨rfl, w', g1, g3⟩ := store_good hT hr h (ho x (by simp [Op.operands]) _ hb) (ho y (by simp [Op.operands]) _ hc')
    exact OpRuns.skip (fun _ h => by cases h) (sequ g1) ⟨μ, ⟨[], rfl, rfl⟩, g3⟩
  | nilCheck x =>
    obtain ⟨b, hb, h⟩ := on1_some h
    obtain ⟨hx, rfl⟩ := vm_some h
    have hv := ho x (by simp [Op.operands]) _ hb
    obtain ⟨rfl, n1, n2, n3, n4⟩ := nilCheck_ok hx hv
    refine OpRuns.value (fun _ h => by cases h) (v := a.eval x) ?_ ⟨μ, hv, Step.refl hr⟩
    simp only [execOp]
    generalize a.eval x = X at n1 n2 n3 n4 ⊢
    cases X with
    | pointer p => cases p with
      | none => exact absurd rfl n1
      | some q => rfl
    | nilIface => exact absurd rfl n2
    | nilFunc => exact absurd rfl n3
    | func fn f c => cases fn with
      | method n => exact absurd rfl (n4 _ _ _)
      | _ => rfl
    | _ => rfl
  | binOp op t x y t' =>
    obtain ⟨b, c, hb, hc', h⟩ := on2_some h
    obtain ⟨hx, rfl⟩ := vm_some h
    obtain ⟨v', g1, g2⟩ := bin_run (w := w) hT hx (ho x (by simp [Op.operands]) _ hb) (ho y (by simp [Op.operands]) _ hc') x y
    exact OpRuns.value (fun _ h => by cases h) (seqv g1) ⟨μ, g2, Step.refl hr⟩
  | unOp op t x =>
    obtain ⟨b, hb, h⟩ := on1_some h
    obtain ⟨hx, rfl⟩ := vm_some h
    obtain ⟨v', g1, g2⟩ := un_run (P := P) (w := w) hx (ho x (by simp [Op.operands]) _ hb)
    exact OpRuns.value (fun _ h => by cases h) (seqv g1) ⟨μ, g2, Step.refl hr⟩
  | convert s d x =>
    obtain ⟨b, hb, h⟩ := on1_some h
    obtain ⟨v', w', μ', g1, g2, g3⟩ := convert_good hT hr h (ho x (by simp [Op.operands]) _ hb) (fun hlt => hf.one hlt)
    exact OpRuns.value (fun _ h => by cases h) (seqv g1) ⟨μ', g2, g3⟩
  | sliceToArrayPointer t x =>
    obtain ⟨b, hb, h⟩ := on1_some h
    obtain ⟨hx, rfl⟩ := vm_some h
    obtain ⟨v', g1, g2⟩ := s2ap_run (w := w) hT hx (ho x (by simp [Op.operands]) _ hb)
    exact OpRuns.value (fun _ h => by cases h) (seqv g1) ⟨μ, g2, Step.refl hr⟩
  | makeInterface t x =>
    obtain ⟨b, hb, h⟩ := on1_some h
    split at h
    · cases h
    · rename_i hif
      obtain ⟨rfl, rfl⟩ := Prod.mk.inj (Option.some.inj h)
      exact OpRuns.value (fun _ h => by cases h) (seqv (isIf_run hT (by simpa using hif) (a.eval x))) ⟨μ, ⟨_, rfl, ho x (by simp [Op.operands]) _ hb⟩, Step.refl hr⟩
  | makeFunc fn first captured =>
    obtain ⟨hx, rfl⟩ := vm_some h
    unfold evMakeFunc at hx
    split at hx
    · rename_i f l1 l2 h1 h2
      cases hx
      have e1 := rds_rel h1 (ho.sub fun y hy => by simp only [Op.operands, Array.toList_append, List.mem_append]; exact .inl hy)
      have e2 := rds_rel h2 (ho.sub fun y hy => by simp only [Op.operands, Array.toList_append, List.mem_append]; exact .inr hy)
      refine OpRuns.value (fun _ h => by cases h) (v := .func (.func f) ⟨first.toList.map a.eval⟩ ⟨captured.toList.map a.eval⟩) ?_ ⟨μ, ⟨_, _, rfl, e1, e2⟩, Step.refl hr⟩
      simp only [execOp]
      rw [arr_map, arr_map]
      rfl
    · cases hx
  | makeMap t r =>
    cases r with
    | some x => cases h
    | none =>
      obtain ⟨rfl, rfl⟩ := Prod.mk.inj (Option.some.inj h)
      have hf := hf.one (by simp)
      refine OpRuns.value (fun _ h => by cases h) (v := .map (some w.heap.size)) (w' := { w with heap := w.heap.push (.map #[] 0) }) (seqv (by simp [Instr.makeMap])) ⟨μ.with m.next ⟨w.heap.size, 0, 0⟩, ⟨_, Mu.with_same _ _ _, rfl⟩, ?_⟩
      exact Step.alloc hr hf rfl ⟨rfl, rfl, rfl⟩ ⟨#[], 0, by simp, rfl⟩
  | makeSlice t x y =>
    obtain ⟨b, c, hb, hc', h⟩ := on2_some h
    obtain ⟨v', w', μ', g1, g2, g3⟩ := makeSlice_good hT hr h (ho x (by simp [Op.operands]) _ hb) (ho y (by simp [Op.operands]) _ hc') (hf.one (evMakeSlice_next h))
    exact OpRuns.value (fun _ h => by cases h) (seqv g1) ⟨μ', g2, g3⟩
  | slice t x lo hi mx =>
    obtain ⟨b, hb, h⟩ := on1_some h
    have bnd : ∀ {q : Option Operand} {n : Option Nat}, natO (q.map fun o => (rd tm o).getD .undef) = some n → (∀ y ∈ q.toList, y ∈ (Op.slice t x lo hi mx).operands.toList) → BndRel n (q.map a.eval) := by
      intro q n hn hq
      cases q with
      | none => simp [natO] at hn; subst hn; rfl
      | some y =>
        simp only [Option.map_some] at hn
        cases hy : rd tm y with
        | none => rw [hy] at hn; simp [natO, AV.undef] at hn
        | some z =>
          rw [hy] at hn
          simp only [Option.getD_some] at hn
          have hz := ho y (hq y (by simp)) _ hy
          unfold natO at hn
          split at hn
          · cases ‹some z = none›
          · rename_i k n' e
            cases e
            cases hn
            exact ⟨k, by rw [Option.map_some]; exact congrArg some hz⟩
          · cases hn
    split at h
    · rename_i lo' hi' mx' h1 h2 h3
      obtain ⟨hx, rfl⟩ := vm_some h
      obtain ⟨v', g1, g2⟩ := sliceOp_run (w := w) hT hr hx (ho x (by simp [Op.operands]) _ hb) (bnd h1 (by intro y hy; cases lo <;> simp_all [Op.operands])) (bnd h2 (by intro y hy; cases hi <;> simp_all [Op.operands])) (bnd h3 (by intro y hy; cases mx <;> simp_all [Op.operands]))
      exact OpRuns.value (fun _ h => by cases h) (seqv g1) ⟨μ, g2, Step.refl hr⟩
    · cases h
  | fieldAddr t x j =>
    obtain ⟨b, hb, h⟩ := on1_some h
    obtain ⟨hx, rfl⟩ := vm_some h
    obtain ⟨v', g1, g2⟩ := fieldAddr_run (w := w) hT hx (ho x (by simp [Op.operands]) _ hb)
    exact OpRuns.value (fun _ h => by cases h) (seqv g1) ⟨μ, g2, Step.refl hr⟩
  | field t x j =>
    obtain ⟨b, hb, h⟩ := on1_some h
    obtain ⟨hx, rfl⟩ := vm_some h
    obtain ⟨v', g1, g2⟩ := field_run (w := w) hT hx (ho x (by simp [Op.operands]) _ hb)
    exact OpRuns.value (fun _ h => by cases h) (seqv g1) ⟨μ, g2, Step.refl hr⟩
  | indexAddr t x ix =>
    obtain ⟨b, hb, h⟩ := on1_some h
    obtain ⟨k, n, hn, h⟩ := onNat_some h
    obtain ⟨hx, rfl⟩ := vm_some h
    have e := ho ix (by simp [Op.operands]) _ hn
    obtain ⟨v', g1, g2⟩ := indexAddr_run (w := w) (k := k) hT hx (ho x (by simp [Op.operands]) _ hb)
    refine OpRuns.value (fun _ h => by cases h) (v := v') ?_ ⟨μ, g2, Step.refl hr⟩
    simp only [execOp]
    rw [show a.eval ix = .int k (n : Int) from e]
    exact seqv g1
  | index t x ix =>
    obtain ⟨b, hb, h⟩ := on1_some h
    obtain ⟨k, n, hn, h⟩ := onNat_some h
    obtain ⟨hx, rfl⟩ := vm_some h
    have e := ho ix (by simp [Op.operands]) _ hn
    obtain ⟨v', g1, g2⟩ := index_run (w := w) (k := k) hT hx (ho x (by simp [Op.operands]) _ hb)
    refine OpRuns.value (fun _ h => by cases h) (v := v') ?_ ⟨μ, g2, Step.refl hr⟩
    simp only [execOp]
    rw [show a.eval ix = .int k (n : Int) from e]
    exact seqv g1
  | lookup t x k ok =>
    obtain ⟨b, c, hb, hc', h⟩ := on2_some h
    obtain ⟨rfl, v', g1, g2⟩ := lookup_good hT hr h (ho x (by simp [Op.operands]) _ hb) (ho k (by simp [Op.operands]) _ hc')
    exact OpRuns.value (fun _ h => by cases h) (seqv g1) ⟨μ, g2, Step.refl hr⟩
  | mapUpdate t x k y =>
    obtain ⟨b, c, hb, hc', h⟩ := on2_some h
    obtain ⟨d, hd, h⟩ := on1_some h
    obtain ⟨w', g1, rfl, g3⟩ := mapUpdate_good hT hr h (ho x (by simp [Op.operands]) _ hb) (ho k (by simp [Op.operands]) _ hc') (ho y (by simp [Op.operands]) _ hd)
    exact OpRuns.skip (fun _ h => by cases h) (sequ g1) ⟨μ, ⟨[], rfl, rfl⟩, g3⟩
  | typeAssert x s t ok =>
    obtain ⟨b, hb, h⟩ := on1_some h
    obtain ⟨hx, rfl⟩ := vm_some h
    obtain ⟨v', g1, g2⟩ := typeAssert_run (w := w) (s := s) hT hx (ho x (by simp [Op.operands]) _ hb)
    exact OpRuns.value (fun _ h => by cases h) (seqv g1) ⟨μ, g2, Step.refl hr⟩
  | extract x i =>
    obtain ⟨b, hb, h⟩ := on1_some h
    obtain ⟨hx, rfl⟩ := vm_some h
    obtain ⟨v', g1, g2⟩ := extract_run (P := P) (w := w) hx (ho x (by simp [Op.operands]) _ hb)
    exact OpRuns.value (fun _ h => by cases h) (seqv g1) ⟨μ, g2, Step.refl hr⟩
  | call c => exact callOp_sound hE hc h hr ho hf
  | _ => cases h
end
end Ev

/-
  What the evaluator's own steps do with its memory, whatever the model does.
-/
namespace Ev
open Go

section
variable {E : Env} {m m' : AMem} {call : CallF} {tm : Tr AV}

theorem putCells_next {id off : Nat} {new : List AV} (h : putCells m id off new = some m') : m'.next = m.next := by
  obtain ⟨_, _, _, _, _, _, _, rfl⟩ := putCells_eq h; rfl
theorem put1_next {id off : Nat} {x : AV} (h : put1 m id off x = some m') : m'.next = m.next := by
  obtain ⟨_, _, _, _, _, _, _, rfl⟩ := put1_eq h; rfl

theorem unitR_some {q : Option AMem} {r : AV} (h : unitR q = some (r, m')) : q = some m' := by
  cases q with
  | none => cases h
  | some x => cases h; rfl
theorem evStore_next {t : Nat} {a x r : AV} (h : evStore E t a x m = some (r, m')) : m'.next = m.next := by
  unfold evStore at h
  cases hi : E.ty t with
  | none => rw [hi] at h; cases h
  | some i =>
    rw [hi] at h
    cases hp : a.asPtr with
    | none => rw [hp] at h; cases h
    | some p =>
      rw [hp] at h
      simp only [evStoreAt] at h
      cases hl : x.asAgg with
      | none =>
        rw [hl] at h
        cases hb : Nat.beq i.size 1 with
        | false => rw [hb] at h; cases h
        | true => rw [hb] at h; exact put1_next (unitR_some h)
      | some l =>
        rw [hl] at h
        simp only at h
        cases hb : Nat.beq l.length i.size with
        | false => rw [hb] at h; cases h
        | true => rw [hb] at h; exact putCells_next (unitR_some h)
theorem evLoad_same {t : Nat} {a r : AV} (h : evLoad E t a m = some (r, m')) : m' = m := by
  unfold evLoad at h
  cases hi : E.ty t with
  | none => rw [hi] at h; cases h
  | some i =>
    rw [hi] at h
    cases hp : a.asPtr with
    | none => rw [hp] at h; cases h
    | some p =>
      rw [hp] at h
      simp only [evLoadAt] at h
      cases hb : isAggD i.u with
      | false => rw [hb] at h; exact (vm_some h).2
      | true =>
        rw [hb] at h
        simp only [aggR] at h
        cases hq : takeCells m p.1 p.2 i.size with
        | none => rw [hq] at h; cases h
        | some l => rw [hq] at h; cases h; rfl
theorem evLookup_same {t : Nat} {x k r : AV} {ok : Bool} (h : evLookup E t x k ok m = some (r, m')) : m' = m := by
  unfold evLookup lookR at h
  repeat' split at h
  all_goals first | (cases h; done) | (cases h; rfl)
theorem evMapUpdate_next {t : Nat} {x k y r : AV} (h : evMapUpdate E t x k y m = some (r, m')) : m'.next = m.next := by
  unfold evMapUpdate putMapR at h
  repeat' split at h
  all_goals first | (cases h; done) | (cases h; rfl)
theorem evDelete_next {t : Nat} {x k r : AV} (h : evDelete E t x k m = some (r, m')) : m'.next = m.next := by
  unfold evDelete putMapR at h
  repeat' split at h
  all_goals first | (cases h; done) | (cases h; rfl)
theorem evClear_next {t : Nat} {x r : AV} (h : evClear E t x m = some (r, m')) : m'.next = m.next := by
  unfold evClear at h
  repeat' split at h
  all_goals first | (cases h; done) | (cases h; rfl) | (rename_i hp; cases h; exact putCells_next hp)
theorem evAppend_next {es bytes n : Nat} {x r : AV} {new : List AV} (h : evAppend m es bytes x n new = some (r, m')) : m.next ≤ m'.next := by
  unfold evAppend at h
  repeat' split at h
  all_goals first | (cases h; done) | (cases h; exact Nat.le_refl _) | (cases h; simp; done) | (rename_i hp; cases h; exact Nat.le_of_eq (putCells_next hp).symm)
theorem evAppendOp_next {ts : List Nat} {x y r : AV} (h : evAppendOp E ts x y m = some (r, m')) : m.next ≤ m'.next := by
  unfold evAppendOp appZeros appCells at h
  repeat' split at h
  all_goals first | (cases h; done) | exact evAppend_next h
theorem evCopy_next {es : Nat} {d s r : AV} (h : evCopy m es d s = some (r, m')) : m'.next = m.next := by
  unfold evCopy copyTo at h
  repeat' split at h
  all_goals first | (cases h; done) | (cases h; rfl) | (rename_i hp; cases h; exact putCells_next hp)
theorem evLen_same {t : Nat} {x r : AV} (h : evLen E t x m = some (r, m')) : m' = m := by
  unfold evLen at h
  repeat' split at h
  all_goals first | (cases h; done) | (cases h; rfl)
theorem evCap_same {t : Nat} {x r : AV} (h : evCap E t x m = some (r, m')) : m' = m := by
  unfold evCap at h
  repeat' split at h
  all_goals first | (cases h; done) | (cases h; rfl)
theorem evBuiltin_next {b : Builtin} {ts : List Nat} {args : List AV} {r : AV} (h : evBuiltin E b ts args m = some (r, m')) : m.next ≤ m'.next := by
  unfold evBuiltin at h
  split at h
  · exact Nat.le_of_eq (by rw [evLen_same h])
  · exact Nat.le_of_eq (by rw [evCap_same h])
  · exact evAppendOp_next h
  · repeat' split at h
    all_goals first | (cases h; done) | exact Nat.le_of_eq (evCopy_next h).symm
  · exact Nat.le_of_eq (by rw [(vm_some h).2])
  · exact Nat.le_of_eq (by rw [(vm_some h).2])
  · exact Nat.le_of_eq (evDelete_next h).symm
  · exact Nat.le_of_eq (evClear_next h).symm
  · cases h

def CallMono (call : CallF) : Prop := ∀ t args m r m', call t args m = some (r, m') → m.next ≤ m'.next

/-- an operation that is no effect: it leaves the memory, or lays one block; and what it does hangs on the memory only if it reads -/
structure Quiet (E : Env) (call : CallF) (op : Op) (tm : Tr AV) (m : AMem) (v : AV) (m' : AMem) : Prop where
  ok : (m' = m ∧ (readOp op = false → ∀ m₁, evOp E call op tm m₁ = some (v, m₁))) ∨ (readOp op = true ∧ ∃ b, m' = m.add b ∧ ∀ m₁ : AMem, m₁.next = m.next → evOp E call op tm m₁ = some (v, m₁.add b))

theorem evAlloc_quiet {t : Nat} {r : AV} (h : evAlloc E t m = some (r, m')) : ∃ b, m' = m.add b ∧ ∀ m₁ : AMem, m₁.next = m.next → evAlloc E t m₁ = some (r, m₁.add b) := by
  unfold evAlloc at h
  repeat' split at h
  all_goals first | (cases h; done) | skip
  all_goals
    cases h
    refine ⟨_, rfl, fun m₁ e => ?_⟩
    unfold evAlloc
    simp_all [newRowC]
theorem evBox_quiet {x r : AV} (h : evBox x m = some (r, m')) : ∃ b, m' = m.add b ∧ ∀ m₁ : AMem, m₁.next = m.next → evBox x m₁ = some (r, m₁.add b) := by
  unfold evBox at h
  repeat' split at h
  all_goals first | (cases h; done) | skip
  all_goals
    cases h
    refine ⟨_, rfl, fun m₁ e => ?_⟩
    unfold evBox
    simp_all [newRowC]
theorem evBuildSlice_quiet {t len : Nat} {ps : List (Nat × AV)} {r : AV} (h : evBuildSlice E t len ps m = some (r, m')) : ∃ b, m' = m.add b ∧ ∀ m₁ : AMem, m₁.next = m.next → evBuildSlice E t len ps m₁ = some (r, m₁.add b) := by
  unfold evBuildSlice at h
  repeat' split at h
  all_goals first | (cases h; done) | skip
  all_goals
    cases h
    refine ⟨_, rfl, fun m₁ e => ?_⟩
    unfold evBuildSlice
    simp_all [newRowC]
theorem evMakeSlice_quiet {t : Nat} {a b r : AV} (h : evMakeSlice E t a b m = some (r, m')) : ∃ b', m' = m.add b' ∧ ∀ m₁ : AMem, m₁.next = m.next → evMakeSlice E t a b m₁ = some (r, m₁.add b') := by
  unfold evMakeSlice at h
  repeat' split at h
  all_goals first | (cases h; done) | skip
  all_goals
    cases h
    refine ⟨_, rfl, fun m₁ e => ?_⟩
    unfold evMakeSlice
    simp_all
theorem evConvert_quiet {s d : Nat} {x r : AV} (h : evConvert E s d x m = some (r, m')) : m' = m ∨ ∃ b, m' = m.add b ∧ ∀ m₁ : AMem, m₁.next = m.next → evConvert E s d x m₁ = some (r, m₁.add b) := by
  unfold evConvert at h
  repeat' split at h
  all_goals first | (cases h; done) | (left; cases h; rfl) | skip
  all_goals
    right
    cases h
    refine ⟨_, rfl, fun m₁ e => ?_⟩
    unfold evConvert
    simp_all

theorem quiet_of {op : Op} {v : AV} (he : effectOp op = false) (h : evOp E call op tm m = some (v, m')) : Quiet E call op tm m v m' := by
  have pure1 : m' = m → (∀ m₁, evOp E call op tm m₁ = some (v, m₁)) → Quiet E call op tm m v m' := fun h1 h2 => ⟨.inl ⟨h1, fun _ => h2⟩⟩
  have read1 : m' = m → readOp op = true → Quiet E call op tm m v m' := fun h1 h2 => ⟨.inl ⟨h1, fun h3 => by rw [h2] at h3; cases h3⟩⟩
  have vmq : ∀ {q : Option AV}, vm m q = some (v, m') → ∀ m₁, vm m₁ q = some (v, m₁) := by
    intro q hq m₁; obtain ⟨rfl, rfl⟩ := vm_some hq; rfl
  unfold evOp at h
  cases op with
  | store | mapUpdate | insert => cases he
  | move x => exact pure1 (vm_some h).2 (vmq h)
  | assign x => exact pure1 (vm_some h).2 (vmq h)
  | pick c x y => exact pure1 (vm_some h).2 (vmq h)
  | alloc t =>
    obtain ⟨b, h1, h2⟩ := evAlloc_quiet h
    exact ⟨.inr ⟨rfl, b, h1, h2⟩⟩
  | box t x =>
    obtain ⟨y, hy, h⟩ := on1_some h
    obtain ⟨b, h1, h2⟩ := evBox_quiet h
    refine ⟨.inr ⟨rfl, b, h1, fun m₁ e => ?_⟩⟩
    show on1 (rd tm x) _ = _
    rw [hy]; exact h2 m₁ e
  | build t ps =>
    simp only [evOpF, opBuild] at h
    split at h
    · rename_i l hl
      refine pure1 (vm_some h).2 fun m₁ => ?_
      show opBuild t ps E call tm m₁ = _
      simp only [opBuild, hl]; exact vmq h m₁
    · cases h
  | buildSlice t n ps =>
    simp only [evOpF, opBuildSlice] at h
    split at h
    · rename_i l hl
      obtain ⟨b, h1, h2⟩ := evBuildSlice_quiet h
      refine ⟨.inr ⟨rfl, b, h1, fun m₁ e => ?_⟩⟩
      show opBuildSlice t n ps E call tm m₁ = _
      simp only [opBuildSlice, hl]; exact h2 m₁ e
    · cases h
  | load t x =>
    obtain ⟨y, hy, h⟩ := on1_some h
    exact read1 (evLoad_same h) rfl
  | nilCheck x =>
    obtain ⟨y, hy, h⟩ := on1_some h
    refine pure1 (vm_some h).2 fun m₁ => ?_
    show on1 (rd tm x) _ = _
    rw [hy]; exact vmq h m₁
  | binOp op t x y t' =>
    obtain ⟨b, c, hb, hc, h⟩ := on2_some h
    refine pure1 (vm_some h).2 fun m₁ => ?_
    show on2 (rd tm x) (rd tm y) _ = _
    rw [hb, hc]; exact vmq h m₁
  | unOp op t x =>
    obtain ⟨y, hy, h⟩ := on1_some h
    refine pure1 (vm_some h).2 fun m₁ => ?_
    show on1 (rd tm x) _ = _
    rw [hy]; exact vmq h m₁
  | convert s d x =>
    obtain ⟨y, hy, h⟩ := on1_some h
    rcases evConvert_quiet h with h1 | ⟨b, h1, h2⟩
    · exact read1 h1 rfl
    · refine ⟨.inr ⟨rfl, b, h1, fun m₁ e => ?_⟩⟩
      show on1 (rd tm x) _ = _
      rw [hy]; exact h2 m₁ e
  | sliceToArrayPointer t x =>
    obtain ⟨y, hy, h⟩ := on1_some h
    refine pure1 (vm_some h).2 fun m₁ => ?_
    show on1 (rd tm x) _ = _
    rw [hy]; exact vmq h m₁
  | makeInterface t x =>
    obtain ⟨y, hy, h⟩ := on1_some h
    split at h
    · cases h
    · rename_i hif
      obtain ⟨rfl, rfl⟩ := Prod.mk.inj (Option.some.inj h)
      refine pure1 rfl fun m₁ => ?_
      show on1 (rd tm x) _ = _
      rw [hy]; exact if_neg hif
  | makeFunc fn first captured => exact pure1 (vm_some h).2 (vmq h)
  | makeMap t r =>
    cases r with
    | some x => cases h
    | none =>
      obtain ⟨rfl, rfl⟩ := Prod.mk.inj (Option.some.inj h)
      exact ⟨.inr ⟨rfl, _, rfl, fun m₁ e => by show some (AV.map m₁.next, _) = _; rw [e]⟩⟩
  | makeSlice t x y =>
    obtain ⟨b, c, hb, hc, h⟩ := on2_some h
    obtain ⟨b', h1, h2⟩ := evMakeSlice_quiet h
    refine ⟨.inr ⟨rfl, b', h1, fun m₁ e => ?_⟩⟩
    show on2 (rd tm x) (rd tm y) _ = _
    rw [hb, hc]; exact h2 m₁ e
  | slice t x lo hi mx =>
    obtain ⟨y, hy, h⟩ := on1_some h
    split at h
    · exact read1 (vm_some h).2 rfl
    · cases h
  | fieldAddr t x j =>
    obtain ⟨y, hy, h⟩ := on1_some h
    refine pure1 (vm_some h).2 fun m₁ => ?_
    show on1 (rd tm x) _ = _
    rw [hy]; exact vmq h m₁
  | field t x j =>
    obtain ⟨y, hy, h⟩ := on1_some h
    refine pure1 (vm_some h).2 fun m₁ => ?_
    show on1 (rd tm x) _ = _
    rw [hy]; exact vmq h m₁
  | indexAddr t x ix =>
    obtain ⟨b, hb, h⟩ := on1_some h
    obtain ⟨k, n, hn, h⟩ := onNat_some h
    refine pure1 (vm_some h).2 fun m₁ => ?_
    show on1 (rd tm x) _ = _
    rw [hb]
    show onNat (rd tm ix) _ = _
    rw [hn]; exact vmq h m₁
  | index t x ix =>
    obtain ⟨b, hb, h⟩ := on1_some h
    obtain ⟨k, n, hn, h⟩ := onNat_some h
    refine pure1 (vm_some h).2 fun m₁ => ?_
    show on1 (rd tm x) _ = _
    rw [hb]
    show onNat (rd tm ix) _ = _
    rw [hn]; exact vmq h m₁
  | lookup t x k ok =>
    obtain ⟨b, c, hb, hc, h⟩ := on2_some h
    exact read1 (evLookup_same h) rfl
  | typeAssert x s t ok =>
    obtain ⟨y, hy, h⟩ := on1_some h
    refine pure1 (vm_some h).2 fun m₁ => ?_
    show on1 (rd tm x) _ = _
    rw [hy]; exact vmq h m₁
  | extract x i =>
    obtain ⟨y, hy, h⟩ := on1_some h
    refine pure1 (vm_some h).2 fun m₁ => ?_
    show on1 (rd tm x) _ = _
    rw [hy]; exact vmq h m₁
  | call c =>
    have h0 : evCallOp E call c tm m = some (v, m') := h
    unfold evCallOp at h0
    split at h0
    · rename_i args hargs
      split at h0
      · rename_i f hc; simp [effectOp, hc] at he
      · rename_i x name hc; simp [effectOp, hc] at he
      · rename_i b hc
        have hev : ∀ m₁, evOp E call (.call c) tm m₁ = evBuiltin E b c.argTypes.toList args m₁ := by
          intro m₁
          show evCallOp E call c tm m₁ = _
          unfold evCallOp
          rw [hargs, hc]
        simp only [effectOp, hc] at he
        unfold evBuiltin at h0
        split at h0
        · exact read1 (evLen_same h0) (by simp [readOp, hc])
        · rename_i x t rest hts
          refine pure1 (evCap_same h0) fun m₁ => ?_
          rw [hev]
          unfold evBuiltin
          rw [hts]
          show evCap E t x m₁ = _
          revert h0
          unfold evCap
          repeat' split
          all_goals (intro h0; first | (cases h0; done) | (cases h0; rfl))
        · cases he
        · cases he
        · refine pure1 (vm_some h0).2 fun m₁ => ?_
          rw [hev]
          simp only [evBuiltin]
          exact vmq h0 m₁
        · refine pure1 (vm_some h0).2 fun m₁ => ?_
          rw [hev]
          simp only [evBuiltin]
          exact vmq h0 m₁
        · cases he
        · cases he
        · cases h0
    · cases h0
  | _ => cases h

theorem evOp_next (hc : CallMono call) {op : Op} {v : AV} (h : evOp E call op tm m = some (v, m')) : m.next ≤ m'.next := by
  cases he : effectOp op with
  | false =>
    rcases (quiet_of he h).ok with ⟨rfl, _⟩ | ⟨_, b, rfl, _⟩
    · exact Nat.le_refl _
    · simp
  | true =>
    unfold evOp at h
    cases op with
    | store t x y =>
      obtain ⟨b, c, _, _, h⟩ := on2_some h
      exact Nat.le_of_eq (evStore_next h).symm
    | insert t x k y =>
      obtain ⟨b, c, _, _, h⟩ := on2_some h
      obtain ⟨d, _, h⟩ := on1_some h
      exact Nat.le_of_eq (evMapUpdate_next h).symm
    | mapUpdate t x k y =>
      obtain ⟨b, c, _, _, h⟩ := on2_some h
      obtain ⟨d, _, h⟩ := on1_some h
      exact Nat.le_of_eq (evMapUpdate_next h).symm
    | call c =>
      have h0 : evCallOp E call c tm m = some (v, m') := h
      unfold evCallOp at h0
      repeat' split at h0
      all_goals first | (cases h0; done) | exact hc _ _ _ _ _ h0 | exact evBuiltin_next h0
    | _ => cases he
end
end Ev

/-
  The evaluator's numbers grow.
-/
namespace Ev
open Go

section
variable {E : Env} {call : CallF}

theorem evOpsF_cons {o : Oper} {l : List Oper} {ops : Array Oper} {s s' : St} (h : evOpsF (o :: l) E call ops s = some s') :
    (wanted ops s.tm o = false ∧ evOpsF l E call ops ⟨setDst s.tm o.dst .undef, s.mem⟩ = some s') ∨
    (wanted ops s.tm o = true ∧ ∃ v m, evOp E call o.op s.tm s.mem = some (v, m) ∧ evOpsF l E call ops ⟨setDst s.tm o.dst v, m⟩ = some s') := by
  obtain ⟨tm, m⟩ := s
  have h : opsG o (evOpsF l) E call ops tm m (wanted ops tm o) = some s' := h
  cases hw : wanted ops tm o with
  | false => rw [hw] at h; exact .inl ⟨rfl, h⟩
  | true =>
    rw [hw] at h
    right
    refine ⟨rfl, ?_⟩
    have h : opsK (evOpsF l) o.dst tm E call ops (evOp E call o.op tm m) = some s' := h
    cases he : evOp E call o.op tm m with
    | none => rw [he] at h; cases h
    | some p => rw [he] at h; exact ⟨p.1, p.2, rfl, h⟩

theorem evOps_next (hc : CallMono call) (ops : Array Oper) : ∀ (l : List Oper) (s s' : St), evOpsF l E call ops s = some s' → s.mem.next ≤ s'.mem.next
  | [], s, s', h => by cases h; exact Nat.le_refl _
  | o :: l, s, s', h => by
    rcases evOpsF_cons h with ⟨_, h⟩ | ⟨_, v, m, h1, h2⟩
    · have := evOps_next hc ops l _ _ h
      exact this
    · have := evOps_next hc ops l _ _ h2
      exact Nat.le_trans (evOp_next hc h1) this

theorem evDraw_next (hc : CallMono call) (ops : Array Oper) (lr : List (Nat × List Nat)) : ∀ (l : List Nat) (s : St) (sn : Snaps) (p : St × Snaps), evDraw E call ops lr l s sn = some p → s.mem.next ≤ p.1.mem.next
  | [], s, sn, p, h => by cases h; exact Nat.le_refl _
  | i :: l, s, sn, p, h => by
    simp only [evDraw] at h
    split at h
    · cases h
    · split at h
      · have := evDraw_next hc ops lr l _ _ _ h
        exact this
      · split at h
        · rename_i v m hv
          split at h
          · have := evDraw_next hc ops lr l _ _ _ h
            exact Nat.le_trans (evOp_next hc hv) this
          · cases h
        · cases h

theorem evRegion_next (hc : CallMono call) {ops : Array Oper} {draw : Bool} {s s' : St} (h : evRegion E call ops draw s = some s') : s.mem.next ≤ s'.mem.next := by
  unfold evRegion at h
  split at h
  · exact evOps_next hc ops _ _ _ h
  · split at h
    · split at h
      · rename_i hd
        split at h
        · cases h; exact evDraw_next hc ops _ _ _ _ _ hd
        · cases h
      · cases h
    · cases h

theorem evCodeF_seq (x y : Code) (fuel : Nat) (s : St) : evCodeF (.seq x y) E call fuel s = cdSeq (evCodeF x) (evCodeF y) E call fuel s := rfl
theorem seq_some {x y : Code} {fuel : Nat} {s s' : St} {ex : Ex} (h : evCodeF (.seq x y) E call fuel s = some (ex, s')) :
    (∃ s₁, evCodeF x E call fuel s = some (.normal, s₁) ∧ evCodeF y E call fuel s₁ = some (ex, s')) ∨ (ex ≠ .normal ∧ evCodeF x E call fuel s = some (ex, s')) := by
  have h : cdSeq (evCodeF x) (evCodeF y) E call fuel s = some (ex, s') := h
  unfold cdSeq at h
  cases h1 : evCodeF x E call fuel s with
  | none => rw [h1] at h; cases h
  | some p =>
    obtain ⟨e₁, s₁⟩ := p
    rw [h1] at h
    cases e₁ with
    | normal => exact .inl ⟨s₁, rfl, h⟩
    | exit id => cases h; exact .inr ⟨(by intro h; cases h), rfl⟩
    | ret => cases h; exact .inr ⟨(by intro h; cases h), rfl⟩
theorem cond_some {c : Operand} {x y : Code} {fuel : Nat} {s s' : St} {ex : Ex} (h : evCodeF (.cond c x y) E call fuel s = some (ex, s')) :
    ∃ b, rd s.tm c = some (.bool b) ∧ evCodeF (if b then x else y) E call fuel s = some (ex, s') := by
  have h : cdCond c (evCodeF x) (evCodeF y) E call fuel s = some (ex, s') := h
  unfold cdCond boolOf at h
  cases h1 : rd s.tm c with
  | none => rw [h1] at h; cases h
  | some a =>
    rw [h1] at h
    cases h2 : a.asBool with
    | none => simp only [h2] at h; cases h
    | some b =>
      have := asBool_eq h2; subst this
      simp only [h2] at h
      refine ⟨b, rfl, ?_⟩
      cases b with
      | true => exact h
      | false => exact h
theorem region_some {id : Nat} {ops : Array Oper} {draw : Bool} {fuel : Nat} {s s' : St} {ex : Ex} (h : evCodeF (.region id ops draw) E call fuel s = some (ex, s')) :
    ex = .normal ∧ evRegion E call ops draw s = some s' := by
  have h : cdRegion ops draw E call fuel s = some (ex, s') := h
  unfold cdRegion at h
  cases h1 : evRegion E call ops draw s with
  | none => rw [h1] at h; cases h
  | some s₁ => rw [h1] at h; cases h; exact ⟨rfl, rfl⟩
theorem block_some {id : Nat} {c : Code} {fuel : Nat} {s s' : St} {ex : Ex} (h : evCodeF (.block id c) E call fuel s = some (ex, s')) :
    ∃ e₁, evCodeF c E call fuel s = some (e₁, s') ∧ (e₁ = .exit id ∧ ex = .normal ∨ e₁ ≠ .exit id ∧ ex = e₁) := by
  have h : inBlock id (evCodeF c E call fuel s) = some (ex, s') := h
  cases h1 : evCodeF c E call fuel s with
  | none => rw [h1] at h; cases h
  | some p =>
    obtain ⟨e₁, s₁⟩ := p
    rw [h1] at h
    cases e₁ with
    | normal => cases h; exact ⟨_, rfl, .inr ⟨(by intro h; cases h), rfl⟩⟩
    | ret => cases h; exact ⟨_, rfl, .inr ⟨(by intro h; cases h), rfl⟩⟩
    | exit j =>
      simp only [inBlock] at h
      split at h
      · rename_i hj
        have hj : j = id := Nat.eq_of_beq_eq_true hj
        cases h; exact ⟨_, rfl, .inl ⟨by rw [hj], rfl⟩⟩
      · rename_i hj
        cases h; exact ⟨_, rfl, .inr ⟨(by intro h; cases h; exact hj (Nat.beq_refl _)), rfl⟩⟩
theorem loopF_succ {f : St → Option (Ex × St)} {n : Nat} {s s' : St} {ex : Ex} (h : loopF (n + 1) f s = some (ex, s')) :
    (∃ s₁, f s = some (.normal, s₁) ∧ loopF n f s₁ = some (ex, s')) ∨ (ex ≠ .normal ∧ f s = some (ex, s')) := by
  have h : (Option.casesOn (motive := fun _ => Option (Ex × St)) (f s) none fun x => Prod.casesOn (motive := fun _ => Option (Ex × St)) x fun ex s => loopK (loopF n) f ex s) = some (ex, s') := h
  cases h1 : f s with
  | none => rw [h1] at h; cases h
  | some p =>
    obtain ⟨e₁, s₁⟩ := p
    rw [h1] at h
    cases e₁ with
    | normal => exact .inl ⟨s₁, rfl, h⟩
    | exit id => cases h; exact .inr ⟨(by intro h; cases h), rfl⟩
    | ret => cases h; exact .inr ⟨(by intro h; cases h), rfl⟩
theorem loop_some {c : Code} {fuel : Nat} {s : St} : evCodeF (.loop c) E call fuel s = loopF fuel (evCodeF c E call fuel) s := rfl
theorem range_some {g : Operand} {ps : Array Tmp} {x y : Code} {fuel : Nat} {s s' : St} {ex : Ex} (h : evCodeF (.rangeFunc g ps x y) E call fuel s = some (ex, s')) :
    ∃ f first captured r m' st pend tm qs asg bd, rd s.tm g = some (.func f first captured) ∧ hasBody E f = true ∧
      call (.fn f) (first ++ .yieldf s.mem.next :: captured) (s.mem.add (.loop .ready none s.tm ps.toList x y)) = some (r, m') ∧
      m'.get s.mem.next = some (.loop st pend tm qs asg bd) ∧ st ≠ .busy ∧ ex = pend.getD .normal ∧ s' = ⟨s.tm, m'.put s.mem.next (.loop .exhausted pend tm qs asg bd)⟩ := by
  have h : evRange E call (rd s.tm g) ps.toList x y s = some (ex, s') := h
  unfold evRange at h
  split at h
  · rename_i f first captured hg
    split at h
    · rename_i hbd
      split at h
      · rename_i r m' hcall
        split at h
        · rename_i st pend tm qs asg bd hget
          split at h
          · cases h
          · rename_i hst
            cases h
            exact ⟨f, first, captured, r, m', st, pend, tm, qs, asg, bd, hg, hbd, hcall, hget, hst, rfl, rfl⟩
        · cases h
      · cases h
    · cases h
  · cases h

theorem evCode_next (hc : CallMono call) : ∀ (c : Code) (fuel : Nat) (s s' : St) (ex : Ex), evCodeF c E call fuel s = some (ex, s') → s.mem.next ≤ s'.mem.next := by
  intro c
  induction c with
  | skip => intro fuel s s' ex h; cases h; exact Nat.le_refl _
  | exit id => intro fuel s s' ex h; cases h; exact Nat.le_refl _
  | ret => intro fuel s s' ex h; cases h; exact Nat.le_refl _
  | region id ops draw => intro fuel s s' ex h; exact evRegion_next hc (region_some h).2
  | seq x y ihx ihy =>
    intro fuel s s' ex h
    rcases seq_some h with ⟨s₁, h1, h2⟩ | ⟨_, h1⟩
    · exact Nat.le_trans (ihx _ _ _ _ h1) (ihy _ _ _ _ h2)
    · exact ihx _ _ _ _ h1
  | cond c x y ihx ihy =>
    intro fuel s s' ex h
    obtain ⟨b, _, h⟩ := cond_some h
    cases b with
    | true => exact ihx _ _ _ _ h
    | false => exact ihy _ _ _ _ h
  | block id c ih =>
    intro fuel s s' ex h
    obtain ⟨e₁, h, _⟩ := block_some h
    exact ih _ _ _ _ h
  | loop c ih =>
    intro fuel s s' ex h
    rw [loop_some] at h
    have key : ∀ n s s' ex, loopF n (evCodeF c E call fuel) s = some (ex, s') → s.mem.next ≤ s'.mem.next := by
      intro n
      induction n with
      | zero => intro s s' ex h; cases h
      | succ n ihn =>
        intro s s' ex h
        rcases loopF_succ h with ⟨s₁, h1, h2⟩ | ⟨_, h1⟩
        · exact Nat.le_trans (ih _ _ _ _ h1) (ihn _ _ _ h2)
        · exact ih _ _ _ _ h1
    exact key _ _ _ _ h
  | rangeFunc g ps x y ihx ihy =>
    intro fuel s s' ex h
    obtain ⟨f, first, captured, r, m', st, pend, tm, qs, asg, bd, _, _, hcall, _, _, _, rfl⟩ := range_some h
    have := hc _ _ _ _ _ hcall
    simp only [AMem.add_next, AMem.put_next] at this ⊢
    omega
  | _ => intro fuel s s' ex h; cases h

theorem evLeave_same {fn : Func} {s : St} {r : AV} {m : AMem} (h : evLeave E fn s = some (r, m)) : m = s.mem := by
  unfold evLeave at h
  split at h
  · cases h; rfl
  · cases h; rfl
  · cases h

/-- what was asked of a call's answer -/
theorem fn_some {n f : Nat} {args : List AV} {m m' : AMem} {r : AV} (h : evCall E (n + 1) (.fn f) args m = some (r, m')) :
    (∃ o, E.orc f = some o ∧ o args m = some (r, m')) ∨
    (∃ fn body ex s, E.fn f = some fn ∧ fn.body = some body ∧ args.length ≤ fn.ntmps ∧ evCode E (evCall E n) n body ⟨initTm args 0 .nil, m⟩ = some (ex, s) ∧ (∀ id, ex ≠ .exit id) ∧ evLeave E fn s = some (r, m')) := by
  simp only [evCall] at h
  split at h
  · rename_i o ho; exact .inl ⟨o, ho, h⟩
  · right
    split at h
    · cases h
    · rename_i fn hfn
      split at h
      · cases h
      · rename_i body hb
        split at h
        · rename_i hok
          split at h
          · cases h
          · rename_i ex s hne hev
            exact ⟨fn, body, ex, s, hfn, hb, Nat.le_of_ble_eq_true hok, hev, fun id e => hne id e, h⟩
          · cases h
        · cases h

theorem round_some {n l : Nat} {args : List AV} {m m' : AMem} {r : AV} (h : evCall E (n + 1) (.yield l) args m = some (r, m')) :
    ∃ st pend tm ps asg bd s pend' tm' ps' asg' bd' ex s₂ st₃ pend₃ tm₃ ps₃ asg₃ bd₃, m.get l = some (.loop st pend tm ps asg bd) ∧ args.length = ps.length ∧
      evCode E (evCall E n) n asg ⟨setPs ps args tm, m⟩ = some (.normal, s) ∧ s.mem.get l = some (.loop .ready pend' tm' ps' asg' bd') ∧
      evCode E (evCall E n) n bd ⟨s.tm, s.mem.put l (.loop .busy pend' tm' ps' asg' bd')⟩ = some (ex, s₂) ∧ s₂.mem.get l = some (.loop st₃ pend₃ tm₃ ps₃ asg₃ bd₃) ∧
      (ex = .normal ∧ r = .bool true ∧ m' = s₂.mem.put l (.loop .ready none tm₃ ps₃ asg₃ bd₃) ∨ ex ≠ .normal ∧ r = .bool false ∧ m' = s₂.mem.put l (.loop .done (some ex) tm₃ ps₃ asg₃ bd₃)) := by
  simp only [evCall, evRound] at h
  split at h
  · rename_i st pend tm ps asg bd hg
    split at h
    · rename_i hl
      have hl := Nat.eq_of_beq_eq_true hl
      split at h
      · rename_i s hs
        split at h
        · rename_i pend' tm' ps' asg' bd' hg'
          unfold endRound at h
          split at h
          · rename_i ex s₂ hs₂
            split at h
            · rename_i st₃ pend₃ tm₃ ps₃ asg₃ bd₃ hg₃
              refine ⟨st, pend, tm, ps, asg, bd, s, pend', tm', ps', asg', bd', ex, s₂, st₃, pend₃, tm₃, ps₃, asg₃, bd₃, hg, hl, hs, hg', hs₂, hg₃, ?_⟩
              split at h
              · cases h; exact .inl ⟨rfl, rfl, rfl⟩
              · rename_i hne; cases h; exact .inr ⟨hne, rfl, rfl⟩
            · cases h
          · cases h
        · cases h
      · cases h
    · cases h
  · cases h

theorem evCall_mono (ho : ∀ f o, E.orc f = some o → ∀ args m r m', o args m = some (r, m') → m.next ≤ m'.next) : ∀ n, CallMono (evCall E n)
  | 0, _, _, _, _, _, h => by cases h
  | n + 1, t, args, m, r, m', h => by
    cases t with
    | fn f =>
      rcases fn_some h with ⟨o, h1, h2⟩ | ⟨fn, body, ex, s, _, _, _, h1, _, h2⟩
      · exact ho f o h1 _ _ _ _ h2
      · have := evCode_next (evCall_mono ho n) body n _ _ _ h1
        rw [evLeave_same h2]; exact this
    | yield l =>
      obtain ⟨st, pend, tm, ps, asg, bd, s, pend', tm', ps', asg', bd', ex, s₂, st₃, pend₃, tm₃, ps₃, asg₃, bd₃, _, _, h1, _, h2, _, h3⟩ := round_some h
      have a1 := evCode_next (evCall_mono ho n) asg n _ _ _ h1
      have a2 := evCode_next (evCall_mono ho n) bd n _ _ _ h2
      simp only [AMem.put_next] at a2
      rcases h3 with ⟨_, _, rfl⟩ | ⟨_, _, rfl⟩ <;> simp only [AMem.put_next] <;> exact Nat.le_trans a1 a2
end
end Ev

/-
  Steps of an activation; operations one behind the other.
-/
namespace Ev
open Go

/-- the marks that loops over functions leave among an activation's deferred calls -/
def Marks (μ : Mu) (m : AMem) (w : World) (lo : Nat) (ds : List Deferred) : Prop :=
  (∀ d ∈ ds, ∃ r, d = ⟨.collected r, #[]⟩ ∧ lo ≤ r ∧ w.heap[r]? = some (.deferred (some [])) ∧ ¬ Owned μ m r) ∧ ds.Nodup

theorem Marks.nil {μ : Mu} {m : AMem} {w : World} {lo : Nat} : Marks μ m w lo [] := ⟨fun _ h => (by cases h), List.nodup_nil⟩
theorem Marks.step {μ μ' : Mu} {m m' : AMem} {w w' : World} {lo : Nat} {ds : List Deferred} (h : Marks μ m w lo ds) (hs : Step μ m w μ' m' w') : Marks μ' m' w' lo ds := by
  refine ⟨fun d hd => ?_, h.2⟩
  obtain ⟨r, h1, h2, h3, h4⟩ := h.1 d hd
  have hlt : r < w.heap.size := (Array.getElem?_eq_some_iff.1 h3).1
  exact ⟨r, h1, h2, by rw [hs.frame r hlt h4]; exact h3, fun ho => h4 (hs.own r ho hlt)⟩
theorem Marks.append {μ : Mu} {m : AMem} {w : World} {lo mid : Nat} {ds ds' : List Deferred} (h : Marks μ m w lo ds) (h' : Marks μ m w mid ds') (hle : lo ≤ mid) (hlt : ∀ d ∈ ds, ∃ r, d = ⟨.collected r, #[]⟩ ∧ r < mid) :
    Marks μ m w lo (ds' ++ ds) := by
  refine ⟨fun d hd => ?_, ?_⟩
  · rcases List.mem_append.1 hd with hd | hd
    · obtain ⟨r, h1, h2, h3⟩ := h'.1 d hd; exact ⟨r, h1, by omega, h3⟩
    · exact h.1 d hd
  · refine List.nodup_append.2 ⟨h'.2, h.2, fun d hd e he hde => ?_⟩
    subst hde
    obtain ⟨r, h1, h2, _⟩ := h'.1 d hd
    obtain ⟨r', h3, h4⟩ := hlt d he
    rw [h1] at h3
    simp only [Deferred.mk.injEq, Target.collected.injEq, and_true] at h3
    omega

structure SStep (μ : Mu) (s : St) (a : Act) (w : World) (μ' : Mu) (s' : St) (a' : Act) (w' : World) : Prop where
  tm : TRel μ' s'.tm a'.tmps
  step : Step μ s.mem w μ' s'.mem w'
  size : a'.tmps.size = a.tmps.size
  marks : ∃ ds, a'.defers = ds ++ a.defers ∧ Marks μ' s'.mem w' w.heap.size ds

section
variable {μ μ₁ μ₂ : Mu} {s s₁ s₂ : St} {a a₁ a₂ : Act} {w w₁ w₂ : World}

theorem SStep.refl (hr : Rep μ s.mem w) (ht : TRel μ s.tm a.tmps) : SStep μ s a w μ s a w := ⟨ht, Step.refl hr, rfl, [], rfl, Marks.nil⟩
theorem SStep.trans (h : SStep μ s a w μ₁ s₁ a₁ w₁) (h' : SStep μ₁ s₁ a₁ w₁ μ₂ s₂ a₂ w₂) : SStep μ s a w μ₂ s₂ a₂ w₂ where
  tm := h'.tm
  step := h.step.trans h'.step
  size := h'.size.trans h.size
  marks := by
    obtain ⟨ds, h1, h2⟩ := h.marks
    obtain ⟨ds', h3, h4⟩ := h'.marks
    refine ⟨ds' ++ ds, by rw [h3, h1, List.append_assoc], (h2.step h'.step).append h4 h.step.size fun d hd => ?_⟩
    obtain ⟨r, e, _, e3, _⟩ := h2.1 d hd
    exact ⟨r, e, (Array.getElem?_eq_some_iff.1 e3).1⟩

theorem setDst_rel {tm : Tr AV} {tmps : Array Value} {d : Option Nat} {v : AV} {x : Value} (ht : TRel μ tm tmps) (hv : VRel μ v x) (hd : ∀ k, d = some k → k < tmps.size) :
    TRel μ (setDst tm d v) (match d with | some k => tmps.setIfInBounds k x | none => tmps) := by
  cases d with
  | none => exact ht
  | some k =>
    intro t
    have hk := hd k rfl
    by_cases h : t = k
    · subst h
      simp only [setDst, Tr.get_put_same, Option.getD_some]
      have : (tmps.setIfInBounds t x).getD t undef = x := by simp [Array.getD, hk]
      rw [this]; exact hv
    · simp only [setDst]
      rw [Tr.get_put_other _ _ h]
      have : (tmps.setIfInBounds k x).getD t undef = tmps.getD t undef := by
        simp only [Array.getD_eq_getD_getElem?]
        rw [Array.getElem?_setIfInBounds_ne (Ne.symm h)]
      rw [this]; exact ht t
theorem put_size (a : Act) (d : Option Nat) (x : Value) : (a.put d x).tmps.size = a.tmps.size := by
  cases d <;> simp [Act.put]
theorem put_defers (a : Act) (d : Option Nat) (x : Value) : (a.put d x).defers = a.defers := by
  cases d <;> rfl
theorem put_rel {tm : Tr AV} {d : Option Nat} {v : AV} {x : Value} (ht : TRel μ tm a.tmps) (hv : VRel μ v x) (hd : ∀ k, d = some k → k < a.tmps.size) :
    TRel μ (setDst tm d v) (a.put d x).tmps := by
  have := setDst_rel ht hv hd
  cases d <;> exact this
theorem undef_rel : VRel μ .undef undef := ⟨[], rfl, rfl⟩

theorem not_bool {v : AV} {x : Value} (h : VRel μ v x) (hv : ∀ b, v ≠ .bool b) : ∀ b, x ≠ .bool b := by
  intro b e
  subst e
  cases v <;> simp [VRel] at h
  exact hv _ rfl

/-- whether an operation is wanted -/
theorem wanted_eq {ops : Array Oper} {tm : Tr AV} {tmps : Array Value} {o : Oper} (hg : ∀ j want oj t, o.guard = some (j, want) → ops[j]? = some oj → oj.dst = some t → VRel μ ((tm.get t).getD .undef) (tmps.getD t undef)) :
    Region.wanted o (yielded ops tmps) = wanted ops tm o := by
  unfold Region.wanted wanted
  cases hgd : o.guard with
  | none => rfl
  | some p =>
    obtain ⟨j, want⟩ := p
    simp only
    unfold yielded
    cases hj : ops[j]? with
    | none => simp
    | some oj =>
      simp only [Option.bind_some]
      cases hd : oj.dst with
      | none => simp
      | some t =>
        simp only [Option.bind_some]
        have h := hg j want oj t hgd hj hd
        have hb : ∀ b, tmps.getD t undef = .bool b → (tm.get t).getD .undef = .bool b := by
          intro b e
          rw [e] at h
          revert h
          cases (tm.get t).getD AV.undef <;> intro h <;> simp [VRel] at h
          rw [h]
        have hne_of : (∀ b, tmps.getD t undef ≠ .bool b) → ∀ b, tm.get t ≠ some (.bool b) := by
          intro hne b e
          rw [e] at h
          exact hne b h
        cases hy : tmps[t]? with
        | none =>
          have hu : tmps.getD t undef = undef := by rw [Array.getD_eq_getD_getElem?, hy]; rfl
          have hne := hne_of (by rw [hu]; intro b e; cases e)
          refine Eq.trans (b := false) rfl (Eq.symm ?_)
          split
          · rename_i b e; exact absurd e (hne b)
          · rfl
        | some x =>
          have hu : tmps.getD t undef = x := by rw [Array.getD_eq_getD_getElem?, hy]; rfl
          cases x with
          | bool b =>
            have hv := hb b hu
            have : tm.get t = some (.bool b) := by
              cases hgt : tm.get t with
              | none => rw [hgt] at hv; cases hv
              | some y => rw [hgt] at hv; exact congrArg some hv
            rw [this]
            cases b <;> cases want <;> rfl
          | _ =>
            have hne := hne_of (by rw [hu]; intro b e; cases e)
            refine Eq.trans (b := false) rfl (Eq.symm ?_)
            split
            · rename_i b e; exact absurd e (hne b)
            · rfl
end

section
variable {E : Env} {P : Program} {call : CallF} {ro : Option Nat}

theorem dst_lt {nt : Nat} {o : Oper} (h : okDst nt o = true) : ∀ k, o.dst = some k → k < nt := by
  intro k hk
  unfold okDst at h
  rw [hk] at h
  rw [blt_iff] at h; exact h

theorem ops_sound (hE : EnvOK E P) (hc : CallOK P call) (hm : CallMono call) {ops : Array Oper} {Q : Exit → Act → World → Prop} : ∀ (l : List Oper) (s s' : St) (μ : Mu) (a : Act) (w : World), evOpsF l E call ops s = some s' →
    (∀ o ∈ l, okDst a.tmps.size o = true) → Rep μ s.mem w → TRel μ s.tm a.tmps → Fresh μ s.mem.next s'.mem.next →
    (∀ μ' a' w', SStep μ s a w μ' s' a' w' → Q .normal a' w') → wpListIn (fw ro) 0 P ops Q l a w
  | [], s, s', μ, a, w, h, _, hr, ht, _, hQ => by cases h; exact hQ μ a w (SStep.refl hr ht)
  | o :: l, s, s', μ, a, w, h, hd, hr, ht, hf, hQ => by
    have hw : Region.wanted o (yielded ops a.tmps) = wanted ops s.tm o := wanted_eq fun _ _ _ t _ _ _ => ht t
    have hdo := dst_lt (hd o (List.mem_cons_self ..))
    rcases evOpsF_cons h with ⟨h1, h2⟩ | ⟨h1, v, m, h2, h3⟩
    · simp only [wpListIn, hw, h1, Bool.false_eq_true, if_false]
      refine ⟨fun _ _ => trivial, ?_⟩
      have ht1 : TRel μ (setDst s.tm o.dst .undef) (a.put o.dst undef).tmps := put_rel ht undef_rel hdo
      refine ops_sound hE hc hm l _ s' μ _ w h2 (fun o' ho' => by rw [put_size]; exact hd o' (List.mem_cons_of_mem _ ho')) hr ht1 hf fun μ' a' w' hs => hQ μ' a' w' ?_
      exact ⟨hs.tm, hs.step, by rw [hs.size, put_size], by obtain ⟨ds, e1, e2⟩ := hs.marks; exact ⟨ds, by rw [e1, put_defers], e2⟩⟩
    · simp only [wpListIn, hw, h1, if_true]
      have hn := evOps_next hm ops l _ _ h3
      have hf1 : Fresh μ s.mem.next m.next := fun id a1 a2 => hf id a1 (Nat.lt_of_lt_of_le a2 hn)
      refine op_sound hE hc h2 hr (ht.orel _) hf1 _ _ fun x w₁ ⟨μ₁, hv, hst⟩ => ?_
      have ht1 : TRel μ₁ (setDst s.tm o.dst v) (a.put o.dst x).tmps := put_rel (ht.mono hst.le) hv hdo
      refine ops_sound hE hc hm l _ s' μ₁ _ w₁ h3 (fun o' ho' => by rw [put_size]; exact hd o' (List.mem_cons_of_mem _ ho')) hst.rep ht1 (hst.fresh hf) fun μ' a' w' hs => hQ μ' a' w' ?_
      refine SStep.trans (s₁ := ⟨setDst s.tm o.dst v, m⟩) (a₁ := a.put o.dst x) ⟨ht1, hst, put_size _ _ _, [], by rw [put_defers]; rfl, Marks.nil⟩ hs
end
end Ev

/-
  The orders of a region: what always stands before what.
-/
namespace Ev
open Go

/-- what one more operation stands behind -/
def befOf (o : Oper) (g : Nat → Nat) : Nat := o.after.foldl (fun s e => if Region.binds .any e then s ||| 2 ^ e.on ||| g e.on else s) 0

theorem before_eq (ops : Array Oper) : Region.before ops = ops.toList.foldl (fun acc o => acc.push (befOf o fun k => acc.getD k 0)) #[] := by
  unfold Region.before befOf
  rw [← Array.foldl_toList]

theorem bef_fold : ∀ (l : List Oper) (acc : Array Nat), let r := l.foldl (fun acc o => acc.push (befOf o fun k => acc.getD k 0)) acc
    r.size = acc.size + l.length ∧ (∀ i, i < acc.size → r.getD i 0 = acc.getD i 0) ∧
    ∀ k o, l[k]? = some o → r.getD (acc.size + k) 0 = befOf o fun j => if j < acc.size + k then r.getD j 0 else 0
  | [], acc => by simp
  | o :: l, acc => by
    simp only [List.foldl_cons]
    obtain ⟨h1, h2, h3⟩ := bef_fold l (acc.push (befOf o fun k => acc.getD k 0))
    try simp only at h1 h2 h3
    generalize l.foldl (fun acc o => acc.push (befOf o fun k => acc.getD k 0)) (acc.push (befOf o fun k => acc.getD k 0)) = r at h1 h2 h3
    refine ⟨by rw [h1]; simp; omega, fun i hi => ?_, fun k p hp => ?_⟩
    · rw [h2 i (by simp; omega)]
      simp [Array.getD_eq_getD_getElem?, Array.getElem?_push, Nat.ne_of_lt hi]
    · cases k with
      | zero =>
        simp only [List.getElem?_cons_zero, Option.some.injEq] at hp
        subst hp
        rw [Nat.add_zero, h2 _ (by simp)]
        simp only [Array.getD_eq_getD_getElem?, Array.getElem?_push, if_true, Option.getD_some]
        congr 1
        funext j
        by_cases hj : j < acc.size
        · rw [if_pos hj]
          have := h2 j (by simp; omega)
          simp only [Array.getD_eq_getD_getElem?, Array.getElem?_push, if_neg (Nat.ne_of_lt hj)] at this
          exact this.symm
        · rw [if_neg hj]
          simp [Array.getElem?_eq_none (Nat.le_of_not_lt hj)]
      | succ k =>
        have := h3 k p (by simpa using hp)
        simp only [Array.size_push] at this
        rw [show acc.size + (k + 1) = acc.size + 1 + k by omega]
        exact this

theorem befOf_bit (o : Oper) (g : Nat → Nat) (j : Nat) : (befOf o g).testBit j = true ↔ ∃ e ∈ o.after, Region.binds .any e = true ∧ (e.on = j ∨ (g e.on).testBit j = true) := by
  unfold befOf
  rw [← Array.foldl_toList]
  have key : ∀ (l : List Edge) (s : Nat), (l.foldl (fun s e => if Region.binds .any e then s ||| 2 ^ e.on ||| g e.on else s) s).testBit j = true ↔
      s.testBit j = true ∨ ∃ e ∈ l, Region.binds .any e = true ∧ (e.on = j ∨ (g e.on).testBit j = true) := by
    intro l
    induction l with
    | nil => intro s; simp
    | cons e l ih =>
      intro s
      rw [List.foldl_cons, ih]
      by_cases hb : Region.binds .any e = true
      · simp only [hb, if_true, Nat.testBit_or, Bool.or_eq_true, Nat.testBit_two_pow, decide_eq_true_eq, List.mem_cons, exists_eq_or_imp, true_and]
        constructor
        · rintro (((h | h) | h) | h)
          · exact .inl h
          · exact .inr (.inl (.inl h))
          · exact .inr (.inl (.inr h))
          · exact .inr (.inr h)
        · rintro (h | ((h | h) | h))
          · exact .inl (.inl (.inl h))
          · exact .inl (.inl (.inr h))
          · exact .inl (.inr h)
          · exact .inr h
      · simp only [hb, List.mem_cons, exists_eq_or_imp]
        simp
  rw [key]
  simp

section
variable {ops : Array Oper}

/-- what stands before an operation, by its own edges -/
theorem bef_iff (h : (ops.toList.zipIdx.all fun (o, i) => o.after.all fun e => !Region.binds .any e || Nat.blt e.on i) = true) {i j : Nat} {o : Oper} (ho : ops[i]? = some o) :
    isBefore (Region.before ops) j i = true ↔ ∃ e ∈ o.after, Region.binds .any e = true ∧ e.on < i ∧ (e.on = j ∨ isBefore (Region.before ops) j e.on = true) := by
  have hedge : ∀ e ∈ o.after, Region.binds .any e = true → e.on < i := by
    intro e he hb
    rw [List.all_eq_true] at h
    have hi : (o, i) ∈ ops.toList.zipIdx := by
      rw [List.mem_zipIdx_iff_getElem?]
      simpa using ho
    have := h _ hi
    simp only [Array.all_eq_true_iff_forall_mem] at this
    have := this e he
    simp only [hb, Bool.not_true, Bool.false_or] at this
    rw [blt_iff] at this
    exact this
  unfold isBefore
  obtain ⟨h1, h2, h3⟩ := bef_fold ops.toList #[]
  try simp only at h1 h2 h3
  rw [before_eq]
  have := h3 i o (by simpa using ho)
  simp only [Nat.zero_add, List.size_toArray, List.length_nil] at this
  rw [this, befOf_bit]
  constructor
  · rintro ⟨e, he, hb, hj⟩
    have hlt := hedge e he hb
    rw [if_pos hlt] at hj
    exact ⟨e, he, hb, hlt, hj⟩
  · rintro ⟨e, he, hb, hlt, hj⟩
    exact ⟨e, he, hb, by rw [if_pos hlt]; exact hj⟩

theorem bef_none {i j : Nat} (ho : ops[i]? = none) : isBefore (Region.before ops) j i = false := by
  unfold isBefore
  obtain ⟨h1, _, _⟩ := bef_fold ops.toList #[]
  try simp only at h1
  rw [← before_eq] at h1
  have hs : (Region.before ops).size = ops.size := by simpa using h1
  have : (Region.before ops).getD i 0 = 0 := by
    rw [Array.getD_eq_getD_getElem?, Array.getElem?_eq_none]
    · rfl
    · rw [hs]; simpa using ho
  rw [this]; simp

/-- what is known of a region that draws -/
structure Ordered (ops : Array Oper) : Prop where
  edge : ∀ i o, ops[i]? = some o → ∀ e ∈ o.after, Region.binds .any e = true → e.on < i
  lt : ∀ i j, isBefore (Region.before ops) j i = true → j < i
  closed : ∀ L : Nat → Bool, (∀ i o, ops[i]? = some o → L i = true → ∀ e ∈ o.after, Region.binds .any e = true → L e.on = true) → ∀ i j, L i = true → isBefore (Region.before ops) j i = true → L j = true
  ready : ∀ L : Nat → Bool, (∀ i o, ops[i]? = some o → L i = true → ∀ e ∈ o.after, Region.binds .any e = true → L e.on = true) → ∀ i o, ops[i]? = some o → (∀ e ∈ o.after, Region.binds .any e = true → L e.on = true) →
    ∀ j, isBefore (Region.before ops) j i = true → L j = true
  names : ∀ i j o p d, ops[i]? = some o → ops[j]? = some p → o.dst = some d → d ∈ namesOf ops p → i = j ∨ isBefore (Region.before ops) i j = true ∨ isBefore (Region.before ops) j i = true

theorem ordered_of (h : okDraw ops = true) : Ordered ops := by
  unfold okDraw at h
  simp only [Bool.and_eq_true] at h
  obtain ⟨h1, h2⟩ := h
  have iff := fun {i j : Nat} {o : Oper} (ho : ops[i]? = some o) => bef_iff h1 (j := j) ho
  have hlt : ∀ i j, isBefore (Region.before ops) j i = true → j < i := by
    intro i
    induction i using Nat.strongRecOn with
    | _ i ih =>
      intro j hb
      cases ho : ops[i]? with
      | none => rw [bef_none ho] at hb; cases hb
      | some o =>
        obtain ⟨e, _, _, hl, rfl | hj⟩ := (iff ho).1 hb
        · exact hl
        · exact Nat.lt_trans (ih _ hl _ hj) hl
  have hclosed : ∀ L : Nat → Bool, (∀ i o, ops[i]? = some o → L i = true → ∀ e ∈ o.after, Region.binds .any e = true → L e.on = true) → ∀ i j, L i = true → isBefore (Region.before ops) j i = true → L j = true := by
    intro L hL i
    induction i using Nat.strongRecOn with
    | _ i ih =>
      intro j hi hb
      cases ho : ops[i]? with
      | none => rw [bef_none ho] at hb; cases hb
      | some o =>
        obtain ⟨e, he, hbi, hl, rfl | hj⟩ := (iff ho).1 hb
        · exact hL i o ho hi e he hbi
        · exact ih _ hl _ (hL i o ho hi e he hbi) hj
  refine ⟨fun i o ho e he hb => ?_, hlt, hclosed, fun L hL i o ho hr j hb => ?_, fun i j o p d ho hp hd hn => ?_⟩
  · rw [List.all_eq_true] at h1
    have hi : (o, i) ∈ ops.toList.zipIdx := by rw [List.mem_zipIdx_iff_getElem?]; simpa using ho
    have := h1 _ hi
    simp only [Array.all_eq_true_iff_forall_mem] at this
    have := this e he
    simp only [hb, Bool.not_true, Bool.false_or] at this
    rw [blt_iff] at this
    exact this
  · obtain ⟨e, he, hbi, hl, rfl | hj⟩ := (iff ho).1 hb
    · exact hr e he hbi
    · exact hclosed L hL _ _ (hr e he hbi) hj
  · rw [List.all_eq_true] at h2
    have hi : i < ops.size := (Array.getElem?_eq_some_iff.1 ho).1
    have hj : j < ops.size := (Array.getElem?_eq_some_iff.1 hp).1
    have := h2 i (List.mem_range.2 hi)
    rw [List.all_eq_true] at this
    have := this j (List.mem_range.2 hj)
    unfold okNames at this
    rw [ho, hp] at this
    simp only [hd] at this
    have hc : (namesOf ops p).any (Nat.beq d) = true := List.any_eq_true.2 ⟨d, hn, Nat.beq_refl d⟩
    rw [hc] at this
    simp only [Bool.not_true, Bool.false_or, Bool.or_eq_true] at this
    rcases this with (h | h) | h
    · exact .inl (Nat.eq_of_beq_eq_true h)
    · exact .inr (.inl h)
    · exact .inr (.inr h)

/-- no two effects stand in no order -/
theorem chain_of (h : clash ops (Region.before ops) = false) {i j : Nat} {o p : Oper} (ho : ops[i]? = some o) (hp : ops[j]? = some p) (eo : effectOp o.op = true) (ep : effectOp p.op = true) (hne : i ≠ j) :
    isBefore (Region.before ops) i j = true ∨ isBefore (Region.before ops) j i = true := by
  unfold clash at h
  rw [List.any_eq_false] at h
  have hi : i < ops.size := (Array.getElem?_eq_some_iff.1 ho).1
  have hj : j < ops.size := (Array.getElem?_eq_some_iff.1 hp).1
  have := h i (List.mem_range.2 hi)
  rw [ho] at this
  simp only [eo, Bool.true_and, Bool.not_eq_true, Bool.not_eq_false', List.isEmpty_iff] at this
  have hm : j ∉ loose ops (Region.before ops) i := by rw [this]; exact List.not_mem_nil
  unfold loose at hm
  rw [List.mem_filter] at hm
  cases h1 : isBefore (Region.before ops) i j with
  | true => exact .inl rfl
  | false =>
    cases h2 : isBefore (Region.before ops) j i with
    | true => exact .inr rfl
    | false => exact absurd ⟨List.mem_range.2 hj, by rw [hp]; simp [ep, h1, h2, Ne.symm hne]⟩ hm

theorem mem_loose {i j : Nat} {p : Oper} (hp : ops[j]? = some p) (ep : effectOp p.op = true) (h1 : isBefore (Region.before ops) i j = false) (h2 : isBefore (Region.before ops) j i = false) (hne : j ≠ i) :
    j ∈ loose ops (Region.before ops) i := by
  unfold loose
  rw [List.mem_filter]
  exact ⟨List.mem_range.2 (Array.getElem?_eq_some_iff.1 hp).1, by rw [hp]; simp [ep, h1, h2, hne]⟩

theorem lookup_filterMap {f : Nat → List Nat} : ∀ (l : List Nat) (i : Nat), i ∈ l → f i ≠ [] → l.Nodup →
    (l.filterMap fun i => match f i with | [] => none | l => some (i, l)).lookup i = some (f i)
  | a :: l, i, hi, hf, hn => by
    rw [List.nodup_cons] at hn
    by_cases ha : a = i
    · subst ha
      rw [List.filterMap_cons]
      cases hfa : f a with
      | nil => exact absurd hfa hf
      | cons x xs => simp [List.lookup]
    · have hi' : i ∈ l := by rcases List.mem_cons.1 hi with h | h; exact absurd h.symm ha; exact h
      have ih := lookup_filterMap l i hi' hf hn.2
      rw [List.filterMap_cons]
      cases hfa : f a with
      | nil => exact ih
      | cons x xs =>
        simp only [List.lookup]
        have : (i == a) = false := by simpa using fun e => ha e.symm
        rw [this]; exact ih

theorem looseReads_ok {lr : List (Nat × List Nat)} (h : looseReads ops = some lr) : clash ops (Region.before ops) = false ∧
    ∀ i o, ops[i]? = some o → readOp o.op = true → loose ops (Region.before ops) i ≠ [] → lr.lookup i = some (loose ops (Region.before ops) i) := by
  unfold looseReads at h
  simp only at h
  split at h
  · cases h
  · rename_i hc
    refine ⟨by simpa using hc, fun i o ho hr hl => ?_⟩
    cases h
    refine lookup_filterMap (f := loose ops (Region.before ops)) _ i ?_ hl ?_
    · rw [List.mem_filter]
      exact ⟨List.mem_range.2 (Array.getElem?_eq_some_iff.1 ho).1, by rw [ho]; exact hr⟩
    · exact (List.nodup_range).filter _
end
end Ev
