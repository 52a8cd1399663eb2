/-
  What an operation does in the model, by what the evaluator says of it.
-/
import Derived.Test.YtfbcfmgmcldogaaGreatEv16
import Derived.CallsIn
import Derived.RangeFuncIn
import Derived.RangeFuncLeaves
namespace Ev
open Go

/-- a fence that keeps nothing out, of a round or of none -/
def fw (r : Option Nat) : Fence := { Fence.wide with round := r }

def EndsIn (R : Value → World → Prop) : Ending → World → Prop
  | .returned v, w => R v w
  | _, _ => False

def FnRuns (P : Program) (f : Nat) (vs : List Value) (w : World) (R : Value → World → Prop) : Prop :=
  ((callFunc f ⟨vs⟩).run P w = .ok (.enter f ⟨vs⟩) w ∧ CallsIn (fw none) 0 P f ⟨vs⟩ w (EndsIn R)) ∨ ∃ v w', (callFunc f ⟨vs⟩).run P w = .ok (.value v) w' ∧ R v w'

def YieldRuns (P : Program) (b : Nat) (vs : List Value) (w : World) (R : Value → World → Prop) : Prop :=
  ∃ f tmps asg body w₁, (Instr.yield b ⟨vs⟩).run P w = .ok (.round b f tmps asg body) w₁ ∧ RoundIn (fw none) 0 P b f tmps asg body w₁ (EndsIn R)

def Good (μ : Mu) (m : AMem) (w : World) (r : AV) (m' : AMem) (v : Value) (w' : World) : Prop := ∃ μ', VRel μ' r v ∧ Step μ m w μ' m' w'

def FnOK (P : Program) (f : Nat) (o : List AV → AMem → R) : Prop :=
  ∀ args m r m', o args m = some (r, m') → ∀ μ w vs, Rep μ m w → VsRel μ args vs → Fresh μ m.next m'.next → FnRuns P f vs w (Good μ m w r m')

/-- the record of a loop over a function lies there -/
def LoopAt (m : AMem) (l : Nat) : Prop := ∃ st pend tm ps asg bd, m.get l = some (.loop st pend tm ps asg bd)

structure CallOK (P : Program) (call : CallF) : Prop where
  fn : ∀ f, FnOK P f (call (.fn f))
  yield : ∀ l args m r m', call (.yield l) args m = some (r, m') → ∀ μ w vs L, Rep μ m w → μ l = some L → VsRel μ args vs → Fresh μ m.next m'.next → YieldRuns P L.b vs w (Good μ m w r m')

structure EnvOK (E : Env) (P : Program) : Prop extends TyOK E P where
  fn : ∀ f fn, E.fn f = some fn → P.funcs[f]? = some fn ∧ (fn.body.isSome = true → fn.name ≠ "runtime.NumGoroutine") ∧ okFunc fn = true
  meth : ∀ t name g, E.meth t name = some g → ∀ v w, (method (P.types.size + Made.depth) t v name).run P w = .ok (g, v) w
  orc : ∀ f o, E.orc f = some o → FnOK P f o
  grows : ∀ f o, E.orc f = some o → ∀ args m r m', o args m = some (r, m') → m.next ≤ m'.next
  keeps : ∀ f o, E.orc f = some o → ∀ args m r m' l, o args m = some (r, m') → LoopAt m l → LoopAt m' l
  mixed : P.follows .mixedOrders = true

/-- an operation runs, to what R says -/
def OpRuns (ro : Option Nat) (P : Program) (o : Oper) (a : Act) (w : World) (R : Value → World → Prop) : Prop :=
  ∀ (K : Act → World → Prop) (Q : Exit → Act → World → Prop), (∀ v w', R v w' → K (a.put o.dst v) w') → o.wpIn (fw ro) 0 P a w K Q

section
variable {P : Program} {o : Oper} {a : Act} {w w' : World} {R : Value → World → Prop} {ro : Option Nat}

theorem semAt_exec (hd : ∀ c, o.op ≠ .defer c) (ρ : Operand → Value) : o.semAt ro ρ = execOp ρ o := Oper.semAt_eq ro ρ o hd

theorem OpRuns.value (hd : ∀ c, o.op ≠ .defer c) {v : Value} (h : (execOp a.eval o).run P w = .ok (.value v) w') (hR : R v w') : OpRuns ro P o a w R := by
  intro K Q hK
  refine ⟨fun _ _ => trivial, ?_⟩
  rw [semAt_exec hd, h]
  exact hK _ _ hR
theorem OpRuns.skip (hd : ∀ c, o.op ≠ .defer c) (h : (execOp a.eval o).run P w = .ok .skip w') (hR : R undef w') : OpRuns ro P o a w R := by
  intro K Q hK
  refine ⟨fun _ _ => trivial, ?_⟩
  rw [semAt_exec hd, h]
  exact hK _ _ hR
theorem CallsIn.any {f : Nat} {args : Array Value} {Rr : Ending → World → Prop} (h : CallsIn (fw none) 0 P f args w Rr) (r : Option Nat) : CallsIn (fw r) 0 P f args w Rr := h
theorem RoundIn.any {l f : Nat} {tmps : Array Value} {asg body : Code} {Rr : Ending → World → Prop} (h : RoundIn (fw none) 0 P l f tmps asg body w Rr) (r : Option Nat) : RoundIn (fw r) 0 P l f tmps asg body w Rr := h
theorem OpRuns.enter (hd : ∀ c, o.op ≠ .defer c) {f : Nat} {args : Array Value} (h : (execOp a.eval o).run P w = .ok (.enter f args) w') (hR : CallsIn (fw none) 0 P f args w' (EndsIn R)) : OpRuns ro P o a w R := by
  intro K Q hK
  refine ⟨fun _ _ => trivial, ?_⟩
  rw [semAt_exec hd, h]
  refine ⟨fun h => (by simp [fw, Fence.wide] at h), CallsIn.mono (CallsIn.any hR ro) fun e w'' he => ?_⟩
  cases e with
  | returned v => exact hK _ _ he
  | panicked c => exact he.elim
  | outgrown => exact he.elim
theorem OpRuns.round (hd : ∀ c, o.op ≠ .defer c) {l f : Nat} {tmps : Array Value} {asg body : Code} (h : (execOp a.eval o).run P w = .ok (.round l f tmps asg body) w')
    (hR : RoundIn (fw none) 0 P l f tmps asg body w' (EndsIn R)) : OpRuns ro P o a w R := by
  intro K Q hK
  refine ⟨fun _ _ => trivial, ?_⟩
  rw [semAt_exec hd, h]
  refine ⟨fun h => (by simp [fw, Fence.wide] at h), RoundIn.mono (RoundIn.any hR ro) fun e w'' he => ?_⟩
  cases e with
  | returned v => exact hK _ _ he
  | panicked c => exact he.elim
  | outgrown => exact he.elim
theorem OpRuns.mono {R' : Value → World → Prop} (h : OpRuns ro P o a w R) (hr : ∀ v w', R v w' → R' v w') : OpRuns ro P o a w R' :=
  fun K Q hK => h K Q fun v w' hR => hK v w' (hr v w' hR)

/-- what is called, called -/
theorem FnRuns.op (hd : ∀ c, o.op ≠ .defer c) {f : Nat} {vs : List Value} (h : FnRuns P f vs w R) (he : (execOp a.eval o).run P w = (callFunc f ⟨vs⟩).run P w) : OpRuns ro P o a w R := by
  rcases h with ⟨h1, h2⟩ | ⟨v, w', h1, h2⟩
  · exact .enter hd (he.trans h1) h2
  · exact .value hd (he.trans h1) h2
end

theorem on1_some {a : Option AV} {f : AV → R} {r : AV × AMem} (h : on1 a f = some r) : ∃ x, a = some x ∧ f x = some r := by
  cases a with
  | none => cases h
  | some x => exact ⟨x, rfl, h⟩
theorem on2_some {a b : Option AV} {f : AV → AV → R} {r : AV × AMem} (h : on2 a b f = some r) : ∃ x y, a = some x ∧ b = some y ∧ f x y = some r := by
  cases a with
  | none => cases h
  | some x => cases b with
    | none => cases h
    | some y => exact ⟨x, y, rfl, rfl, h⟩
theorem onNat_some {a : Option AV} {f : Nat → R} {r : AV × AMem} (h : onNat a f = some r) : ∃ k n, a = some (.int k (Int.ofNat n)) ∧ f n = some r := by
  cases a with
  | none => cases h
  | some x =>
    cases hn : x.asNat with
    | none => simp [onNat, hn] at h
    | some n =>
      obtain ⟨k, rfl⟩ := asNat_eq hn
      simp only [onNat, hn] at h
      exact ⟨k, n, rfl, h⟩
theorem vm_some {m : AMem} {a : Option AV} {r : AV} {m' : AMem} (h : vm m a = some (r, m')) : a = some r ∧ m' = m := by
  cases a with
  | none => cases h
  | some x => cases h; exact ⟨rfl, rfl⟩

/-- the operands of an operation against the activation's -/
def ORel (μ : Mu) (tm : Tr AV) (a : Act) (l : List Operand) : Prop := ∀ x ∈ l, ∀ y, rd tm x = some y → VRel μ y (a.eval x)

theorem rd_rel {μ : Mu} {tm : Tr AV} {a : Act} (ht : TRel μ tm a.tmps) (x : Operand) {y : AV} (h : rd tm x = some y) : VRel μ y (a.eval x) := by
  cases x with
  | tmp t =>
    have := ht t
    cases hg : tm.get t with
    | none => simp [rd, orUndef, hg] at h; subst h; rw [hg] at this; exact this
    | some z => simp [rd, orUndef, hg] at h; subst h; rw [hg] at this; exact this
  | const v => exact ofVal_rel μ h
  | global g => cases h
  | func f => cases h; exact ⟨[], [], rfl, rfl, rfl⟩
theorem TRel.orel {μ : Mu} {tm : Tr AV} {a : Act} (ht : TRel μ tm a.tmps) (l : List Operand) : ORel μ tm a l := fun x _ _ h => rd_rel ht x h
theorem ORel.sub {μ : Mu} {tm : Tr AV} {a : Act} {l l' : List Operand} (h : ORel μ tm a l) (hs : ∀ x ∈ l', x ∈ l) : ORel μ tm a l' := fun x hx => h x (hs x hx)

theorem rds_rel {μ : Mu} {tm : Tr AV} {a : Act} : ∀ {l : List Operand} {r : List AV}, rds tm l = some r → ORel μ tm a l → VsRel μ r (l.map a.eval)
  | [], r, h, _ => by cases h; rfl
  | x :: l, r, h, ho => by
    simp only [rds] at h
    split at h
    · rename_i y hy
      split at h
      · rename_i b hb
        cases h
        exact .cons (ho x (List.mem_cons_self ..) y hy) (rds_rel hb (ho.sub fun z hz => List.mem_cons_of_mem _ hz))
      · cases h
    · cases h
theorem rdParts_rel {μ : Mu} {tm : Tr AV} {a : Act} : ∀ {l : List (Nat × Operand)} {r : List (Nat × AV)}, rdParts tm l = some r → ORel μ tm a (l.map (·.2)) → PsRel μ r (l.map fun (i, x) => (i, a.eval x))
  | [], r, h, _ => by cases h; rfl
  | (i, x) :: l, r, h, ho => by
    simp only [rdParts] at h
    split at h
    · rename_i y hy
      split at h
      · rename_i b hb
        cases h
        exact ⟨_, _, rfl, ho x (by simp) y hy, rdParts_rel hb (ho.sub fun z hz => by rw [List.map_cons]; exact List.mem_cons_of_mem _ hz)⟩
      · cases h
    · cases h
end Ev
