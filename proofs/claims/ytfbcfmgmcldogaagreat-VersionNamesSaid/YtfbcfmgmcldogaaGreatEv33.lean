/-
  The evaluator's steps, one by one, for code over temporaries that are not known.
-/
import Derived.Test.YtfbcfmgmcldogaaGreatEv32
namespace Ev
open Go

section
variable {E : Env} {call : CallF} {ops : Array Oper} {tm : Tr AV} {m : AMem}

theorem step_op {o : Oper} {l : List Oper} {v : AV} {m' : AMem} {r : Option St} (hw : wanted ops tm o = true) (h : evOp E call o.op tm m = some (v, m')) (hk : evOpsF l E call ops ⟨setDst tm o.dst v, m'⟩ = r) :
    evOpsF (o :: l) E call ops ⟨tm, m⟩ = r := by
  show opsG o (evOpsF l) E call ops tm m (wanted ops tm o) = r
  rw [hw]
  show opsK (evOpsF l) o.dst tm E call ops (evOp E call o.op tm m) = r
  rw [h]; exact hk
theorem step_seq {x y : Code} {fuel : Nat} {s s₁ : St} {r : Option (Ex × St)} (h : evCodeF x E call fuel s = some (.normal, s₁)) (hk : evCodeF y E call fuel s₁ = r) : evCodeF (.seq x y) E call fuel s = r := by
  show cdSeq (evCodeF x) (evCodeF y) E call fuel s = r
  unfold cdSeq
  rw [h]; exact hk
theorem step_out {x y : Code} {fuel : Nat} {s s₁ : St} {e : Ex} (h : evCodeF x E call fuel s = some (e, s₁)) (he : e ≠ .normal) : evCodeF (.seq x y) E call fuel s = some (e, s₁) := by
  show cdSeq (evCodeF x) (evCodeF y) E call fuel s = _
  unfold cdSeq
  rw [h]
  cases e with
  | normal => exact absurd rfl he
  | exit id => rfl
  | ret => rfl
theorem step_region {id fuel : Nat} {s s₁ : St} (h : evOpsF ops.toList E call ops s = some s₁) : evCodeF (.region id ops false) E call fuel s = some (.normal, s₁) := by
  show cdRegion ops false E call fuel s = _
  unfold cdRegion evRegion evOps
  simp only [h]
theorem rd_tmp {t : Nat} {v : AV} (h : tm.get t = some v) : rd tm (.tmp t) = some v := by
  show orUndef (tm.get t) = _
  rw [h]; rfl
end
section
variable {E : Env} {call : CallF} {ops : Array Oper} {tm : Tr AV} {m : AMem}

theorem op_move {x : Operand} {v : AV} (h : rd tm x = some v) : evOp E call (.move x) tm m = some (v, m) := by
  show vm m (rd tm x) = _
  rw [h]; rfl
theorem op_assign {x : Operand} {v : AV} (h : rd tm x = some v) : evOp E call (.assign x) tm m = some (v, m) := by
  show vm m (rd tm x) = _
  rw [h]; rfl
theorem op_bin {op : BinOp} {t u : TypeId} {x y : Operand} {a b v : AV} (hx : rd tm x = some a) (hy : rd tm y = some b) (h : evBin E op t a b = some v) : evOp E call (.binOp op t x y u) tm m = some (v, m) := by
  show on2 (rd tm x) (rd tm y) _ = _
  rw [hx, hy]
  show vm m (evBin E op t a b) = _
  rw [h]; rfl
theorem op_indexAddr {t : TypeId} {x ix : Operand} {a v : AV} {k : IntKind} {n : Nat} (hx : rd tm x = some a) (hi : rd tm ix = some (.int k (.ofNat n))) (h : evIndexAddr E t a n = some v) : evOp E call (.indexAddr t x ix) tm m = some (v, m) := by
  show on1 (rd tm x) (fun a => onNat (rd tm ix) fun n => vm m (evIndexAddr E t a n)) = _
  rw [hx, hi]
  show vm m (evIndexAddr E t a n) = _
  rw [h]; rfl
theorem op_load {t : TypeId} {x : Operand} {a : AV} {r : R} (hx : rd tm x = some a) (h : evLoad E t a m = r) : evOp E call (.load t x) tm m = r := by
  show on1 (rd tm x) (fun a => evLoad E t a m) = _
  rw [hx]; exact h
theorem op_call {c : Call} {args : List AV} {b : Builtin} {r : R} (hc : c.callee = .builtin b) (ha : rds tm c.args.toList = some args) (h : evBuiltin E b c.argTypes.toList args m = r) : evOp E call (.call c) tm m = r := by
  show evCallOp E call c tm m = r
  unfold evCallOp
  rw [ha, hc]; exact h
theorem rds_cons {x : Operand} {l : List Operand} {a : AV} {b : List AV} (h : rd tm x = some a) (hl : rds tm l = some b) : rds tm (x :: l) = some (a :: b) := by
  simp only [rds, h, hl]
theorem evIntBin {op : BinOp} {t : Nat} {k : IntKind} {a b : Int} (h : isShift op = false) : evBin E op t (.int k a) (.int k b) = evInt op k a b := by
  show evBinI op k a k b = _
  unfold evBinI
  have : eqK k k = true := by simp [eqK]
  rw [this, h]; rfl
theorem step_cond {c : Operand} {x y : Code} {fuel : Nat} {s : St} {b : Bool} {r : Option (Ex × St)} (h : rd s.tm c = some (.bool b)) (hk : evCodeF (if b then x else y) E call fuel s = r) : evCodeF (.cond c x y) E call fuel s = r := by
  show cdCond c (evCodeF x) (evCodeF y) E call fuel s = r
  unfold cdCond
  rw [h]
  cases b <;> exact hk
theorem step_block {id fuel : Nat} {c : Code} {s s' : St} (h : evCodeF c E call fuel s = some (.normal, s')) : evCodeF (.block id c) E call fuel s = some (.normal, s') := by
  show inBlock id (evCodeF c E call fuel s) = _
  rw [h]; rfl
theorem step_blockX {id fuel : Nat} {c : Code} {s s' : St} (h : evCodeF c E call fuel s = some (.exit id, s')) : evCodeF (.block id c) E call fuel s = some (.normal, s') := by
  show inBlock id (evCodeF c E call fuel s) = _
  rw [h]; simp [inBlock]
theorem step_end {s : St} : evOpsF [] E call ops s = some s := rfl
theorem evLen_slice {t e id off n c : Nat} {i : TyI} (ht : E.ty t = some i) (hu : i.u = .slice e) : evLen E t (.slice id off n c) m = some (.int .i64 (Int.ofNat n), m) := by
  unfold evLen; rw [ht]; simp only [hu]
theorem evLen_oslice {t e id off n c : Nat} {i : TyI} (ht : E.ty t = some i) (hu : i.u = .slice e) : evLen E t (.oslice id off n c) m = some (.int .i64 (Int.ofNat n), m) := by
  unfold evLen; rw [ht]; simp only [hu]
theorem idxT_slice {t e : Nat} {i j : TyI} (ht : E.ty t = some i) (hu : i.u = .slice e) (he : E.ty e = some j) : idxT E t = some (none, j.size) := by
  unfold idxT; rw [ht]; simp only [hu, withSize, he]
theorem evIndex_slice {t : Nat} {x : AV} {id off n es k : Nat} (h : idxT E t = some (none, es)) (hx : x.asSl = some (id, off, n)) (hk : k < n) : evIndexAddr E t x k = some (.ptr id (off + k * es)) := by
  unfold evIndexAddr; rw [h]
  show idxAt x k none es = _
  unfold idxAt
  rw [hx]
  show idxPtr id off k n es = _
  unfold idxPtr
  have : Nat.blt k n = true := by simpa using hk
  rw [this]; rfl
theorem evLoad_cell {t id off : Nat} {i : TyI} {v : AV} (ht : E.ty t = some i) (hu : isAggD i.u = false) (h : oneCell m id off = some v) : evLoad E t (.ptr id off) m = some (v, m) := by
  unfold evLoad; rw [ht]
  show evLoadAt i m id off = _
  unfold evLoadAt
  rw [hu, h]; rfl
theorem loopF_step {f : St → Option (Ex × St)} {n : Nat} {s s' : St} {r : Option (Ex × St)} (h : f s = some (.normal, s')) (hk : loopF n f s' = r) : loopF (n + 1) f s = r := by
  show Option.casesOn (motive := fun _ => Option (Ex × St)) (f s) none _ = r
  rw [h]; exact hk
theorem loopF_out {f : St → Option (Ex × St)} {n : Nat} {s s' : St} {e : Ex} (h : f s = some (e, s')) (he : e ≠ .normal) : loopF (n + 1) f s = some (e, s') := by
  show Option.casesOn (motive := fun _ => Option (Ex × St)) (f s) none _ = _
  rw [h]
  cases e with
  | normal => exact absurd rfl he
  | exit id => rfl
  | ret => rfl

theorem take_one {id off n j : Nat} {cs : List AV} {c : AV} (h : takeCells m id off n = some cs) (hj : cs[j]? = some c) : oneCell m id (off + j) = some c := by
  unfold takeCells at h
  unfold oneCell
  cases hg : m.get id with
  | none => rw [hg] at h; cases h
  | some b =>
    rw [hg] at h
    cases b with
    | row size cells ov cl =>
      have h : takeRow off n size cells ov cl = some cs := h
      show oneRow (off + j) size cells ov cl = some c
      unfold takeRow at h
      cases hb : Nat.ble (Nat.add off n) size with
      | false => rw [hb] at h; cases h
      | true =>
        rw [hb] at h
        have h : ovl ov ((cells.drop off).take n) off = cs := by simpa using h
        subst h
        rw [ovl_get] at hj
        obtain ⟨a, ha, hc⟩ := Option.map_eq_some_iff.1 hj
        have hjn : j < n := by
          have := (List.getElem?_eq_some_iff.1 ha).1
          simp at this; omega
        have ha' : cells[off + j]? = some a := by simpa [List.getElem?_take, hjn] using ha
        have hle : off + n ≤ size := by simpa using hb
        unfold oneRow
        have hlt : Nat.blt (off + j) size = true := by simp; omega
        rw [hlt]
        show Option.casesOn (motive := fun _ => Option AV) (ov.get (off + j)) (nthCell cells (off + j)) (fun a => some a) = some c
        rw [nthCell_eq, ha', ← hc]
        cases ov.get (off + j) <;> rfl
    | map es => cases h
    | loop a b c d e f => cases h
/-- what a code's run ends with -/
def Wp (c : Code) (E : Env) (call : CallF) (fuel : Nat) (s : St) (Q : Ex → St → Prop) : Prop := ∃ e s', evCodeF c E call fuel s = some (e, s') ∧ Q e s'
theorem wp_seq {x y : Code} {fuel : Nat} {s s₁ : St} {Q : Ex → St → Prop} (h : evCodeF x E call fuel s = some (.normal, s₁)) (hk : Wp y E call fuel s₁ Q) : Wp (.seq x y) E call fuel s Q := by
  obtain ⟨e, s', h1, h2⟩ := hk
  exact ⟨e, s', step_seq h h1, h2⟩
theorem wp_out {x y : Code} {fuel : Nat} {s s₁ : St} {e : Ex} {Q : Ex → St → Prop} (h : evCodeF x E call fuel s = some (e, s₁)) (he : e ≠ .normal) (hk : Q e s₁) : Wp (.seq x y) E call fuel s Q :=
  ⟨_, _, step_out h he, hk⟩
theorem wp_seqQ {x y : Code} {fuel : Nat} {s : St} {Q' : St → Prop} {R : Ex → St → Prop} (h : Wp x E call fuel s fun e s => e = .normal ∧ Q' s) (hk : ∀ s, Q' s → Wp y E call fuel s R) : Wp (.seq x y) E call fuel s R := by
  obtain ⟨e, s₁, h, rfl, hq⟩ := h
  exact wp_seq h (hk _ hq)
end
end Ev
