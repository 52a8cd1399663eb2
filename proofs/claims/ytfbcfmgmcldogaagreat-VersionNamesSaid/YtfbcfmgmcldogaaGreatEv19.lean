/-
  Every operation, whatever it is: joined.
-/
import Derived.Test.YtfbcfmgmcldogaaGreatEv18
namespace Ev
open Go

section
variable {E : Env} {P : Program} {μ : Mu} {m m' : AMem} {w : World} {call : CallF} {tm : Tr AV} {a : Act} {ro : Option Nat}

theorem seqv {s : Sem Value} {v : Value} {w w' : World} (h : s.run P w = .ok v w') : (do pure (Next.value (← s)) : Sem Next).run P w = .ok (.value v) w' := by
  simp only [Sem.run_bind, h, Result.andThen_ok, Sem.run_pure]
theorem sequ {s : Sem Unit} {w w' : World} (h : s.run P w = .ok () w') : (do s; pure Next.skip : Sem Next).run P w = .ok .skip w' := by
  simp only [Sem.run_bind, h, Result.andThen_ok, Sem.run_pure]

theorem callOp_sound (hE : EnvOK E P) (hc : CallOK P call) {dst : Option Nat} {ty : Nat} {pos : String} {after : Array Edge} {guard : Option (Nat × Bool)} {c : Call} {v : AV} (h : evCallOp E call c tm m = some (v, m')) (hr : Rep μ m w) (ho : ORel μ tm a c.operands.toList) (hf : Fresh μ m.next m'.next) :
    OpRuns ro P ⟨dst, .call c, ty, pos, after, guard⟩ a w (Good μ m w v m') := by
  have hd : ∀ c', (Op.call c) ≠ .defer c' := fun _ h => by cases h
  unfold evCallOp at h
  split at h
  · rename_i args hargs
    have hv := rds_rel hargs (ho.sub fun x hx => by simp only [Call.operands, Array.toList_append, List.mem_append]; exact .inr hx)
    have hmap : c.args.map a.eval = ⟨c.args.toList.map a.eval⟩ := arr_map _ _
    split at h
    · rename_i f hcal
      have hof : f ∈ c.operands.toList := by simp [Call.operands, hcal]
      split at h
      · rename_i g first captured hrf
        obtain ⟨fs, cs, e1, e2, e3⟩ := ho f hof _ hrf
        refine FnRuns.op hd (hc.fn g _ _ _ _ h μ w _ hr ((e2.append hv).append e3) hf) ?_
        simp only [execOp, resolve, hcal, hmap, e1, Deferred.ofValue, Sem.run_bind, Sem.run_pure, Result.andThen_ok, invoke]
        simp
      · rename_i l hrf
        obtain ⟨L, hL, e1⟩ := ho f hof _ hrf
        obtain ⟨f', tmps, asg, body, w₁, g1, g2⟩ := hc.yield l _ _ _ _ h μ w _ L hr hL hv hf
        refine OpRuns.round hd ?_ g2
        simp only [execOp, resolve, hcal, hmap, e1, Deferred.ofValue, Sem.run_bind, Sem.run_pure, Result.andThen_ok, invoke]
        simpa using g1
      · cases h
    · rename_i x name hcal
      have hox : x ∈ c.operands.toList := by simp [Call.operands, hcal]
      split at h
      · rename_i t b hrx
        obtain ⟨y, e1, e2⟩ := ho x hox _ hrx
        split at h
        · rename_i g hg
          refine FnRuns.op hd (hc.fn g _ _ _ _ h μ w _ hr (.cons e2 hv) hf) ?_
          simp only [execOp, resolve, hcal, hmap, e1, Sem.run_bind, Sem.run_pure, Result.andThen_ok, invoke]
          simp [callMethod, hE.meth _ _ _ hg]
          rw [List.take_of_length_le (by simp)]
        · cases h
      · cases h
    · rename_i b hcal
      obtain ⟨v', w', g1, g2⟩ := builtin_good (ty := ty) (cs := c.args.map fun | .const _ => true | _ => false) hE.toTyOK hr h hv hf
      refine OpRuns.value hd ?_ g2
      simp only [execOp, resolve, hcal, hmap, Sem.run_bind, Sem.run_pure, Result.andThen_ok, invoke]
      exact g1
  · cases h

theorem op_sound (hE : EnvOK E P) (hc : CallOK P call) {o : Oper} {v : AV} (h : evOp E call o.op tm m = some (v, m')) (hr : Rep μ m w) (ho : ORel μ tm a o.op.operands.toList) (hf : Fresh μ m.next m'.next) :
    OpRuns ro P o a w (Good μ m w v m') := by
  obtain ⟨dst, op, ty, pos, after, guard⟩ := o
  have hT := hE.toTyOK
  unfold evOp at h
  cases op with
  | move x =>
    obtain ⟨hx, rfl⟩ := vm_some h
    exact OpRuns.value (fun _ h => by cases h) (v := a.eval x) rfl ⟨μ, ho x (by simp [Op.operands]) _ hx, Step.refl hr⟩
  | assign x =>
    obtain ⟨hx, rfl⟩ := vm_some h
    exact OpRuns.value (fun _ h => by cases h) (v := a.eval x) rfl ⟨μ, ho x (by simp [Op.operands]) _ hx, Step.refl hr⟩
  | pick c x y =>
    obtain ⟨hx, rfl⟩ := vm_some h
    unfold evPick at hx
    split at hx
    · rename_i hcv
      have e := ho c (by simp [Op.operands]) _ hcv
      refine OpRuns.value (fun _ h => by cases h) (v := a.eval x) ?_ ⟨μ, ho x (by simp [Op.operands]) _ hx, Step.refl hr⟩
      simp only [execOp]
      rw [show a.eval c = .bool true from e]
      rfl
    · rename_i hcv
      have e := ho c (by simp [Op.operands]) _ hcv
      refine OpRuns.value (fun _ h => by cases h) (v := a.eval y) ?_ ⟨μ, ho y (by simp [Op.operands]) _ hx, Step.refl hr⟩
      simp only [execOp]
      rw [show a.eval c = .bool false from e]
      rfl
    · cases hx
  | alloc t =>
    obtain ⟨v', w', μ', g1, g2, g3⟩ := alloc_good hT hr h (hf.one (evAlloc_next h))
    exact OpRuns.value (fun _ h => by cases h) (seqv g1) ⟨μ', g2, g3⟩
  | box t x =>
    obtain ⟨b, hb, h⟩ := on1_some h
    obtain ⟨v', w', μ', g1, g2, g3⟩ := box_good (t := t) hr h (ho x (by simp [Op.operands]) _ hb) (hf.one (evBox_next h))
    exact OpRuns.value (fun _ h => by cases h) (seqv g1) ⟨μ', g2, g3⟩
  | build t ps =>
    simp only [evOpF, opBuild] at h
    split at h
    · rename_i l hl
      obtain ⟨hx, rfl⟩ := vm_some h
      obtain ⟨v', g1, g2⟩ := build_run (w := w) hT hx (rdParts_rel hl (ho.sub fun y hy => by simpa [Op.operands] using hy))
      refine OpRuns.value (fun _ h => by cases h) (v := v') ?_ ⟨μ, g2, Step.refl hr⟩
      simp only [execOp]
      rw [arr_map]
      exact seqv g1
    · cases h
  | buildSlice t n ps =>
    simp only [evOpF, opBuildSlice] at h
    split at h
    · rename_i l hl
      obtain ⟨v', w', μ', g1, g2, g3⟩ := buildSlice_good hT hr h (rdParts_rel hl (ho.sub fun y hy => by simpa [Op.operands] using hy)) (hf.one (evBuildSlice_next h))
      refine OpRuns.value (fun _ h => by cases h) (v := v') ?_ ⟨μ', g2, g3⟩
      simp only [execOp]
      rw [arr_map]
      exact seqv g1
    · cases h
  | insert t x k y =>
    obtain ⟨b, c, hb, hc', h⟩ := on2_some h
    obtain ⟨d, hd, h⟩ := on1_some h
    obtain ⟨w', g1, rfl, g3⟩ := mapUpdate_good hT hr h (ho x (by simp [Op.operands]) _ hb) (ho k (by simp [Op.operands]) _ hc') (ho y (by simp [Op.operands]) _ hd)
    exact OpRuns.skip (fun _ h => by cases h) (sequ g1) ⟨μ, ⟨[], rfl, rfl⟩, g3⟩
  | load t x =>
    obtain ⟨b, hb, h⟩ := on1_some h
    obtain ⟨rfl, v', g1, g2⟩ := load_good hT hr h (ho x (by simp [Op.operands]) _ hb)
    exact OpRuns.value (fun _ h => by cases h) (seqv g1) ⟨μ, g2, Step.refl hr⟩
  | store t x y =>
    obtain ⟨b, c, hb, hc', h⟩ := on2_some h
    obtain ⟨rfl, w', g1, g3⟩ := store_good hT hr h (ho x (by simp [Op.operands]) _ hb) (ho y (by simp [Op.operands]) _ hc')
    exact OpRuns.skip (fun _ h => by cases h) (sequ g1) ⟨μ, ⟨[], rfl, rfl⟩, g3⟩
  | nilCheck x =>
    obtain ⟨b, hb, h⟩ := on1_some h
    obtain ⟨hx, rfl⟩ := vm_some h
    have hv := ho x (by simp [Op.operands]) _ hb
    obtain ⟨rfl, n1, n2, n3, n4⟩ := nilCheck_ok hx hv
    refine OpRuns.value (fun _ h => by cases h) (v := a.eval x) ?_ ⟨μ, hv, Step.refl hr⟩
    simp only [execOp]
    generalize a.eval x = X at n1 n2 n3 n4 ⊢
    cases X with
    | pointer p => cases p with
      | none => exact absurd rfl n1
      | some q => rfl
    | nilIface => exact absurd rfl n2
    | nilFunc => exact absurd rfl n3
    | func fn f c => cases fn with
      | method n => exact absurd rfl (n4 _ _ _)
      | _ => rfl
    | _ => rfl
  | binOp op t x y t' =>
    obtain ⟨b, c, hb, hc', h⟩ := on2_some h
    obtain ⟨hx, rfl⟩ := vm_some h
    obtain ⟨v', g1, g2⟩ := bin_run (w := w) hT hx (ho x (by simp [Op.operands]) _ hb) (ho y (by simp [Op.operands]) _ hc') x y
    exact OpRuns.value (fun _ h => by cases h) (seqv g1) ⟨μ, g2, Step.refl hr⟩
  | unOp op t x =>
    obtain ⟨b, hb, h⟩ := on1_some h
    obtain ⟨hx, rfl⟩ := vm_some h
    obtain ⟨v', g1, g2⟩ := un_run (P := P) (w := w) hx (ho x (by simp [Op.operands]) _ hb)
    exact OpRuns.value (fun _ h => by cases h) (seqv g1) ⟨μ, g2, Step.refl hr⟩
  | convert s d x =>
    obtain ⟨b, hb, h⟩ := on1_some h
    obtain ⟨v', w', μ', g1, g2, g3⟩ := convert_good hT hr h (ho x (by simp [Op.operands]) _ hb) (fun hlt => hf.one hlt)
    exact OpRuns.value (fun _ h => by cases h) (seqv g1) ⟨μ', g2, g3⟩
  | sliceToArrayPointer t x =>
    obtain ⟨b, hb, h⟩ := on1_some h
    obtain ⟨hx, rfl⟩ := vm_some h
    obtain ⟨v', g1, g2⟩ := s2ap_run (w := w) hT hx (ho x (by simp [Op.operands]) _ hb)
    exact OpRuns.value (fun _ h => by cases h) (seqv g1) ⟨μ, g2, Step.refl hr⟩
  | makeInterface t x =>
    obtain ⟨b, hb, h⟩ := on1_some h
    split at h
    · cases h
    · rename_i hif
      obtain ⟨rfl, rfl⟩ := Prod.mk.inj (Option.some.inj h)
      exact OpRuns.value (fun _ h => by cases h) (seqv (isIf_run hT (by simpa using hif) (a.eval x))) ⟨μ, ⟨_, rfl, ho x (by simp [Op.operands]) _ hb⟩, Step.refl hr⟩
  | makeFunc fn first captured =>
    obtain ⟨hx, rfl⟩ := vm_some h
    unfold evMakeFunc at hx
    split at hx
    · rename_i f l1 l2 h1 h2
      cases hx
      have e1 := rds_rel h1 (ho.sub fun y hy => by simp only [Op.operands, Array.toList_append, List.mem_append]; exact .inl hy)
      have e2 := rds_rel h2 (ho.sub fun y hy => by simp only [Op.operands, Array.toList_append, List.mem_append]; exact .inr hy)
      refine OpRuns.value (fun _ h => by cases h) (v := .func (.func f) ⟨first.toList.map a.eval⟩ ⟨captured.toList.map a.eval⟩) ?_ ⟨μ, ⟨_, _, rfl, e1, e2⟩, Step.refl hr⟩
      simp only [execOp]
      rw [arr_map, arr_map]
      rfl
    · cases hx
  | makeMap t r =>
    cases r with
    | some x => cases h
    | none =>
      obtain ⟨rfl, rfl⟩ := Prod.mk.inj (Option.some.inj h)
      have hf := hf.one (by simp)
      refine OpRuns.value (fun _ h => by cases h) (v := .map (some w.heap.size)) (w' := { w with heap := w.heap.push (.map #[] 0) }) (seqv (by simp [Instr.makeMap])) ⟨μ.with m.next ⟨w.heap.size, 0, 0⟩, ⟨_, Mu.with_same _ _ _, rfl⟩, ?_⟩
      exact Step.alloc hr hf rfl ⟨rfl, rfl, rfl⟩ ⟨#[], 0, by simp, rfl⟩
  | makeSlice t x y =>
    obtain ⟨b, c, hb, hc', h⟩ := on2_some h
    obtain ⟨v', w', μ', g1, g2, g3⟩ := makeSlice_good hT hr h (ho x (by simp [Op.operands]) _ hb) (ho y (by simp [Op.operands]) _ hc') (hf.one (evMakeSlice_next h))
    exact OpRuns.value (fun _ h => by cases h) (seqv g1) ⟨μ', g2, g3⟩
  | slice t x lo hi mx =>
    obtain ⟨b, hb, h⟩ := on1_some h
    have bnd : ∀ {q : Option Operand} {n : Option Nat}, natO (q.map fun o => (rd tm o).getD .undef) = some n → (∀ y ∈ q.toList, y ∈ (Op.slice t x lo hi mx).operands.toList) → BndRel n (q.map a.eval) := by
      intro q n hn hq
      cases q with
      | none => simp [natO] at hn; subst hn; rfl
      | some y =>
        simp only [Option.map_some] at hn
        cases hy : rd tm y with
        | none => rw [hy] at hn; simp [natO, AV.undef] at hn
        | some z =>
          rw [hy] at hn
          simp only [Option.getD_some] at hn
          have hz := ho y (hq y (by simp)) _ hy
          unfold natO at hn
          split at hn
          · cases ‹some z = none›
          · rename_i k n' e
            cases e
            cases hn
            exact ⟨k, by rw [Option.map_some]; exact congrArg some hz⟩
          · cases hn
    split at h
    · rename_i lo' hi' mx' h1 h2 h3
      obtain ⟨hx, rfl⟩ := vm_some h
      obtain ⟨v', g1, g2⟩ := sliceOp_run (w := w) hT hr hx (ho x (by simp [Op.operands]) _ hb) (bnd h1 (by intro y hy; cases lo <;> simp_all [Op.operands])) (bnd h2 (by intro y hy; cases hi <;> simp_all [Op.operands])) (bnd h3 (by intro y hy; cases mx <;> simp_all [Op.operands]))
      exact OpRuns.value (fun _ h => by cases h) (seqv g1) ⟨μ, g2, Step.refl hr⟩
    · cases h
  | fieldAddr t x j =>
    obtain ⟨b, hb, h⟩ := on1_some h
    obtain ⟨hx, rfl⟩ := vm_some h
    obtain ⟨v', g1, g2⟩ := fieldAddr_run (w := w) hT hx (ho x (by simp [Op.operands]) _ hb)
    exact OpRuns.value (fun _ h => by cases h) (seqv g1) ⟨μ, g2, Step.refl hr⟩
  | field t x j =>
    obtain ⟨b, hb, h⟩ := on1_some h
    obtain ⟨hx, rfl⟩ := vm_some h
    obtain ⟨v', g1, g2⟩ := field_run (w := w) hT hx (ho x (by simp [Op.operands]) _ hb)
    exact OpRuns.value (fun _ h => by cases h) (seqv g1) ⟨μ, g2, Step.refl hr⟩
  | indexAddr t x ix =>
    obtain ⟨b, hb, h⟩ := on1_some h
    obtain ⟨k, n, hn, h⟩ := onNat_some h
    obtain ⟨hx, rfl⟩ := vm_some h
    have e := ho ix (by simp [Op.operands]) _ hn
    obtain ⟨v', g1, g2⟩ := indexAddr_run (w := w) (k := k) hT hx (ho x (by simp [Op.operands]) _ hb)
    refine OpRuns.value (fun _ h => by cases h) (v := v') ?_ ⟨μ, g2, Step.refl hr⟩
    simp only [execOp]
    rw [show a.eval ix = .int k (n : Int) from e]
    exact seqv g1
  | index t x ix =>
    obtain ⟨b, hb, h⟩ := on1_some h
    obtain ⟨k, n, hn, h⟩ := onNat_some h
    obtain ⟨hx, rfl⟩ := vm_some h
    have e := ho ix (by simp [Op.operands]) _ hn
    obtain ⟨v', g1, g2⟩ := index_run (w := w) (k := k) hT hx (ho x (by simp [Op.operands]) _ hb)
    refine OpRuns.value (fun _ h => by cases h) (v := v') ?_ ⟨μ, g2, Step.refl hr⟩
    simp only [execOp]
    rw [show a.eval ix = .int k (n : Int) from e]
    exact seqv g1
  | lookup t x k ok =>
    obtain ⟨b, c, hb, hc', h⟩ := on2_some h
    obtain ⟨rfl, v', g1, g2⟩ := lookup_good hT hr h (ho x (by simp [Op.operands]) _ hb) (ho k (by simp [Op.operands]) _ hc')
    exact OpRuns.value (fun _ h => by cases h) (seqv g1) ⟨μ, g2, Step.refl hr⟩
  | mapUpdate t x k y =>
    obtain ⟨b, c, hb, hc', h⟩ := on2_some h
    obtain ⟨d, hd, h⟩ := on1_some h
    obtain ⟨w', g1, rfl, g3⟩ := mapUpdate_good hT hr h (ho x (by simp [Op.operands]) _ hb) (ho k (by simp [Op.operands]) _ hc') (ho y (by simp [Op.operands]) _ hd)
    exact OpRuns.skip (fun _ h => by cases h) (sequ g1) ⟨μ, ⟨[], rfl, rfl⟩, g3⟩
  | typeAssert x s t ok =>
    obtain ⟨b, hb, h⟩ := on1_some h
    obtain ⟨hx, rfl⟩ := vm_some h
    obtain ⟨v', g1, g2⟩ := typeAssert_run (w := w) (s := s) hT hx (ho x (by simp [Op.operands]) _ hb)
    exact OpRuns.value (fun _ h => by cases h) (seqv g1) ⟨μ, g2, Step.refl hr⟩
  | extract x i =>
    obtain ⟨b, hb, h⟩ := on1_some h
    obtain ⟨hx, rfl⟩ := vm_some h
    obtain ⟨v', g1, g2⟩ := extract_run (P := P) (w := w) hx (ho x (by simp [Op.operands]) _ hb)
    exact OpRuns.value (fun _ h => by cases h) (seqv g1) ⟨μ, g2, Step.refl hr⟩
  | call c => exact callOp_sound hE hc h hr ho hf
  | _ => cases h
end
end Ev
