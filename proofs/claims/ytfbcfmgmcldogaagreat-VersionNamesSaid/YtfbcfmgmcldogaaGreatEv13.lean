/-
  The builtins on slices; conversions.
-/
import Derived.Test.YtfbcfmgmcldogaaGreatEv12
namespace Ev
open Go

section
variable {E : Env} {P : Program} {μ : Mu} {m m' : AMem} {w : World}

theorem run_und' (hE : TyOK E P) {t : Nat} {i : TyI} (h : E.ty t = some i) : ∀ w : World, (underlying t).run P w = .ok i.u w := fun _ => run_und hE h

theorem isIntD_false {u : TypeDesc} (h : isIntD u = false) : ∀ k, u ≠ .int k := by
  intro k e; subst e; simp [isIntD] at h
theorem isIntD_true {u : TypeDesc} (h : isIntD u = true) : ∃ k, u = .int k := by
  cases u <;> simp [isIntD] at h; exact ⟨_, rfl⟩

theorem appendOp_good (hE : TyOK E P) (hr : Rep μ m w) {ts : Array TypeId} {ty : Nat} {a b r : AV} {x y : Value} (h : evAppendOp E ts.toList a b m = some (r, m')) (hx : VRel μ a x) (hy : VRel μ b y)
    (hf : m.next < m'.next → μ m.next = none) : ∃ v w' μ', (Builtin.append_ ts ty #[x, y]).run P w = .ok v w' ∧ VRel μ' r v ∧ Step μ m w μ' m' w' := by
  obtain ⟨ts⟩ := ts
  unfold evAppendOp at h
  split at h
  · rename_i ie z zb hT
    unfold appT at hT
    split at hT
    · rename_i t u hts
      simp only at hts
      subst hts
      split at hT
      · rename_i i hi
        have hU := run_und' (P := P) hE hi
        split at hT
        · rename_i e hu
          rw [hu] at hU
          split at hT
          · rename_i ie' iu hie hiu
            have hU2 := run_und' (P := P) hE hiu
            split at hT
            · rename_i z' hz
              split at hT
              · rename_i hzl
                rw [Nat.beq_eq] at hzl
                cases hT
                have hse : ∀ w : World, (Go.sizeOf e).run P w = .ok ie.size w := fun w => run_sizeOfT hE hie
                split at h
                · rename_i hint
                  obtain ⟨k, hk⟩ := isIntD_true hint
                  rw [hk] at hU2
                  unfold appZeros at h
                  split at h
                  · rename_i n
                    split at h
                    · rename_i hc
                      simp only [Bool.and_eq_true] at hc
                      obtain ⟨hnb, hn62⟩ := hc
                      have hnb := Nat.le_of_ble_eq_true hnb
                      rw [blt_iff] at hn62
                      cases hy
                      obtain ⟨vs, hS⟩ := zeroSrc_run (w := w) (μ := μ) (n := n) hE hie hz hzl
                      have hR : AppendRuns E P μ w e ie n (rep n z.cells) vs (fun x => Builtin.append_ #[t, u] ty #[x, .int .i64 (n : Int)]) := by
                        refine ⟨hS.rel, hS.len, ?_, ?_⟩
                        · intro b sLen sCap w' hle hst
                          exact append_room0 hE hie hU hU2 hS hle hn62 hnb hst
                        · intro b sLen sCap old olds hO hgt hbm hby
                          obtain ⟨rest, g1, g2⟩ := append_grow0 (ty := ty) hE hie hz hU hU2 hS hO hgt hbm hby hzl hn62
                          exact ⟨rest, _, capOf_le _ _ _ _, g1, g2⟩
                      exact append_good hr hR h hx hf
                    · cases h
                  · cases h
                · rename_i hint
                  have hud := isIntD_false (by simpa using hint)
                  unfold appCells at h
                  split at h
                  · rename_i n new hn hnew
                    obtain ⟨hl, vs, hS⟩ := srcCells_run (P := P) hr hnew hn hy
                    have hR : AppendRuns E P μ w e ie n new vs (fun x => Builtin.append_ #[t, u] ty #[x, y]) := by
                      refine ⟨hS.rel, hS.len, ?_, ?_⟩
                      · intro b sLen sCap w' hle hst
                        exact append_room hU hU2 hud hse hl hS hle hst
                      · intro b sLen sCap old olds hO hgt hbm hby
                        obtain ⟨rest, g1, g2⟩ := append_grow (ty := ty) hE hie hz hU hU2 hud hl hS hO hgt hbm hby hzl
                        exact ⟨rest, _, capOf_le _ _ _ _, g1, g2⟩
                    exact append_good hr hR h hx hf
                  · cases h
              · cases hT
            · cases hT
          · cases hT
        · cases hT
      · cases hT
    · cases hT
  · cases h

/-! ### copy -/
theorem lenOf_run (P : Program) {sl : Nat} {a : AV} {x : Value} (hn : lenOf a = some sl) (hx : VRel μ a x) : (Builtin.lenOf x).run P w = .ok sl w := by
  cases a <;> simp [lenOf] at hn
  case str s => obtain ⟨rfl, _⟩ := hx; subst hn; simp [Builtin.lenOf, ByteArray.size]
  case nilslice => cases hx; subst hn; simp [Builtin.lenOf]
  case slice => obtain ⟨L, o, _, rfl, _⟩ := hx; subst hn; simp [Builtin.lenOf]
  case oslice => obtain ⟨L, o, c, _, rfl, _⟩ := hx; subst hn; simp [Builtin.lenOf]

/-- a slice that is no nil, by its row -/
theorem rowOf_ok {id off : Nat} {a : AV} {x : Value} (h : rowOf a = some (id, off)) (hx : VRel μ a x) :
    ∃ L o len cap, μ id = some L ∧ x = .slice (some ⟨L.b, o, none⟩) len cap ∧ lenOf a = some len ∧ (len ≠ 0 → o = L.sh + off) := by
  cases a <;> simp [rowOf] at h
  case slice => obtain ⟨rfl, rfl⟩ := h; obtain ⟨L, o, hL, rfl, ho, hle⟩ := hx; exact ⟨L, o, _, _, hL, rfl, rfl, fun hn => by rcases ho with ho | ho <;> omega⟩
  case oslice => obtain ⟨rfl, rfl⟩ := h; obtain ⟨L, o, c, hL, rfl, hle, ho⟩ := hx; exact ⟨L, o, _, _, hL, rfl, rfl, fun hn => by rcases ho with ho | ho <;> omega⟩

theorem firstC_run (P : Program) (hr : Rep μ m w) {es n sl : Nat} {a : AV} {l : List AV} {x : Value} (h : firstC m es n a = some l) (hn : lenOf a = some sl) (hle : n ≤ sl) (hx : VRel μ a x) :
    ∃ vs : List Value, (Builtin.firstCells es n x).run P w = .ok vs.toArray w ∧ VsRel μ l vs ∧ l.length = n * es := by
  unfold firstC at h
  split at h
  · rename_i s hs
    have := asStr_eq hs; subst this
    split at h
    · rename_i he
      have he : es = 1 := Nat.eq_of_beq_eq_true he
      subst he
      cases h
      obtain ⟨rfl, hlt⟩ := hx
      simp [lenOf] at hn
      subst hn
      refine ⟨(s.take n).map fun (b : Nat) => .int .u8 (b : Int), ?_, ?_, by simp; omega⟩
      · simp only [Builtin.firstCells, Sem.run_pure]
        congr 1
        apply Array.ext'
        have hex : ((⟨(s.map UInt8.ofNat).toArray⟩ : ByteArray).extract 0 n).data.toList = (s.take n).map UInt8.ofNat := by
          rw [ByteArray.data_extract]; simp [List.map_take]
        rw [Array.toList_map, hex, List.map_map]
        apply List.map_congr_left
        intro b hb
        have := hlt b (List.mem_of_mem_take hb)
        simp
        omega
      · have hlt' : ∀ x ∈ s.take n, x < 256 := fun x hx => hlt x (List.mem_of_mem_take hx)
        generalize s.take n = q
        induction q with
        | nil => rfl
        | cons b q ih => exact .cons rfl ih
    · cases h
  · split at h
    · rename_i h0
      have h0 : n * es = 0 := Nat.eq_of_beq_eq_true h0
      cases h
      refine ⟨[], ?_, rfl, by simp [h0]⟩
      cases a <;> simp [lenOf] at hn
      case str s =>
        exfalso
        simp_all [AV.asStr]
      case nilslice => cases hx; simp [Builtin.firstCells]
      case slice => obtain ⟨L, o, _, rfl, _⟩ := hx; simp [Builtin.firstCells, h0, loadCells, loadCellsFrom]
      case oslice => obtain ⟨L, o, c, _, rfl, _⟩ := hx; simp [Builtin.firstCells, h0, loadCells, loadCellsFrom]
    · rename_i h0
      have h0 : n * es ≠ 0 := by intro e; rw [e] at h0; exact h0 rfl
      split at h
      · rename_i id off hro
        obtain ⟨L, o, len, cap, hL, rfl, hlen, ho⟩ := rowOf_ok hro hx
        rw [hn] at hlen; cases hlen
        have hn0 : n ≠ 0 := by intro e; rw [e, Nat.zero_mul] at h0; exact h0 rfl
        have ho := ho (by omega)
        subst ho
        obtain ⟨vs, h1, h2, h3, h4⟩ := run_load_cells P hr h hL
        exact ⟨vs, by simpa [Builtin.firstCells] using h1 w rfl, h2, h3⟩
      · cases h

theorem copy_good (hr : Rep μ m w) {t e es : Nat} {_u ty : Nat} {d s r : AV} {x y : Value} (hU : ∀ w : World, (underlying t).run P w = .ok (.slice e) w) (hse : ∀ w : World, (Go.sizeOf e).run P w = .ok es w)
    (h : evCopy m es d s = some (r, m')) (hx : VRel μ d x) (hy : VRel μ s y) (rest : List TypeId) :
    ∃ v w', (Builtin.copy_ ⟨t :: rest⟩ ty #[x, y]).run P w = .ok v w' ∧ VRel μ r v ∧ Step μ m w μ m' w' := by
  unfold evCopy at h
  split at h
  · rename_i dl sl hds hd hs
    split at h
    · rename_i new hnew
      obtain ⟨vs, f1, f2, f3⟩ := firstC_run P hr hnew hs (Nat.min_le_left _ _) hy
      have hls := lenOf_run (w := w) P hs hy
      -- the destination is a slice
      have hform : ∃ b cap, x = .slice b dl cap ∧ (b = none → dl = 0) := by
        cases d <;> simp [lenOf] at hd
        case str => simp [AV.asStr] at hds
        case nilslice => cases hx; subst hd; exact ⟨none, 0, rfl, fun _ => rfl⟩
        case slice => obtain ⟨L, o, _, rfl, _⟩ := hx; subst hd; exact ⟨_, _, rfl, fun h => by cases h⟩
        case oslice => obtain ⟨L, o, c, _, rfl, _⟩ := hx; subst hd; exact ⟨_, _, rfl, fun h => by cases h⟩
      obtain ⟨b, cap, rfl, hb0⟩ := hform
      have key : ∀ w', (match b with | some a => storeCells a vs | none => pure ()).run P w = .ok () w' →
          (Builtin.copy_ ⟨t :: rest⟩ ty #[.slice b dl cap, y]).run P w = .ok (.int .i64 (Nat.min sl dl : Nat)) w' := by
        intro w' hst
        simp only [Builtin.copy_, List.getElem?_toArray, List.getElem?_cons_zero, List.getElem?_cons_succ, Sem.run_bind, hU, hse, hls, f1, Result.andThen_ok]
        cases b with
        | none => simpa [goInt] using hst
        | some a => simp only [Sem.run_bind, hst, Result.andThen_ok, Sem.run_pure, goInt]
      unfold copyTo at h
      split at h
      · obtain ⟨rfl, rfl⟩ := Prod.mk.inj (Option.some.inj h)
        cases f2
        exact ⟨_, w, key w (by cases b <;> rfl), rfl, Step.refl hr⟩
      · rename_i hne
        split at h
        · rename_i id off hro
          split at h
          · rename_i m₁ hp
            obtain ⟨rfl, rfl⟩ := Prod.mk.inj (Option.some.inj h)
            obtain ⟨L, o, len, cap', hL, e, hlen, ho⟩ := rowOf_ok hro hx
            cases e
            rw [hd] at hlen
            have hdl : dl ≠ 0 := by
              intro e0
              have : Nat.min sl dl = 0 := by rw [e0]; exact Nat.min_zero _
              rw [this, Nat.zero_mul] at f3
              exact hne (List.length_eq_zero_iff.1 f3)
            have ho := ho hdl
            subst ho
            obtain ⟨w', g1, g2⟩ := run_store_cells P hr hp hL f2
            exact ⟨_, w', key w' g1, rfl, g2⟩
          · cases h
        · cases h
    · cases h
  · cases h

/-! ### Conversions -/
theorem isByte_ok (hE : TyOK E P) {e : Nat} (h : isByte E e = true) : (underlying e).run P w = .ok (.int .u8) w := by
  unfold isByte at h
  split at h
  · rename_i ei hei
    have hU := run_und (w := w) hE hei
    split at h
    · rename_i hu; rw [hu] at hU; exact hU
    · cases h
  · cases h

theorem ints_rel (μ : Mu) : ∀ l : List Nat, VsRel μ (l.map fun b => .int .u8 (Int.ofNat b)) (l.map fun (b : Nat) => Value.int .u8 (b : Int))
  | [] => rfl
  | _ :: l => .cons rfl (ints_rel μ l)

theorem modify_last {α : Type} (h : Array α) (a : α) (f : α → α) : (h.push a).modify h.size f = h.push (f a) := by
  apply Array.ext_getElem?
  intro i
  simp only [Array.getElem?_modify, Array.getElem?_push]
  by_cases hi : i = h.size
  · subst hi; simp
  · simp [hi, Ne.symm hi]

theorem stringToBytes_run (P : Program) (w : World) (e : TypeId) (l : List Nat) (hlt : ∀ x ∈ l, x < 256) : ∃ (rest : List Value) (c : Nat), (Conv.stringToBytes e ⟨(l.map UInt8.ofNat).toArray⟩).run P w =
    .ok (.slice (some ⟨w.heap.size, 0, none⟩) l.length c) { w with heap := w.heap.push (.cells ((l.map fun (b : Nat) => Value.int .u8 (b : Int)) ++ rest).toArray e (c, c + 1)), drawn := w.drawn + 1 } ∧
    c = l.length + rest.length := by
  have hsz : (⟨(l.map UInt8.ofNat).toArray⟩ : ByteArray).size = l.length := by simp [ByteArray.size]
  have hel : (⟨(l.map UInt8.ofNat).toArray⟩ : ByteArray).data.map (fun b => Value.int .u8 b.toNat) = (l.map fun (b : Nat) => Value.int .u8 (b : Int)).toArray := by
    apply Array.ext'
    simp only [Array.toList_map, List.map_map]
    apply List.map_congr_left
    intro b hb
    have := hlt b hb
    simp
    omega
  refine ⟨List.replicate (w.tape w.drawn (.appendCap l.length 0 e) % (2 ^ 63 - l.length)) (.int .u8 0), capOf w l.length 0 e, ?_, by simp [capOf]⟩
  simp only [Conv.stringToBytes, Sem.run_bind, run_choose, Question.forced, Question.cut, hsz, Bool.false_eq_true, if_false, Result.andThen_ok, newRow, run_newObj, hel, Sem.run_pure, markStringish, run_shape, World.shape?]
  simp only [Array.getElem?_push_size, capOf, Nat.add_sub_cancel_left, Result.andThen_ok, run_freeze, World.freeze]
  simp [modify_last]
  congr 1
  simp

theorem convert_good (hE : TyOK E P) (hr : Rep μ m w) {s d : Nat} {a r : AV} {x : Value} (h : evConvert E s d a m = some (r, m')) (hx : VRel μ a x) (hf : m.next < m'.next → μ m.next = none) :
    ∃ v w' μ', (convert s d x).run P w = .ok v w' ∧ VRel μ' r v ∧ Step μ m w μ' m' w' := by
  unfold evConvert at h
  have hT : ∀ cv, convT E s d = some cv → ∃ si di, E.ty s = some si ∧ E.ty d = some di ∧
      ((∃ k j, cv = .int k ∧ di.u = .int k ∧ si.u = .int j) ∨ (cv = .str ∧ di.u = .string ∧ si.u = .string) ∨ (∃ e, cv = .toBytes ∧ di.u = .slice e ∧ si.u = .string ∧ isByte E e = true) ∨
       (∃ e, cv = .toStr ∧ di.u = .string ∧ si.u = .slice e ∧ isByte E e = true)) := by
    intro cv hcv
    unfold convT at hcv
    split at hcv
    · rename_i si hsi
      split at hcv
      · rename_i di hdi
        refine ⟨si, di, hsi, hdi, ?_⟩
        split at hcv
        · rename_i k j h1 h2; cases hcv; exact .inl ⟨_, _, rfl, h1, h2⟩
        · rename_i h1 h2; cases hcv; exact .inr (.inl ⟨rfl, h1, h2⟩)
        · rename_i e h1 h2
          split at hcv
          · rename_i hb; cases hcv; exact .inr (.inr (.inl ⟨e, rfl, h1, h2, hb⟩))
          · cases hcv
        · rename_i e h1 h2
          split at hcv
          · rename_i hb; cases hcv; exact .inr (.inr (.inr ⟨e, rfl, h1, h2, hb⟩))
          · cases hcv
        · cases hcv
      · cases hcv
    · cases hcv
  split at h
  · rename_i k hcv
    obtain ⟨si, di, hsi, hdi, hc⟩ := hT _ hcv
    have hS := run_und (w := w) hE hsi
    have hD := run_und (w := w) hE hdi
    rcases hc with ⟨k', j, e, h1, h2⟩ | ⟨e, _⟩ | ⟨_, e, _⟩ | ⟨_, e, _⟩ <;> cases e
    rw [h1] at hD; rw [h2] at hS
    split at h
    · rename_i p hp
      have := asInt_eq hp; subst this
      cases hx
      obtain ⟨rfl, rfl⟩ := Prod.mk.inj (Option.some.inj h)
      exact ⟨_, w, μ, by simp only [convert, Sem.run_bind, hS, hD, Result.andThen_ok]; rfl, by simp [VRel, wrapI_eq], Step.refl hr⟩
    · cases h
  · rename_i hcv
    obtain ⟨si, di, hsi, hdi, hc⟩ := hT _ hcv
    have hS := run_und (w := w) hE hsi
    have hD := run_und (w := w) hE hdi
    rcases hc with ⟨k', j, e, h1, h2⟩ | ⟨e, h1, h2⟩ | ⟨_, e, _⟩ | ⟨_, e, _⟩ <;> cases e
    rw [h1] at hD; rw [h2] at hS
    split at h
    · rename_i l hp
      have := asStr_eq hp; subst this
      obtain ⟨rfl, rfl⟩ := Prod.mk.inj (Option.some.inj h)
      have hx' := hx
      obtain ⟨rfl, _⟩ := hx
      exact ⟨_, w, μ, by simp only [convert, Sem.run_bind, hS, hD, Result.andThen_ok]; rfl, hx', Step.refl hr⟩
    · cases h
  · rename_i hcv
    obtain ⟨si, di, hsi, hdi, hc⟩ := hT _ hcv
    have hS := run_und (w := w) hE hsi
    have hD := run_und (w := w) hE hdi
    rcases hc with ⟨k', j, e, h1, h2⟩ | ⟨e, h1, h2⟩ | ⟨el, e, h1, h2, h3⟩ | ⟨_, e, _⟩ <;> cases e
    rw [h1] at hD; rw [h2] at hS
    have hB := isByte_ok (w := w) hE h3
    split at h
    · rename_i l hp
      have := asStr_eq hp; subst this
      obtain ⟨rfl, rfl⟩ := Prod.mk.inj (Option.some.inj h)
      obtain ⟨rfl, hlt⟩ := hx
      have hf := hf (by simp)
      obtain ⟨rest, c, hrun, hc⟩ := stringToBytes_run P w el l hlt
      refine ⟨_, _, μ.with m.next ⟨w.heap.size, 0, l.length + rest.length⟩, by simp only [convert, Sem.run_bind, hS, hD, Result.andThen_ok, hB]; exact hrun, ⟨_, _, _, Mu.with_same _ _ _, rfl, by omega, .inl ⟨rfl, by simp [hc]⟩⟩, ?_⟩
      refine Step.alloc hr hf rfl ⟨rfl, rfl, rfl⟩ ⟨((l.map fun (b : Nat) => Value.int .u8 (b : Int)) ++ rest).toArray, el, c, c + 1, by simp, by simp, by simp, by simp, fun h => (by cases h), .inr (by simp [hc]), ?_, ?_⟩
      · simp [ovl_nil, AV.scalar]
      · simp only [ovl_nil, List.drop_zero]
        rw [List.take_append_of_le_length (by simp), List.take_of_length_le (by simp)]
        exact ints_rel _ l
    · cases h
  · rename_i hcv
    obtain ⟨si, di, hsi, hdi, hc⟩ := hT _ hcv
    have hS := run_und (w := w) hE hsi
    have hD := run_und (w := w) hE hdi
    rcases hc with ⟨k', j, e, h1, h2⟩ | ⟨e, h1, h2⟩ | ⟨el, e, h1, h2, h3⟩ | ⟨el, e, h1, h2, h3⟩ <;> cases e
    rw [h1] at hD; rw [h2] at hS
    have hB := isByte_ok (w := w) hE h3
    split at h
    · rename_i cs hcs
      split at h
      · rename_i l hl
        obtain ⟨rfl, rfl⟩ := Prod.mk.inj (Option.some.inj h)
        obtain ⟨g1, g2⟩ := bytesToString_run (P := P) hr hcs hl hx
        obtain ⟨o, len, cap, vs, rfl, _⟩ := sliceCells_run P hr hcs hx
        exact ⟨_, w, μ, by simp only [convert, Sem.run_bind, hS, hD, Result.andThen_ok, hB]; exact g1, ⟨rfl, g2⟩, Step.refl hr⟩
      · cases h
    · cases h
  · cases h
end
end Ev
