/-
  Parts of values; addresses of parts; slices.
-/
import Derived.Test.YtfbcfmgmcldogaaGreatEv8
namespace Ev
open Go

section
variable {E : Env} {P : Program} {μ : Mu} {m m' : AMem} {w : World}

theorem nilCheck_ok {a r : AV} {x : Value} (h : evNilCheck a = some r) (hx : VRel μ a x) : r = a ∧ x ≠ .pointer none ∧ x ≠ .nilIface ∧ x ≠ .nilFunc ∧ ∀ n f c, x ≠ .func (.method n) f c := by
  unfold evNilCheck at h
  split at h <;> cases h
  · obtain ⟨L, _, rfl⟩ := hx; simp
  · obtain ⟨L, rfl, _⟩ := hx; simp
  · obtain ⟨L, o, rfl, _⟩ := hx; simp

theorem part_good (hE : TyOK E P) {t off : Nat} {cs : List AV} {vs : List Value} {r : AV} (h : evPart E t cs off = some r) (hc : VsRel μ cs vs) (hs : cs.all AV.scalar = true) :
    ∃ v, (part t ⟨vs⟩ off).run P w = .ok v w ∧ VRel μ r v := by
  unfold evPart at h
  split at h
  · rename_i i hi
    simp only [part, Sem.run_bind, run_isAggT hE hi, Result.andThen_ok]
    split at h
    · rename_i hagg
      cases h
      refine ⟨.agg ⟨(vs.drop off).take i.size⟩, ?_, _, rfl, (hc.drop _).take _, ?_⟩
      · simp only [hagg, if_true, Sem.run_bind, run_sizeOfT hE hi, Result.andThen_ok, Sem.run_pure]
        congr 2
        simp [List.take_drop]
      · rw [List.all_eq_true] at hs ⊢
        exact fun x hx => hs x (List.mem_of_mem_drop (List.mem_of_mem_take hx))
    · rename_i hagg
      obtain ⟨v, hv1, hv2⟩ := hc.get _ _ h
      refine ⟨v, ?_, hv2⟩
      have : (⟨vs⟩ : Array Value)[off]? = some v := by simpa using hv1
      simp [hagg, this]
  · cases h

theorem fieldAt_ok (hE : TyOK E P) {t j : Nat} {f : Field} (h : fieldAt E t j = some f) : ∃ fs, (underlying t).run P w = .ok (.struct fs) w ∧ fs[j]? = some f := by
  unfold fieldAt at h
  split at h
  · rename_i i hi
    have hU := run_und (w := w) hE hi
    cases hu : i.u <;> rw [hu] at h hU <;> simp [fieldsOf] at h
    exact ⟨_, hU, h⟩
  · cases h

theorem field_run (hE : TyOK E P) {t j : Nat} {a r : AV} {x : Value} (h : evField E t a j = some r) (hx : VRel μ a x) : ∃ v, (Instr.field t x j).run P w = .ok v w ∧ VRel μ r v := by
  unfold evField at h
  cases hf : fieldAt E t j with
  | none => rw [hf] at h; cases h
  | some f =>
    rw [hf] at h
    cases ha : a.asAgg with
    | none => rw [ha] at h; cases h
    | some cs =>
      rw [ha] at h
      have := asAgg_eq ha; subst this
      obtain ⟨vs, rfl, hvs, hs⟩ := hx
      obtain ⟨fs, h1, h2⟩ := fieldAt_ok (P := P) (w := w) hE hf
      obtain ⟨v, h3, h4⟩ := part_good (P := P) (w := w) hE h hvs hs
      exact ⟨v, by simp [Instr.field, h1, h2, asAgg, h3], h4⟩

theorem fieldAddr_run (hE : TyOK E P) {t j : Nat} {a r : AV} {x : Value} (h : evFieldAddr E t a j = some r) (hx : VRel μ a x) : ∃ v, (Instr.fieldAt t x j).run P w = .ok v w ∧ VRel μ r v := by
  unfold evFieldAddr at h
  cases hf : fieldOff E t j with
  | none => rw [hf] at h; cases h
  | some o =>
    rw [hf] at h
    cases ha : a.asPtr with
    | none => rw [ha] at h; cases h
    | some p =>
      rw [ha] at h
      have := asPtr_eq ha; subst this
      obtain ⟨L, hL, rfl⟩ := hx
      cases h
      unfold fieldOff at hf
      split at hf
      · rename_i f hfa
        split at hf
        · cases hf
        · rename_i hz
          cases hf
          have hz' : sizeT E f.type ≠ 0 := by
            intro e; rw [e] at hz; exact hz rfl
          obtain ⟨fs, h1, h2⟩ := fieldAt_ok (P := P) (w := w) hE hfa
          refine ⟨.pointer (some ⟨L.b, L.sh + p.2 + f.offset, none⟩), ?_, L, hL, ?_⟩
          · simp [Instr.fieldAt, h1, h2, Instr.sureAddr, fieldPlace, run_sizeT hE hz', hz', add_plain]
          · show Value.pointer (some ⟨L.b, L.sh + p.2 + f.offset, none⟩) = .pointer (some ⟨L.b, L.sh + (p.2 + f.offset), none⟩)
            rw [Nat.add_assoc]
      · cases hf

theorem asNat_rel {b : AV} {y : Value} {n : Nat} (h : b.asNat = some n) (hy : VRel μ b y) : ∃ k, y = .int k (n : Int) := by
  obtain ⟨k, rfl⟩ := asNat_eq h
  exact ⟨k, hy⟩

theorem index_run (hE : TyOK E P) {t n : Nat} {a r : AV} {x : Value} {k : IntKind} (h : evIndex E t a n = some r) (hx : VRel μ a x) : ∃ v, (Instr.index t x (.int k (n : Int))).run P w = .ok v w ∧ VRel μ r v := by
  unfold evIndex at h
  split at h
  · rename_i i hi
    have hU := run_und (w := w) hE hi
    split at h
    · rename_i len e cs hu
      rw [hu] at hU
      split at h
      · rename_i hlt
        rw [blt_iff] at hlt
        obtain ⟨vs, rfl, hvs, hs⟩ := hx
        obtain ⟨v, h3, h4⟩ := part_good (P := P) (w := w) hE h hvs hs
        refine ⟨v, ?_, h4⟩
        have hse : (Go.sizeOf e).run P w = .ok (sizeT E e) w := by
          cases he : E.ty e with
          | none => simp [evPart, he] at h
          | some ie => rw [sizeT_eq he]; exact run_sizeOfT hE he
        have hcond : (0 : Int) ≤ (n : Int) ∧ (n : Int) < (len : Int) := ⟨Int.natCast_nonneg _, by exact_mod_cast hlt⟩
        simp [Instr.index, asIntOf, hU, hlt, hse, h3]
      · cases h
    · rename_i s hu
      rw [hu] at hU
      split at h
      · rename_i b hb
        cases h
        obtain ⟨rfl, hs⟩ := hx
        refine ⟨.int .u8 (b : Int), ?_, rfl⟩
        have hlt : n < s.length := (List.getElem?_eq_some_iff.1 hb).1
        have hsz : n < (strV s).size := by rw [strV_size]; exact hlt
        have hget : (strV s)[n]? = some (UInt8.ofNat b) := by
          rw [getElem?_pos (strV s) n hsz]
          congr 1
          show ((s.map UInt8.ofNat).toArray)[n]'(by simpa using hlt) = _
          simp [(List.getElem?_eq_some_iff.1 hb).2]
        have hget : (⟨(s.map UInt8.ofNat).toArray⟩ : ByteArray)[n]? = some (UInt8.ofNat b) := hget
        have hb' : b < 256 := hs b (List.mem_of_getElem? hb)
        simp [Instr.index, asIntOf, hU, hget]
        omega
      · cases h
    · cases h
  · cases h

theorem idxT_ok (hE : TyOK E P) {t : Nat} {l : Option Nat} {es : Nat} (h : idxT E t = some (l, es)) : ∃ e, (Go.sizeOf e).run P w = .ok es w ∧
    ((∃ len, l = some len ∧ (underlying t).run P w = .ok (.array len e) w) ∨ (l = none ∧ (underlying t).run P w = .ok (.slice e) w)) := by
  unfold idxT at h
  split at h
  · rename_i i hi
    have hU := run_und (w := w) hE hi
    split at h
    · rename_i len e hu
      rw [hu] at hU
      unfold withSize at h
      split at h
      · rename_i ie hie
        cases h
        exact ⟨e, run_sizeOfT hE hie, .inl ⟨len, rfl, hU⟩⟩
      · cases h
    · rename_i e hu
      rw [hu] at hU
      unfold withSize at h
      split at h
      · rename_i ie hie
        cases h
        exact ⟨e, run_sizeOfT hE hie, .inr ⟨rfl, hU⟩⟩
      · cases h
    · cases h
  · cases h

theorem idxPtr_eq {id off n len es : Nat} {r : AV} (h : idxPtr id off n len es = some r) : n < len ∧ r = .ptr id (off + n * es) := by
  unfold idxPtr at h
  rw [selLt] at h
  split at h
  · rename_i hlt; cases h; exact ⟨hlt, rfl⟩
  · cases h

theorem indexAddr_run (hE : TyOK E P) {t n : Nat} {a r : AV} {x : Value} {k : IntKind} (h : evIndexAddr E t a n = some r) (hx : VRel μ a x) :
    ∃ v, (Instr.indexAt t x (.int k (n : Int))).run P w = .ok v w ∧ VRel μ r v := by
  unfold evIndexAddr at h
  cases hq : idxT E t with
  | none => rw [hq] at h; cases h
  | some q =>
    rw [hq] at h
    obtain ⟨l, es⟩ := q
    obtain ⟨e, hse, hcase⟩ := idxT_ok (P := P) (w := w) hE hq
    simp only [idxAt] at h
    rcases hcase with ⟨len, rfl, hU⟩ | ⟨rfl, hU⟩
    · cases ha : a.asPtr with
      | none => rw [ha] at h; cases h
      | some p =>
        rw [ha] at h
        have := asPtr_eq ha; subst this
        obtain ⟨L, hL, rfl⟩ := hx
        obtain ⟨hlt, rfl⟩ := idxPtr_eq h
        refine ⟨.pointer (some ⟨L.b, L.sh + p.2 + n * es, none⟩), ?_, L, hL, by rw [Nat.add_assoc]⟩
        simp [Instr.indexAt, asIntOf, hU, Instr.sureAddr, hlt, hse, add_plain]
    · cases ha : a.asSl with
      | none => rw [ha] at h; cases h
      | some q =>
        rw [ha] at h
        obtain ⟨hlt, rfl⟩ := idxPtr_eq h
        rcases asSl_eq ha with ⟨c, rfl⟩ | ⟨es', rfl⟩
        · obtain ⟨L, o, hL, rfl, ho, hle⟩ := hx
          have ho : o = L.sh + q.2.1 := by
            rcases ho with ho | ho
            · exact ho
            · omega
          subst ho
          refine ⟨.pointer (some ⟨L.b, L.sh + q.2.1 + n * es, none⟩), ?_, L, hL, by rw [Nat.add_assoc]⟩
          simp [Instr.indexAt, asIntOf, hU, hlt, hse, add_plain]
        · obtain ⟨L, o, c, hL, rfl, hle, ho⟩ := hx
          have ho : o = L.sh + q.2.1 := by
            rcases ho with ho | ho
            · exact ho.1
            · omega
          subst ho
          refine ⟨.pointer (some ⟨L.b, L.sh + q.2.1 + n * es, none⟩), ?_, L, hL, by rw [Nat.add_assoc]⟩
          simp [Instr.indexAt, asIntOf, hU, hlt, hse, add_plain]

/-! ### Slicing -/
/-- an optional bound, and the model's value of it -/
def BndRel (b : Option Nat) (v : Option Value) : Prop := match b with
  | none => v = none
  | some n => ∃ k, v = some (.int k (n : Int))

theorem bound_run {n y : Nat} {k : IntKind} {code : BoundsCode} (h : n ≤ y) : (Instr.sliceBound (.int k (n : Int)) y code).run P w = .ok n w := by
  have : (n : Int) ≤ (y : Int) := by exact_mod_cast h
  simp [Instr.sliceBound, asIntOf, h]

theorem bounds_run {isSl : Bool} {len cap : Nat} {lo hi mx : Option Nat} {vl vh vm : Option Value} (hl : BndRel lo vl) (hh : BndRel hi vh) (hm : BndRel mx vm)
    (h1 : mx.getD cap ≤ cap) (h2 : hi.getD len ≤ mx.getD cap) (h3 : lo.getD 0 ≤ hi.getD len) (h4 : mx.isSome = true → hi.isSome = true) :
    (Instr.sliceBounds isSl len cap vl vh vm).run P w = .ok (lo.getD 0, hi.getD len, mx.getD cap) w := by
  cases mx with
  | none =>
    cases hm
    simp only [Option.getD_none] at h1 h2
    cases hi with
    | none =>
      cases hh
      simp only [Option.getD_none] at h2 h3
      cases lo with
      | none => cases hl; simp [Instr.sliceBounds]
      | some l => obtain ⟨k, rfl⟩ := hl; simp only [Option.getD_some] at h3; simp [Instr.sliceBounds, bound_run h3]
    | some hh' =>
      obtain ⟨k, rfl⟩ := hh
      simp only [Option.getD_some] at h2 h3
      cases lo with
      | none => cases hl; simp [Instr.sliceBounds, bound_run h2]
      | some l => obtain ⟨k, rfl⟩ := hl; simp only [Option.getD_some] at h3; simp [Instr.sliceBounds, bound_run h2, bound_run h3]
  | some c =>
    obtain ⟨k, rfl⟩ := hm
    simp only [Option.getD_some] at h1 h2
    cases hi with
    | none => simp at h4
    | some hh' =>
      obtain ⟨k, rfl⟩ := hh
      simp only [Option.getD_some] at h2 h3
      cases lo with
      | none => cases hl; simp [Instr.sliceBounds, bound_run h1, bound_run h2]
      | some l => obtain ⟨k, rfl⟩ := hl; simp only [Option.getD_some] at h3; simp [Instr.sliceBounds, bound_run h1, bound_run h2, bound_run h3]

/-- the slice expression on a slice whose elements have es cells -/
theorem evSlice_run {es l h c : Nat} {a r : AV} {b o len cap : Nat} {lo hi mx : Option Nat} (hr : Rep μ m w) (hev : evSlice m es a lo hi mx = some r)
    (hx : VRel μ a (.slice (some ⟨b, o, none⟩) len cap)) (hl : l = lo.getD 0) (hh : h = hi.getD len) (hc : c = mx.getD cap) :
    c ≤ cap ∧ h ≤ c ∧ l ≤ h ∧ VRel μ r (.slice (some (if c = l then ⟨b, o, none⟩ else (⟨b, o, none⟩ : Addr).add (l * es))) (h - l) (c - l)) := by
  subst hl; subst hh; subst hc
  rw [add_plain]
  have hif : (if mx.getD cap = lo.getD 0 then (⟨b, o, none⟩ : Addr) else ⟨b, o + lo.getD 0 * es, none⟩) = ⟨b, if mx.getD cap = lo.getD 0 then o else o + lo.getD 0 * es, none⟩ := by split <;> rfl
  rw [hif]
  unfold evSlice at hev
  split at hev
  · cases hx
  · rename_i id off len' cap'
    obtain ⟨L, o', hL, e, ho, hle⟩ := hx
    cases e
    simp only at hev
    split at hev
    · rename_i hcond
      obtain ⟨c1, c2, c3⟩ := hcond
      cases hev
      refine ⟨c1, c2, c3, L, _, hL, rfl, ?_, by omega⟩
      by_cases he : mx.getD cap = lo.getD 0
      · right; omega
      · left
        rw [if_neg he, if_neg he]
        rcases ho with ho | ho
        · omega
        · omega
    · cases hev
  · rename_i id off len' es'
    obtain ⟨L, o', c', hL, e, hle, ho⟩ := hx
    cases e
    simp only at hev
    split at hev
    · rename_i hes
      obtain ⟨rfl, hes⟩ := hes
      split at hev
      · rename_i c
        split at hev
        · rename_i hcond
          obtain ⟨c1, c2, c3⟩ := hcond
          cases hev
          simp only [Option.getD_some] at c2 ⊢
          refine ⟨by omega, c2, c3, L, _, hL, rfl, ?_, by omega⟩
          by_cases he : c = lo.getD 0
          · right; omega
          · left
            rw [if_neg he, if_neg he]
            rcases ho with ho | ho
            · omega
            · omega
        · cases hev
      · simp only [Option.getD_none]
        split at hev
        · rename_i hlh
          have key : ∀ (H : hi.getD len ≤ cap), AV.oslice id (off + lo.getD 0 * es') (hi.getD len - lo.getD 0) es' = r →
              cap ≤ cap ∧ hi.getD len ≤ cap ∧ lo.getD 0 ≤ hi.getD len ∧ VRel μ r (.slice (some ⟨L.b, if cap = lo.getD 0 then o else o + lo.getD 0 * es', none⟩) (hi.getD len - lo.getD 0) (cap - lo.getD 0)) := by
            intro H hreq
            subst hreq
            refine ⟨Nat.le_refl _, H, hlh, L, _, cap - lo.getD 0, hL, rfl, by omega, ?_⟩
            have hmul : (cap - lo.getD 0) * es' + lo.getD 0 * es' = cap * es' := by rw [← Nat.add_mul]; congr 1; omega
            rcases ho with ⟨ho1, ho2⟩ | ⟨ho1, ho2⟩
            · by_cases he : cap = lo.getD 0
              · right; refine ⟨by omega, ?_⟩
                have : (cap - lo.getD 0) * es' = 0 := by rw [he]; simp
                omega
              · left; rw [if_neg he]; exact ⟨by omega, by omega⟩
            · right
              have h0 : lo.getD 0 = 0 := by omega
              refine ⟨by omega, ?_⟩
              rw [h0]; omega
          split at hev
          · rename_i hlen
            exact key (by omega) (Option.some.inj hev)
          · split at hev
            · rename_i size cells ov closed hg
              split at hev
              · rename_i hsz
                have hb := hr.blk _ _ _ hg hL
                obtain ⟨c₀, e₀, lo₀, hi₀, g1, g2, g3, g4, _⟩ := hb
                refine key ?_ (Option.some.inj hev)
                rcases ho with ⟨ho1, ho2⟩ | ⟨ho1, ho2⟩
                · apply Nat.le_of_mul_le_mul_right _ hes
                  omega
                · exfalso
                  have : 0 < hi.getD len := by omega
                  have : 0 < hi.getD len * es' := Nat.mul_pos this hes
                  omega
              · cases hev
            · cases hev
        · cases hev
    · cases hev
  · cases hev

theorem addIf (b o l c n : Nat) : (if c = l then (⟨b, o, none⟩ : Addr) else (⟨b, o, none⟩ : Addr).add n) = ⟨b, if c = l then o else o + n, none⟩ := by
  rw [add_plain]; split <;> rfl

/-- slicing a slice, the model's -/
theorem slice_slice (hE : TyOK E P) (hr : Rep μ m w) {t e : Nat} {a r : AV} {x : Value} {lo hi mx : Option Nat} {vl vh vm : Option Value} (hU : (underlying t).run P w = .ok (.slice e) w)
    (h : evSliceT E m e a lo hi mx = some r) (hx : VRel μ a x) (hl : BndRel lo vl) (hh : BndRel hi vh) (hm : BndRel mx vm) :
    ∃ v, (Instr.slice t x vl vh vm).run P w = .ok v w ∧ VRel μ r v := by
  unfold evSliceT at h
  split at h
  · rename_i ie hie
    split at h
    · rename_i h4
      have h4' : mx.isSome = true → hi.isSome = true := by
        intro hs; rw [Bool.or_eq_true] at h4
        rcases h4 with h4 | h4
        · cases mx <;> simp at h4 hs
        · exact h4
      have hse := run_sizeOfT (w := w) hE hie
      by_cases hnil : a = .nilslice
      · subst hnil
        cases hx
        simp only [evSlice] at h
        split at h
        · rename_i hc
          obtain ⟨c1, c2, c3⟩ := hc
          cases h
          have hb := bounds_run (P := P) (w := w) (isSl := true) (len := 0) (cap := 0) hl hh hm (by omega) (by omega) (by omega) h4'
          refine ⟨.slice none 0 0, ?_, rfl⟩
          simp [Instr.slice, hU, hb, hse, c1, c2, c3]
        · cases h
      · have hform : ∃ b o len cap, x = .slice (some ⟨b, o, none⟩) len cap := by
          cases a <;> simp only [evSlice] at h <;> (try cases h)
          case nilslice => exact absurd rfl hnil
          case slice => obtain ⟨L, o, hL, e, _⟩ := hx; exact ⟨_, _, _, _, e⟩
          case oslice => obtain ⟨L, o, c, hL, e, _⟩ := hx; exact ⟨_, _, _, _, e⟩
        obtain ⟨b, o, len, cap, rfl⟩ := hform
        obtain ⟨c1, c2, c3, hv⟩ := evSlice_run hr h hx rfl rfl rfl
        have hb := bounds_run (P := P) (w := w) (isSl := true) hl hh hm c1 c2 c3 h4'
        refine ⟨_, ?_, hv⟩
        simp only [Instr.slice, Sem.run_bind, hU, Result.andThen_ok, hb, hse, Sem.run_pure]
        split <;> rfl
    · cases h
  · cases h

/-- slicing an array behind an address -/
theorem slice_arr (hE : TyOK E P) (hr : Rep μ m w) {n e : Nat} {a r : AV} {x : Value} {lo hi mx : Option Nat} {vl vh vm : Option Value}
    (h : evSliceArr E m n e a lo hi mx = some r) (hx : VRel μ a x) (hl : BndRel lo vl) (hh : BndRel hi vh) (hm : BndRel mx vm) :
    ∃ b o l h c size, x = .pointer (some ⟨b, o, none⟩) ∧ (Go.sizeOf e).run P w = .ok size w ∧ (Instr.sliceBounds false n n vl vh vm).run P w = .ok (l, h, c) w ∧
      VRel μ r (.slice (some (if c = l then ⟨b, o, none⟩ else (⟨b, o, none⟩ : Addr).add (l * size))) (h - l) (c - l)) := by
  unfold evSliceArr at h
  split at h
  · rename_i p hp
    have := asPtr_eq hp; subst this
    obtain ⟨L, hL, rfl⟩ := hx
    unfold evSliceT at h
    split at h
    · rename_i ie hie
      split at h
      · rename_i h4
        have h4' : mx.isSome = true → hi.isSome = true := by
          intro hs; rw [Bool.or_eq_true] at h4
          rcases h4 with h4 | h4
          · cases mx <;> simp at h4 hs
          · exact h4
        have hse := run_sizeOfT (w := w) hE hie
        have hx' : VRel μ (.slice p.1 p.2 n n) (.slice (some ⟨L.b, L.sh + p.2, none⟩) n n) := ⟨L, _, hL, rfl, .inl rfl, Nat.le_refl _⟩
        obtain ⟨c1, c2, c3, hv⟩ := evSlice_run hr h hx' rfl rfl rfl
        have hb := bounds_run (P := P) (w := w) (isSl := false) hl hh hm c1 c2 c3 h4'
        exact ⟨_, _, _, _, _, _, rfl, hse, hb, hv⟩
      · cases h
    · cases h
  · cases h

theorem sliceOp_run (hE : TyOK E P) (hr : Rep μ m w) {t : Nat} {a r : AV} {x : Value} {lo hi mx : Option Nat} {vl vh vm : Option Value} (h : evSliceOp E t a lo hi mx m = some r) (hx : VRel μ a x)
    (hl : BndRel lo vl) (hh : BndRel hi vh) (hm : BndRel mx vm) :
    ∃ v, (Instr.sliceAt t x vl vh vm).run P w = .ok v w ∧ VRel μ r v := by
  unfold evSliceOp at h
  split at h
  · rename_i i hi'
    have hU := run_und (w := w) hE hi'
    split at h
    · rename_i e hu
      rw [hu] at hU
      obtain ⟨v, h1, h2⟩ := slice_slice hE hr hU h hx hl hh hm
      exact ⟨v, by simp only [Instr.sliceAt, Sem.run_bind, hU, Result.andThen_ok, h1], h2⟩
    · rename_i hu
      rw [hu] at hU
      split at h
      · rename_i s hs
        have := asStr_eq hs; subst this
        obtain ⟨rfl, hlt⟩ := hx
        cases hm
        unfold evSubstr at h
        split at h
        · rename_i hc
          obtain ⟨c1, c2⟩ := hc
          cases h
          have hsz : (⟨(s.map UInt8.ofNat).toArray⟩ : ByteArray).size = s.length := by simp [ByteArray.size]
          have hb := bounds_run (P := P) (w := w) (isSl := false) (len := s.length) (cap := s.length) (mx := none) hl hh rfl (Nat.le_refl _) c1 c2 (by simp)
          refine ⟨.string ((⟨(s.map UInt8.ofNat).toArray⟩ : ByteArray).extract (lo.getD 0) (hi.getD s.length)), ?_, ?_, ?_⟩
          · simp only [Instr.sliceAt, Sem.run_bind, hU, Result.andThen_ok, Instr.slice, Option.isSome_none, Bool.false_eq_true, if_false, hsz, hb, Sem.run_pure]
          · congr 1
            have : ((⟨(s.map UInt8.ofNat).toArray⟩ : ByteArray).extract (lo.getD 0) (hi.getD s.length)).data = (((s.drop (lo.getD 0)).take (hi.getD s.length - lo.getD 0)).map UInt8.ofNat).toArray := by
              apply Array.ext'
              rw [ByteArray.data_extract]
              simp [List.take_drop, List.map_drop, List.map_take]
            cases hx2 : ((⟨(s.map UInt8.ofNat).toArray⟩ : ByteArray).extract (lo.getD 0) (hi.getD s.length))
            rw [hx2] at this; simp only at this; rw [this]
          · intro x hx
            exact hlt x (List.mem_of_mem_drop (List.mem_of_mem_take hx))
        · cases h
      · cases h
    · rename_i n e hu
      rw [hu] at hU
      obtain ⟨b, o, l, h', c, size, rfl, h1, h2, h3⟩ := slice_arr (P := P) hE hr h hx hl hh hm
      exact ⟨_, by simp only [Instr.sliceAt, Sem.run_bind, hU, Result.andThen_ok, Instr.sureAddr, Sem.run_pure, h2, h1], h3⟩
    · rename_i arr hu
      rw [hu] at hU
      split at h
      · rename_i ai hai
        have hU2 := run_und (w := w) hE hai
        split at h
        · rename_i n e hu2
          rw [hu2] at hU2
          obtain ⟨b, o, l, h', c, size, rfl, h1, h2, h3⟩ := slice_arr (P := P) hE hr h hx hl hh hm
          exact ⟨_, by simp only [Instr.sliceAt, Sem.run_bind, hU, Result.andThen_ok, Instr.slice, asAddr, Sem.run_pure, hU2, h2, h1], h3⟩
        · cases h
      · cases h
    · cases h
  · cases h
end
end Ev
