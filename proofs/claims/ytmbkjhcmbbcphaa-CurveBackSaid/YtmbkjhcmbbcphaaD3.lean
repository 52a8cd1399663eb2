/-
  Sums and negatives of points as plain data. Conditions: points of 64 bytes.
-/
import Derived.Test.YtmbkjhcmbbcphaaCc
import Derived.Test.YtmbkjhcmbbcphaaV1
namespace Ev
open Go Go.Proofs
noncomputable section

/-! an environment with the sum in place -/
def orcB (l : List (Nat × (List AV → Option AV))) (f : Nat) : Option (List AV → AMem → R) := Bool.casesOn (motive := fun _ => Option (List AV → AMem → R)) (Nat.beq f 63) (lookS l f) (some addO)
theorem orcB_some {l : List (Nat × (List AV → Option AV))} {f : Nat} {o : List AV → AMem → R} (h : orcB l f = some o) : (f = 63 ∧ o = addO) ∨ lookS l f = some o := by
  unfold orcB at h
  cases hb : Nat.beq f 63 with
  | false => rw [hb] at h; exact .inr h
  | true => rw [hb] at h; exact .inl ⟨Nat.eq_of_beq_eq_true hb, (Option.some.inj h).symm⟩
theorem orcB_ok {l : List (Nat × (List AV → Option AV))} (h : ∀ p ∈ l, FnOK Try.prog p.1 (orcS p.2)) : OrcOK Try.prog (orcB l) := by
  have hl := orc_list (P := Try.prog) h
  refine ⟨fun f o h => ?_, fun f o h args m r m' hr => ?_, fun f o h args m r m' l hr hlp => ?_⟩
  · rcases orcB_some h with ⟨rfl, rfl⟩ | h
    · exact addO_fn
    · exact hl.ok f o h
  · rcases orcB_some h with ⟨rfl, rfl⟩ | h
    · obtain ⟨ids, m0, m0', args0, hs⟩ := addO_shown args m r m' hr
      rw [hs.next]; exact Nat.le_refl _
    · exact hl.grows f o h args m r m' hr
  · rcases orcB_some h with ⟨rfl, rfl⟩ | h
    · obtain ⟨ids, m0, m0', args0, hs⟩ := addO_shown args m r m' hr
      exact shown_loop hs hlp
    · exact hl.keeps f o h args m r m' l hr hlp
def bEnv (l : List (Nat × (List AV → Option AV))) : Env := envOf Try.prog (tab Try.prog.types.toList) (tab Try.prog.funcs.toList) (orcB l)
theorem okB {l : List (Nat × (List AV → Option AV))} (h : ∀ p ∈ l, FnOK Try.prog p.1 (orcS p.2)) : EnvOK (bEnv l) Try.prog := env_ok okP mixP (orcB_ok h)

def rowQ (b : Option ABlk) (K : List AV → Bool → Prop) : Prop :=
  Option.casesOn (motive := fun _ => Prop) b False fun b => ABlk.casesOn (motive := fun _ => Prop) b (fun size cells ov cl => Bool.casesOn (motive := fun _ => Prop) (Nat.beq size 128) False (Tr.casesOn (motive := fun _ => Prop) ov (K cells cl) fun _ _ _ => False)) (fun _ => False) fun _ _ _ _ _ _ => False
def addQ (l l' : List AV) (K : Nat → Nat → Nat → Nat → Prop) : Prop :=
  ∃ x1 y1 z1 t1 x2 y2 z2 t2, (four l = some (x1, y1, z1, t1) ∧ four l' = some (x2, y2, z2, t2)) ∧ ∀ X Y Z T, wsumN x1 y1 z1 t1 x2 y2 z2 t2 (fun X' Y' Z' T' => X = X' ∧ Y = Y' ∧ Z = Z' ∧ T = T') → K X Y Z T
def addAW : List AV → AMem → KP → Prop
  | [.ptr a oa, .ptr b ob], m, K => Bool.casesOn (motive := fun _ => Prop) (Nat.beq oa 0 && Nat.beq ob 0) False
    (rowQ (m.get a) fun l cl => rowQ (m.get b) fun l' _ => addQ l l' fun X Y Z T => K (.tup []) (m.put a (rowW X Y Z T cl)))
  | _, _, _ => False
theorem rowQ_some {m : AMem} {a : Nat} {K : List AV → Bool → Prop} (h : rowQ (m.get a) K) : ∃ l cl, m.get a = some (.row 128 l .nil cl) ∧ K l cl := by
  unfold rowQ at h
  cases hg : m.get a with
  | none => rw [hg] at h; cases h
  | some b =>
    rw [hg] at h
    cases b with
    | row size cells ov cl =>
      have h : Bool.casesOn (motive := fun _ => Prop) (Nat.beq size 128) False (Tr.casesOn (motive := fun _ => Prop) ov (K cells cl) fun _ _ _ => False) := h
      cases hb : Nat.beq size 128 with
      | false => rw [hb] at h; cases h
      | true =>
        rw [hb] at h
        have := Nat.eq_of_beq_eq_true hb
        subst this
        cases ov with
        | nil => exact ⟨cells, cl, rfl, h⟩
        | node _ _ _ => cases h
    | map _ => cases h
    | loop _ _ _ _ _ _ => cases h
theorem addAW_ok {args : List AV} {m : AMem} {K : KP} (h : addAW args m K) : ∃ r m', addO args m = some (r, m') ∧ K r m' := by
  unfold addAW at h
  split at h
  · next a oa b ob =>
    cases hb : (Nat.beq oa 0 && Nat.beq ob 0) with
    | false => rw [hb] at h; cases h
    | true =>
      rw [hb] at h
      rw [Bool.and_eq_true] at hb
      have h1 := Nat.eq_of_beq_eq_true hb.1
      have h2 := Nat.eq_of_beq_eq_true hb.2
      subst h1 h2
      obtain ⟨l, cl, g1, h⟩ := rowQ_some h
      obtain ⟨l', cl', g2, h⟩ := rowQ_some h
      obtain ⟨x1, y1, z1, t1, x2, y2, z2, t2, ⟨e1, e2⟩, h⟩ := h
      have r1 : rdRow m a = some (x1, y1, z1, t1, cl) := by
        unfold rdRow
        rw [g1]
        simp only [e1]
      have r2 : rdRow m b = some (x2, y2, z2, t2, cl') := by
        unfold rdRow
        rw [g2]
        simp only [e2]
      obtain ⟨X, Y, Z, T, hK, hS⟩ : ∃ X Y Z T, wsumN x1 y1 z1 t1 x2 y2 z2 t2 (fun X' Y' Z' T' => X = X' ∧ Y = Y' ∧ Z = Z' ∧ T = T') ∧
          wsumN x1 y1 z1 t1 x2 y2 z2 t2 (fun X Y Z T => some (AV.tup [], m.put a (rowW X Y Z T cl))) = some (AV.tup [], m.put a (rowW X Y Z T cl)) := by
        simp only [wsumN, forceN_eq]
        exact ⟨_, _, _, _, ⟨rfl, rfl, rfl, rfl⟩, rfl⟩
      refine ⟨.tup [], m.put a (rowW X Y Z T cl), ?_, h X Y Z T hK⟩
      show addO [.ptr a 0, .ptr b 0] m = _
      unfold addO
      simp only [r1, r2]
      exact hS
  · cases h
def owB (l : List (Nat × (List AV → AMem → KP → Prop))) (f : Nat) : Option (List AV → AMem → KP → Prop) :=
  Bool.casesOn (motive := fun _ => Option (List AV → AMem → KP → Prop)) (Nat.beq f 63) (owL l f) (some addAW)
def pfB (l : List (Nat × (List AV → Option AV))) (f : Nat) : Bool := !Nat.beq f 63 && pfS l f
theorem pfB_some {l : List (Nat × (List AV → Option AV))} {g : Nat} (h : pfB l g = true) : ∃ s, (bEnv l).orc g = some (orcS s) := by
  unfold pfB at h
  rw [Bool.and_eq_true] at h
  obtain ⟨s, hs⟩ := pfS_some h.2
  refine ⟨s, ?_⟩
  show orcB l g = _
  unfold orcB
  cases hb : Nat.beq g 63 with
  | false => exact hs
  | true => rw [hb] at h; cases h.1
theorem run_b {l : List (Nat × (List AV → Option AV))} {l' : List (Nat × (List AV → AMem → KP → Prop))} (hp : Paired l l') (hl : ∀ p ∈ l, FnOK Try.prog p.1 (orcS p.2)) {cf : Wcfg} (hpf : ∀ g, cf.pf g = true → pfB l g = true) {f n : Nat} {args : List AV} {K : AV → Prop}
    (h : wpCall cf (bEnv l) (owB l') n (.fn f) args ⟨0, .nil⟩ (fun r _ => ∀ _ : AMem, K r)) : ∃ r m', evCall (bEnv l) n (.fn f) args ⟨0, .nil⟩ = some (r, m') ∧ K r := by
  obtain ⟨r, m', h1, h2⟩ := wpCall_ok (cf := cf) (E := bEnv l) (okB hl).grows (fun g hg => pfB_some (hpf g hg)) (ow := owB l') (fun f hf => by
      show orcB l f = none
      unfold orcB
      unfold owB at hf
      cases hb : Nat.beq f 63 with
      | true => rw [hb] at hf; cases hf
      | false => rw [hb] at hf; exact paired_none hp f hf) (fun f w hf args m K hw => by
      unfold owB at hf
      cases hb : Nat.beq f 63 with
      | true =>
        rw [hb] at hf
        cases hf
        obtain ⟨r, m', h1, h2⟩ := addAW_ok hw
        refine ⟨addO, r, m', ?_, h1, h2⟩
        show orcB l f = _
        unfold orcB
        rw [hb]
      | false =>
        rw [hb] at hf
        obtain ⟨o, r, m', h1, h2⟩ := paired_some hp f w hf args m K hw
        refine ⟨o, r, m', ?_, h2⟩
        show orcB l f = _
        unfold orcB
        rw [hb]; exact h1) n _ _ _ _ h
  exact ⟨r, m', h1, h2 m'⟩

/-! Zero -/
theorem zero_run : ansR (evCall (pEnv []) 1000 (.fn 39) [] ⟨0, .nil⟩) = some (.agg (pt 0 1)) := by kernel_rfl
def zeroPS : List AV → Option AV
  | [] => some (.agg (pt 0 1))
  | _ => none
theorem zero_c : PlainC Try.prog 39 zeroPS := by
  refine ⟨fun l r h => ?_, fun l r h => ?_⟩ <;> unfold zeroPS at h <;> split at h
  · cases h; exact ⟨rfl, plain_pt _ _⟩
  · cases h
  · cases h
    obtain ⟨m, hm⟩ := ansR_some zero_run
    exact ⟨_, _, m, okE0, hm⟩
  · cases h
def zeroPA : List AV → AMem → KP → Prop
  | [], m, K => K (.agg (pt 0 1)) m
  | _, _, _ => False
theorem zeroPA_ok {args : List AV} {m : AMem} {K : KP} (h : zeroPA args m K) : ∃ r, zeroPS args = some r ∧ K r m := by
  unfold zeroPA at h
  split at h
  · exact ⟨_, rfl, h⟩
  · cases h

/-! Add, Neg -/
def specsD : List (Nat × (List AV → Option AV)) := [(36, checkS), (39, zeroPS), (15, ofS), (23, numS2 mulN), (27, numS1 invN), (21, numS1 negN)]
theorem specsD_ok : ∀ p ∈ specsD, FnOK Try.prog p.1 (orcS p.2) := by
  intro p hp
  simp only [specsD, List.mem_cons, List.not_mem_nil, or_false] at hp
  rcases hp with rfl | rfl | rfl | rfl | rfl | rfl
  · exact plain_ok check_c
  · exact plain_ok zero_c
  · exact plain_ok of_c
  · exact plain_ok mul_c
  · exact plain_ok inv_c
  · exact plain_ok neg_c
def waysD : List (Nat × (List AV → AMem → KP → Prop)) := [(36, checkA), (39, zeroPA), (15, ofA), (23, numA2 mulN), (27, numA1 invN), (21, numA1 negN)]
theorem pairedD : Paired specsD waysD := .cons (fun _ _ _ h => checkA_ok h) (.cons (fun _ _ _ h => zeroPA_ok h) (.cons (fun _ _ _ h => ofA_ok h) (.cons (fun _ _ _ h => numA2_ok h)
  (.cons (fun _ _ _ h => numA1_ok h) (.cons (fun _ _ _ h => numA1_ok h) .nil)))))
def cfD : Wcfg := ⟨fun _ => false, pfB specsD, fun _ => none⟩
def sumM (x1 y1 x2 y2 : List AV) (K : List AV → Prop) : Prop :=
  checkQ (x1 ++ y1) (checkQ (x2 ++ y2) (ofQ 1 fun o => q2 mulN x1 y1 fun t1 => ofQ 1 fun o' => q2 mulN x2 y2 fun t2 => addQ (cat4 x1 y1 o t1) (cat4 x2 y2 o' t2) fun X Y Z _ =>
    q1 invN (encL 32 Z) fun i => q2 mulN (encL 32 X) i fun x => q2 mulN (encL 32 Y) i fun y => K (x ++ y)) (K (pt 0 1))) (K (pt 0 1))
set_option maxRecDepth 1000000 in
theorem sum_wp (x1 y1 x2 y2 : Nat) (K : AV → Prop) : (sumM (encL 32 x1) (encL 32 y1) (encL 32 x2) (encL 32 y2) fun l => ∀ _ : AMem, K (.agg l)) =
    wpCall cfD (bEnv specsD) (owB waysD) 1000 (.fn 38) [.agg (pt x1 y1), .agg (pt x2 y2)] ⟨0, .nil⟩ (fun r _ => ∀ _ : AMem, K r) := by kernel_rfl
def negM (x y : List AV) (K : List AV → Prop) : Prop := checkQ (x ++ y) (q1 negN x fun n => K (n ++ y)) (K (pt 0 1))
set_option maxRecDepth 1000000 in
theorem negP_wp (x y : Nat) (K : AV → Prop) : (negM (encL 32 x) (encL 32 y) fun l => ∀ _ : AMem, K (.agg l)) =
    wpCall cfD (bEnv specsD) (owB waysD) 1000 (.fn 37) [.agg (pt x y)] ⟨0, .nil⟩ (fun r _ => ∀ _ : AMem, K r) := by kernel_rfl
end
end Ev
