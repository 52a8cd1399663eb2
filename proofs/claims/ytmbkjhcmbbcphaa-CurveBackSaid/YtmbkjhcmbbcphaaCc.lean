/-
  The sum of wide points, in place: what the code does to the row it is given. Conditions: rows of four numbers.
-/
import Derived.Test.YtmbkjhcmbbcphaaD1
import Derived.Test.YtmbkjhcmbbcphaaEvD
namespace Ev
open Go Go.Proofs
noncomputable section

def cat4 (x y z t : List AV) : List AV := x ++ (y ++ (z ++ t))
def rowW (x y z t : Nat) (cl : Bool) : ABlk := .row 128 (cat4 (encL 32 x) (encL 32 y) (encL 32 z) (encL 32 t)) .nil cl
def addW (x1 y1 z1 t1 x2 y2 z2 t2 : List AV) (K : List AV → Prop) : Prop :=
  q2 subN y1 x1 fun p => q2 subN y2 x2 fun q => q2 mulN p q fun a =>
  q2 addN y1 x1 fun p => q2 addN y2 x2 fun q => q2 mulN p q fun b =>
  q2 mulN t1 (encL 32 curveD) fun p => q2 mulN p t2 fun c => q2 addN c c fun c =>
  q2 mulN z1 z2 fun z => q2 addN z z fun z =>
  q2 subN b a fun e => q2 subN z c fun f => q2 addN z c fun g => q2 addN b a fun h =>
  q2 mulN e f fun X => q2 mulN g h fun Y => q2 mulN f g fun Z => q2 mulN e h fun T => K (cat4 X Y Z T)
def specsA : List (Nat × (List AV → Option AV)) := [(23, numS2 mulN), (17, numS2 addN), (19, numS2 subN), (61, dS)]
theorem specsA_ok : ∀ p ∈ specsA, FnOK Try.prog p.1 (orcS p.2) := by
  intro p hp
  simp only [specsA, List.mem_cons, List.not_mem_nil, or_false] at hp
  rcases hp with rfl | rfl | rfl | rfl
  · exact plain_ok mul_c
  · exact plain_ok add_c
  · exact plain_ok sub_c
  · exact plain_ok d_c
def waysA : List (Nat × (List AV → AMem → KP → Prop)) := [(23, numA2 mulN), (17, numA2 addN), (19, numA2 subN), (61, dA)]
theorem pairedA : Paired specsA waysA := .cons (fun _ _ _ h => numA2_ok h) (.cons (fun _ _ _ h => numA2_ok h) (.cons (fun _ _ _ h => numA2_ok h) (.cons (fun _ _ _ h => dA_ok h) .nil)))
def cfA : Wcfg := ⟨fun _ => false, pfS specsA, fun _ => none⟩
def mem1 (A : ABlk) : AMem := AMem.add ⟨0, .nil⟩ A
def mem2 (A B : ABlk) : AMem := AMem.add (AMem.add ⟨0, .nil⟩ A) B

set_option maxRecDepth 1000000 in
theorem add2_wp (x1 y1 z1 t1 x2 y2 z2 t2 : Nat) (cl cl' : Bool) (Post : AV → Option ABlk → Option ABlk → Prop) :
    (addW (encL 32 x1) (encL 32 y1) (encL 32 z1) (encL 32 t1) (encL 32 x2) (encL 32 y2) (encL 32 z2) (encL 32 t2) fun l => Post (.tup []) (some (.row 128 l .nil cl)) (some (rowW x2 y2 z2 t2 cl'))) =
    wpCall cfA (pEnv specsA) (owL waysA) 1000 (.fn 63) [.ptr 0 0, .ptr 1 0] (mem2 (rowW x1 y1 z1 t1 cl) (rowW x2 y2 z2 t2 cl')) (fun r m => Post r (m.get 0) (m.get 1)) := by kernel_rfl
set_option maxRecDepth 1000000 in
theorem add1_wp (x1 y1 z1 t1 : Nat) (cl : Bool) (Post : AV → Option ABlk → Prop) :
    (addW (encL 32 x1) (encL 32 y1) (encL 32 z1) (encL 32 t1) (encL 32 x1) (encL 32 y1) (encL 32 z1) (encL 32 t1) fun l => Post (.tup []) (some (.row 128 l .nil cl))) =
    wpCall cfA (pEnv specsA) (owL waysA) 1000 (.fn 63) [.ptr 0 0, .ptr 0 0] (mem1 (rowW x1 y1 z1 t1 cl)) (fun r m => Post r (m.get 0)) := by kernel_rfl
end
end Ev

/-
  The sum of wide points as an oracle over rows of memory. Conditions: rows of four numbers.
-/
namespace Ev
open Go Go.Proofs
noncomputable section

def wsumN {α : Sort _} (x1 y1 z1 t1 x2 y2 z2 t2 : Nat) (k : Nat → Nat → Nat → Nat → α) : α :=
  forceN (mulN (subN y1 x1) (subN y2 x2)) fun a => forceN (mulN (addN y1 x1) (addN y2 x2)) fun b => forceN (mulN (mulN t1 curveD) t2) fun c => forceN (addN c c) fun c =>
  forceN (mulN z1 z2) fun z => forceN (addN z z) fun z => forceN (subN b a) fun e => forceN (subN z c) fun f => forceN (addN z c) fun g => forceN (addN b a) fun h =>
  forceN (mulN e f) fun X => forceN (mulN g h) fun Y => forceN (mulN f g) fun Z => forceN (mulN e h) fun T => k X Y Z T
theorem addW_nat {x1 y1 z1 t1 x2 y2 z2 t2 : Nat} (hx1 : x1 < 256 ^ 32) (hy1 : y1 < 256 ^ 32) (hz1 : z1 < 256 ^ 32) (ht1 : t1 < 256 ^ 32) (hx2 : x2 < 256 ^ 32) (hy2 : y2 < 256 ^ 32) (hz2 : z2 < 256 ^ 32) (ht2 : t2 < 256 ^ 32) {K : List AV → Prop}
    (hk : wsumN x1 y1 z1 t1 x2 y2 z2 t2 fun X Y Z T => K (cat4 (encL 32 X) (encL 32 Y) (encL 32 Z) (encL 32 T))) :
    addW (encL 32 x1) (encL 32 y1) (encL 32 z1) (encL 32 t1) (encL 32 x2) (encL 32 y2) (encL 32 z2) (encL 32 t2) K := by
  simp only [wsumN, forceN_eq] at hk
  unfold addW
  refine q2_nat hy1 hx1 (q2_nat hy2 hx2 (q2_nat (lt_sub _ _) (lt_sub _ _) ?_))
  refine q2_nat hy1 hx1 (q2_nat hy2 hx2 (q2_nat (lt_add _ _) (lt_add _ _) ?_))
  refine q2_nat ht1 dLt (q2_nat (lt_mul _ _) ht2 (q2_nat (lt_mul _ _) (lt_mul _ _) ?_))
  refine q2_nat hz1 hz2 (q2_nat (lt_mul _ _) (lt_mul _ _) ?_)
  refine q2_nat (lt_mul _ _) (lt_mul _ _) (q2_nat (lt_add _ _) (lt_add _ _) (q2_nat (lt_add _ _) (lt_add _ _) (q2_nat (lt_mul _ _) (lt_mul _ _) ?_)))
  exact q2_nat (lt_sub _ _) (lt_sub _ _) (q2_nat (lt_add _ _) (lt_add _ _) (q2_nat (lt_sub _ _) (lt_add _ _) (q2_nat (lt_sub _ _) (lt_add _ _) hk)))

/-- the four numbers of a row -/
def four (l : List AV) : Option (Nat × Nat × Nat × Nat) :=
  match decN 32 (l.take 32), decN 32 ((l.drop 32).take 32), decN 32 (((l.drop 32).drop 32).take 32), decN 32 (((l.drop 32).drop 32).drop 32) with
  | some x, some y, some z, some t => some (x, y, z, t)
  | _, _, _, _ => none
theorem four_some {l : List AV} {x y z t : Nat} (h : four l = some (x, y, z, t)) : l = cat4 (encL 32 x) (encL 32 y) (encL 32 z) (encL 32 t) ∧ x < 256 ^ 32 ∧ y < 256 ^ 32 ∧ z < 256 ^ 32 ∧ t < 256 ^ 32 := by
  unfold four at h
  split at h
  · next a b c d h1 h2 h3 h4 =>
    cases h
    obtain ⟨e1, g1⟩ := enc_decN h1
    obtain ⟨e2, g2⟩ := enc_decN h2
    obtain ⟨e3, g3⟩ := enc_decN h3
    obtain ⟨e4, g4⟩ := enc_decN h4
    refine ⟨?_, g1, g2, g3, g4⟩
    unfold cat4
    rw [← e1, ← e2, ← e3, ← e4, List.take_append_drop, List.take_append_drop, List.take_append_drop]
  · cases h
def rdRow (m : AMem) (a : Nat) : Option (Nat × Nat × Nat × Nat × Bool) := match m.get a with
  | some (.row size cells .nil cl) => match Nat.beq size 128 with
    | true => match four cells with
      | some (x, y, z, t) => some (x, y, z, t, cl)
      | none => none
    | false => none
  | _ => none
theorem rdRow_some {m : AMem} {a x y z t : Nat} {cl : Bool} (h : rdRow m a = some (x, y, z, t, cl)) : m.get a = some (rowW x y z t cl) ∧ x < 256 ^ 32 ∧ y < 256 ^ 32 ∧ z < 256 ^ 32 ∧ t < 256 ^ 32 := by
  unfold rdRow at h
  split at h
  · next size cells cl' hg =>
    split at h
    · next hb =>
      split at h
      · next x' y' z' t' hf =>
        cases h
        obtain ⟨rfl, h1⟩ := four_some hf
        have := Nat.eq_of_beq_eq_true hb
        subst this
        exact ⟨hg, h1⟩
      · cases h
    · cases h
  · cases h

def addO (args : List AV) (m : AMem) : R := match args with
  | [.ptr a 0, .ptr b 0] => match rdRow m a with
    | some (x1, y1, z1, t1, cl) => match rdRow m b with
      | some (x2, y2, z2, t2, _) => wsumN x1 y1 z1 t1 x2 y2 z2 t2 fun X Y Z T => some (.tup [], m.put a (rowW X Y Z T cl))
      | none => none
    | none => none
  | _ => none

theorem rowW_plain (x y z t : Nat) (cl : Bool) : PlainRow (rowW x y z t cl) := ⟨128, _, cl, rfl, by
  unfold cat4
  rw [plains_app, plains_app, plains_app, plains_enc, plains_enc, plains_enc, plains_enc]; rfl⟩

theorem pfA (g : Nat) (h : cfA.pf g = true) : ∃ s, lookS specsA g = some (orcS s) := pfS_some (l := specsA) h
theorem run_mem {l : List (Nat × (List AV → Option AV))} {l' : List (Nat × (List AV → AMem → KP → Prop))} (hp : Paired l l') (hl : ∀ p ∈ l, FnOK Try.prog p.1 (orcS p.2)) {cf : Wcfg} (hpf : ∀ g, cf.pf g = true → ∃ s, lookS l g = some (orcS s)) {f n : Nat} {args : List AV} {m : AMem} {K : KP}
    (h : wpCall cf (pEnv l) (owL l') n (.fn f) args m K) : ∃ r m', evCall (pEnv l) n (.fn f) args m = some (r, m') ∧ K r m' :=
  wpCall_ok (cf := cf) (E := pEnv l) (okE l hl).grows hpf (paired_none hp) (paired_some hp) n _ _ _ _ h
def P1 (R : ABlk) : AV → Option ABlk → Prop := fun r A => r = .tup [] ∧ A = some R
def P2 (R S : ABlk) : AV → Option ABlk → Option ABlk → Prop := fun r A B => r = .tup [] ∧ A = some R ∧ B = some S
theorem add1_run {x1 y1 z1 t1 : Nat} {cl : Bool} {R : ABlk}
    (hk : addW (encL 32 x1) (encL 32 y1) (encL 32 z1) (encL 32 t1) (encL 32 x1) (encL 32 y1) (encL 32 z1) (encL 32 t1) fun l => P1 R (.tup []) (some (.row 128 l .nil cl))) :
    ∃ r m0', evCall (pEnv specsA) 1000 (.fn 63) [.ptr 0 0, .ptr 0 0] (mem1 (rowW x1 y1 z1 t1 cl)) = some (r, m0') ∧ (fun r (m : AMem) => P1 R r (m.get 0)) r m0' := by
  have g := @run_mem _ _ pairedA specsA_ok cfA pfA 63 1000 [.ptr 0 0, .ptr 0 0] (mem1 (rowW x1 y1 z1 t1 cl)) (fun r (m : AMem) => P1 R r (m.get 0))
  rw [← add1_wp] at g
  exact g hk
theorem add2_run {x1 y1 z1 t1 x2 y2 z2 t2 : Nat} {cl cl' : Bool} {R : ABlk}
    (hk : addW (encL 32 x1) (encL 32 y1) (encL 32 z1) (encL 32 t1) (encL 32 x2) (encL 32 y2) (encL 32 z2) (encL 32 t2) fun l => P2 R (rowW x2 y2 z2 t2 cl') (.tup []) (some (.row 128 l .nil cl)) (some (rowW x2 y2 z2 t2 cl'))) :
    ∃ r m0', evCall (pEnv specsA) 1000 (.fn 63) [.ptr 0 0, .ptr 1 0] (mem2 (rowW x1 y1 z1 t1 cl) (rowW x2 y2 z2 t2 cl')) = some (r, m0') ∧ (fun r (m : AMem) => P2 R (rowW x2 y2 z2 t2 cl') r (m.get 0) (m.get 1)) r m0' := by
  have g := @run_mem _ _ pairedA specsA_ok cfA pfA 63 1000 [.ptr 0 0, .ptr 1 0] (mem2 (rowW x1 y1 z1 t1 cl) (rowW x2 y2 z2 t2 cl')) (fun r (m : AMem) => P2 R (rowW x2 y2 z2 t2 cl') r (m.get 0) (m.get 1))
  rw [← add2_wp] at g
  exact g hk
theorem mem1_get (A : ABlk) : (mem1 A).get 0 = some A := rfl
theorem mem2_get0 (A B : ABlk) : (mem2 A B).get 0 = some A := rfl
theorem mem2_get1 (A B : ABlk) : (mem2 A B).get 1 = some B := rfl

theorem addO_shown (args : List AV) (m : AMem) (r : AV) (m' : AMem) (h : addO args m = some (r, m')) : ∃ ids m0 m0' args0, Shown Try.prog 63 args m r m' ids m0 m0' args0 := by
  unfold addO at h
  split at h
  · next a b =>
    split at h
    · next x1 y1 z1 t1 cl ha =>
      split at h
      · next x2 y2 z2 t2 cl' hb =>
        obtain ⟨ga, hx1, hy1, hz1, ht1⟩ := rdRow_some ha
        obtain ⟨gb, hx2, hy2, hz2, ht2⟩ := rdRow_some hb
        have hlt := get_lt ga
        obtain ⟨X, Y, Z, T, hw, hX⟩ : ∃ X Y Z T, (∀ K : Nat → Nat → Nat → Nat → Prop, K X Y Z T → wsumN x1 y1 z1 t1 x2 y2 z2 t2 K) ∧ some (r, m') = some (AV.tup [], m.put a (rowW X Y Z T cl)) := by
          simp only [wsumN, forceN_eq] at h ⊢
          exact ⟨_, _, _, _, fun K hK => hK, h.symm⟩
        cases hX
        have gra : (m.put a (rowW X Y Z T cl)).get a = some (rowW X Y Z T cl) := AMem.get_put_same m a _ hlt
        by_cases hab : a = b
        · subst hab
          rw [ga] at gb
          have e : rowW x1 y1 z1 t1 cl = rowW x2 y2 z2 t2 cl' := Option.some.inj gb
          have hfour : x1 = x2 ∧ y1 = y2 ∧ z1 = z2 ∧ t1 = t2 := by
            rw [ha] at hb
            have := Option.some.inj hb
            simp only [Prod.mk.injEq] at this
            exact ⟨this.1, this.2.1, this.2.2.1, this.2.2.2.1⟩
          obtain ⟨rfl, rfl, rfl, rfl⟩ := hfour
          obtain ⟨r0, m0', h1, hr0, h3⟩ := add1_run (R := rowW X Y Z T cl) (addW_nat hx1 hy1 hz1 ht1 hx1 hy1 hz1 ht1 (hw _ ⟨rfl, rfl⟩))
          subst hr0
          refine ⟨[a], mem1 (rowW x1 y1 z1 t1 cl), m0', [.ptr 0 0, .ptr 0 0], ⟨⟨_, _, okE specsA specsA_ok, h1⟩, by simp, rfl, fun i id hi => ?_, fun i id hi => ?_, fun μ vs hv => ?_, rfl, rfl, fun id hid => ?_⟩⟩
          · cases i with
            | zero =>
              simp at hi; subst hi
              exact ⟨_, ga, mem1_get _, rowW_plain _ _ _ _ _⟩
            | succ i => simp at hi
          · cases i with
            | zero =>
              simp at hi; subst hi
              exact ⟨_, gra, h3, rowW_plain _ _ _ _ _⟩
            | succ i => simp at hi
          · obtain ⟨v, rest, rfl, ⟨L, hL, rfl⟩, v', rest', rfl, ⟨L', hL', rfl⟩, rfl⟩ := hv
            exact .cons ⟨L, by simpa [muOf] using hL, rfl⟩ (.cons ⟨L', by simpa [muOf] using hL', rfl⟩ .nil)
          · have : id ≠ a := fun e => hid (by simp [e])
            exact AMem.get_put_other m _ this
        · obtain ⟨r0, m0', h1, hr0, h3, h4⟩ := add2_run (R := rowW X Y Z T cl) (cl' := cl') (addW_nat hx1 hy1 hz1 ht1 hx2 hy2 hz2 ht2 (hw _ ⟨rfl, rfl, rfl⟩))
          have hba : b ≠ a := fun e => hab e.symm
          subst hr0
          refine ⟨[a, b], mem2 (rowW x1 y1 z1 t1 cl) (rowW x2 y2 z2 t2 cl'), m0', [.ptr 0 0, .ptr 1 0], ⟨⟨_, _, okE specsA specsA_ok, h1⟩, by simp [hab], rfl, fun i id hi => ?_, fun i id hi => ?_, fun μ vs hv => ?_, rfl, rfl, fun id hid => ?_⟩⟩
          · match i, hi with
            | 0, hi => simp at hi; subst hi; exact ⟨_, ga, mem2_get0 _ _, rowW_plain _ _ _ _ _⟩
            | 1, hi => simp at hi; subst hi; exact ⟨_, gb, mem2_get1 _ _, rowW_plain _ _ _ _ _⟩
            | i + 2, hi => simp at hi
          · match i, hi with
            | 0, hi => simp at hi; subst hi; exact ⟨_, gra, h3, rowW_plain _ _ _ _ _⟩
            | 1, hi => simp at hi; subst hi; exact ⟨_, (AMem.get_put_other m _ hba).trans gb, h4, rowW_plain _ _ _ _ _⟩
            | i + 2, hi => simp at hi
          · obtain ⟨v, rest, rfl, ⟨L, hL, rfl⟩, v', rest', rfl, ⟨L', hL', rfl⟩, rfl⟩ := hv
            exact .cons ⟨L, by simpa [muOf] using hL, rfl⟩ (.cons ⟨L', by simpa [muOf] using hL', rfl⟩ .nil)
          · have : id ≠ a := fun e => hid (by simp [e])
            exact AMem.get_put_other m _ this
      · cases h
    · cases h
  · cases h
theorem addO_fn : FnOK Try.prog 63 addO := shown_ok addO_shown
end
end Ev
