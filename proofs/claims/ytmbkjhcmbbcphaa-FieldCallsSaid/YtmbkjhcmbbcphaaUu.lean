/-
  (words).power: the parts of its code by their place, and what one round needs. Conditions: none.
-/
import Derived.Test.YtmbkjhcmbbcphaaSs
import Derived.Test.YtmbkjhcmbbcphaaEvD
import Derived.Test.YtmbkjhcmbbcphaaGg
namespace Ev
open Go Go.Proofs
noncomputable section

/-! the parts of the code -/
def firstLoop : Code → Option Code
  | .seq a b => match firstLoop a with
    | some c => some c
    | none => firstLoop b
  | .block _ c => firstLoop c
  | .loop c => some c
  | _ => none
def sL : Code → Code
  | .seq a _ => a
  | c => c
def sR : Code → Code
  | .seq _ b => b
  | c => c
noncomputable def powBody : Code := Try.f58.body.getD .skip
noncomputable def powLoop : Code := (firstLoop powBody).getD .skip
noncomputable def powPre : Code := .seq (.seq (.seq (sL powBody) (sL (sR powBody))) (sL (sR (sR powBody)))) (sL (sL (sR (sR (sR powBody)))))
noncomputable def powPost : Code := sR (sR (sR (sR powBody)))
theorem powBody_eq : powBody = .seq (sL powBody) (.seq (sL (sR powBody)) (.seq (sL (sR (sR powBody))) (.seq (.seq (sL (sL (sR (sR (sR powBody))))) (.block 0 (.loop powLoop))) powPost))) := by kernel_rfl

/-- the truths that stay open: is the count below 256; is the high bit set -/
def exU (o : Oper) : Bool := match o.op, o.dst with
  | .binOp .lss _ _ _ _, some d => Nat.beq d 15
  | .binOp .eql _ _ _ _, some d => Nat.beq d 22
  | _, _ => false
def cfU : Wcfg := ⟨exU, fun _ => false, fun _ => none⟩

/-- the functions that power calls: times by what it answers, load by its code; no other -/
def noW : List AV → AMem → KP → Prop := fun _ _ _ => False
def owU (f : Nat) : Option (List AV → AMem → KP → Prop) :=
  Bool.casesOn (motive := fun _ => Option (List AV → AMem → KP → Prop)) (Nat.beq f 56)
    (Bool.casesOn (motive := fun _ => Option (List AV → AMem → KP → Prop)) (Nat.beq f 58 || Nat.beq f 68) (some noW) none) (some timesW)

theorem powPre_ok : okT cfU (pEnv specs3) powPre = true := by kernel_rfl
theorem powLoop_ok : okT cfU (pEnv specs3) powLoop = true := by kernel_rfl
theorem powPost_ok : okT cfU (pEnv specs3) powPost = true := by kernel_rfl

/-- no temporary from N on -/
def under (N : Nat) : Tr AV → Nat → Nat → Bool
  | .nil, _, _ => true
  | .node l v r, a, b => Option.casesOn (motive := fun _ => Bool) v true (fun _ => Nat.blt b N) && (under N l (Nat.mul 2 a) (Nat.add a b) && under N r (Nat.mul 2 a) (Nat.add (Nat.mul 2 a) b))

abbrev Four := Int → Int → Int → Int → Prop
def u64s (l0 l1 l2 l3 : Int) : List AV := [.int .u64 l0, .int .u64 l1, .int .u64 l2, .int .u64 l3]
def rowF (l0 l1 l2 l3 : Int) : ABlk := .row 4 (u64s l0 l1 l2 l3) .nil true
def rowN (c : List AV) (l0 l1 l2 l3 : Int) : ABlk := .row 4 c (((((Tr.nil : Tr AV).put 0 (some (.int .u64 l0))).put 1 (some (.int .u64 l1))).put 2 (some (.int .u64 l2))).put 3 (some (.int .u64 l3))) true
def rowO (o0 o1 o2 o3 o4 : Int) : ABlk := .row 5 [.int .u64 o0, .int .u64 o1, .int .u64 o2, .int .u64 o3, .int .u64 o4] .nil true
def memU (e z L : ABlk) (w0 w1 w2 w3 w4 o0 o1 o2 o3 o4 : Int) : AMem := ((((((⟨0, .nil⟩ : AMem).add (rowO w0 w1 w2 w3 w4)).add e).add z).add L).add (rowO o0 o1 o2 o3 o4))
def tmU (j : Nat → AV) (i : Int) : Tr AV := tab [j 0, j 1, .ptr 0 0, j 3, .ptr 2 0, .ptr 3 0, .ptr 4 0, j 7, j 8, j 9, j 10, j 11, j 12, j 13, .int .i64 i, j 15, j 16, j 17, j 18, j 19, j 20, j 21, j 22, j 23, j 24, j 25, j 26, j 27, j 28, j 29, j 30, j 31, j 32, j 33, j 34, j 35, j 36, j 37, j 38, j 39, j 40, j 41, j 42, j 43, j 44, j 45, j 46, j 47, j 48]

/-- what is seen of a state: nothing above, the pointers, the count, the memory -/
abbrev Seen := Option AV → AMem → Prop
def look (P : Seen) (s : St) : Prop := under 49 s.tm 1 0 = true ∧ (s.tm.get 2 = some (.ptr 0 0) ∧ s.tm.get 4 = some (.ptr 2 0) ∧ s.tm.get 5 = some (.ptr 3 0) ∧ s.tm.get 6 = some (.ptr 4 0)) ∧ P (s.tm.get 14) s.mem
def lookX (P PX : Seen) : KX := fun e s => Ex.casesOn (motive := fun _ => Prop) e (look P s) (fun id => id = 0 ∧ look PX s) False
def seen (P : Seen) (v : AV) (m : AMem) : Prop := true = true ∧ (some (AV.ptr 0 0) = some (.ptr 0 0) ∧ some (AV.ptr 2 0) = some (.ptr 2 0) ∧ some (AV.ptr 3 0) = some (.ptr 3 0) ∧ some (AV.ptr 4 0) = some (.ptr 4 0)) ∧ P (some v) m

def inc64 (i : Int) : Int := wrapI .i64 (addI i 1)
def stepL (l0 l1 l2 l3 : Int) (K : Four) : Prop := K (uor (ushl l0 1) (ushr l1 63)) (uor (ushl l1 1) (ushr l2 63)) (uor (ushl l2 1) (ushr l3 63)) (ushl l3 1)
def splitU (b : Bool) (T F : Prop) : Prop := (b = true → T) ∧ (b = false → F)
def roundU (i l0 l1 l2 l3 w0 w1 w2 w3 w4 o0 o1 o2 o3 o4 : Int) (PN : Int → Int → Int → Int → Int → Int → Int → Int → Int → Prop) (PX : Prop) : Prop :=
  splitU (ltI i 256) (timesQ o0 o1 o2 o3 o4 o0 o1 o2 o3 o4 fun c0 c1 c2 c3 c4 =>
    splitU (eqI (ushr l0 63) 1) (timesQ c0 c1 c2 c3 c4 w0 w1 w2 w3 w4 fun d0 d1 d2 d3 d4 => stepL l0 l1 l2 l3 fun k0 k1 k2 k3 => PN k0 k1 k2 k3 d0 d1 d2 d3 d4)
      (stepL l0 l1 l2 l3 fun k0 k1 k2 k3 => PN k0 k1 k2 k3 c0 c1 c2 c3 c4)) PX

theorem roundF_wp (j : Nat → AV) (e z : ABlk) (i l0 l1 l2 l3 w0 w1 w2 w3 w4 o0 o1 o2 o3 o4 : Int) (P PX : Seen) :
    (roundU i l0 l1 l2 l3 w0 w1 w2 w3 w4 o0 o1 o2 o3 o4 (fun k0 k1 k2 k3 c0 c1 c2 c3 c4 => seen P (.int .i64 (inc64 i)) (memU e z (rowN (u64s l0 l1 l2 l3) k0 k1 k2 k3) w0 w1 w2 w3 w4 c0 c1 c2 c3 c4))
      (0 = 0 ∧ seen PX (.int .i64 i) (memU e z (rowF l0 l1 l2 l3) w0 w1 w2 w3 w4 o0 o1 o2 o3 o4))) =
    wpCodeF cfU powLoop (pEnv specs3) (wpCall cfU (pEnv specs3) owU 999) 999 ⟨tmU j i, memU e z (rowF l0 l1 l2 l3) w0 w1 w2 w3 w4 o0 o1 o2 o3 o4⟩ (lookX P PX) := by kernel_rfl
theorem roundN_wp (j : Nat → AV) (c : List AV) (e z : ABlk) (i l0 l1 l2 l3 w0 w1 w2 w3 w4 o0 o1 o2 o3 o4 : Int) (P PX : Seen) :
    (roundU i l0 l1 l2 l3 w0 w1 w2 w3 w4 o0 o1 o2 o3 o4 (fun k0 k1 k2 k3 c0 c1 c2 c3 c4 => seen P (.int .i64 (inc64 i)) (memU e z (rowN c k0 k1 k2 k3) w0 w1 w2 w3 w4 c0 c1 c2 c3 c4))
      (0 = 0 ∧ seen PX (.int .i64 i) (memU e z (rowN c l0 l1 l2 l3) w0 w1 w2 w3 w4 o0 o1 o2 o3 o4))) =
    wpCodeF cfU powLoop (pEnv specs3) (wpCall cfU (pEnv specs3) owU 999) 999 ⟨tmU j i, memU e z (rowN c l0 l1 l2 l3) w0 w1 w2 w3 w4 o0 o1 o2 o3 o4⟩ (lookX P PX) := by kernel_rfl
end
end Ev

/-
  (words).power: what stands before its loop and behind it. Conditions: none.
-/
namespace Ev
open Go Go.Proofs
noncomputable section

def bytesA (e0 e1 e2 e3 e4 e5 e6 e7 e8 e9 e10 e11 e12 e13 e14 e15 e16 e17 e18 e19 e20 e21 e22 e23 e24 e25 e26 e27 e28 e29 e30 e31 : Int) : List AV := [byt e0, byt e1, byt e2, byt e3, byt e4, byt e5, byt e6, byt e7, byt e8, byt e9, byt e10, byt e11, byt e12, byt e13, byt e14, byt e15, byt e16, byt e17, byt e18, byt e19, byt e20, byt e21, byt e22, byt e23, byt e24, byt e25, byt e26, byt e27, byt e28, byt e29, byt e30, byt e31]
def rowZ : ABlk := rowO 0 0 0 0 0
theorem powPre_wp (e0 e1 e2 e3 e4 e5 e6 e7 e8 e9 e10 e11 e12 e13 e14 e15 e16 e17 e18 e19 e20 e21 e22 e23 e24 e25 e26 e27 e28 e29 e30 e31 w0 w1 w2 w3 w4 : Int) (P PX : Seen) :
    seen P (.int .i64 0) (memU (.row 32 (bytesA e0 e1 e2 e3 e4 e5 e6 e7 e8 e9 e10 e11 e12 e13 e14 e15 e16 e17 e18 e19 e20 e21 e22 e23 e24 e25 e26 e27 e28 e29 e30 e31) .nil true) rowZ (rowF (load8 e24 e25 e26 e27 e28 e29 e30 e31) (load8 e16 e17 e18 e19 e20 e21 e22 e23) (load8 e8 e9 e10 e11 e12 e13 e14 e15) (load8 e0 e1 e2 e3 e4 e5 e6 e7)) w0 w1 w2 w3 w4 1 0 0 0 0) =
    wpCodeF cfU powPre (pEnv specs3) (wpCall cfU (pEnv specs3) owU 999) 999 ⟨initTm [wordsA w0 w1 w2 w3 w4, .agg (bytesA e0 e1 e2 e3 e4 e5 e6 e7 e8 e9 e10 e11 e12 e13 e14 e15 e16 e17 e18 e19 e20 e21 e22 e23 e24 e25 e26 e27 e28 e29 e30 e31)] 0 .nil, ⟨0, .nil⟩⟩ (lookX P PX) := by kernel_rfl

theorem powPre_at {X : List AV} {e0 e1 e2 e3 e4 e5 e6 e7 e8 e9 e10 e11 e12 e13 e14 e15 e16 e17 e18 e19 e20 e21 e22 e23 e24 e25 e26 e27 e28 e29 e30 e31 : Int} (hX : X = bytesA e0 e1 e2 e3 e4 e5 e6 e7 e8 e9 e10 e11 e12 e13 e14 e15 e16 e17 e18 e19 e20 e21 e22 e23 e24 e25 e26 e27 e28 e29 e30 e31) (w0 w1 w2 w3 w4 : Int) (P PX : Seen) :
    seen P (.int .i64 0) (memU (.row 32 (bytesA e0 e1 e2 e3 e4 e5 e6 e7 e8 e9 e10 e11 e12 e13 e14 e15 e16 e17 e18 e19 e20 e21 e22 e23 e24 e25 e26 e27 e28 e29 e30 e31) .nil true) rowZ (rowF (load8 e24 e25 e26 e27 e28 e29 e30 e31) (load8 e16 e17 e18 e19 e20 e21 e22 e23) (load8 e8 e9 e10 e11 e12 e13 e14 e15) (load8 e0 e1 e2 e3 e4 e5 e6 e7)) w0 w1 w2 w3 w4 1 0 0 0 0) =
    wpCodeF cfU powPre (pEnv specs3) (wpCall cfU (pEnv specs3) owU 999) 999 ⟨initTm [wordsA w0 w1 w2 w3 w4, .agg X] 0 .nil, ⟨0, .nil⟩⟩ (lookX P PX) := by
  rw [hX]; exact powPre_wp e0 e1 e2 e3 e4 e5 e6 e7 e8 e9 e10 e11 e12 e13 e14 e15 e16 e17 e18 e19 e20 e21 e22 e23 e24 e25 e26 e27 e28 e29 e30 e31 w0 w1 w2 w3 w4 P PX

def leaveU (K : KP) : KX := fun e s => Ex.casesOn (motive := fun _ => Prop) e (needR (evLeave (pEnv specs3) Try.f58 s) K) (fun _ => False) (needR (evLeave (pEnv specs3) Try.f58 s) K)
theorem powPost_wp (j : Nat → AV) (e L : ABlk) (i w0 w1 w2 w3 w4 o0 o1 o2 o3 o4 : Int) (K : AV → Prop) :
    (∀ _ : AMem, K (wordsA o0 o1 o2 o3 o4)) =
    wpCodeF cfU powPost (pEnv specs3) (wpCall cfU (pEnv specs3) owU 999) 999 ⟨tmU j i, memU e rowZ L w0 w1 w2 w3 w4 o0 o1 o2 o3 o4⟩ (leaveU fun r _ => ∀ _ : AMem, K r) := by kernel_rfl
end
end Ev

/-
  From what is seen of a state to the state in one known shape; conditions in a row. Conditions: none.
-/
namespace Ev
open Go Go.Proofs
noncomputable section

theorem under_get {N : Nat} : ∀ {t : Tr AV} {a b : Nat}, under N t a b = true → ∀ k v, t.get k = some v → a * k + b < N
  | .nil, a, b, _, k, v, h => by cases h
  | .node l v r, a, b, hu, k, u, h => by
    have hu : (Option.casesOn (motive := fun _ => Bool) v true (fun _ => Nat.blt b N) && (under N l (Nat.mul 2 a) (Nat.add a b) && under N r (Nat.mul 2 a) (Nat.add (Nat.mul 2 a) b))) = true := hu
    simp only [Bool.and_eq_true] at hu
    obtain ⟨h0, h1, h2⟩ := hu
    cases k with
    | zero =>
      rw [Tr.get_zero] at h
      subst h
      have h0 : Nat.blt b N = true := h0
      rw [Nat.blt_eq] at h0
      rw [Nat.mul_zero, Nat.zero_add]; exact h0
    | succ k =>
      rw [Tr.get_succ] at h
      split at h
      · next he =>
        have := under_get h1 _ _ h
        have e : Nat.mul 2 a * (k / 2) + Nat.add a b = a * (2 * (k / 2) + 1) + b := by
          show 2 * a * (k / 2) + (a + b) = _
          rw [Nat.mul_add, Nat.mul_comm 2 a, Nat.mul_assoc, Nat.mul_one, Nat.add_assoc]
        rw [e] at this
        have e2 : k + 1 = 2 * (k / 2) + 1 := by omega
        rw [← e2] at this; exact this
      · next he =>
        have := under_get h2 _ _ h
        have e : Nat.mul 2 a * (k / 2) + Nat.add (Nat.mul 2 a) b = a * (2 * (k / 2) + 2) + b := by
          show 2 * a * (k / 2) + (2 * a + b) = _
          rw [Nat.mul_add, Nat.mul_comm 2 a, Nat.mul_assoc, Nat.add_assoc]
        rw [e] at this
        have e2 : k + 1 = 2 * (k / 2) + 2 := by omega
        rw [← e2] at this; exact this

structure AtU (i : Int) (s : St) : Prop where
  hi : ∀ k, 49 ≤ k → orV (s.tm.get k) = .undef
  g2 : s.tm.get 2 = some (.ptr 0 0)
  g4 : s.tm.get 4 = some (.ptr 2 0)
  g5 : s.tm.get 5 = some (.ptr 3 0)
  g6 : s.tm.get 6 = some (.ptr 4 0)
  g14 : s.tm.get 14 = some (.int .i64 i)

theorem teq_get {t t' : Tr AV} (h : TEq t t') {k : Nat} {v : AV} (hv : t.get k = some v) (hn : v ≠ .undef) : t'.get k = some v := by
  have := h k
  rw [hv] at this
  cases hg : t'.get k with
  | none =>
    rw [hg] at this
    exact absurd (Option.some.inj this) hn
  | some u =>
    rw [hg] at this
    rw [← Option.some.inj this]
theorem teq_orV {t t' : Tr AV} (h : TEq t t') (k : Nat) : orV (t.get k) = orV (t'.get k) := by
  have := h k
  cases h1 : t.get k <;> cases h2 : t'.get k <;> rw [h1, h2] at this <;> first | rfl | exact Option.some.inj this

def lift (R : Int → AMem → Prop) : Seen := fun v m => ∃ i : Int, v = some (.int .i64 i) ∧ R i m
theorem seen_of {R : Int → AMem → Prop} {i : Int} {m : AMem} (h : R i m) : seen (lift R) (.int .i64 i) m := ⟨rfl, ⟨rfl, rfl, rfl, rfl⟩, i, rfl, h⟩
theorem look_to {R : Int → AMem → Prop} {s s' : St} (ht : TEq s.tm s'.tm) (hm : s.mem = s'.mem) (h : look (lift R) s) : ∃ i, AtU i s' ∧ R i s'.mem := by
  obtain ⟨hu, ⟨h2, h4, h5, h6⟩, i, h14, hR⟩ := h
  refine ⟨i, ⟨fun k hk => ?_, teq_get ht h2 (fun e => by cases e), teq_get ht h4 (fun e => by cases e), teq_get ht h5 (fun e => by cases e), teq_get ht h6 (fun e => by cases e), teq_get ht h14 (fun e => by cases e)⟩, hm ▸ hR⟩
  rw [← teq_orV ht]
  cases hg : s.tm.get k with
  | none => rfl
  | some v =>
    have := under_get hu k v hg
    omega
theorem at_canon {i : Int} {s : St} (h : AtU i s) : TEq (tmU (fun k => orV (s.tm.get k)) i) s.tm := by
  have h1 := shape_teq h.hi
  have h2 : shape 49 s.tm = tmU (fun k => orV (s.tm.get k)) i := by
    unfold shape tmU
    rw [show List.range 49 = [0, 1, 2, 3, 4, 5, 6, 7, 8, 9, 10, 11, 12, 13, 14, 15, 16, 17, 18, 19, 20, 21, 22, 23, 24, 25, 26, 27, 28, 29, 30, 31, 32, 33, 34, 35, 36, 37, 38, 39, 40, 41, 42, 43, 44, 45, 46, 47, 48] from rfl]
    simp only [List.map, h.g2, h.g4, h.g5, h.g6, h.g14]
    rfl
  rw [h2] at h1
  exact fun k => (h1 k).symm

section
variable {E : Env} {cw : CallW}
/-- one part, then the rest -/
theorem wp_cut {cf : Wcfg} (hcw : CwMono cw) {x y : Code} (hx : okT cf E x = true) {fuel : Nat} {s : St} {K' K : KX} (h : wpCodeF cf x E cw fuel s K')
    (hk : ∀ e s s', TEq s.tm s'.tm → s.mem = s'.mem → K' e s → Ex.casesOn (motive := fun _ => Prop) e (wpCodeF cf y E cw fuel s' K) (fun id => K (.exit id) s') (K .ret s')) : wpCodeF cf (.seq x y) E cw fuel s K :=
  show wpCodeF cf x E cw fuel s (fun e s => Ex.casesOn (motive := fun _ => Prop) e (wpCodeF cf y E cw fuel s K) (fun id => K (.exit id) s) (K .ret s)) from
  wpCodeF_teq hcw x hx h (TEq.refl _) rfl hk
theorem wp_assoc {cf : Wcfg} {x y z : Code} {fuel : Nat} {s : St} {K : KX} (h : wpCodeF cf (.seq (.seq x y) z) E cw fuel s K) : wpCodeF cf (.seq x (.seq y z)) E cw fuel s K := by
  have h : wpCodeF cf x E cw fuel s (fun e s => Ex.casesOn (motive := fun _ => Prop) e (wpCodeF cf y E cw fuel s fun e s => Ex.casesOn (motive := fun _ => Prop) e (wpCodeF cf z E cw fuel s K) (fun id => K (.exit id) s) (K .ret s)) (fun id => K (.exit id) s) (K .ret s)) := h
  exact h
/-- a loop in its block by an invariant, then the rest -/
theorem wp_loop {cf : Wcfg} {id : Nat} {c y : Code} {fuel : Nat} {K : KX} (I : Nat → St → Prop) (hstep : ∀ i s, I (i + 1) s → ∀ Q : KX, (∀ s', I i s' → Q .normal s') → wpCodeF cf c E cw fuel s Q)
    (hend : ∀ s, I 0 s → ∀ Q : KX, (∀ s', I 0 s' → Q (.exit id) s') → wpCodeF cf c E cw fuel s Q) (hy : ∀ s, I 0 s → wpCodeF cf y E cw fuel s K) {n : Nat} (hn : n < fuel) {s : St} (hI : I n s) :
    wpCodeF cf (.seq (.block id (.loop c)) y) E cw fuel s K := by
  have h : wpLoopF fuel (wpCodeF cf c E cw fuel) s (fun e s => Ex.casesOn (motive := fun _ => Prop) e (wpCodeF cf y E cw fuel s K) (fun j => Bool.casesOn (motive := fun _ => Prop) (Nat.beq j id) (K (.exit j) s) (wpCodeF cf y E cw fuel s K)) (K .ret s)) := by
    refine wpLoop_inv I hstep (fun s h Q hQ => hend s h Q fun s' hs' => hQ _ _ (fun e => by cases e) ?_) n fuel s hn hI
    show Bool.casesOn (motive := fun _ => Prop) (Nat.beq id id) (K (.exit id) s') (wpCodeF cf y E cw fuel s' K)
    rw [Nat.beq_refl]
    exact hy s' hs'
  show wpLoopF fuel (wpCodeF cf c E cw fuel) s (fun e s => Ex.casesOn (motive := fun _ => Prop) e (wpCodeF cf y E cw fuel s K) (fun j => Bool.casesOn (motive := fun _ => Prop) (Nat.beq j id) (K (.exit j) s) (wpCodeF cf y E cw fuel s K)) (K .ret s))
  exact h
theorem wpCall_of {cf : Wcfg} {ow : Nat → Option (List AV → AMem → KP → Prop)} {n f : Nat} {args : List AV} {m : AMem} {K : KP} {fn : Func} {body : Code} (hw : ow f = none) (hf : E.fn f = some fn) (hb : fn.body = some body) (hl : Nat.ble args.length fn.ntmps = true)
    (h : wpCodeF cf body E (wpCall cf E ow n) n ⟨initTm args 0 .nil, m⟩ fun e s => Ex.casesOn (motive := fun _ => Prop) e (needR (evLeave E fn s) K) (fun _ => False) (needR (evLeave E fn s) K)) : wpCall cf E ow (n + 1) (.fn f) args m K := by
  show Option.casesOn (motive := fun _ => Prop) (ow f) (wpFn cf E (wpCall cf E ow n) n f args m K) (fun o => o args m K)
  rw [hw]
  show wpFn cf E (wpCall cf E ow n) n f args m K
  unfold wpFn
  rw [hf]
  simp only [hb]
  show wpBody cf E (wpCall cf E ow n) n fn body args m K
  unfold wpBody
  rw [hl]
  exact h
end

/-! the functions that power calls -/
theorem owU_cases {f : Nat} {w : List AV → AMem → KP → Prop} (h : owU f = some w) : (f = 56 ∧ w = timesW) ∨ w = noW := by
  unfold owU at h
  cases h0 : Nat.beq f 56 with
  | true => rw [h0] at h; cases h; exact .inl ⟨Nat.eq_of_beq_eq_true h0, rfl⟩
  | false =>
    rw [h0] at h
    have h : Bool.casesOn (motive := fun _ => Option (List AV → AMem → KP → Prop)) (Nat.beq f 58 || Nat.beq f 68) (some noW) none = some w := h
    cases h1 : (Nat.beq f 58 || Nat.beq f 68) with
    | true => rw [h1] at h; cases h
    | false => rw [h1] at h; cases h; exact .inr rfl
theorem owU_none' {f : Nat} (h : owU f = none) : f = 58 ∨ f = 68 := by
  unfold owU at h
  cases h0 : Nat.beq f 56 with
  | true => rw [h0] at h; cases h
  | false =>
    rw [h0] at h
    have h : Bool.casesOn (motive := fun _ => Option (List AV → AMem → KP → Prop)) (Nat.beq f 58 || Nat.beq f 68) (some noW) none = none := h
    cases h1 : (Nat.beq f 58 || Nat.beq f 68) with
    | true =>
      rw [Bool.or_eq_true] at h1
      exact h1.imp Nat.eq_of_beq_eq_true Nat.eq_of_beq_eq_true
    | false => rw [h1] at h; cases h
theorem owU_mono : ∀ f w, owU f = some w → ∀ args m K K', (∀ v m, K v m → K' v m) → w args m K → w args m K' := by
  intro f w hf args m K K' hk h
  rcases owU_cases hf with ⟨_, rfl⟩ | rfl
  · unfold timesW at h ⊢
    split at h
    · exact ⟨h.1, fun c0 c1 c2 c3 c4 hc => hk _ _ (h.2 c0 c1 c2 c3 c4 hc)⟩
    · cases h
  · cases h
theorem owU_none : ∀ f, owU f = none → (pEnv specs3).orc f = none := by
  intro f h
  rcases owU_none' h with rfl | rfl
  · rfl
  · rfl
theorem owU_some : ∀ f w, owU f = some w → ∀ args m K, w args m K → ∃ o r m', (pEnv specs3).orc f = some o ∧ o args m = some (r, m') ∧ K r m' := by
  intro f w h args m K hw
  rcases owU_cases h with ⟨rfl, rfl⟩ | rfl
  · obtain ⟨r, h2, h3⟩ := timesW_ok hw
    exact ⟨orcS timesS, r, m, rfl, orcS_of h2 m, h3⟩
  · cases hw
def okF (f : Nat) : Bool := match (pEnv specs3).fn f with
  | some fn => match fn.body with
    | some c => okT cfU (pEnv specs3) c
    | none => true
  | none => true
theorem okF37 : okF 58 = true := by kernel_rfl
theorem okF49 : okF 68 = true := by kernel_rfl
theorem cwU (n : Nat) : CwMono (wpCall cfU (pEnv specs3) owU n) := by
  refine wpCall_mono owU_mono (fun f fn c hw hf hb => ?_) n
  have h2 : okF f = true := by
    rcases owU_none' hw with rfl | rfl
    · exact okF37
    · exact okF49
  unfold okF at h2
  rw [hf] at h2
  simp only [hb] at h2
  exact h2
end
end Ev

/-
  One round of (words).power in Nat: the exponent's high bit moves on, the product follows. Conditions: words below 2^53 and 2^64.
-/
namespace Ev
open Go Go.Proofs
noncomputable section

theorem timesQ_both {a0 a1 a2 a3 a4 b0 b1 b2 b3 b4 : Nat} (ha : lt5 a0 a1 a2 a3 a4 = true) (hb : lt5 b0 b1 b2 b3 b4 = true) {K : Int → Int → Int → Int → Int → Prop}
    (hk : ∀ c0 c1 c2 c3 c4 : Nat, lt5 c0 c1 c2 c3 c4 = true → val5 c0 c1 c2 c3 c4 % pF = val5 a0 a1 a2 a3 a4 * val5 b0 b1 b2 b3 b4 % pF → K (.ofNat c0) (.ofNat c1) (.ofNat c2) (.ofNat c3) (.ofNat c4)) :
    timesQ (.ofNat a0) (.ofNat a1) (.ofNat a2) (.ofNat a3) (.ofNat a4) (.ofNat b0) (.ofNat b1) (.ofNat b2) (.ofNat b3) (.ofNat b4) K := by
  refine timesQ_nat (lt5_both ha hb) ?_
  have h1 := @times_lt a0 a1 a2 a3 a4 b0 b1 b2 b3 b4 (lt5_both ha hb) (fun c0 c1 c2 c3 c4 => lt5 c0 c1 c2 c3 c4 = true) (fun c0 c1 c2 c3 c4 h0 h1 h2 h3 h4 _ => lt5_of h0 h1 h2 h3 h4)
  have h2 := @times_val a0 a1 a2 a3 a4 b0 b1 b2 b3 b4 (fun c0 c1 c2 c3 c4 => val5 c0 c1 c2 c3 c4 % pF = val5 a0 a1 a2 a3 a4 * val5 b0 b1 b2 b3 b4 % pF) (fun _ _ _ _ _ h => h)
  simp only [timesN, forceN_eq] at h1 h2 ⊢
  exact hk _ _ _ _ _ h1 h2

def L4 (l0 l1 l2 l3 : Nat) : Nat := l0 * 6277101735386680763835789423207666416102355444464034512896 + l1 * 340282366920938463463374607431768211456 + l2 * 18446744073709551616 + l3
def nx (a b : Nat) : Nat := a * 2 % M64 + b / 9223372036854775808
theorem nx_int {a b : Nat} (hb : b < M64) : uor (ushl (.ofNat a) 1) (ushr (.ofNat b) 63) = .ofNat (nx a b) := by
  rw [ushl_nat _ 1 (by decide), ushr_nat _ 63 (by decide), uor_nat]
  congr 1
  simp only [M64] at hb
  have h1 : a * 2 ^ 1 % M64 % M64 = 2 ^ 1 * (a % 9223372036854775808) := by simp only [M64]; omega
  have h2 : b / 2 ^ 63 % M64 = b / 9223372036854775808 := by simp only [M64]; omega
  rw [h1, h2, ← Nat.two_pow_add_eq_or_of_lt (by omega)]
  unfold nx
  simp only [M64]; omega
theorem sh_int (a : Nat) : ushl (.ofNat a) 1 = .ofNat (a * 2 % M64) := ushl_nat a 1 (by decide)
theorem L4_next {l0 l1 l2 l3 : Nat} (_ : l0 < M64) (h1 : l1 < M64) (h2 : l2 < M64) (h3 : l3 < M64) :
    L4 (nx l0 l1) (nx l1 l2) (nx l2 l3) (l3 * 2 % M64) + l0 / 9223372036854775808 * 115792089237316195423570985008687907853269984665640564039457584007913129639936 = 2 * L4 l0 l1 l2 l3 ∧ nx l0 l1 < M64 ∧ nx l1 l2 < M64 ∧ nx l2 l3 < M64 ∧ l3 * 2 % M64 < M64 := by
  unfold L4 nx
  simp only [M64] at *
  refine ⟨?_, ?_, ?_, ?_, ?_⟩ <;> omega
theorem L4_top {l0 l1 l2 l3 : Nat} (h0 : l0 < M64) (h1 : l1 < M64) (h2 : l2 < M64) (h3 : l3 < M64) : L4 l0 l1 l2 l3 / 57896044618658097711785492504343953926634992332820282019728792003956564819968 = l0 / 9223372036854775808 ∧ l0 / 9223372036854775808 < 2 := by
  unfold L4
  simp only [M64] at *
  refine ⟨?_, ?_⟩ <;> omega

/-- n rounds are left: H is done, R is to come -/
structure InvU (E W n l0 l1 l2 l3 o0 o1 o2 o3 o4 : Nat) : Prop where
  h0 : l0 < M64
  h1 : l1 < M64
  h2 : l2 < M64
  h3 : l3 < M64
  ho : lt5 o0 o1 o2 o3 o4 = true
  ex : ∃ H R, E = H * 2 ^ n + R ∧ R < 2 ^ n ∧ L4 l0 l1 l2 l3 = R * 2 ^ (256 - n) ∧ val5 o0 o1 o2 o3 o4 % pF = W ^ H % pF

theorem two_split {n : Nat} (hn : n < 256) : 2 ^ n * 2 ^ (255 - n) = 57896044618658097711785492504343953926634992332820282019728792003956564819968 := by
  rw [← Nat.pow_add, show n + (255 - n) = 255 by omega]
theorem next_ex {E W n l0 l1 l2 l3 o b X : Nat} (hn : n < 256) (h0 : l0 < M64) (h1 : l1 < M64) (h2 : l2 < M64) (h3 : l3 < M64) (hb : l0 / 9223372036854775808 = b)
    (hex : ∃ H R, E = H * 2 ^ (n + 1) + R ∧ R < 2 ^ (n + 1) ∧ L4 l0 l1 l2 l3 = R * 2 ^ (256 - (n + 1)) ∧ o % pF = W ^ H % pF) (hX : X % pF = o * o * W ^ b % pF) :
    ∃ H R, E = H * 2 ^ n + R ∧ R < 2 ^ n ∧ L4 (nx l0 l1) (nx l1 l2) (nx l2 l3) (l3 * 2 % M64) = R * 2 ^ (256 - n) ∧ X % pF = W ^ H % pF := by
  obtain ⟨H, R, hE, hR, hL, hW⟩ := hex
  have hnext := (L4_next h0 h1 h2 h3).1
  have htop := (L4_top h0 h1 h2 h3)
  rw [hb] at hnext htop
  have hs := two_split hn
  rw [show 256 - (n + 1) = 255 - n by omega] at hL
  have hA : 0 < 2 ^ n := Nat.two_pow_pos n
  have hS : 0 < 2 ^ (255 - n) := Nat.two_pow_pos _
  have e1 : 2 ^ (256 - n) = 2 * 2 ^ (255 - n) := by rw [show 256 - n = (255 - n) + 1 by omega, Nat.pow_succ, Nat.mul_comm]
  rw [e1]
  rw [Nat.pow_succ] at hE hR
  generalize 2 ^ n = A at *
  generalize 2 ^ (255 - n) = S at *
  have hq : R / A = b := by
    have := htop.1
    rw [hL, ← hs, Nat.mul_div_mul_right _ _ hS] at this
    exact this
  have hdm := Nat.div_add_mod R A
  rw [hq] at hdm
  refine ⟨2 * H + b, R % A, ?_, Nat.mod_lt _ hA, ?_, ?_⟩
  · have e5 : (2 * H + b) * A = H * (A * 2) + A * b := by rw [Nat.add_mul, Nat.mul_comm b A, Nat.mul_comm 2 H, Nat.mul_assoc, Nat.mul_comm 2 A]
    rw [hE, e5, Nat.add_assoc, hdm]
  · rw [hL] at hnext
    have e2 : b * 115792089237316195423570985008687907853269984665640564039457584007913129639936 = 2 * (b * (A * S)) := by rw [hs]; omega
    have e3 : R * S = b * (A * S) + R % A * S := by
      conv => lhs; rw [← hdm]
      rw [Nat.add_mul, Nat.mul_comm A b, Nat.mul_assoc]
    rw [e2, e3] at hnext
    have e4 : R % A * (2 * S) = 2 * (R % A * S) := by rw [← Nat.mul_assoc, Nat.mul_comm (R % A) 2, Nat.mul_assoc]
    rw [e4]
    omega
  · rw [hX, Nat.mul_mod, Nat.mul_mod o, hW, ← Nat.mul_mod (W ^ H), ← Nat.mul_mod, ← Nat.pow_add, ← Nat.pow_add]
    congr 2
    omega

theorem eqI_one (a : Nat) : eqI (.ofNat a) 1 = Nat.beq a 1 := rfl
theorem roundU_nat {E i n l0 l1 l2 l3 w0 w1 w2 w3 w4 o0 o1 o2 o3 o4 : Nat} (hi : i + (n + 1) = 256) (hw : lt5 w0 w1 w2 w3 w4 = true) (h : InvU E (val5 w0 w1 w2 w3 w4) (n + 1) l0 l1 l2 l3 o0 o1 o2 o3 o4)
    {PN : Int → Int → Int → Int → Int → Int → Int → Int → Int → Prop} {PX : Prop}
    (hk : ∀ k0 k1 k2 k3 c0 c1 c2 c3 c4 : Nat, InvU E (val5 w0 w1 w2 w3 w4) n k0 k1 k2 k3 c0 c1 c2 c3 c4 → PN (.ofNat k0) (.ofNat k1) (.ofNat k2) (.ofNat k3) (.ofNat c0) (.ofNat c1) (.ofNat c2) (.ofNat c3) (.ofNat c4)) :
    roundU (.ofNat i) (.ofNat l0) (.ofNat l1) (.ofNat l2) (.ofNat l3) (.ofNat w0) (.ofNat w1) (.ofNat w2) (.ofNat w3) (.ofNat w4) (.ofNat o0) (.ofNat o1) (.ofNat o2) (.ofNat o3) (.ofNat o4) PN PX := by
  have hlt : ltI (.ofNat i) 256 = true := by
    show Nat.blt i 256 = true
    rw [Nat.blt_eq]; omega
  obtain ⟨h0, h1, h2, h3, ho, hex⟩ := h
  have hn := L4_next h0 h1 h2 h3
  have htop := (L4_top h0 h1 h2 h3).2
  have fin : ∀ (b c0 c1 c2 c3 c4 : Nat), l0 / 9223372036854775808 = b → lt5 c0 c1 c2 c3 c4 = true → val5 c0 c1 c2 c3 c4 % pF = val5 o0 o1 o2 o3 o4 * val5 o0 o1 o2 o3 o4 * val5 w0 w1 w2 w3 w4 ^ b % pF →
      stepL (.ofNat l0) (.ofNat l1) (.ofNat l2) (.ofNat l3) fun k0 k1 k2 k3 => PN k0 k1 k2 k3 (.ofNat c0) (.ofNat c1) (.ofNat c2) (.ofNat c3) (.ofNat c4) := by
    intro b c0 c1 c2 c3 c4 hb hc hv
    unfold stepL
    rw [nx_int h1, nx_int h2, nx_int h3, sh_int]
    exact hk _ _ _ _ _ _ _ _ _ ⟨hn.2.1, hn.2.2.1, hn.2.2.2.1, hn.2.2.2.2, hc, next_ex (by omega) h0 h1 h2 h3 hb hex hv⟩
  refine ⟨fun _ => ?_, fun hf => by rw [hlt] at hf; cases hf⟩
  refine timesQ_both ho ho fun c0 c1 c2 c3 c4 hc hv => ?_
  rw [ushr_nat _ 63 (by decide), show (2 : Nat) ^ 63 = 9223372036854775808 from rfl, eqI_one]
  refine ⟨fun hb => ?_, fun hb => ?_⟩
  · refine timesQ_both hc hw fun d0 d1 d2 d3 d4 hd hu => ?_
    refine fin 1 _ _ _ _ _ (Nat.eq_of_beq_eq_true hb) hd ?_
    rw [hu, Nat.mul_mod, hv, ← Nat.mul_mod, Nat.pow_one]
  · have hb := Nat.ne_of_beq_eq_false hb
    refine fin 0 _ _ _ _ _ (by omega) hc ?_
    rw [hv, Nat.pow_zero, Nat.mul_one]
end
end Ev
