/-
  (words).power: the parts of its code by their place, and what one round needs. Conditions: none.
-/
import Derived.Test.YtmbkjhcmbbcphaaS2
import Derived.Test.YtmbkjhcmbbcphaaEvD
namespace Ev
open Go Go.Proofs
noncomputable section

/-! the parts of the code -/
def firstLoop : Code → Option Code
  | .seq a b => match firstLoop a with
    | some c => some c
    | none => firstLoop b
  | .block _ c => firstLoop c
  | .loop c => some c
  | _ => none
def sL : Code → Code
  | .seq a _ => a
  | c => c
def sR : Code → Code
  | .seq _ b => b
  | c => c
noncomputable def powBody : Code := Try.f58.body.getD .skip
noncomputable def powLoop : Code := (firstLoop powBody).getD .skip
noncomputable def powPre : Code := .seq (.seq (.seq (sL powBody) (sL (sR powBody))) (sL (sR (sR powBody)))) (sL (sL (sR (sR (sR powBody)))))
noncomputable def powPost : Code := sR (sR (sR (sR powBody)))
theorem powBody_eq : powBody = .seq (sL powBody) (.seq (sL (sR powBody)) (.seq (sL (sR (sR powBody))) (.seq (.seq (sL (sL (sR (sR (sR powBody))))) (.block 0 (.loop powLoop))) powPost))) := by kernel_rfl

/-- the truths that stay open: is the count below 256; is the high bit set -/
def exU (o : Oper) : Bool := match o.op, o.dst with
  | .binOp .lss _ _ _ _, some d => Nat.beq d 15
  | .binOp .eql _ _ _ _, some d => Nat.beq d 22
  | _, _ => false
def cfU : Wcfg := ⟨exU, fun _ => false, fun _ => none⟩

/-- the functions that power calls: times by what it answers, load by its code; no other -/
def noW : List AV → AMem → KP → Prop := fun _ _ _ => False
def owU (f : Nat) : Option (List AV → AMem → KP → Prop) :=
  Bool.casesOn (motive := fun _ => Option (List AV → AMem → KP → Prop)) (Nat.beq f 56)
    (Bool.casesOn (motive := fun _ => Option (List AV → AMem → KP → Prop)) (Nat.beq f 58 || Nat.beq f 68) (some noW) none) (some timesW)

theorem powPre_ok : okT cfU (pEnv specs3) powPre = true := by kernel_rfl
theorem powLoop_ok : okT cfU (pEnv specs3) powLoop = true := by kernel_rfl
theorem powPost_ok : okT cfU (pEnv specs3) powPost = true := by kernel_rfl

/-- no temporary from N on -/
def under (N : Nat) : Tr AV → Nat → Nat → Bool
  | .nil, _, _ => true
  | .node l v r, a, b => Option.casesOn (motive := fun _ => Bool) v true (fun _ => Nat.blt b N) && (under N l (Nat.mul 2 a) (Nat.add a b) && under N r (Nat.mul 2 a) (Nat.add (Nat.mul 2 a) b))

abbrev Four := Int → Int → Int → Int → Prop
def u64s (l0 l1 l2 l3 : Int) : List AV := [.int .u64 l0, .int .u64 l1, .int .u64 l2, .int .u64 l3]
def rowF (l0 l1 l2 l3 : Int) : ABlk := .row 4 (u64s l0 l1 l2 l3) .nil true
def rowN (c : List AV) (l0 l1 l2 l3 : Int) : ABlk := .row 4 c (((((Tr.nil : Tr AV).put 0 (some (.int .u64 l0))).put 1 (some (.int .u64 l1))).put 2 (some (.int .u64 l2))).put 3 (some (.int .u64 l3))) true
def rowO (o0 o1 o2 o3 o4 : Int) : ABlk := .row 5 [.int .u64 o0, .int .u64 o1, .int .u64 o2, .int .u64 o3, .int .u64 o4] .nil true
def memU (e z L : ABlk) (w0 w1 w2 w3 w4 o0 o1 o2 o3 o4 : Int) : AMem := ((((((⟨0, .nil⟩ : AMem).add (rowO w0 w1 w2 w3 w4)).add e).add z).add L).add (rowO o0 o1 o2 o3 o4))
def tmU (j : Nat → AV) (i : Int) : Tr AV := tab [j 0, j 1, .ptr 0 0, j 3, .ptr 2 0, .ptr 3 0, .ptr 4 0, j 7, j 8, j 9, j 10, j 11, j 12, j 13, .int .i64 i, j 15, j 16, j 17, j 18, j 19, j 20, j 21, j 22, j 23, j 24, j 25, j 26, j 27, j 28, j 29, j 30, j 31, j 32, j 33, j 34, j 35, j 36, j 37, j 38, j 39, j 40, j 41, j 42, j 43, j 44, j 45, j 46, j 47, j 48]

/-- what is seen of a state: nothing above, the pointers, the count, the memory -/
abbrev Seen := Option AV → AMem → Prop
def look (P : Seen) (s : St) : Prop := under 49 s.tm 1 0 = true ∧ (s.tm.get 2 = some (.ptr 0 0) ∧ s.tm.get 4 = some (.ptr 2 0) ∧ s.tm.get 5 = some (.ptr 3 0) ∧ s.tm.get 6 = some (.ptr 4 0)) ∧ P (s.tm.get 14) s.mem
def lookX (P PX : Seen) : KX := fun e s => Ex.casesOn (motive := fun _ => Prop) e (look P s) (fun id => id = 0 ∧ look PX s) False
def seen (P : Seen) (v : AV) (m : AMem) : Prop := true = true ∧ (some (AV.ptr 0 0) = some (.ptr 0 0) ∧ some (AV.ptr 2 0) = some (.ptr 2 0) ∧ some (AV.ptr 3 0) = some (.ptr 3 0) ∧ some (AV.ptr 4 0) = some (.ptr 4 0)) ∧ P (some v) m

def inc64 (i : Int) : Int := wrapI .i64 (addI i 1)
def stepL (l0 l1 l2 l3 : Int) (K : Four) : Prop := K (uor (ushl l0 1) (ushr l1 63)) (uor (ushl l1 1) (ushr l2 63)) (uor (ushl l2 1) (ushr l3 63)) (ushl l3 1)
def splitU (b : Bool) (T F : Prop) : Prop := (b = true → T) ∧ (b = false → F)
def roundU (i l0 l1 l2 l3 w0 w1 w2 w3 w4 o0 o1 o2 o3 o4 : Int) (PN : Int → Int → Int → Int → Int → Int → Int → Int → Int → Prop) (PX : Prop) : Prop :=
  splitU (ltI i 256) (timesQ o0 o1 o2 o3 o4 o0 o1 o2 o3 o4 fun c0 c1 c2 c3 c4 =>
    splitU (eqI (ushr l0 63) 1) (timesQ c0 c1 c2 c3 c4 w0 w1 w2 w3 w4 fun d0 d1 d2 d3 d4 => stepL l0 l1 l2 l3 fun k0 k1 k2 k3 => PN k0 k1 k2 k3 d0 d1 d2 d3 d4)
      (stepL l0 l1 l2 l3 fun k0 k1 k2 k3 => PN k0 k1 k2 k3 c0 c1 c2 c3 c4)) PX

theorem roundF_wp (j : Nat → AV) (e z : ABlk) (i l0 l1 l2 l3 w0 w1 w2 w3 w4 o0 o1 o2 o3 o4 : Int) (P PX : Seen) :
    (roundU i l0 l1 l2 l3 w0 w1 w2 w3 w4 o0 o1 o2 o3 o4 (fun k0 k1 k2 k3 c0 c1 c2 c3 c4 => seen P (.int .i64 (inc64 i)) (memU e z (rowN (u64s l0 l1 l2 l3) k0 k1 k2 k3) w0 w1 w2 w3 w4 c0 c1 c2 c3 c4))
      (0 = 0 ∧ seen PX (.int .i64 i) (memU e z (rowF l0 l1 l2 l3) w0 w1 w2 w3 w4 o0 o1 o2 o3 o4))) =
    wpCodeF cfU powLoop (pEnv specs3) (wpCall cfU (pEnv specs3) owU 999) 999 ⟨tmU j i, memU e z (rowF l0 l1 l2 l3) w0 w1 w2 w3 w4 o0 o1 o2 o3 o4⟩ (lookX P PX) := by kernel_rfl
theorem roundN_wp (j : Nat → AV) (c : List AV) (e z : ABlk) (i l0 l1 l2 l3 w0 w1 w2 w3 w4 o0 o1 o2 o3 o4 : Int) (P PX : Seen) :
    (roundU i l0 l1 l2 l3 w0 w1 w2 w3 w4 o0 o1 o2 o3 o4 (fun k0 k1 k2 k3 c0 c1 c2 c3 c4 => seen P (.int .i64 (inc64 i)) (memU e z (rowN c k0 k1 k2 k3) w0 w1 w2 w3 w4 c0 c1 c2 c3 c4))
      (0 = 0 ∧ seen PX (.int .i64 i) (memU e z (rowN c l0 l1 l2 l3) w0 w1 w2 w3 w4 o0 o1 o2 o3 o4))) =
    wpCodeF cfU powLoop (pEnv specs3) (wpCall cfU (pEnv specs3) owU 999) 999 ⟨tmU j i, memU e z (rowN c l0 l1 l2 l3) w0 w1 w2 w3 w4 o0 o1 o2 o3 o4⟩ (lookX P PX) := by kernel_rfl
end
end Ev
