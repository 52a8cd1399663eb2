/-
  The reference's Open as an oracle; the parts of its Close, its rounds as the kernel writes them out. Conditions: none.
-/
import Derived.Test.YtmbkjhcmbbcphaaW5
namespace Ev
open Go Go.Proofs
noncomputable section

/-! Open -/
def opRun (args : List AV) : R := evCall (pEnv specsO) (999 + 1) (.fn 52) args ⟨0, .nil⟩
theorem op_at {A : Nat} (hA : A < 256 ^ 32) : ∃ n0 n1 n2 n3 n4 n5 n6 n7 n8 n9 : Nat, ∃ m, (N10 n0 n1 n2 n3 n4 n5 n6 n7 n8 n9 ∧ val10 n0 n1 n2 n3 n4 n5 n6 n7 n8 n9 % pF = A % pF) ∧ opRun [.agg (encL 32 A)] = some (wideA (.ofNat n0) (.ofNat n1) (.ofNat n2) (.ofNat n3) (.ofNat n4) (.ofNat n5) (.ofNat n6) (.ofNat n7) (.ofNat n8) (.ofNat n9), m) := by
  have h := open52 (A := A) (K := fun r => ∃ n0 n1 n2 n3 n4 n5 n6 n7 n8 n9 : Nat, r = wideA (.ofNat n0) (.ofNat n1) (.ofNat n2) (.ofNat n3) (.ofNat n4) (.ofNat n5) (.ofNat n6) (.ofNat n7) (.ofNat n8) (.ofNat n9) ∧ N10 n0 n1 n2 n3 n4 n5 n6 n7 n8 n9 ∧ val10 n0 n1 n2 n3 n4 n5 n6 n7 n8 n9 % pF = A % pF) (open_car hA fun {v0 v1 v2 v3 v4 v5 v6 v7 v8 v9} hv _ => by
    obtain ⟨n0, n1, n2, n3, n4, n5, n6, n7, n8, n9, ⟨rfl, rfl, rfl, rfl, rfl, rfl, rfl, rfl, rfl, rfl⟩, h1, h2⟩ := hv
    exact ⟨n0, n1, n2, n3, n4, n5, n6, n7, n8, n9, rfl, h1, h2⟩) rfl
  obtain ⟨r, m, h1, n0, n1, n2, n3, n4, n5, n6, n7, n8, n9, hr, h2, h3⟩ := WO_ok h
  subst hr
  exact ⟨n0, n1, n2, n3, n4, n5, n6, n7, n8, n9, m, ⟨h2, h3⟩, h1⟩
def opS : List AV → Option AV
  | [.agg l] => Option.casesOn (motive := fun _ => Option AV) (decN 32 l) none fun _ => (opRun [.agg l]).map (·.1)
  | _ => none
theorem opS_some {args : List AV} {r : AV} (h : opS args = some r) : ∃ A l, args = [.agg l] ∧ decN 32 l = some A ∧ (opRun [.agg l]).map (·.1) = some r := by
  unfold opS at h
  split at h
  · next l =>
    cases hd : decN 32 l with
    | none => rw [hd] at h; cases h
    | some A => rw [hd] at h; exact ⟨A, l, rfl, hd, h⟩
  · cases h
theorem op_c : PlainC Try.prog 52 opS := by
  refine ⟨fun l r h => ?_, fun l r h => ?_⟩ <;> obtain ⟨A, X, rfl, hd, hr⟩ := opS_some h <;> obtain ⟨rfl, hA⟩ := enc_decN hd <;> obtain ⟨n0, n1, n2, n3, n4, n5, n6, n7, n8, n9, m, _, hm⟩ := op_at hA <;> rw [hm] at hr <;> cases hr
  · refine ⟨?_, rfl⟩
    show (AV.plains (encL 32 A) && true) = true
    rw [plains_enc]; rfl
  · exact ⟨_, _, m, okE specsO specsO_ok, hm⟩
def opQ (l : List AV) (K : Int → Int → Int → Int → Int → Int → Int → Int → Int → Int → Prop) : Prop := ∃ A, decN 32 l = some A ∧ ∀ v0 v1 v2 v3 v4 v5 v6 v7 v8 v9 : Int, like10 A v0 v1 v2 v3 v4 v5 v6 v7 v8 v9 → K v0 v1 v2 v3 v4 v5 v6 v7 v8 v9
def opA : List AV → AMem → KP → Prop
  | [.agg l], m, K => opQ l fun v0 v1 v2 v3 v4 v5 v6 v7 v8 v9 => K (wideA v0 v1 v2 v3 v4 v5 v6 v7 v8 v9) m
  | _, _, _ => False
theorem opA_ok {args : List AV} {m : AMem} {K : KP} (h : opA args m K) : ∃ r, opS args = some r ∧ K r m := by
  unfold opA at h
  split at h
  · next l =>
    obtain ⟨A, hd, hk⟩ := h
    obtain ⟨rfl, hA⟩ := enc_decN hd
    obtain ⟨n0, n1, n2, n3, n4, n5, n6, n7, n8, n9, m', ⟨h1, h2⟩, hm⟩ := op_at hA
    refine ⟨wideA (.ofNat n0) (.ofNat n1) (.ofNat n2) (.ofNat n3) (.ofNat n4) (.ofNat n5) (.ofNat n6) (.ofNat n7) (.ofNat n8) (.ofNat n9), ?_, hk _ _ _ _ _ _ _ _ _ _ ⟨n0, n1, n2, n3, n4, n5, n6, n7, n8, n9, ⟨rfl, rfl, rfl, rfl, rfl, rfl, rfl, rfl, rfl, rfl⟩, h1, h2⟩⟩
    show Option.casesOn (motive := fun _ => Option AV) (decN 32 (encL 32 A)) none (fun _ => (opRun [.agg (encL 32 A)]).map (·.1)) = _
    rw [hd, hm]; rfl
  · cases h

/-! the parts of Close -/
noncomputable def clBody : Code := Try.f51.body.getD .skip
noncomputable def clRest : Code := qR (qR (qR (qR clBody)))
noncomputable def clOut : Code := qO (qB (qR (qL clRest)))
noncomputable def clMid : Code := qB (qL (qR clOut))
noncomputable def clIn : Code := qO (qB (qR (qL clMid)))
noncomputable def clPre0 : Code := .seq (.seq (.seq (.seq (qL clBody) (qL (qR clBody))) (qL (qR (qR clBody)))) (qL (qR (qR (qR clBody))))) (qL (qL clRest))
noncomputable def clEnd : Code := qR clRest
theorem clBody_eq : clBody = .seq (qL clBody) (.seq (qL (qR clBody)) (.seq (qL (qR (qR clBody))) (.seq (qL (qR (qR (qR clBody)))) (.seq (.seq (qL (qL clRest)) (.block 0 (.loop clOut))) clEnd)))) := by kernel_rfl
theorem clOut_eq : clOut = .seq (qL clOut) (.seq (.block 1 clMid) (qR (qR clOut))) := by kernel_rfl
theorem clMid_eq : clMid = .seq (.seq (qL (qL clMid)) (.block 2 (.loop clIn))) (qR clMid) := by kernel_rfl

def exC (o : Oper) : Bool := match o.dst with
  | some d => Nat.beq d 31 || (Nat.beq d 58 || (Nat.beq d 62 || Nat.beq d 71))
  | _ => false
/-- only in Close's own text -/
def exC' (o : Oper) : Bool := match o.op with
  | .binOp .. => exC o
  | .pick .. => exC o
  | .move .. => match o.dst with
    | some d => Nat.beq d 58
    | none => false
  | _ => false
def cfC' : Wcfg := ⟨exC', pfO, fun _ => none⟩
def keepC (f : Nat) : Bool := Nat.beq f 51
noncomputable abbrev cwC : CallW := wpCall cfC' (pEnv specsO) (owN waysO keepC) 999
def lookC (P : SeenO) (s : St) : Prop := under' 77 s.tm 1 0 = true ∧ (s.tm.get 1 = some (.ptr 0 0) ∧ s.tm.get 2 = some (.ptr 1 0) ∧ s.tm.get 3 = some (.ptr 2 0)) ∧ P (s.tm.get 4) (s.tm.get 5) (s.tm.get 6) none s.mem
def lookCX (e0 : Nat) (P PX : SeenO) : KX := fun e s => Ex.casesOn (motive := fun _ => Prop) e (lookC P s) (fun id => id = e0 ∧ lookC PX s) False
def seenC (P : SeenO) (a b c : AV) (m : AMem) : Prop := true = true ∧ (some (AV.ptr 0 0) = some (.ptr 0 0) ∧ some (AV.ptr 1 0) = some (.ptr 1 0) ∧ some (AV.ptr 2 0) = some (.ptr 2 0)) ∧ P (some a) (some b) (some c) none m
def junkC (j : Nat → AV) : List AV := [j 7, j 8, j 9, j 10, j 11, j 12, j 13, j 14, j 15, j 16, j 17, j 18, j 19, j 20, j 21, j 22, j 23, j 24, j 25, j 26, j 27, j 28, j 29, j 30, j 31, j 32, j 33, j 34, j 35, j 36, j 37, j 38, j 39, j 40, j 41, j 42, j 43, j 44, j 45, j 46, j 47, j 48, j 49, j 50, j 51, j 52, j 53, j 54, j 55, j 56, j 57, j 58, j 59, j 60, j 61, j 62, j 63, j 64, j 65, j 66, j 67, j 68, j 69, j 70, j 71, j 72, j 73, j 74, j 75, j 76]
def tc1 (j : Nat → AV) (at' i : Nat) : Tr AV := tab (j 0 :: .ptr 0 0 :: .ptr 1 0 :: .ptr 2 0 :: i64N at' :: i64N i :: j 6 :: junkC j)
def tc2 (j : Nat → AV) (at' i k : Nat) : Tr AV := tab (j 0 :: .ptr 0 0 :: .ptr 1 0 :: .ptr 2 0 :: i64N at' :: i64N i :: i64N k :: junkC j)
def nC (i : Nat) : Nat := 26 - i % 2
def memS (w : Nat → Int) (R : ABlk) : AMem := (((⟨0, .nil⟩ : AMem).add (.row 10 (wl w) .nil true)).add (.row 32 (encL 32 0) .nil true)).add R
def memT (w : Nat → Int) (X : Nat) : AMem := memS w (.row 32 (encL 32 X) .nil true)
def memQ (w : Nat → Int) (X q : Nat) (v : Int) : AMem := memS w (.row 32 (encL 32 X) (Tr.nil.put q (some (.int .u8 v))) true)
def bitC (x : Int) (k : Nat) : Bool := eqI (Int.tmod (ishr x k) 2) 1
def uadd8 (a b : Int) : Int := wrapI .u8 (addI a b)
def usub8 (a b : Int) : Int := wrapI .u8 (addI a (negI b))
theorem okA_c : okTM cfC' (pEnv specsO) (qL clOut) = true := by kernel_rfl
theorem okB_c : okTM cfC' (pEnv specsO) (qL (qL clMid)) = true := by kernel_rfl
theorem okIn_c : okTM cfC' (pEnv specsO) clIn = true := by kernel_rfl
theorem okE_c : okTM cfC' (pEnv specsO) (qR clMid) = true := by kernel_rfl
theorem okF_c : okTM cfC' (pEnv specsO) (qR (qR clOut)) = true := by kernel_rfl
theorem ok0_c : okTM cfC' (pEnv specsO) clPre0 = true := by kernel_rfl
theorem okEnd_c : okTM cfC' (pEnv specsO) clEnd = true := by kernel_rfl
theorem okBody_c : okTM cfC' (pEnv specsO) clBody = true := by kernel_rfl
theorem cA_all (j : Nat → AV) (m : AMem) (P PX : SeenO) :
    (List.range 10).map (fun i => seenC P (i64N (atO i)) (i64N i) (j 6) m) =
    (List.range 10).map (fun i => wpCodeF cfC' (qL clOut) (pEnv specsO) cwC 999 ⟨tc1 j (atO i) i, m⟩ (lookCX 0 P PX)) := by kernel_rfl
theorem cA_end (j : Nat → AV) (m : AMem) (P PX : SeenO) :
    (0 = 0 ∧ seenC PX (i64N (atO 10)) (i64N 10) (j 6) m) = wpCodeF cfC' (qL clOut) (pEnv specsO) cwC 999 ⟨tc1 j (atO 10) 10, m⟩ (lookCX 0 P PX) := by kernel_rfl
theorem cB_all (j : Nat → AV) (m : AMem) (P PX : SeenO) :
    (List.range 10).map (fun i => seenC P (i64N (atO i)) (i64N i) (i64N 0) m) =
    (List.range 10).map (fun i => wpCodeF cfC' (qL (qL clMid)) (pEnv specsO) cwC 999 ⟨tc1 j (atO i) i, m⟩ (lookCX 0 P PX)) := by kernel_rfl
theorem cE_all (j : Nat → AV) (m : AMem) (P PX : SeenO) :
    (List.range 10).map (fun i => seenC P (i64N (atO (i + 1))) (i64N i) (i64N (nC i)) m) =
    (List.range 10).map (fun i => wpCodeF cfC' (qR clMid) (pEnv specsO) cwC 999 ⟨tc2 j (atO i) i (nC i), m⟩ (lookCX 0 P PX)) := by kernel_rfl
theorem cF_all (j : Nat → AV) (m : AMem) (P PX : SeenO) :
    (List.range 10).map (fun i => seenC P (i64N (atO (i + 1))) (i64N (i + 1)) (j 6) m) =
    (List.range 10).map (fun i => wpCodeF cfC' (qR (qR clOut)) (pEnv specsO) cwC 999 ⟨tc1 j (atO (i + 1)) i, m⟩ (lookCX 0 P PX)) := by kernel_rfl
theorem cIn_end (j : Nat → AV) (m : AMem) (P PX : SeenO) :
    (List.range 10).map (fun i => 2 = 2 ∧ seenC PX (i64N (atO i)) (i64N i) (i64N (nC i)) m) =
    (List.range 10).map (fun i => wpCodeF cfC' clIn (pEnv specsO) cwC 999 ⟨tc2 j (atO i) i (nC i), m⟩ (lookCX 2 P PX)) := by kernel_rfl
def inC (X : Nat) (w : Nat → Int) (P : SeenO) (i k : Nat) : Prop :=
  splitO (bitC (w i) k) (seenC P (i64N (atO i)) (i64N i) (i64N (k + 1)) (memQ w X ((atO i + k) / 8) (uadd8 (nthI (encL 32 X) ((atO i + k) / 8)) (.ofNat (2 ^ ((atO i + k) % 8))))))
    (seenC P (i64N (atO i)) (i64N i) (i64N (k + 1)) (memT w X))
theorem cIn_all (j : Nat → AV) (X : Nat) (w : Nat → Int) (P PX : SeenO) :
    (List.range 10).map (fun i => (List.range (nC i)).map (fun k => inC X w P i k)) =
    (List.range 10).map (fun i => (List.range (nC i)).map (fun k => wpCodeF cfC' clIn (pEnv specsO) cwC 999 ⟨tc2 j (atO i) i k, memT w X⟩ (lookCX 2 P PX))) := by kernel_rfl
def leaveC (K : KP) : KX := fun e s => Ex.casesOn (motive := fun _ => Prop) e (needR (evLeave (pEnv specsO) Try.f51 s) K) (fun _ => False) (needR (evLeave (pEnv specsO) Try.f51 s) K)
/-- is it the prime or above: the bytes, from the second one on -/
def chainC (X : Nat) (K E : Prop) : Nat → Nat → Prop
  | 0, _ => E
  | n + 1, i => splitO (!eqI (nthI (encL 32 X) i) 255) K (chainC X K E n (i + 1))
def restC (X : Nat) (K : List AV → Prop) : Prop := chainC X (K (encL 32 X)) (K (.int .u8 (usub8 (nthI (encL 32 X) 0) 237) :: encL 31 0)) 30 1
def endC (X : Nat) (K : List AV → Prop) : Prop :=
  splitO (ltI (nthI (encL 32 X) 0) 237) (splitO true (K (encL 32 X)) (restC X K)) (splitO (!eqI (nthI (encL 32 X) 31) 127) (K (encL 32 X)) (restC X K))
theorem cEnd_wp (j : Nat → AV) (X : Nat) (w : Nat → Int) (K : AV → Prop) : (endC X fun l => ∀ _ : AMem, K (.agg l)) =
    wpCodeF cfC' clEnd (pEnv specsO) cwC 999 ⟨tc1 j (atO 10) 10, memT w X⟩ (leaveC fun r _ => ∀ _ : AMem, K r) := by kernel_rfl
def car4 (v0 v1 v2 v3 v4 v5 v6 v7 v8 v9 : Int) (K : Int → Int → Int → Int → Int → Int → Int → Int → Int → Int → Prop) : Prop :=
  carQ v0 v1 v2 v3 v4 v5 v6 v7 v8 v9 fun v0 v1 v2 v3 v4 v5 v6 v7 v8 v9 => carQ v0 v1 v2 v3 v4 v5 v6 v7 v8 v9 fun v0 v1 v2 v3 v4 v5 v6 v7 v8 v9 => carQ v0 v1 v2 v3 v4 v5 v6 v7 v8 v9 fun v0 v1 v2 v3 v4 v5 v6 v7 v8 v9 => carQ v0 v1 v2 v3 v4 v5 v6 v7 v8 v9 K
def wOf (v0 v1 v2 v3 v4 v5 v6 v7 v8 v9 : Int) (j : Nat) : Int := nthI [.int .i64 v0, .int .i64 v1, .int .i64 v2, .int .i64 v3, .int .i64 v4, .int .i64 v5, .int .i64 v6, .int .i64 v7, .int .i64 v8, .int .i64 v9] j
theorem cPre0_wp (v0 v1 v2 v3 v4 v5 v6 v7 v8 v9 : Int) (P PX : SeenO) :
    (car4 v0 v1 v2 v3 v4 v5 v6 v7 v8 v9 fun v0 v1 v2 v3 v4 v5 v6 v7 v8 v9 => true = true ∧ (some (AV.ptr 0 0) = some (.ptr 0 0) ∧ some (AV.ptr 1 0) = some (.ptr 1 0) ∧ some (AV.ptr 2 0) = some (.ptr 2 0)) ∧ P (some (i64N 0)) (some (i64N 0)) none none (memT (wOf v0 v1 v2 v3 v4 v5 v6 v7 v8 v9) 0)) =
    wpCodeF cfC' clPre0 (pEnv specsO) cwC 999 ⟨initTm [wideA v0 v1 v2 v3 v4 v5 v6 v7 v8 v9] 0 .nil, ⟨0, .nil⟩⟩ (lookCX 0 P PX) := by kernel_rfl
end
end Ev
