/-
  The law CurveGroup over three points: it answers true. Conditions: points of 64 bytes.
-/
import Derived.Test.YtmbkjhcmbbcphaaD5
namespace Ev
open Go Go.Proofs
noncomputable section

/-! comparisons of points -/
theorem enc_app : ∀ (n k V : Nat), encL (n + k) V = encL n V ++ encL k (V / 256 ^ n)
  | 0, k, V => by
    rw [Nat.zero_add, Nat.pow_zero, Nat.div_one]; rfl
  | n + 1, k, V => by
    rw [show n + 1 + k = (n + k) + 1 by omega]
    show AV.int .u8 (.ofNat (V % 256)) :: encL (n + k) (V / 256) = AV.int .u8 (.ofNat (V % 256)) :: (encL n (V / 256) ++ encL k (V / 256 ^ (n + 1)))
    rw [enc_app n k (V / 256), Nat.div_div_eq_div_mul, Nat.pow_succ, Nat.mul_comm 256]
theorem enc_mod : ∀ (n V W : Nat), encL n (V + 256 ^ n * W) = encL n V
  | 0, V, W => rfl
  | n + 1, V, W => by
    show AV.int .u8 (.ofNat ((V + 256 ^ (n + 1) * W) % 256)) :: encL n ((V + 256 ^ (n + 1) * W) / 256) = AV.int .u8 (.ofNat (V % 256)) :: encL n (V / 256)
    have e : 256 ^ (n + 1) * W = 256 * (256 ^ n * W) := by rw [Nat.pow_succ, Nat.mul_comm (256 ^ n) 256, Nat.mul_assoc]
    rw [e, Nat.add_mul_mod_self_left, Nat.add_mul_div_left _ _ (by decide), enc_mod n]
theorem pt_enc {x y : Nat} (hx : x < 256 ^ 32) : pt x y = encL 64 (x + 256 ^ 32 * y) := by
  have h := enc_app 32 32 (x + 256 ^ 32 * y)
  rw [enc_mod, Nat.add_mul_div_left _ _ (by decide), Nat.div_eq_of_lt hx, Nat.zero_add] at h
  exact h.symm
theorem eqAgg35 (l : List (Nat × (List AV → Option AV))) (a b : List AV) : eqAgg (pEnv l) 35 a b = eqCells (List.replicate 64 .int) a b := by kernel_rfl
theorem eq_pt {l : List (Nat × (List AV → Option AV))} {x y x' y' : Nat} (hx : x < 256 ^ 32) (hy : y < 256 ^ 32) (hx' : x' < 256 ^ 32) (hy' : y' < 256 ^ 32) : eqAgg (pEnv l) 35 (pt x y) (pt x' y') = some (decide ((x, y) = (x', y'))) := by
  rw [eqAgg35, pt_enc hx, pt_enc hx', eqCells_enc]
  have e : (256 : Nat) ^ 32 = 115792089237316195423570985008687907853269984665640564039457584007913129639936 := rfl
  have e2 : (256 : Nat) ^ 64 = 13407807929942597099574024998205846127479365820592393377723561443721764030073546976801874298166903427690031858186486050853753882811946569946433649006084096 := rfl
  rw [e] at *
  rw [e2, Nat.mod_eq_of_lt (by omega), Nat.mod_eq_of_lt (by omega)]
  congr 1
  rw [decide_eq_decide, Prod.mk.injEq]
  omega

def specsE : List (Nat × (List AV → Option AV)) := [(33, liveS), (36, checkS), (38, ptS2 addPt), (37, ptS1 negPt), (39, zeroPS)]
theorem specsE_ok : ∀ p ∈ specsE, FnOK Try.prog p.1 (orcS p.2) := by
  intro p hp
  simp only [specsE, List.mem_cons, List.not_mem_nil, or_false] at hp
  rcases hp with rfl | rfl | rfl | rfl | rfl
  · exact plain_ok lives_c
  · exact plain_ok check_c
  · exact plain_ok addPt_c
  · exact plain_ok negPt_c
  · exact plain_ok zero_c
def waysE : List (Nat × (List AV → AMem → KP → Prop)) := [(33, liveA), (36, checkA), (38, ptA2 addPt), (37, ptA1 negPt), (39, zeroPA)]
theorem pairedE : Paired specsE waysE := .cons (fun _ _ _ h => liveA_ok h) (.cons (fun _ _ _ h => checkA_ok h) (.cons (fun _ _ _ h => ptA2_ok h) (.cons (fun _ _ _ h => ptA1_ok h) (.cons (fun _ _ _ h => zeroPA_ok h) .nil))))
theorem okE5 : EnvOK (pEnv specsE) Try.prog := okE specsE specsE_ok
def exE (o : Oper) : Bool := match o.dst with
  | some d => Nat.beq d 78
  | none => false
def wantE (o : Oper) : Option Bool := match o.dst with
  | some d => Bool.casesOn (motive := fun _ => Option Bool) (Nat.beq d 37 || (Nat.beq d 48 || (Nat.beq d 55 || (Nat.beq d 67 || (Nat.beq d 83 || Nat.beq d 92))))) none (some true)
  | none => none
def cfE : Wcfg := ⟨exE, pfS specsE, wantE⟩
def eqX (X Y : List AV) (K : Prop) : Prop := eqAgg (pEnv specsE) 35 X Y = some true ∧ K
def splitE (b : Bool) (K : Bool → Prop) : Prop := (b = true → K true) ∧ (b = false → K false)

def grpG (_ q s n : List AV) (K : Bool → Prop) (b : Bool) : Prop :=
  Bool.casesOn (motive := fun _ => Prop) b (K false)
    (p2 addPt s n fun x => eqX x q (p1 negPt s fun y => p1 negPt q fun z => p2 addPt n z fun w => eqX y w (K true)))
def grpB (p q s n : List AV) (K : Bool → Prop) : Prop :=
  p2 addPt p n fun x => eqX x (pt 0 1) (eqP (pEnv specsE) 35 s (pt 0 1) fun b1 => eqP (pEnv specsE) 35 q n fun b2 => splitE (eqBool b1 b2) (grpG p q s n K))
def grpA (p q r s n : List AV) (K : Bool → Prop) : Prop :=
  p2 addPt q p fun x => eqX s x (p2 addPt s r fun x => p2 addPt q r fun y => p2 addPt p y fun z => eqX x z (p2 addPt p (pt 0 1) fun x => eqX x p (
    checkQ n (grpB p q s n K) (splitE false (grpG p q s n K)))))
def groupP (p q r : List AV) (K : Bool → Prop) : Prop :=
  checkQ p (checkQ q (checkQ r (p2 addPt p q fun s => p1 negPt p fun n => checkQ s (grpA p q r s n K) (splitE false (grpG p q s n K))) (K true)) (K true)) (K true)
set_option maxRecDepth 1000000 in
theorem group_wp (x1 y1 x2 y2 x3 y3 : Nat) (K : AV → Prop) : (groupP (pt x1 y1) (pt x2 y2) (pt x3 y3) fun b => ∀ _ : AMem, K (.bool b)) =
    wpCall cfE (pEnv specsE) (owL waysE) 1000 (.fn 5) [.agg (pt x1 y1), .agg (pt x2 y2), .agg (pt x3 y3)] ⟨0, .nil⟩ (fun r _ => ∀ _ : AMem, K r) := by kernel_rfl
end
end Ev
