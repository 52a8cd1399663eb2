/-
  The law CurveGroup over three points: it answers true. Conditions: points of 64 bytes.
-/
import Derived.Test.YtmbkjhcmbbcphaaD5
import Derived.Test.YtmbkjhcmbbcphaaR3
import Derived.ChangeSame
namespace Ev
open Go Go.Proofs
noncomputable section

/-! comparisons of points -/
theorem enc_app : ∀ (n k V : Nat), encL (n + k) V = encL n V ++ encL k (V / 256 ^ n)
  | 0, k, V => by
    rw [Nat.zero_add, Nat.pow_zero, Nat.div_one]; rfl
  | n + 1, k, V => by
    rw [show n + 1 + k = (n + k) + 1 by omega]
    show AV.int .u8 (.ofNat (V % 256)) :: encL (n + k) (V / 256) = AV.int .u8 (.ofNat (V % 256)) :: (encL n (V / 256) ++ encL k (V / 256 ^ (n + 1)))
    rw [enc_app n k (V / 256), Nat.div_div_eq_div_mul, Nat.pow_succ, Nat.mul_comm 256]
theorem enc_mod : ∀ (n V W : Nat), encL n (V + 256 ^ n * W) = encL n V
  | 0, V, W => rfl
  | n + 1, V, W => by
    show AV.int .u8 (.ofNat ((V + 256 ^ (n + 1) * W) % 256)) :: encL n ((V + 256 ^ (n + 1) * W) / 256) = AV.int .u8 (.ofNat (V % 256)) :: encL n (V / 256)
    have e : 256 ^ (n + 1) * W = 256 * (256 ^ n * W) := by rw [Nat.pow_succ, Nat.mul_comm (256 ^ n) 256, Nat.mul_assoc]
    rw [e, Nat.add_mul_mod_self_left, Nat.add_mul_div_left _ _ (by decide), enc_mod n]
theorem pt_enc {x y : Nat} (hx : x < 256 ^ 32) : pt x y = encL 64 (x + 256 ^ 32 * y) := by
  have h := enc_app 32 32 (x + 256 ^ 32 * y)
  rw [enc_mod, Nat.add_mul_div_left _ _ (by decide), Nat.div_eq_of_lt hx, Nat.zero_add] at h
  exact h.symm
theorem eqAgg35 (l : List (Nat × (List AV → Option AV))) (a b : List AV) : eqAgg (pEnv l) 35 a b = eqCells (List.replicate 64 .int) a b := by kernel_rfl
theorem eq_pt {l : List (Nat × (List AV → Option AV))} {x y x' y' : Nat} (hx : x < 256 ^ 32) (hy : y < 256 ^ 32) (hx' : x' < 256 ^ 32) (hy' : y' < 256 ^ 32) : eqAgg (pEnv l) 35 (pt x y) (pt x' y') = some (decide ((x, y) = (x', y'))) := by
  rw [eqAgg35, pt_enc hx, pt_enc hx', eqCells_enc]
  have e : (256 : Nat) ^ 32 = 115792089237316195423570985008687907853269984665640564039457584007913129639936 := rfl
  have e2 : (256 : Nat) ^ 64 = 13407807929942597099574024998205846127479365820592393377723561443721764030073546976801874298166903427690031858186486050853753882811946569946433649006084096 := rfl
  rw [e] at *
  rw [e2, Nat.mod_eq_of_lt (by omega), Nat.mod_eq_of_lt (by omega)]
  congr 1
  rw [decide_eq_decide, Prod.mk.injEq]
  omega

def specsE : List (Nat × (List AV → Option AV)) := [(33, liveS), (36, checkS), (38, ptS2 addPt), (37, ptS1 negPt), (39, zeroPS)]
theorem specsE_ok : ∀ p ∈ specsE, FnOK Try.prog p.1 (orcS p.2) := by
  intro p hp
  simp only [specsE, List.mem_cons, List.not_mem_nil, or_false] at hp
  rcases hp with rfl | rfl | rfl | rfl | rfl
  · exact plain_ok lives_c
  · exact plain_ok check_c
  · exact plain_ok addPt_c
  · exact plain_ok negPt_c
  · exact plain_ok zero_c
def waysE : List (Nat × (List AV → AMem → KP → Prop)) := [(33, liveA), (36, checkA), (38, ptA2 addPt), (37, ptA1 negPt), (39, zeroPA)]
theorem pairedE : Paired specsE waysE := .cons (fun _ _ _ h => liveA_ok h) (.cons (fun _ _ _ h => checkA_ok h) (.cons (fun _ _ _ h => ptA2_ok h) (.cons (fun _ _ _ h => ptA1_ok h) (.cons (fun _ _ _ h => zeroPA_ok h) .nil))))
theorem okE5 : EnvOK (pEnv specsE) Try.prog := okE specsE specsE_ok
def exE (o : Oper) : Bool := match o.dst with
  | some d => Nat.beq d 78
  | none => false
def wantE (o : Oper) : Option Bool := match o.dst with
  | some d => Bool.casesOn (motive := fun _ => Option Bool) (Nat.beq d 37 || (Nat.beq d 48 || (Nat.beq d 55 || (Nat.beq d 67 || (Nat.beq d 83 || Nat.beq d 92))))) none (some true)
  | none => none
def cfE : Wcfg := ⟨exE, pfS specsE, wantE⟩
def eqX (X Y : List AV) (K : Prop) : Prop := eqAgg (pEnv specsE) 35 X Y = some true ∧ K
def splitE (b : Bool) (K : Bool → Prop) : Prop := (b = true → K true) ∧ (b = false → K false)

def grpG (_ q s n : List AV) (K : Bool → Prop) (b : Bool) : Prop :=
  Bool.casesOn (motive := fun _ => Prop) b (K false)
    (p2 addPt s n fun x => eqX x q (p1 negPt s fun y => p1 negPt q fun z => p2 addPt n z fun w => eqX y w (K true)))
def grpB (p q s n : List AV) (K : Bool → Prop) : Prop :=
  p2 addPt p n fun x => eqX x (pt 0 1) (eqP (pEnv specsE) 35 s (pt 0 1) fun b1 => eqP (pEnv specsE) 35 q n fun b2 => splitE (eqBool b1 b2) (grpG p q s n K))
def grpA (p q r s n : List AV) (K : Bool → Prop) : Prop :=
  p2 addPt q p fun x => eqX s x (p2 addPt s r fun x => p2 addPt q r fun y => p2 addPt p y fun z => eqX x z (p2 addPt p (pt 0 1) fun x => eqX x p (
    checkQ n (grpB p q s n K) (splitE false (grpG p q s n K)))))
def groupP (p q r : List AV) (K : Bool → Prop) : Prop :=
  checkQ p (checkQ q (checkQ r (p2 addPt p q fun s => p1 negPt p fun n => checkQ s (grpA p q r s n K) (splitE false (grpG p q s n K))) (K true)) (K true)) (K true)
set_option maxRecDepth 1000000 in
theorem group_wp (x1 y1 x2 y2 x3 y3 : Nat) (K : AV → Prop) : (groupP (pt x1 y1) (pt x2 y2) (pt x3 y3) fun b => ∀ _ : AMem, K (.bool b)) =
    wpCall cfE (pEnv specsE) (owL waysE) 1000 (.fn 5) [.agg (pt x1 y1), .agg (pt x2 y2), .agg (pt x3 y3)] ⟨0, .nil⟩ (fun r _ => ∀ _ : AMem, K r) := by kernel_rfl
end
end Ev

/-
  CurveGroup answers true. Conditions: points of 64 bytes.
-/
namespace Ev
open Go Go.Proofs
noncomputable section

theorem pF_lt' {n : Nat} (h : n < pF) : n < 256 ^ 32 := Nat.lt_trans h pF_lt
theorem on_add {P Q : Pt} (hP : On P) (hQ : On Q) : addPt P Q = sumP P Q := by
  unfold addPt
  rw [(chk_on P).2 hP, (chk_on Q).2 hQ]; rfl
theorem on_neg {P : Pt} (hP : On P) : negPt P = (negN P.1, P.2) := by
  unfold negPt
  rw [(chk_on P).2 hP]
theorem add_on {P Q : Pt} (hP : On P) (hQ : On Q) : On (addPt P Q) := by rw [on_add hP hQ]; exact sum_on hP hQ
theorem negPt_on {P : Pt} (hP : On P) : On (negPt P) := by rw [on_neg hP]; exact neg_on hP
theorem add_comm {P Q : Pt} (hP : On P) (hQ : On Q) : addPt P Q = addPt Q P := by rw [on_add hP hQ, on_add hQ hP, sum_comm hP hQ]
theorem add_assoc {P Q R : Pt} (hP : On P) (hQ : On Q) (hR : On R) : addPt (addPt P Q) R = addPt P (addPt Q R) := by
  rw [on_add hP hQ, on_add hQ hR, on_add (sum_on hP hQ) hR, on_add hP (sum_on hQ hR), sum_assoc hP hQ hR]
theorem add_zero {P : Pt} (hP : On P) : addPt P (0, 1) = P := by rw [on_add hP zero_on, sum_zero hP]
theorem zero_add {P : Pt} (hP : On P) : addPt (0, 1) P = P := by rw [add_comm zero_on hP, add_zero hP]
theorem add_neg {P : Pt} (hP : On P) : addPt P (negPt P) = (0, 1) := by rw [on_neg hP, on_add hP (neg_on hP), sum_neg hP]
theorem neg_add {P : Pt} (hP : On P) : addPt (negPt P) P = (0, 1) := by rw [add_comm (negPt_on hP) hP, add_neg hP]
theorem add_left {P Q : Pt} (hP : On P) (hQ : On Q) : addPt (negPt P) (addPt P Q) = Q := by
  rw [← add_assoc (negPt_on hP) hP hQ, neg_add hP, zero_add hQ]
theorem zero_iff {P Q : Pt} (hP : On P) (hQ : On Q) : addPt P Q = (0, 1) ↔ Q = negPt P := by
  constructor
  · intro h
    have := add_left hP hQ
    rw [h, add_zero (negPt_on hP)] at this
    exact this.symm
  · rintro rfl
    exact add_neg hP
theorem add_back {P Q : Pt} (hP : On P) (hQ : On Q) : addPt (addPt P Q) (negPt P) = Q := by
  rw [add_comm (add_on hP hQ) (negPt_on hP), add_left hP hQ]
theorem neg_sum {P Q : Pt} (hP : On P) (hQ : On Q) : negPt (addPt P Q) = addPt (negPt P) (negPt Q) := by
  refine ((zero_iff (add_on hP hQ) (add_on (negPt_on hP) (negPt_on hQ))).1 ?_).symm
  rw [← add_assoc (add_on hP hQ) (negPt_on hP) (negPt_on hQ), add_back hP hQ, add_neg hQ]

/-! the conditions -/
theorem pt_lt {P : Pt} (h : On P) : P.1 < 256 ^ 32 ∧ P.2 < 256 ^ 32 := ⟨pF_lt' h.hx, pF_lt' h.hy⟩
def ptP (P : Pt) : List AV := pt P.1 P.2
theorem p1_on {g : Pt → Pt} {P : Pt} (h : On P) {K : List AV → Prop} (hk : K (ptP (g P))) : p1 g (ptP P) K := ⟨P, two_pt (pt_lt h).1 (pt_lt h).2, hk⟩
theorem p2_on {g : Pt → Pt → Pt} {P Q : Pt} (hP : On P) (hQ : On Q) {K : List AV → Prop} (hk : K (ptP (g P Q))) : p2 g (ptP P) (ptP Q) K := ⟨P, Q, ⟨two_pt (pt_lt hP).1 (pt_lt hP).2, two_pt (pt_lt hQ).1 (pt_lt hQ).2⟩, hk⟩
theorem checkQ_on {P : Pt} (h : On P) {T F : Prop} (ht : T) : checkQ (ptP P) T F :=
  checkQ_nat (pt_lt h).1 (pt_lt h).2 (fun _ => ht) fun hf => by
    have := (chk_on P).2 h
    unfold chk at this
    rw [this] at hf; cases hf
theorem eqX_of {P Q : Pt} (hP : On P) (hQ : On Q) (h : P = Q) {K : Prop} (hk : K) : eqX (ptP P) (ptP Q) K :=
  ⟨by unfold ptP; rw [eq_pt (pt_lt hP).1 (pt_lt hP).2 (pt_lt hQ).1 (pt_lt hQ).2, decide_eq_true h], hk⟩
theorem eqP_pt {P Q : Pt} (hP : On P) (hQ : On Q) {K : Bool → Prop} (hk : K (decide (P = Q))) : eqP (pEnv specsE) 35 (ptP P) (ptP Q) K :=
  ⟨_, by unfold ptP; rw [eq_pt (pt_lt hP).1 (pt_lt hP).2 (pt_lt hQ).1 (pt_lt hQ).2], hk⟩
theorem zero_ptP : pt 0 1 = ptP (0, 1) := rfl

theorem group_true {x1 y1 x2 y2 x3 y3 : Nat} (hx1 : x1 < 256 ^ 32) (hy1 : y1 < 256 ^ 32) (hx2 : x2 < 256 ^ 32) (hy2 : y2 < 256 ^ 32) (hx3 : x3 < 256 ^ 32) (hy3 : y3 < 256 ^ 32) {K : Bool → Prop} (hK : K true) :
    groupP (pt x1 y1) (pt x2 y2) (pt x3 y3) K := by
  refine checkQ_nat hx1 hy1 (fun h1 => checkQ_nat hx2 hy2 (fun h2 => checkQ_nat hx3 hy3 (fun h3 => ?_) fun _ => hK) fun _ => hK) fun _ => hK
  have hP := (chk_on (x1, y1)).1 h1
  have hQ := (chk_on (x2, y2)).1 h2
  have hR := (chk_on (x3, y3)).1 h3
  show p2 addPt (ptP (x1, y1)) (ptP (x2, y2)) fun s => p1 negPt (ptP (x1, y1)) fun n => checkQ s (grpA (ptP (x1, y1)) (ptP (x2, y2)) (ptP (x3, y3)) s n K) (splitE false (grpG (ptP (x1, y1)) (ptP (x2, y2)) s n K))
  generalize ((x1, y1) : Pt) = P at *
  generalize ((x2, y2) : Pt) = Q at *
  generalize ((x3, y3) : Pt) = R at *
  have hS := add_on hP hQ
  have hN := negPt_on hP
  refine p2_on hP hQ (p1_on hP (checkQ_on hS ?_))
  refine p2_on hQ hP (eqX_of hS (add_on hQ hP) (add_comm hP hQ) ?_)
  refine p2_on hS hR (p2_on hQ hR (p2_on hP (add_on hQ hR) (eqX_of (add_on hS hR) (add_on hP (add_on hQ hR)) (add_assoc hP hQ hR) ?_)))
  rw [zero_ptP]
  refine p2_on hP zero_on (eqX_of (add_on hP zero_on) hP (add_zero hP) (checkQ_on hN ?_))
  unfold grpB
  rw [zero_ptP]
  refine p2_on hP hN (eqX_of (add_on hP hN) zero_on (add_neg hP) (eqP_pt hS zero_on (eqP_pt hQ hN ⟨fun _ => ?_, fun hf => ?_⟩)))
  · show p2 addPt (ptP (addPt P Q)) (ptP (negPt P)) fun x => eqX x (ptP Q) (p1 negPt (ptP (addPt P Q)) fun y => p1 negPt (ptP Q) fun z => p2 addPt (ptP (negPt P)) z fun w => eqX y w (K true))
    refine p2_on hS hN (eqX_of (add_on hS hN) hQ (add_back hP hQ) (p1_on hS (p1_on hQ (p2_on hN (negPt_on hQ) (eqX_of (negPt_on hS) (add_on hN (negPt_on hQ)) (neg_sum hP hQ) hK)))))
  · exfalso
    have e : decide (addPt P Q = (0, 1)) = decide (Q = negPt P) := decide_eq_decide.2 (zero_iff hP hQ)
    rw [e] at hf
    cases hb : decide (Q = negPt P) <;> rw [hb] at hf <;> cases hf
theorem group_run {x1 y1 x2 y2 x3 y3 : Nat} (hx1 : x1 < 256 ^ 32) (hy1 : y1 < 256 ^ 32) (hx2 : x2 < 256 ^ 32) (hy2 : y2 < 256 ^ 32) (hx3 : x3 < 256 ^ 32) (hy3 : y3 < 256 ^ 32) :
    ∃ m, evCall (pEnv specsE) 1000 (.fn 5) [.agg (pt x1 y1), .agg (pt x2 y2), .agg (pt x3 y3)] ⟨0, .nil⟩ = some (.bool true, m) := by
  obtain ⟨r, m, h, rfl⟩ := run_of pairedE specsE_ok (cf := cfE) (fun g h => pfS_some h) (K := fun r => r = .bool true) (Eq.mp (group_wp x1 y1 x2 y2 x3 y3 _) (group_true hx1 hy1 hx2 hy2 hx3 hy3 fun _ => rfl))
  exact ⟨m, h⟩
end
end Ev

/-
  Values that are points, as two numbers each. Conditions: those named.
-/
namespace Ev
open Go Go.Proofs Go.ChangeShapes
noncomputable section

theorem cells35 : Try.prog.cellsOf 35 = 64 := by kernel_rfl
theorem vsRel_app {μ : Mu} : ∀ {l l' : List AV} {a b : List Value}, VsRel μ l a → VsRel μ l' b → VsRel μ (l ++ l') (a ++ b)
  | [], _, a, b, h, h' => by
    have : a = [] := h
    subst this; exact h'
  | x :: l, _, a, b, h, h' => by
    obtain ⟨v, r, rfl, h1, h2⟩ := h
    exact ⟨v, r ++ b, rfl, h1, vsRel_app h2 h'⟩
theorem scalar_app (l l' : List AV) : (l ++ l').all AV.scalar = (l.all AV.scalar && l'.all AV.scalar) := List.all_append
theorem point_trod {H : Type} {enc : TypeId × Value → H} {w : World} {base : Nat} {sp : Nat → Bool} {held : Bool} {v : Value} {d : DataW H} {ps : List MemPlace} (h : DataW.Trod enc Try.prog w base sp held 35 v d ps) :
    ps = [] ∧ Alone enc Try.prog 35 v d ∧ ∃ x y, x < 256 ^ 32 ∧ y < 256 ^ 32 ∧ VRel (fun _ => none) (.agg (pt x y)) v := by
  obtain ⟨fuel, h⟩ := h
  obtain ⟨y0, y1, n, he, hlen, h0, h1⟩ := trod_struct2 Try.underlying35 h
  rw [cells35] at hlen
  have t0 : DataW.Trod enc Try.prog w base sp held 23 (.agg ⟨(v.cells.toList.drop 0).take 32⟩) y0.1 y0.2 := ⟨n, by rw [cells23] at h0; exact h0⟩
  have t1 : DataW.Trod enc Try.prog w base sp held 23 (.agg ⟨(v.cells.toList.drop 32).take 32⟩) y1.1 y1.2 := ⟨n, by rw [cells23] at h1; exact h1⟩
  obtain ⟨e0, a0, x, hx, r0⟩ := num_trod t0
  obtain ⟨e1, a1, y, hy, r1⟩ := num_trod t1
  cases he
  refine ⟨by rw [e0, e1]; rfl, ?_, x, y, hx, hy, ?_⟩
  · intro w' base' sp' held'
    obtain ⟨n0, k0⟩ := a0 w' base' sp' held'
    obtain ⟨n1, k1⟩ := a1 w' base' sp' held'
    have k0 := DataW.trod_le (Nat.le_max_left n0 n1) k0
    have k1 := DataW.trod_le (Nat.le_max_right n0 n1) k1
    refine ⟨max n0 n1 + 1, ?_⟩
    have := trod_struct2_mk (enc := enc) (w := w') (base := base') (spare := sp') (held := held') Try.underlying35 (by rw [cells35]; exact hlen) (by rw [cells23]; exact k0) (by rw [cells23]; exact k1)
    simpa using this
  · have hv : ∃ cs : List Value, v = .agg ⟨cs⟩ := by
      cases v <;> first | (next cs => obtain ⟨cs⟩ := cs; exact ⟨cs, rfl⟩) | (simp [Value.cells] at hlen)
    obtain ⟨cs, rfl⟩ := hv
    have hcl : cs.length = 64 := by simpa [Value.cells] using hlen
    obtain ⟨l0, q0, s0, _⟩ := r0
    obtain ⟨l1, q1, s1, _⟩ := r1
    have q0 : (cs.drop 0).take 32 = l0 := by simpa [Value.cells] using q0
    have q1 : (cs.drop 32).take 32 = l1 := by simpa [Value.cells] using q1
    have hc : cs = l0 ++ l1 := by
      rw [← q0, ← q1, List.drop_zero, List.take_of_length_le (l := cs.drop 32) (by rw [List.length_drop, hcl]; decide), List.take_append_drop]
    refine ⟨cs, rfl, ?_, ?_⟩
    · rw [hc]; exact vsRel_app s0 s1
    · unfold pt; rw [scalar_app, scalar_enc, scalar_enc]; rfl
end
end Ev
