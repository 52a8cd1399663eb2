/-
  CurveGroup answers true. Conditions: points of 64 bytes.
-/
import Derived.Test.YtmbkjhcmbbcphaaD6
namespace Ev
open Go Go.Proofs
noncomputable section

theorem pF_lt' {n : Nat} (h : n < pF) : n < 256 ^ 32 := Nat.lt_trans h pF_lt
theorem on_add {P Q : Pt} (hP : On P) (hQ : On Q) : addPt P Q = sumP P Q := by
  unfold addPt
  rw [(chk_on P).2 hP, (chk_on Q).2 hQ]; rfl
theorem on_neg {P : Pt} (hP : On P) : negPt P = (negN P.1, P.2) := by
  unfold negPt
  rw [(chk_on P).2 hP]
theorem add_on {P Q : Pt} (hP : On P) (hQ : On Q) : On (addPt P Q) := by rw [on_add hP hQ]; exact sum_on hP hQ
theorem negPt_on {P : Pt} (hP : On P) : On (negPt P) := by rw [on_neg hP]; exact neg_on hP
theorem add_comm {P Q : Pt} (hP : On P) (hQ : On Q) : addPt P Q = addPt Q P := by rw [on_add hP hQ, on_add hQ hP, sum_comm hP hQ]
theorem add_assoc {P Q R : Pt} (hP : On P) (hQ : On Q) (hR : On R) : addPt (addPt P Q) R = addPt P (addPt Q R) := by
  rw [on_add hP hQ, on_add hQ hR, on_add (sum_on hP hQ) hR, on_add hP (sum_on hQ hR), sum_assoc hP hQ hR]
theorem add_zero {P : Pt} (hP : On P) : addPt P (0, 1) = P := by rw [on_add hP zero_on, sum_zero hP]
theorem zero_add {P : Pt} (hP : On P) : addPt (0, 1) P = P := by rw [add_comm zero_on hP, add_zero hP]
theorem add_neg {P : Pt} (hP : On P) : addPt P (negPt P) = (0, 1) := by rw [on_neg hP, on_add hP (neg_on hP), sum_neg hP]
theorem neg_add {P : Pt} (hP : On P) : addPt (negPt P) P = (0, 1) := by rw [add_comm (negPt_on hP) hP, add_neg hP]
theorem add_left {P Q : Pt} (hP : On P) (hQ : On Q) : addPt (negPt P) (addPt P Q) = Q := by
  rw [← add_assoc (negPt_on hP) hP hQ, neg_add hP, zero_add hQ]
theorem zero_iff {P Q : Pt} (hP : On P) (hQ : On Q) : addPt P Q = (0, 1) ↔ Q = negPt P := by
  constructor
  · intro h
    have := add_left hP hQ
    rw [h, add_zero (negPt_on hP)] at this
    exact this.symm
  · rintro rfl
    exact add_neg hP
theorem add_back {P Q : Pt} (hP : On P) (hQ : On Q) : addPt (addPt P Q) (negPt P) = Q := by
  rw [add_comm (add_on hP hQ) (negPt_on hP), add_left hP hQ]
theorem neg_sum {P Q : Pt} (hP : On P) (hQ : On Q) : negPt (addPt P Q) = addPt (negPt P) (negPt Q) := by
  refine ((zero_iff (add_on hP hQ) (add_on (negPt_on hP) (negPt_on hQ))).1 ?_).symm
  rw [← add_assoc (add_on hP hQ) (negPt_on hP) (negPt_on hQ), add_back hP hQ, add_neg hQ]

/-! the conditions -/
theorem pt_lt {P : Pt} (h : On P) : P.1 < 256 ^ 32 ∧ P.2 < 256 ^ 32 := ⟨pF_lt' h.hx, pF_lt' h.hy⟩
def ptP (P : Pt) : List AV := pt P.1 P.2
theorem p1_on {g : Pt → Pt} {P : Pt} (h : On P) {K : List AV → Prop} (hk : K (ptP (g P))) : p1 g (ptP P) K := ⟨P, two_pt (pt_lt h).1 (pt_lt h).2, hk⟩
theorem p2_on {g : Pt → Pt → Pt} {P Q : Pt} (hP : On P) (hQ : On Q) {K : List AV → Prop} (hk : K (ptP (g P Q))) : p2 g (ptP P) (ptP Q) K := ⟨P, Q, ⟨two_pt (pt_lt hP).1 (pt_lt hP).2, two_pt (pt_lt hQ).1 (pt_lt hQ).2⟩, hk⟩
theorem checkQ_on {P : Pt} (h : On P) {T F : Prop} (ht : T) : checkQ (ptP P) T F :=
  checkQ_nat (pt_lt h).1 (pt_lt h).2 (fun _ => ht) fun hf => by
    have := (chk_on P).2 h
    unfold chk at this
    rw [this] at hf; cases hf
theorem eqX_of {P Q : Pt} (hP : On P) (hQ : On Q) (h : P = Q) {K : Prop} (hk : K) : eqX (ptP P) (ptP Q) K :=
  ⟨by unfold ptP; rw [eq_pt (pt_lt hP).1 (pt_lt hP).2 (pt_lt hQ).1 (pt_lt hQ).2, decide_eq_true h], hk⟩
theorem eqP_pt {P Q : Pt} (hP : On P) (hQ : On Q) {K : Bool → Prop} (hk : K (decide (P = Q))) : eqP (pEnv specsE) 35 (ptP P) (ptP Q) K :=
  ⟨_, by unfold ptP; rw [eq_pt (pt_lt hP).1 (pt_lt hP).2 (pt_lt hQ).1 (pt_lt hQ).2], hk⟩
theorem zero_ptP : pt 0 1 = ptP (0, 1) := rfl

theorem group_true {x1 y1 x2 y2 x3 y3 : Nat} (hx1 : x1 < 256 ^ 32) (hy1 : y1 < 256 ^ 32) (hx2 : x2 < 256 ^ 32) (hy2 : y2 < 256 ^ 32) (hx3 : x3 < 256 ^ 32) (hy3 : y3 < 256 ^ 32) {K : Bool → Prop} (hK : K true) :
    groupP (pt x1 y1) (pt x2 y2) (pt x3 y3) K := by
  refine checkQ_nat hx1 hy1 (fun h1 => checkQ_nat hx2 hy2 (fun h2 => checkQ_nat hx3 hy3 (fun h3 => ?_) fun _ => hK) fun _ => hK) fun _ => hK
  have hP := (chk_on (x1, y1)).1 h1
  have hQ := (chk_on (x2, y2)).1 h2
  have hR := (chk_on (x3, y3)).1 h3
  show p2 addPt (ptP (x1, y1)) (ptP (x2, y2)) fun s => p1 negPt (ptP (x1, y1)) fun n => checkQ s (grpA (ptP (x1, y1)) (ptP (x2, y2)) (ptP (x3, y3)) s n K) (splitE false (grpG (ptP (x1, y1)) (ptP (x2, y2)) s n K))
  generalize ((x1, y1) : Pt) = P at *
  generalize ((x2, y2) : Pt) = Q at *
  generalize ((x3, y3) : Pt) = R at *
  have hS := add_on hP hQ
  have hN := negPt_on hP
  refine p2_on hP hQ (p1_on hP (checkQ_on hS ?_))
  refine p2_on hQ hP (eqX_of hS (add_on hQ hP) (add_comm hP hQ) ?_)
  refine p2_on hS hR (p2_on hQ hR (p2_on hP (add_on hQ hR) (eqX_of (add_on hS hR) (add_on hP (add_on hQ hR)) (add_assoc hP hQ hR) ?_)))
  rw [zero_ptP]
  refine p2_on hP zero_on (eqX_of (add_on hP zero_on) hP (add_zero hP) (checkQ_on hN ?_))
  unfold grpB
  rw [zero_ptP]
  refine p2_on hP hN (eqX_of (add_on hP hN) zero_on (add_neg hP) (eqP_pt hS zero_on (eqP_pt hQ hN ⟨fun _ => ?_, fun hf => ?_⟩)))
  · show p2 addPt (ptP (addPt P Q)) (ptP (negPt P)) fun x => eqX x (ptP Q) (p1 negPt (ptP (addPt P Q)) fun y => p1 negPt (ptP Q) fun z => p2 addPt (ptP (negPt P)) z fun w => eqX y w (K true))
    refine p2_on hS hN (eqX_of (add_on hS hN) hQ (add_back hP hQ) (p1_on hS (p1_on hQ (p2_on hN (negPt_on hQ) (eqX_of (negPt_on hS) (add_on hN (negPt_on hQ)) (neg_sum hP hQ) hK)))))
  · exfalso
    have e : decide (addPt P Q = (0, 1)) = decide (Q = negPt P) := decide_eq_decide.2 (zero_iff hP hQ)
    rw [e] at hf
    cases hb : decide (Q = negPt P) <;> rw [hb] at hf <;> cases hf
theorem group_run {x1 y1 x2 y2 x3 y3 : Nat} (hx1 : x1 < 256 ^ 32) (hy1 : y1 < 256 ^ 32) (hx2 : x2 < 256 ^ 32) (hy2 : y2 < 256 ^ 32) (hx3 : x3 < 256 ^ 32) (hy3 : y3 < 256 ^ 32) :
    ∃ m, evCall (pEnv specsE) 1000 (.fn 5) [.agg (pt x1 y1), .agg (pt x2 y2), .agg (pt x3 y3)] ⟨0, .nil⟩ = some (.bool true, m) := by
  obtain ⟨r, m, h, rfl⟩ := run_of pairedE specsE_ok (cf := cfE) (fun g h => pfS_some h) (K := fun r => r = .bool true) (Eq.mp (group_wp x1 y1 x2 y2 x3 y3 _) (group_true hx1 hy1 hx2 hy2 hx3 hy3 fun _ => rfl))
  exact ⟨m, h⟩
end
end Ev
