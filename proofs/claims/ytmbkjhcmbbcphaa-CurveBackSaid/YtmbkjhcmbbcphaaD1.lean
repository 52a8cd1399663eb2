/-
  Points as plain data: their numbers, Check, Zero. Conditions: points of 64 bytes.
-/
import Derived.Test.YtmbkjhcmbbcphaaK3
namespace Ev
open Go Go.Proofs
noncomputable section

def pt (x y : Nat) : List AV := encL 32 x ++ encL 32 y
/-- the two numbers of a point -/
def two (l : List AV) : Option (Nat × Nat) :=
  match decN 32 (l.take 32), decN 32 (l.drop 32) with
  | some x, some y => some (x, y)
  | _, _ => none
theorem two_some {l : List AV} {x y : Nat} (h : two l = some (x, y)) : l = pt x y ∧ x < 256 ^ 32 ∧ y < 256 ^ 32 := by
  unfold two at h
  split at h
  · next a b h1 h2 =>
    cases h
    obtain ⟨e1, g1⟩ := enc_decN h1
    obtain ⟨e2, g2⟩ := enc_decN h2
    refine ⟨?_, g1, g2⟩
    unfold pt
    rw [← e1, ← e2, List.take_append_drop]
  · cases h
theorem two_pt {x y : Nat} (hx : x < 256 ^ 32) (hy : y < 256 ^ 32) : two (pt x y) = some (x, y) := by
  unfold two pt
  rw [List.take_left' (enc_len 32 x), List.drop_left' (enc_len 32 x), decN_enc hx, decN_enc hy]
theorem plains_app : ∀ (l l' : List AV), AV.plains (l ++ l') = (AV.plains l && AV.plains l')
  | [], l' => rfl
  | a :: l, l' => by
    show (AV.plain a && AV.plains (l ++ l')) = ((AV.plain a && AV.plains l) && AV.plains l')
    rw [plains_app l l', Bool.and_assoc]
theorem plain_pt (x y : Nat) : AV.plain (.agg (pt x y)) = true := by
  show AV.plains (pt x y) = true
  unfold pt
  rw [plains_app, plains_enc, plains_enc]; rfl

/-! D -/
theorem curveD_run : ansR (evCall (pEnv []) 1000 (.fn 61) [] ⟨0, .nil⟩) = some (.agg (encL 32 curveD)) := by kernel_rfl
def dS : List AV → Option AV
  | [] => some (.agg (encL 32 curveD))
  | _ => none
theorem d_c : PlainC Try.prog 61 dS := by
  refine ⟨fun l r h => ?_, fun l r h => ?_⟩ <;> unfold dS at h <;> split at h
  · cases h; exact ⟨rfl, plain_enc _⟩
  · cases h
  · cases h
    obtain ⟨m, hm⟩ := ansR_some curveD_run
    exact ⟨_, _, m, okE0, hm⟩
  · cases h
def dA : List AV → AMem → KP → Prop
  | [], m, K => K (.agg (encL 32 curveD)) m
  | _, _, _ => False
theorem dA_ok {args : List AV} {m : AMem} {K : KP} (h : dA args m K) : ∃ r, dS args = some r ∧ K r m := by
  unfold dA at h
  split at h
  · exact ⟨_, rfl, h⟩
  · cases h
theorem dLt : curveD < 256 ^ 32 := by decide

/-! Check -/
def onL (x y : Nat) : Nat := subN (mulN y y) (mulN x x)
def onR (x y : Nat) : Nat := addN 1 (mulN curveD (mulN (mulN x x) (mulN y y)))
def checkN (x y : Nat) : Bool := canonN x && (canonN y && decide (onL x y = onR x y))
def errI (b : Bool) : Int := Bool.casesOn (motive := fun _ => Int) b 2 0
def specsC : List (Nat × (List AV → Option AV)) := [(13, predS canonN), (23, numS2 mulN), (15, ofS), (61, dS), (17, numS2 addN), (19, numS2 subN)]
theorem specsC_ok : ∀ p ∈ specsC, FnOK Try.prog p.1 (orcS p.2) := by
  intro p hp
  simp only [specsC, List.mem_cons, List.not_mem_nil, or_false] at hp
  rcases hp with rfl | rfl | rfl | rfl | rfl | rfl
  · exact plain_ok canon_c
  · exact plain_ok mul_c
  · exact plain_ok of_c
  · exact plain_ok d_c
  · exact plain_ok add_c
  · exact plain_ok sub_c
def waysC : List (Nat × (List AV → AMem → KP → Prop)) := [(13, predA canonN), (23, numA2 mulN), (15, ofA), (61, dA), (17, numA2 addN), (19, numA2 subN)]
theorem pairedC : Paired specsC waysC := .cons (fun _ _ _ h => predA_ok h) (.cons (fun _ _ _ h => numA2_ok h) (.cons (fun _ _ _ h => ofA_ok h) (.cons (fun _ _ _ h => dA_ok h)
  (.cons (fun _ _ _ h => numA2_ok h) (.cons (fun _ _ _ h => numA2_ok h) .nil)))))
def pfS (l : List (Nat × (List AV → Option AV))) (f : Nat) : Bool := List.rec (motive := fun _ => Bool) false (fun p _ ih => Nat.beq f p.1 || ih) l
theorem pfS_some {l : List (Nat × (List AV → Option AV))} {g : Nat} (h : pfS l g = true) : ∃ s, lookS l g = some (orcS s) := by
  induction l with
  | nil => cases h
  | cons p l ih =>
    have h : (Nat.beq g p.1 || pfS l g) = true := h
    show ∃ s, Bool.casesOn (motive := fun _ => Option (List AV → AMem → R)) (Nat.beq g p.1) (lookS l g) (some (orcS p.2)) = some (orcS s)
    cases hb : Nat.beq g p.1 with
    | true => exact ⟨p.2, rfl⟩
    | false => rw [hb, Bool.false_or] at h; exact ih h
def cfC : Wcfg := ⟨fun _ => false, pfS specsC, fun _ => none⟩
def okP64 (b : Bool) (T F : Prop) : Prop := Bool.casesOn (motive := fun _ => Prop) b F T
def checkM (x y : List AV) (K : Int → Prop) : Prop :=
  predQ canonN x (predQ canonN y
    (q2 mulN x x fun x2 => q2 mulN y y fun y2 => ofQ 1 fun o => q2 mulN x2 y2 fun m => q2 mulN (encL 32 curveD) m fun dm => q2 addN o dm fun r => q2 subN y2 x2 fun l => eqP (pEnv specsC) 23 l r fun b => Bool.casesOn (motive := fun _ => Prop) (cmpB true b) (K 0) (K 2))
    (K 2)) (K 2)
theorem check_wp (x y : Nat) (K : AV → Prop) : (checkM (encL 32 x) (encL 32 y) fun n => ∀ _ : AMem, K (.int .i64 n)) = wpCall cfC (pEnv specsC) (owL waysC) 1000 (.fn 36) [.agg (pt x y)] ⟨0, .nil⟩ (fun r _ => ∀ _ : AMem, K r) := by kernel_rfl
theorem checkM_nat {x y : Nat} (hx : x < 256 ^ 32) (hy : y < 256 ^ 32) {K : Int → Prop} (hk : K (errI (checkN x y))) : checkM (encL 32 x) (encL 32 y) K := by
  unfold checkN at hk
  refine ⟨x, decN_enc hx, fun h1 => ⟨y, decN_enc hy, fun h2 => ?_, fun h2 => ?_⟩, fun h1 => ?_⟩
  · rw [h1, h2] at hk
    refine q2_nat hx hx (q2_nat hy hy (ofQ_nat (n := 1) (by decide) (q2_nat (lt_mul _ _) (lt_mul _ _) (q2_nat dLt (lt_mul _ _) (q2_nat (by decide) (lt_mul _ _) (q2_nat (lt_mul _ _) (lt_mul _ _) ⟨_, eq_num (lt_sub _ _) (lt_add _ _), ?_⟩))))))
    show Bool.casesOn (motive := fun _ => Prop) (!(decide (onL x y = onR x y))) (K 0) (K 2)
    cases hb : decide (onL x y = onR x y) with
    | true => rw [hb] at hk; exact hk
    | false => rw [hb] at hk; exact hk
  · rw [h1, h2] at hk; exact hk
  · rw [h1] at hk; exact hk
def checkS : List AV → Option AV
  | [.agg l] => Option.casesOn (motive := fun _ => Option AV) (two l) none fun p => Prod.casesOn (motive := fun _ => Option AV) p fun x y => some (.int .i64 (errI (checkN x y)))
  | _ => none
def checkQ (l : List AV) (T F : Prop) : Prop := ∃ x y, two l = some (x, y) ∧ (checkN x y = true → T) ∧ (checkN x y = false → F)
def checkA : List AV → AMem → KP → Prop
  | [.agg l], m, K => checkQ l (K (.int .i64 0) m) (K (.int .i64 2) m)
  | _, _, _ => False
theorem checkA_ok {args : List AV} {m : AMem} {K : KP} (h : checkA args m K) : ∃ r, checkS args = some r ∧ K r m := by
  unfold checkA at h
  split at h
  · next l =>
    obtain ⟨x, y, hd, ht, hf⟩ := h
    refine ⟨.int .i64 (errI (checkN x y)), ?_, ?_⟩
    · show Option.casesOn (motive := fun _ => Option AV) (two l) none _ = _
      rw [hd]
    · cases hc : checkN x y with
      | true => exact ht hc
      | false => exact hf hc
  · cases h
theorem check_c : PlainC Try.prog 36 checkS := by
  have main : ∀ l r, checkS l = some r → ∃ x y, x < 256 ^ 32 ∧ y < 256 ^ 32 ∧ l = [.agg (pt x y)] ∧ r = .int .i64 (errI (checkN x y)) := by
    intro l r h
    unfold checkS at h
    split at h
    · next l =>
      cases hd : two l with
      | none => rw [hd] at h; cases h
      | some p =>
        obtain ⟨x, y⟩ := p
        rw [hd] at h; cases h
        obtain ⟨rfl, hx, hy⟩ := two_some hd
        exact ⟨x, y, hx, hy, rfl, rfl⟩
    · cases h
  refine ⟨fun l r hs => ?_, fun l r hs => ?_⟩ <;> obtain ⟨x, y, hx, hy, rfl, rfl⟩ := main l r hs
  · refine ⟨?_, rfl⟩
    show (AV.plain _ && true) = true
    rw [plain_pt]; rfl
  · have hk : checkM (encL 32 x) (encL 32 y) fun n => ∀ _ : AMem, AV.int .i64 n = .int .i64 (errI (checkN x y)) := checkM_nat hx hy fun _ => rfl
    obtain ⟨r, m, h, rfl⟩ := run_of pairedC specsC_ok (cf := cfC) (fun g h => pfS_some h) (K := fun r => r = .int .i64 (errI (checkN x y))) (Eq.mp (check_wp x y _) hk)
    exact ⟨_, _, m, okE specsC specsC_ok, h⟩
end
end Ev
