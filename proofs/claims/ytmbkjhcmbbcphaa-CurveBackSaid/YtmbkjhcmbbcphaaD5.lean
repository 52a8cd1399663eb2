/-
  Sums and negatives of points as functions of plain data; the curve's examples hold. Conditions: points of 64 bytes.
-/
import Derived.Test.YtmbkjhcmbbcphaaD4
import Derived.Test.YtmbkjhcmbbcphaaEvD
namespace Ev
open Go Go.Proofs
noncomputable section

/-! powers by squaring, for runs -/
def powG : Nat → Nat → Nat → Nat
  | 0, _, _ => 1
  | k + 1, A, E => forceN (powG k A (E / 2)) fun h => forceN (h * h % pF) fun d => Bool.casesOn (motive := fun _ => Nat) (Nat.beq (E % 2) 1) d (d * A % pF)
theorem powG_eq (A : Nat) : ∀ k E : Nat, E < 2 ^ k → powG k A E = powM A E
  | 0, E, h => by
    have : E = 0 := by simpa using h
    subst this
    show 1 = A ^ 0 % pF
    rw [Nat.pow_zero]; exact (Nat.mod_eq_of_lt pF_prime.1).symm
  | k + 1, E, h => by
    have h1 : E / 2 < 2 ^ k := by rw [Nat.pow_succ] at h; omega
    have hd := Nat.div_add_mod E 2
    have ih := powG_eq A k (E / 2) h1
    simp only [powG, forceN_eq, ih]
    have hsq : powM A (E / 2) * powM A (E / 2) % pF = A ^ (2 * (E / 2)) % pF := by
      unfold powM
      rw [← Nat.mul_mod, ← Nat.pow_add]; congr 2; omega
    rw [hsq]
    cases hb : Nat.beq (E % 2) 1 with
    | true =>
      have := Nat.eq_of_beq_eq_true hb
      show A ^ (2 * (E / 2)) % pF * A % pF = powM A E
      rw [mm1, ← Nat.pow_succ]
      unfold powM
      conv => rhs; rw [← hd, this]
    | false =>
      have := Nat.ne_of_beq_eq_false hb
      show A ^ (2 * (E / 2)) % pF = powM A E
      unfold powM
      conv => rhs; rw [← hd, show E % 2 = 0 by omega, Nat.add_zero]
theorem powG_c : PlainC Try.prog 25 (numS2 fun A E => powG 256 A E) := num2_c fun A E hA hE => by
  obtain ⟨En, n, m, hE1, hm⟩ := pow_c.run [.agg (encL 32 A), .agg (encL 32 E)] (.agg (encL 32 (powM A E))) (by
    show Option.casesOn (motive := fun _ => Option AV) (decN 32 (encL 32 A)) none _ = _
    rw [decN_enc hA]
    show Option.casesOn (motive := fun _ => Option AV) (decN 32 (encL 32 E)) none _ = _
    rw [decN_enc hE])
  exact ⟨En, n, m, hE1, by rw [hm, powG_eq A 256 E hE]⟩

/-! the examples -/
def specsL : List (Nat × (List AV → Option AV)) := [(23, numS2 mulN), (17, numS2 addN), (19, numS2 subN), (61, dS), (11, numS1 restN), (13, predS canonN), (21, numS1 negN), (15, ofS), (29, predS oddN), (31, predS2 sameN), (25, numS2 fun A E => powG 256 A E)]
theorem specsL_ok : ∀ p ∈ specsL, FnOK Try.prog p.1 (orcS p.2) := by
  intro p hp
  simp only [specsL, List.mem_cons, List.not_mem_nil, or_false] at hp
  rcases hp with rfl | rfl | rfl | rfl | rfl | rfl | rfl | rfl | rfl | rfl | rfl
  · exact plain_ok mul_c
  · exact plain_ok add_c
  · exact plain_ok sub_c
  · exact plain_ok d_c
  · exact plain_ok rest_c
  · exact plain_ok canon_c
  · exact plain_ok neg_c
  · exact plain_ok of_c
  · exact plain_ok odd_c
  · exact plain_ok same_c
  · exact plain_ok powG_c
theorem run2 {l : List (Nat × (List AV → Option AV))} (hl : ∀ p ∈ l, FnOK Try.prog p.1 (orcS p.2)) {n f : Nat} {args : List AV} {m : AMem} {r : AV} (h : ansR (evCall2 (pEnv l) (pfS l) n (.fn f) args m) = some r) : ∃ m', evCall (pEnv l) n (.fn f) args m = some (r, m') := by
  obtain ⟨m', hm⟩ := ansR_some h
  exact ⟨m', evCall2_from (okE l hl).grows (fun g hg => pfS_some hg) n _ _ _ _ hm⟩
theorem lives_run : ansR (evCall2 (pEnv specsL) (pfS specsL) 10000 (.fn 33) [] ⟨0, .nil⟩) = some (.bool true) := by kernel_rfl
def liveS : List AV → Option AV
  | [] => some (.bool true)
  | _ => none
theorem lives_c : PlainC Try.prog 33 liveS := by
  refine ⟨fun l r h => ?_, fun l r h => ?_⟩ <;> unfold liveS at h <;> split at h
  · cases h; exact ⟨rfl, rfl⟩
  · cases h
  · cases h
    obtain ⟨m, hm⟩ := run2 specsL_ok lives_run
    exact ⟨_, _, m, okE specsL specsL_ok, hm⟩
  · cases h
def liveA : List AV → AMem → KP → Prop
  | [], m, K => K (.bool true) m
  | _, _, _ => False
theorem liveA_ok {args : List AV} {m : AMem} {K : KP} (h : liveA args m K) : ∃ r, liveS args = some r ∧ K r m := by
  unfold liveA at h
  split at h
  · exact ⟨_, rfl, h⟩
  · cases h

/-! Add, Neg -/
theorem checkQ_nat {x y : Nat} (hx : x < 256 ^ 32) (hy : y < 256 ^ 32) {T F : Prop} (ht : checkN x y = true → T) (hf : checkN x y = false → F) : checkQ (pt x y) T F := ⟨x, y, two_pt hx hy, ht, hf⟩
theorem four_cat {x y z t : Nat} (hx : x < 256 ^ 32) (hy : y < 256 ^ 32) (hz : z < 256 ^ 32) (ht : t < 256 ^ 32) : four (cat4 (encL 32 x) (encL 32 y) (encL 32 z) (encL 32 t)) = some (x, y, z, t) := by
  unfold four cat4
  rw [List.take_left' (enc_len 32 x), List.drop_left' (enc_len 32 x), List.take_left' (enc_len 32 y), List.drop_left' (enc_len 32 y), List.take_left' (enc_len 32 z), List.drop_left' (enc_len 32 z),
    decN_enc hx, decN_enc hy, decN_enc hz, decN_enc ht]
theorem addQ_nat {x1 y1 z1 t1 x2 y2 z2 t2 : Nat} (hx1 : x1 < 256 ^ 32) (hy1 : y1 < 256 ^ 32) (hz1 : z1 < 256 ^ 32) (ht1 : t1 < 256 ^ 32) (hx2 : x2 < 256 ^ 32) (hy2 : y2 < 256 ^ 32) (hz2 : z2 < 256 ^ 32) (ht2 : t2 < 256 ^ 32) {K : Nat → Nat → Nat → Nat → Prop}
    (hk : ∀ X Y Z T, X < 256 ^ 32 → Y < 256 ^ 32 → Z < 256 ^ 32 → T < 256 ^ 32 → wsumN x1 y1 z1 t1 x2 y2 z2 t2 (fun X' Y' Z' T' => X = X' ∧ Y = Y' ∧ Z = Z' ∧ T = T') → K X Y Z T) :
    addQ (cat4 (encL 32 x1) (encL 32 y1) (encL 32 z1) (encL 32 t1)) (cat4 (encL 32 x2) (encL 32 y2) (encL 32 z2) (encL 32 t2)) K := by
  refine ⟨x1, y1, z1, t1, x2, y2, z2, t2, ⟨four_cat hx1 hy1 hz1 ht1, four_cat hx2 hy2 hz2 ht2⟩, fun X Y Z T h => ?_⟩
  have h' := h
  simp only [wsumN, forceN_eq] at h'
  obtain ⟨rfl, rfl, rfl, rfl⟩ := h'
  exact hk _ _ _ _ (lt_mul _ _) (lt_mul _ _) (lt_mul _ _) (lt_mul _ _) h
theorem inv_lt (A : Nat) : invN A < 256 ^ 32 := lt_pow' A _
theorem sumM_nat {x1 y1 x2 y2 : Nat} (hx1 : x1 < 256 ^ 32) (hy1 : y1 < 256 ^ 32) (hx2 : x2 < 256 ^ 32) (hy2 : y2 < 256 ^ 32) {K : List AV → Prop} (hk : K (pt (addPt (x1, y1) (x2, y2)).1 (addPt (x1, y1) (x2, y2)).2)) :
    sumM (encL 32 x1) (encL 32 y1) (encL 32 x2) (encL 32 y2) K := by
  have one : (1 : Nat) < 256 ^ 32 := by decide
  have e : addPt (x1, y1) (x2, y2) = Bool.casesOn (motive := fun _ => Pt) (checkN x1 y1 && checkN x2 y2) (0, 1) (sumP (x1, y1) (x2, y2)) := rfl
  rw [e] at hk
  refine checkQ_nat hx1 hy1 (fun h1 => checkQ_nat hx2 hy2 (fun h2 => ?_) fun h2 => ?_) fun h1 => ?_
  · rw [h1, h2] at hk
    refine ofQ_nat (n := 1) (by decide) (q2_nat hx1 hy1 (ofQ_nat (n := 1) (by decide) (q2_nat hx2 hy2 (addQ_nat hx1 hy1 one (lt_mul _ _) hx2 hy2 one (lt_mul _ _) fun X Y Z T hX hY hZ hT hw => ?_))))
    refine q1_nat hZ (q2_nat hX (inv_lt _) (q2_nat hY (inv_lt _) ?_))
    have hs : sumP (x1, y1) (x2, y2) = (mulN X (invN Z), mulN Y (invN Z)) := by
      simp only [wsumN, forceN_eq] at hw
      obtain ⟨e1, e2, e3, _⟩ := hw
      simp only [sumP, wsumN, forceN_eq, e1, e2, e3]
    have hk : K (pt (sumP (x1, y1) (x2, y2)).1 (sumP (x1, y1) (x2, y2)).2) := hk
    rw [hs] at hk
    exact hk
  · rw [h1, h2] at hk; exact hk
  · rw [h1] at hk; exact hk
theorem negM_nat {x y : Nat} (hx : x < 256 ^ 32) (hy : y < 256 ^ 32) {K : List AV → Prop} (hk : K (pt (negPt (x, y)).1 (negPt (x, y)).2)) : negM (encL 32 x) (encL 32 y) K := by
  have e : negPt (x, y) = Bool.casesOn (motive := fun _ => Pt) (checkN x y) (0, 1) (negN x, y) := rfl
  rw [e] at hk
  refine checkQ_nat hx hy (fun h => q1_nat hx ?_) fun h => ?_
  · rw [h] at hk; exact hk
  · rw [h] at hk; exact hk

def ptS1 (g : Pt → Pt) : List AV → Option AV
  | [.agg l] => Option.casesOn (motive := fun _ => Option AV) (two l) none fun P => some (.agg (pt (g P).1 (g P).2))
  | _ => none
def ptS2 (g : Pt → Pt → Pt) : List AV → Option AV
  | [.agg l, .agg l'] => Option.casesOn (motive := fun _ => Option AV) (two l) none fun P => Option.casesOn (motive := fun _ => Option AV) (two l') none fun Q => some (.agg (pt (g P Q).1 (g P Q).2))
  | _ => none
def p1 (g : Pt → Pt) (l : List AV) (K : List AV → Prop) : Prop := ∃ P, two l = some P ∧ K (pt (g P).1 (g P).2)
def p2 (g : Pt → Pt → Pt) (l l' : List AV) (K : List AV → Prop) : Prop := ∃ P Q, (two l = some P ∧ two l' = some Q) ∧ K (pt (g P Q).1 (g P Q).2)
def ptA1 (g : Pt → Pt) : List AV → AMem → KP → Prop
  | [.agg l], m, K => p1 g l fun r => K (.agg r) m
  | _, _, _ => False
def ptA2 (g : Pt → Pt → Pt) : List AV → AMem → KP → Prop
  | [.agg l, .agg l'], m, K => p2 g l l' fun r => K (.agg r) m
  | _, _, _ => False
theorem ptA1_ok {g : Pt → Pt} {args : List AV} {m : AMem} {K : KP} (h : ptA1 g args m K) : ∃ r, ptS1 g args = some r ∧ K r m := by
  unfold ptA1 at h
  split at h
  · next l =>
    obtain ⟨P, hd, hk⟩ := h
    refine ⟨_, ?_, hk⟩
    show Option.casesOn (motive := fun _ => Option AV) (two l) none _ = _
    rw [hd]
  · cases h
theorem ptA2_ok {g : Pt → Pt → Pt} {args : List AV} {m : AMem} {K : KP} (h : ptA2 g args m K) : ∃ r, ptS2 g args = some r ∧ K r m := by
  unfold ptA2 at h
  split at h
  · next l l' =>
    obtain ⟨P, Q, ⟨hd, hd'⟩, hk⟩ := h
    refine ⟨_, ?_, hk⟩
    show Option.casesOn (motive := fun _ => Option AV) (two l) none _ = _
    rw [hd]
    show Option.casesOn (motive := fun _ => Option AV) (two l') none _ = _
    rw [hd']
  · cases h
theorem pt1_c {f : Nat} {g : Pt → Pt} (h : ∀ x y, x < 256 ^ 32 → y < 256 ^ 32 → ∃ E n m, EnvOK E Try.prog ∧ evCall E n (.fn f) [.agg (pt x y)] ⟨0, .nil⟩ = some (.agg (pt (g (x, y)).1 (g (x, y)).2), m)) : PlainC Try.prog f (ptS1 g) := by
  have main : ∀ l r, ptS1 g l = some r → ∃ x y, x < 256 ^ 32 ∧ y < 256 ^ 32 ∧ l = [.agg (pt x y)] ∧ r = .agg (pt (g (x, y)).1 (g (x, y)).2) := by
    intro l r h
    unfold ptS1 at h
    split at h
    · next l =>
      cases hd : two l with
      | none => rw [hd] at h; cases h
      | some P =>
        obtain ⟨x, y⟩ := P
        rw [hd] at h; cases h
        obtain ⟨rfl, hx, hy⟩ := two_some hd
        exact ⟨x, y, hx, hy, rfl, rfl⟩
    · cases h
  refine ⟨fun l r hs => ?_, fun l r hs => ?_⟩ <;> obtain ⟨x, y, hx, hy, rfl, rfl⟩ := main l r hs
  · exact ⟨by show (AV.plain _ && true) = true; rw [plain_pt]; rfl, plain_pt _ _⟩
  · exact h x y hx hy
theorem pt2_c {f : Nat} {g : Pt → Pt → Pt} (h : ∀ x y x' y', x < 256 ^ 32 → y < 256 ^ 32 → x' < 256 ^ 32 → y' < 256 ^ 32 → ∃ E n m, EnvOK E Try.prog ∧ evCall E n (.fn f) [.agg (pt x y), .agg (pt x' y')] ⟨0, .nil⟩ = some (.agg (pt (g (x, y) (x', y')).1 (g (x, y) (x', y')).2), m)) : PlainC Try.prog f (ptS2 g) := by
  have main : ∀ l r, ptS2 g l = some r → ∃ x y x' y', x < 256 ^ 32 ∧ y < 256 ^ 32 ∧ x' < 256 ^ 32 ∧ y' < 256 ^ 32 ∧ l = [.agg (pt x y), .agg (pt x' y')] ∧ r = .agg (pt (g (x, y) (x', y')).1 (g (x, y) (x', y')).2) := by
    intro l r h
    unfold ptS2 at h
    split at h
    · next l l' =>
      cases hd : two l with
      | none => rw [hd] at h; cases h
      | some P =>
        rw [hd] at h
        cases hd' : two l' with
        | none => rw [hd'] at h; cases h
        | some Q =>
          rw [hd'] at h; cases h
          obtain ⟨x, y⟩ := P
          obtain ⟨x', y'⟩ := Q
          obtain ⟨rfl, hx, hy⟩ := two_some hd
          obtain ⟨rfl, hx', hy'⟩ := two_some hd'
          exact ⟨x, y, x', y', hx, hy, hx', hy', rfl, rfl⟩
    · cases h
  refine ⟨fun l r hs => ?_, fun l r hs => ?_⟩ <;> obtain ⟨x, y, x', y', hx, hy, hx', hy', rfl, rfl⟩ := main l r hs
  · exact ⟨by show (AV.plain _ && (AV.plain _ && true)) = true; rw [plain_pt, plain_pt]; rfl, plain_pt _ _⟩
  · exact h x y x' y' hx hy hx' hy'
theorem addPt_c : PlainC Try.prog 38 (ptS2 addPt) := pt2_c fun x y x' y' hx hy hx' hy' => by
  have hk : sumM (encL 32 x) (encL 32 y) (encL 32 x') (encL 32 y') fun l => ∀ _ : AMem, AV.agg l = .agg (pt (addPt (x, y) (x', y')).1 (addPt (x, y) (x', y')).2) := sumM_nat hx hy hx' hy' fun _ => rfl
  obtain ⟨r, m, h, rfl⟩ := run_b pairedD specsD_ok (cf := cfD) (fun _ h => h) (K := fun r => r = .agg (pt (addPt (x, y) (x', y')).1 (addPt (x, y) (x', y')).2)) (Eq.mp (sum_wp x y x' y' _) hk)
  exact ⟨_, _, m, okB specsD_ok, h⟩
theorem negPt_c : PlainC Try.prog 37 (ptS1 negPt) := pt1_c fun x y hx hy => by
  have hk : negM (encL 32 x) (encL 32 y) fun l => ∀ _ : AMem, AV.agg l = .agg (pt (negPt (x, y)).1 (negPt (x, y)).2) := negM_nat hx hy fun _ => rfl
  obtain ⟨r, m, h, rfl⟩ := run_b pairedD specsD_ok (cf := cfD) (fun _ h => h) (K := fun r => r = .agg (pt (negPt (x, y)).1 (negPt (x, y)).2)) (Eq.mp (negP_wp x y _) hk)
  exact ⟨_, _, m, okB specsD_ok, h⟩
end
end Ev
