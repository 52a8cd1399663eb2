/-
  The numbers' functions by their words: what the code computes. Conditions: those named.
-/
import Derived.Test.YtmbkjhcmbbcphaaG5
namespace Ev
open Go Go.Proofs
noncomputable section

theorem mm4 (L M a b : Nat) : (L * a) * (M * b) = (L * M) * (a * b) := Nat.mul_mul_mul_comm L a M b
theorem m19 (a b : Nat) : a * 19 * b = 19 * (a * b) := by rw [Nat.mul_comm a 19, Nat.mul_assoc]

theorem val5_one (w0 w1 w2 w3 w4 : Nat) : val5 w0 w1 w2 w3 w4 = 1 * w0 + 2251799813685248 * w1 + 5070602400912917605986812821504 * w2 + 11417981541647679048466287755595961091061972992 * w3 + 25711008708143844408671393477458601640355247900524685364822016 * w4 := by unfold val5; omega
theorem times_val {a0 a1 a2 a3 a4 b0 b1 b2 b3 b4 : Nat} {Q : Nat → Nat → Nat → Nat → Nat → Prop}
    (hq : ∀ c0 c1 c2 c3 c4 : Nat, val5 c0 c1 c2 c3 c4 % pF = val5 a0 a1 a2 a3 a4 * val5 b0 b1 b2 b3 b4 % pF → Q c0 c1 c2 c3 c4) : timesN a0 a1 a2 a3 a4 b0 b1 b2 b3 b4 Q := by
  simp only [timesN, forceN_eq]
  refine hq _ _ _ _ _ ?_
  have hp : val5 a0 a1 a2 a3 a4 * val5 b0 b1 b2 b3 b4 = sum0 a0 a1 a2 a3 a4 b0 b1 b2 b3 b4 + 2251799813685248 * sum1 a0 a1 a2 a3 a4 b0 b1 b2 b3 b4 + 5070602400912917605986812821504 * sum2 a0 a1 a2 a3 a4 b0 b1 b2 b3 b4 + 11417981541647679048466287755595961091061972992 * sum3 a0 a1 a2 a3 a4 b0 b1 b2 b3 b4 + 25711008708143844408671393477458601640355247900524685364822016 * sum4 a0 a1 a2 a3 a4 b0 b1 b2 b3 b4 + 57896044618658097711785492504343953926634992332820282019728792003956564819949 * (1 * (a1 * b4) + 1 * (a2 * b3) + 2251799813685248 * (a2 * b4) + 1 * (a3 * b2) + 2251799813685248 * (a3 * b3) + 5070602400912917605986812821504 * (a3 * b4) + 1 * (a4 * b1) + 2251799813685248 * (a4 * b2) + 5070602400912917605986812821504 * (a4 * b3) + 11417981541647679048466287755595961091061972992 * (a4 * b4)) := by
    rw [val5_one a0 a1 a2 a3 a4, val5_one b0 b1 b2 b3 b4]
    unfold sum0 sum1 sum2 sum3 sum4
    simp only [Nat.add_mul, Nat.mul_add, m19]
    have e00 := mm4 1 1 a0 b0
    have e01 := mm4 1 2251799813685248 a0 b1
    have e02 := mm4 1 5070602400912917605986812821504 a0 b2
    have e03 := mm4 1 11417981541647679048466287755595961091061972992 a0 b3
    have e04 := mm4 1 25711008708143844408671393477458601640355247900524685364822016 a0 b4
    have e10 := mm4 2251799813685248 1 a1 b0
    have e11 := mm4 2251799813685248 2251799813685248 a1 b1
    have e12 := mm4 2251799813685248 5070602400912917605986812821504 a1 b2
    have e13 := mm4 2251799813685248 11417981541647679048466287755595961091061972992 a1 b3
    have e14 := mm4 2251799813685248 25711008708143844408671393477458601640355247900524685364822016 a1 b4
    have e20 := mm4 5070602400912917605986812821504 1 a2 b0
    have e21 := mm4 5070602400912917605986812821504 2251799813685248 a2 b1
    have e22 := mm4 5070602400912917605986812821504 5070602400912917605986812821504 a2 b2
    have e23 := mm4 5070602400912917605986812821504 11417981541647679048466287755595961091061972992 a2 b3
    have e24 := mm4 5070602400912917605986812821504 25711008708143844408671393477458601640355247900524685364822016 a2 b4
    have e30 := mm4 11417981541647679048466287755595961091061972992 1 a3 b0
    have e31 := mm4 11417981541647679048466287755595961091061972992 2251799813685248 a3 b1
    have e32 := mm4 11417981541647679048466287755595961091061972992 5070602400912917605986812821504 a3 b2
    have e33 := mm4 11417981541647679048466287755595961091061972992 11417981541647679048466287755595961091061972992 a3 b3
    have e34 := mm4 11417981541647679048466287755595961091061972992 25711008708143844408671393477458601640355247900524685364822016 a3 b4
    have e40 := mm4 25711008708143844408671393477458601640355247900524685364822016 1 a4 b0
    have e41 := mm4 25711008708143844408671393477458601640355247900524685364822016 2251799813685248 a4 b1
    have e42 := mm4 25711008708143844408671393477458601640355247900524685364822016 5070602400912917605986812821504 a4 b2
    have e43 := mm4 25711008708143844408671393477458601640355247900524685364822016 11417981541647679048466287755595961091061972992 a4 b3
    have e44 := mm4 25711008708143844408671393477458601640355247900524685364822016 25711008708143844408671393477458601640355247900524685364822016 a4 b4
    omega
  rw [hp]
  generalize (1 * (a1 * b4) + 1 * (a2 * b3) + 2251799813685248 * (a2 * b4) + 1 * (a3 * b2) + 2251799813685248 * (a3 * b3) + 5070602400912917605986812821504 * (a3 * b4) + 1 * (a4 * b1) + 2251799813685248 * (a4 * b2) + 5070602400912917605986812821504 * (a4 * b3) + 11417981541647679048466287755595961091061972992 * (a4 * b4)) = q
  generalize sum0 a0 a1 a2 a3 a4 b0 b1 b2 b3 b4 = S0
  generalize sum1 a0 a1 a2 a3 a4 b0 b1 b2 b3 b4 = S1
  generalize sum2 a0 a1 a2 a3 a4 b0 b1 b2 b3 b4 = S2
  generalize sum3 a0 a1 a2 a3 a4 b0 b1 b2 b3 b4 = S3
  generalize sum4 a0 a1 a2 a3 a4 b0 b1 b2 b3 b4 = S4
  clear hp hq
  rw [show 57896044618658097711785492504343953926634992332820282019728792003956564819949 = pF from rfl, Nat.add_mul_mod_self_left]
  have key : ∀ (X Y k : Nat), X + 57896044618658097711785492504343953926634992332820282019728792003956564819949 * k = Y → X % pF = Y % pF := by
    intro X Y k h
    rw [← h, show 57896044618658097711785492504343953926634992332820282019728792003956564819949 = pF from rfl, Nat.add_mul_mod_self_left]
  refine key _ _ ((S4 + (S3 + (S2 + (S1 + S0 / 2251799813685248) / 2251799813685248) / 2251799813685248) / 2251799813685248) / 2251799813685248) ?_
  unfold val5
  omega


theorem openQ_nat {V : Nat} (hV : V < 256 ^ 32) {K : Int → Int → Int → Int → Int → Prop}
    (hk : ∀ c0 c1 c2 c3 c4 : Nat, c0 < 2251799813685248 → c1 < 2251799813685248 → c2 < 2251799813685248 → c3 < 2251799813685248 → c4 < 4503599627370496 → val5 c0 c1 c2 c3 c4 = V → K (.ofNat c0) (.ofNat c1) (.ofNat c2) (.ofNat c3) (.ofNat c4)) :
    openQ (encL 32 V) K := by
  refine ⟨V, decN_enc hV, fun d0 d1 d2 d3 d4 hd => ?_⟩
  have hV' : V < 115792089237316195423570985008687907853269984665640564039457584007913129639936 := hV
  have h := @open4_val (V % M64) (V / M64 % M64) (V / (M64 * M64) % M64) (V / (M64 * M64 * M64)) (Nat.mod_lt _ (by decide)) (Nat.mod_lt _ (by decide)) (Nat.mod_lt _ (by decide)) (Nat.div_lt_of_lt_mul (by simp only [M64]; omega))
    (fun c0 c1 c2 c3 c4 => wordsA d0 d1 d2 d3 d4 = wordsA (.ofNat c0) (.ofNat c1) (.ofNat c2) (.ofNat c3) (.ofNat c4) → K d0 d1 d2 d3 d4) (fun c0 c1 c2 c3 c4 h0 h1 h2 h3 h4 hv he => by
      obtain ⟨rfl, rfl, rfl, rfl, rfl⟩ := wordsA_inj he
      refine hk c0 c1 c2 c3 c4 h0 h1 h2 h3 h4 ?_
      rw [hv]; simp only [M64]; omega)
  exact h hd
theorem timesQ_val {a0 a1 a2 a3 a4 b0 b1 b2 b3 b4 : Nat} (ha : lt5 a0 a1 a2 a3 a4 = true) (hb : lt5 b0 b1 b2 b3 b4 = true) {K : Int → Int → Int → Int → Int → Prop}
    (hk : ∀ c0 c1 c2 c3 c4 : Nat, lt5 c0 c1 c2 c3 c4 = true → val5 c0 c1 c2 c3 c4 % pF = val5 a0 a1 a2 a3 a4 * val5 b0 b1 b2 b3 b4 % pF → K (.ofNat c0) (.ofNat c1) (.ofNat c2) (.ofNat c3) (.ofNat c4)) :
    timesQ (.ofNat a0) (.ofNat a1) (.ofNat a2) (.ofNat a3) (.ofNat a4) (.ofNat b0) (.ofNat b1) (.ofNat b2) (.ofNat b3) (.ofNat b4) K := by
  have hab := lt5_both ha hb
  refine timesQ_nat hab ?_
  have h1 := @times_lt a0 a1 a2 a3 a4 b0 b1 b2 b3 b4 hab (fun c0 c1 c2 c3 c4 => lt5 c0 c1 c2 c3 c4 = true) (fun c0 c1 c2 c3 c4 h0 h1 h2 h3 h4 _ => lt5_of h0 h1 h2 h3 h4)
  have h2 := @times_val a0 a1 a2 a3 a4 b0 b1 b2 b3 b4 (fun c0 c1 c2 c3 c4 => val5 c0 c1 c2 c3 c4 % pF = val5 a0 a1 a2 a3 a4 * val5 b0 b1 b2 b3 b4 % pF) (fun _ _ _ _ _ h => h)
  simp only [timesN, forceN_eq] at h1 h2 ⊢
  exact hk _ _ _ _ _ h1 h2
theorem closeQ_nat {w0 w1 w2 w3 w4 : Nat} (h0 : w0 < B63) (h1 : w1 < B63) (h2 : w2 < B63) (h3 : w3 < B63) (h4 : w4 < B63) {K : AV → Prop} (hk : K (.agg (encL 32 (val5 w0 w1 w2 w3 w4 % pF)))) :
    closeQ (.ofNat w0) (.ofNat w1) (.ofNat w2) (.ofNat w3) (.ofNat w4) K :=
  ⟨⟨in63_of h0, in63_of h1, in63_of h2, in63_of h3, in63_of h4⟩, hk⟩
theorem usub_nat {a b : Nat} (h : b ≤ a) (ha : a < M64) : usub (.ofNat a) (.ofNat b) = .ofNat (a - b) := by
  have : addI (.ofNat a) (negI (.ofNat b)) = .ofNat (a - b) := by
    cases b with
    | zero => rfl
    | succ n =>
      show Int.subNatNat a (n + 1) = _
      rw [Int.subNatNat_of_le h]
      rfl
  unfold usub
  rw [this, wrap64, Nat.mod_eq_of_lt (by omega)]

/-! the conditions -/
def nP (f : Nat) : Bool := Nat.beq f 49 || (Nat.beq f 50 || Nat.beq f 56)
def cfN : Wcfg := ⟨fun _ => false, nP, fun _ => none⟩
def specsN : List (Nat × (List AV → Option AV)) := [(49, openS), (50, closeS), (56, timesS)]
theorem specsN_ok : ∀ p ∈ specsN, FnOK Try.prog p.1 (orcS p.2) := by
  intro p hp
  simp only [specsN, List.mem_cons, List.not_mem_nil, or_false] at hp
  rcases hp with rfl | rfl | rfl
  · exact plain_ok open_c
  · exact plain_ok close_c
  · exact plain_ok times_c

/-- oracles with their conditions -/
def owL (l : List (Nat × (List AV → AMem → KP → Prop))) (f : Nat) : Option (List AV → AMem → KP → Prop) :=
  List.rec (motive := fun _ => Option (List AV → AMem → KP → Prop)) none (fun p _ ih => Bool.casesOn (motive := fun _ => Option (List AV → AMem → KP → Prop)) (Nat.beq f p.1) ih (some p.2)) l
/-- each oracle of a list has its condition at the same place of another -/
inductive Paired : List (Nat × (List AV → Option AV)) → List (Nat × (List AV → AMem → KP → Prop)) → Prop
  | nil : Paired [] []
  | cons {f : Nat} {s : List AV → Option AV} {w : List AV → AMem → KP → Prop} {l : List (Nat × (List AV → Option AV))} {l' : List (Nat × (List AV → AMem → KP → Prop))}
      (h : ∀ args m K, w args m K → ∃ r, s args = some r ∧ K r m) (hl : Paired l l') : Paired ((f, s) :: l) ((f, w) :: l')
theorem paired_none {l : List (Nat × (List AV → Option AV))} {l' : List (Nat × (List AV → AMem → KP → Prop))} (hp : Paired l l') (f : Nat) (h : owL l' f = none) : lookS l f = none := by
  induction hp with
  | nil => rfl
  | @cons g s w l l' hw hl ih =>
    have h : Bool.casesOn (motive := fun _ => Option (List AV → AMem → KP → Prop)) (Nat.beq f g) (owL l' f) (some w) = none := h
    show Bool.casesOn (motive := fun _ => Option (List AV → AMem → R)) (Nat.beq f g) (lookS l f) (some (orcS s)) = none
    cases hb : Nat.beq f g with
    | false => rw [hb] at h; exact ih h
    | true => rw [hb] at h; cases h
theorem paired_some {l : List (Nat × (List AV → Option AV))} {l' : List (Nat × (List AV → AMem → KP → Prop))} (hp : Paired l l') (f : Nat) (w : List AV → AMem → KP → Prop) (h : owL l' f = some w) (args : List AV) (m : AMem) (K : KP) (hw : w args m K) :
    ∃ o r m', lookS l f = some o ∧ o args m = some (r, m') ∧ K r m' := by
  induction hp with
  | nil => cases h
  | @cons g s w' l l' hw' hl ih =>
    have h : Bool.casesOn (motive := fun _ => Option (List AV → AMem → KP → Prop)) (Nat.beq f g) (owL l' f) (some w') = some w := h
    show ∃ o r m', Bool.casesOn (motive := fun _ => Option (List AV → AMem → R)) (Nat.beq f g) (lookS l f) (some (orcS s)) = some o ∧ o args m = some (r, m') ∧ K r m'
    cases hb : Nat.beq f g with
    | false => rw [hb] at h; exact ih h
    | true =>
      rw [hb] at h; cases h
      obtain ⟨r, h1, h2⟩ := hw' args m K hw
      exact ⟨orcS s, r, m, rfl, orcS_of h1 m, h2⟩
theorem run_of {l : List (Nat × (List AV → Option AV))} {l' : List (Nat × (List AV → AMem → KP → Prop))} (hp : Paired l l') (hl : ∀ p ∈ l, FnOK Try.prog p.1 (orcS p.2)) {cf : Wcfg} (hpf : ∀ g, cf.pf g = true → ∃ s, lookS l g = some (orcS s)) {f n : Nat} {args : List AV} {K : AV → Prop}
    (h : wpCall cf (pEnv l) (owL l') n (.fn f) args ⟨0, .nil⟩ (fun r _ => ∀ _ : AMem, K r)) : ∃ r m', evCall (pEnv l) n (.fn f) args ⟨0, .nil⟩ = some (r, m') ∧ K r := by
  obtain ⟨r, m', h1, h2⟩ := wpCall_ok (cf := cf) (E := pEnv l) (okE l hl).grows hpf (paired_none hp) (paired_some hp) n _ _ _ _ h
  exact ⟨r, m', h1, h2 m'⟩
def waysN : List (Nat × (List AV → AMem → KP → Prop)) := [(49, openA), (50, closeA), (56, timesW)]
theorem pairedN : Paired specsN waysN := .cons (fun _ _ _ h => openA_ok h) (.cons (fun _ _ _ h => closeA_ok h) (.cons (fun _ _ _ h => timesW_ok h) .nil))
theorem pfN (g : Nat) (h : nP g = true) : ∃ s, lookS specsN g = some (orcS s) := by
  simp only [nP, Bool.or_eq_true] at h
  rcases h with h | h | h
  · have := Nat.eq_of_beq_eq_true h; subst this; exact ⟨_, rfl⟩
  · have := Nat.eq_of_beq_eq_true h; subst this; exact ⟨_, rfl⟩
  · have := Nat.eq_of_beq_eq_true h; subst this; exact ⟨_, rfl⟩

def restP (la : List AV) (K : AV → Prop) : Prop := openQ la fun x0 x1 x2 x3 x4 => closeQ x0 x1 x2 x3 x4 K
def mulP (la lb : List AV) (K : AV → Prop) : Prop := openQ la fun x0 x1 x2 x3 x4 => openQ lb fun y0 y1 y2 y3 y4 => timesQ x0 x1 x2 x3 x4 y0 y1 y2 y3 y4 fun z0 z1 z2 z3 z4 => closeQ z0 z1 z2 z3 z4 K
def addP (la lb : List AV) (K : AV → Prop) : Prop := openQ la fun x0 x1 x2 x3 x4 => openQ lb fun y0 y1 y2 y3 y4 => closeQ (uadd x0 y0) (uadd x1 y1) (uadd x2 y2) (uadd x3 y3) (uadd x4 y4) K
def m4 : Int := 9007199254740988
def subP (la lb : List AV) (K : AV → Prop) : Prop := openQ la fun x0 x1 x2 x3 x4 => openQ lb fun y0 y1 y2 y3 y4 => carM y0 y1 y2 y3 y4 fun z0 z1 z2 z3 z4 =>
  closeQ (usub (uadd x0 (usub m4 z0)) 72) (uadd x1 (usub m4 z1)) (uadd x2 (usub m4 z2)) (uadd x3 (usub m4 z3)) (uadd x4 (usub m4 z4)) K
theorem rest_wp (A : Nat) (K : AV → Prop) : (restP (encL 32 A) fun r => ∀ _ : AMem, K r) = wpCall cfN (pEnv specsN) (owL waysN) 1000 (.fn 11) [.agg (encL 32 A)] ⟨0, .nil⟩ (fun r _ => ∀ _ : AMem, K r) := by kernel_rfl
theorem mul_wp (A B : Nat) (K : AV → Prop) : (mulP (encL 32 A) (encL 32 B) fun r => ∀ _ : AMem, K r) = wpCall cfN (pEnv specsN) (owL waysN) 1000 (.fn 23) [.agg (encL 32 A), .agg (encL 32 B)] ⟨0, .nil⟩ (fun r _ => ∀ _ : AMem, K r) := by kernel_rfl
theorem add_wp (A B : Nat) (K : AV → Prop) : (addP (encL 32 A) (encL 32 B) fun r => ∀ _ : AMem, K r) = wpCall cfN (pEnv specsN) (owL waysN) 1000 (.fn 17) [.agg (encL 32 A), .agg (encL 32 B)] ⟨0, .nil⟩ (fun r _ => ∀ _ : AMem, K r) := by kernel_rfl
theorem sub_wp (A B : Nat) (K : AV → Prop) : (subP (encL 32 A) (encL 32 B) fun r => ∀ _ : AMem, K r) = wpCall cfN (pEnv specsN) (owL waysN) 1000 (.fn 19) [.agg (encL 32 A), .agg (encL 32 B)] ⟨0, .nil⟩ (fun r _ => ∀ _ : AMem, K r) := by kernel_rfl
end
end Ev
