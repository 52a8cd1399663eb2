/-
  Odd numbers, same numbers, powers to exponents that are named. Conditions: those named.
-/
import Derived.Test.YtedpakhefdlbbaaS1
import Derived.Test.YtedpakhefdlbbaaF6
namespace Ev
open Go Go.Proofs
noncomputable section

/-! Odd -/
def oddM (r : Int) : Bool := eqI (restK .u8 (Nat.land (toU .u8 r) (toU .u8 1))) 1
def headI (l : List AV) : Int := match l with
  | .int _ n :: _ => n
  | _ => 0
theorem odd_wp (A : Nat) (K : AV → Prop) : (q1 restN (encL 32 A) fun r => ∀ _ : AMem, K (.bool (oddM (headI r)))) = wpCall cfQ (pEnv specsQ) (owL waysQ) 1000 (.fn 17) [.agg (encL 32 A)] ⟨0, .nil⟩ (fun r _ => ∀ _ : AMem, K r) := by kernel_rfl
def oddN (A : Nat) : Bool := Nat.beq (A % pF % 2) 1
theorem oddM_nat {b : Nat} (h : b < 256) : oddM (.ofNat b) = Nat.beq (b % 2) 1 := by
  have h1 : Nat.land (toU .u8 (.ofNat b)) (toU .u8 1) = b % 2 := by
    show (b % 256) &&& (1 % 256) = b % 2
    rw [Nat.mod_eq_of_lt h]
    exact Nat.and_one_is_mod b
  have h2 : restK .u8 (b % 2) = .ofNat (b % 2) := by
    show Bool.casesOn (motive := fun _ => Int) (Nat.blt (b % 2) 256) _ (.ofNat (b % 2)) = _
    have : Nat.blt (b % 2) 256 = true := by rw [Nat.blt_eq]; omega
    rw [this]
  unfold oddM
  rw [h1, h2]; rfl
theorem odd_c : PlainC Try.prog 17 (predS oddN) := pred_c fun A hA => by
  have hk : q1 restN (encL 32 A) fun r => ∀ _ : AMem, AV.bool (oddM (headI r)) = .bool (oddN A) := q1_nat hA fun _ => by
    congr 1
    show oddM (.ofNat (restN A % 256)) = _
    rw [oddM_nat (Nat.mod_lt _ (by decide))]
    unfold oddN restN
    congr 1
    omega
  obtain ⟨r, m, h, rfl⟩ := run_of pairedQ specsQ_ok (cf := cfQ) pfQ (K := fun r => r = .bool (oddN A)) (Eq.mp (odd_wp A _) hk)
  exact ⟨_, _, m, okE specsQ specsQ_ok, h⟩

/-! Same -/
def predS2 (g : Nat → Nat → Bool) : List AV → Option AV
  | [.agg l, .agg l'] => Option.casesOn (motive := fun _ => Option AV) (decN 32 l) none fun A => Option.casesOn (motive := fun _ => Option AV) (decN 32 l') none fun B => some (.bool (g A B))
  | _ => none
def predQ2 (g : Nat → Nat → Bool) (l l' : List AV) (T F : Prop) : Prop := ∃ A B, (decN 32 l = some A ∧ decN 32 l' = some B) ∧ (g A B = true → T) ∧ (g A B = false → F)
def predA2 (g : Nat → Nat → Bool) : List AV → AMem → KP → Prop
  | [.agg l, .agg l'], m, K => predQ2 g l l' (K (.bool true) m) (K (.bool false) m)
  | _, _, _ => False
theorem predA2_ok {g : Nat → Nat → Bool} {args : List AV} {m : AMem} {K : KP} (h : predA2 g args m K) : ∃ r, predS2 g args = some r ∧ K r m := by
  unfold predA2 at h
  split at h
  · next l l' =>
    obtain ⟨A, B, ⟨hd, hd'⟩, ht, hf⟩ := h
    refine ⟨.bool (g A B), ?_, ?_⟩
    · show Option.casesOn (motive := fun _ => Option AV) (decN 32 l) none _ = _
      rw [hd]
      show Option.casesOn (motive := fun _ => Option AV) (decN 32 l') none _ = _
      rw [hd']
    · cases hg : g A B with
      | true => exact ht hg
      | false => exact hf hg
  · cases h
theorem pred2_c {f : Nat} {g : Nat → Nat → Bool} (h : ∀ A B, A < 256 ^ 32 → B < 256 ^ 32 → ∃ E n m, EnvOK E Try.prog ∧ evCall E n (.fn f) [.agg (encL 32 A), .agg (encL 32 B)] ⟨0, .nil⟩ = some (.bool (g A B), m)) : PlainC Try.prog f (predS2 g) := by
  have main : ∀ l r, predS2 g l = some r → ∃ A B, A < 256 ^ 32 ∧ B < 256 ^ 32 ∧ l = [.agg (encL 32 A), .agg (encL 32 B)] ∧ r = .bool (g A B) := by
    intro l r h
    unfold predS2 at h
    split at h
    · next l l' =>
      cases hd : decN 32 l with
      | none => rw [hd] at h; cases h
      | some A =>
        rw [hd] at h
        cases hd' : decN 32 l' with
        | none => rw [hd'] at h; cases h
        | some B =>
          rw [hd'] at h; cases h
          obtain ⟨rfl, hA⟩ := enc_decN hd
          obtain ⟨rfl, hB⟩ := enc_decN hd'
          exact ⟨A, B, hA, hB, rfl, rfl⟩
    · cases h
  refine ⟨fun l r hs => ?_, fun l r hs => ?_⟩ <;> obtain ⟨A, B, hA, hB, rfl, rfl⟩ := main l r hs
  · exact ⟨by show (AV.plain _ && (AV.plain _ && true)) = true; rw [plain_enc, plain_enc]; rfl, rfl⟩
  · exact h A B hA hB
theorem same_wp (A B : Nat) (K : AV → Prop) : (q1 restN (encL 32 A) fun x => q1 restN (encL 32 B) fun y => eqP (pEnv specsQ) 23 x y fun b => ∀ _ : AMem, K (.bool b)) = wpCall cfQ (pEnv specsQ) (owL waysQ) 1000 (.fn 18) [.agg (encL 32 A), .agg (encL 32 B)] ⟨0, .nil⟩ (fun r _ => ∀ _ : AMem, K r) := by kernel_rfl
def sameN (A B : Nat) : Bool := Nat.beq (A % pF) (B % pF)
theorem same_c : PlainC Try.prog 18 (predS2 sameN) := pred2_c fun A B hA hB => by
  have hk : q1 restN (encL 32 A) fun x => q1 restN (encL 32 B) fun y => eqP (pEnv specsQ) 23 x y fun b => ∀ _ : AMem, AV.bool b = .bool (sameN A B) := q1_nat hA (q1_nat hB ⟨_, eq_num (mod_lt32 A) (mod_lt32 B), fun _ => by
    congr 1
    unfold sameN restN
    cases hb : Nat.beq (A % pF) (B % pF) with
    | true => rw [decide_eq_true_iff]; exact Nat.eq_of_beq_eq_true hb
    | false => rw [decide_eq_false_iff_not]; exact Nat.ne_of_beq_eq_false hb⟩)
  obtain ⟨r, m, h, rfl⟩ := run_of pairedQ specsQ_ok (cf := cfQ) pfQ (K := fun r => r = .bool (sameN A B)) (Eq.mp (same_wp A B _) hk)
  exact ⟨_, _, m, okE specsQ specsQ_ok, h⟩

/-! powers -/
def WPow (e : List Nat) : Prop := ∀ (x0 x1 x2 x3 x4 : Int) (K : AV → Prop), (powP (bitsOf e) 1 0 0 0 0 x0 x1 x2 x3 x4 fun c0 c1 c2 c3 c4 => ∀ _ : AMem, K (wordsA c0 c1 c2 c3 c4)) =
      wpCall noEx (pEnv specs3) ow3 1000 (.fn 37) [wordsA x0 x1 x2 x3 x4, num e] ⟨0, .nil⟩ (fun r _ => ∀ _ : AMem, K r)
def findE (l : List AV) (es : List (List Nat)) : Option (List Bool) :=
  List.rec (motive := fun _ => Option (List Bool)) none (fun e _ ih => Bool.casesOn (motive := fun _ => Option (List Bool)) (eqBytes l e) ih (some (bitsOf e))) es
def powS (es : List (List Nat)) : List AV → Option AV
  | [.agg [.int .u64 (.ofNat x0), .int .u64 (.ofNat x1), .int .u64 (.ofNat x2), .int .u64 (.ofNat x3), .int .u64 (.ofNat x4)], .agg l] =>
    Bool.casesOn (motive := fun _ => Option AV) (lt5 x0 x1 x2 x3 x4) none
      (Option.casesOn (motive := fun _ => Option AV) (findE l es) none fun b => some (powR b x0 x1 x2 x3 x4))
  | _ => none
theorem findE_some {l : List AV} {es : List (List Nat)} {b : List Bool} (h : findE l es = some b) : ∃ e ∈ es, AV.agg l = num e ∧ b = bitsOf e := by
  induction es with
  | nil => cases h
  | cons e es ih =>
    have h : Bool.casesOn (motive := fun _ => Option (List Bool)) (eqBytes l e) (findE l es) (some (bitsOf e)) = some b := h
    cases hb : eqBytes l e with
    | false =>
      rw [hb] at h
      obtain ⟨e', h1, h2⟩ := ih h
      exact ⟨e', List.mem_cons_of_mem _ h1, h2⟩
    | true =>
      rw [hb] at h; cases h
      exact ⟨e, List.mem_cons_self .., eqBytes_eq hb, rfl⟩
theorem powS_some {es : List (List Nat)} {l : List AV} {r : AV} (h : powS es l = some r) : ∃ e ∈ es, ∃ x0 x1 x2 x3 x4 : Nat, l = [wordsA (.ofNat x0) (.ofNat x1) (.ofNat x2) (.ofNat x3) (.ofNat x4), num e] ∧ lt5 x0 x1 x2 x3 x4 = true ∧ r = powR (bitsOf e) x0 x1 x2 x3 x4 := by
  unfold powS at h
  split at h
  · next x0 x1 x2 x3 x4 l =>
    cases hb : lt5 x0 x1 x2 x3 x4 with
    | false => rw [hb] at h; cases h
    | true =>
      rw [hb] at h
      cases hf : findE l es with
      | none => rw [hf] at h; cases h
      | some b =>
        rw [hf] at h
        obtain ⟨e, he, hl, rfl⟩ := findE_some hf
        exact ⟨e, he, x0, x1, x2, x3, x4, by rw [hl]; rfl, hb, (Option.some.inj h).symm⟩
  · cases h
theorem plain_num (e : List Nat) : AV.plain (num e) = true := by
  show AV.plains (e.map fun n => AV.int .u8 (.ofNat n)) = true
  induction e with
  | nil => rfl
  | cons n r ih => simpa [AV.plains, AV.plain] using ih
theorem plain_powR (b : List Bool) (x0 x1 x2 x3 x4 : Nat) : AV.plain (powR b x0 x1 x2 x3 x4) = true := by
  unfold powR
  rw [powN_map AV.plain]
  have := powN_map (fun _ : AV => true) b 1 0 0 0 0 x0 x1 x2 x3 x4 fun c0 c1 c2 c3 c4 => wordsA (.ofNat c0) (.ofNat c1) (.ofNat c2) (.ofNat c3) (.ofNat c4)
  exact this.symm
theorem powS_c {es : List (List Nat)} (hes : ∀ e ∈ es, WPow e) : PlainC Try.prog 37 (powS es) := by
  refine ⟨fun l r h => ?_, fun l r h => ?_⟩ <;> obtain ⟨e, he, x0, x1, x2, x3, x4, rfl, hx, rfl⟩ := powS_some h
  · refine ⟨?_, plain_powR _ _ _ _ _ _⟩
    show (AV.plain (wordsA _ _ _ _ _) && (AV.plain (num e) && true)) = true
    rw [plain_num]; rfl
  · obtain ⟨m, hm⟩ := pow_run (hes e he) hx
    exact ⟨_, _, m, okE specs3 specs3_ok, hm⟩

def bval : List Bool → Nat
  | [] => 0
  | b :: r => (Bool.casesOn (motive := fun _ => Nat) b 0 (2 ^ r.length)) + bval r
theorem pow_cong {X Y k Z : Nat} (h : X % pF = Y % pF) : X ^ k * Z % pF = Y ^ k * Z % pF := by
  rw [Nat.mul_mod, Nat.pow_mod, h, ← Nat.pow_mod, ← Nat.mul_mod]
theorem powN_val {x0 x1 x2 x3 x4 : Nat} (hx : lt5 x0 x1 x2 x3 x4 = true) {Q : Nat → Nat → Nat → Nat → Nat → Prop} : ∀ (l : List Bool) (c0 c1 c2 c3 c4 : Nat), lt5 c0 c1 c2 c3 c4 = true →
    (∀ d0 d1 d2 d3 d4, lt5 d0 d1 d2 d3 d4 = true → val5 d0 d1 d2 d3 d4 % pF = val5 c0 c1 c2 c3 c4 ^ 2 ^ l.length * val5 x0 x1 x2 x3 x4 ^ bval l % pF → Q d0 d1 d2 d3 d4) → powN l c0 c1 c2 c3 c4 x0 x1 x2 x3 x4 Q
  | [], c0, c1, c2, c3, c4, hc, hq => hq _ _ _ _ _ hc (by simp [bval])
  | b :: r, c0, c1, c2, c3, c4, hc, hq => by
    have tl : ∀ {a0 a1 a2 a3 a4 b0 b1 b2 b3 b4 : Nat}, lt5 a0 a1 a2 a3 a4 = true → lt5 b0 b1 b2 b3 b4 = true → ∀ {Q : Nat → Nat → Nat → Nat → Nat → Prop},
        (∀ c0 c1 c2 c3 c4 : Nat, lt5 c0 c1 c2 c3 c4 = true → val5 c0 c1 c2 c3 c4 % pF = val5 a0 a1 a2 a3 a4 * val5 b0 b1 b2 b3 b4 % pF → Q c0 c1 c2 c3 c4) → timesN a0 a1 a2 a3 a4 b0 b1 b2 b3 b4 Q := by
      intro a0 a1 a2 a3 a4 b0 b1 b2 b3 b4 ha hb Q hk
      have h1 := @times_lt a0 a1 a2 a3 a4 b0 b1 b2 b3 b4 (lt5_both ha hb) (fun c0 c1 c2 c3 c4 => lt5 c0 c1 c2 c3 c4 = true) (fun c0 c1 c2 c3 c4 h0 h1 h2 h3 h4 _ => lt5_of h0 h1 h2 h3 h4)
      have h2 := @times_val a0 a1 a2 a3 a4 b0 b1 b2 b3 b4 (fun c0 c1 c2 c3 c4 => val5 c0 c1 c2 c3 c4 % pF = val5 a0 a1 a2 a3 a4 * val5 b0 b1 b2 b3 b4 % pF) (fun _ _ _ _ _ h => h)
      simp only [timesN, forceN_eq] at h1 h2 ⊢
      exact hk _ _ _ _ _ h1 h2
    refine tl hc hc fun d0 d1 d2 d3 d4 hd hv => ?_
    cases b with
    | false =>
      refine powN_val hx r d0 d1 d2 d3 d4 hd fun f0 f1 f2 f3 f4 hf hw => hq _ _ _ _ _ hf ?_
      rw [hw, pow_cong hv]
      congr 2
      · rw [List.length_cons, Nat.pow_succ, Nat.mul_comm (2 ^ r.length) 2, Nat.pow_mul, Nat.pow_two]
      · simp [bval]
    | true =>
      refine tl hd hx fun g0 g1 g2 g3 g4 hg hu => ?_
      refine powN_val hx r g0 g1 g2 g3 g4 hg fun f0 f1 f2 f3 f4 hf hw => hq _ _ _ _ _ hf ?_
      rw [hw, pow_cong hu]
      have h2 : val5 d0 d1 d2 d3 d4 * val5 x0 x1 x2 x3 x4 % pF = val5 c0 c1 c2 c3 c4 * val5 c0 c1 c2 c3 c4 * val5 x0 x1 x2 x3 x4 % pF := by
        rw [Nat.mul_mod, hv, ← Nat.mul_mod]
      rw [pow_cong h2]
      generalize val5 c0 c1 c2 c3 c4 = c
      generalize val5 x0 x1 x2 x3 x4 = x
      congr 1
      rw [Nat.mul_pow, List.length_cons, Nat.pow_succ, Nat.mul_comm (2 ^ r.length) 2, Nat.pow_mul, Nat.pow_two, Nat.mul_assoc, ← Nat.pow_add]
      rfl
end
end Ev
