/-
  Powers of numbers of five words to the exponents that the program names: what the code computes. Conditions: words below 2^53.
-/
import Derived.Test.YtmbkjhcmbbcphaaF4
namespace Ev
open Go Go.Proofs
noncomputable section

def num (l : List Nat) : AV := .agg (l.map fun n => .int .u8 (.ofNat n))
def W5 := Int × Int × Int × Int × Int
def inW (x : Int) : Prop := 0 ≤ x ∧ x < 9007199254740992
def timesQ (a0 a1 a2 a3 a4 b0 b1 b2 b3 b4 : Int) (K : Int → Int → Int → Int → Int → Prop) : Prop :=
  ((inW a0 ∧ inW a1 ∧ inW a2 ∧ inW a3 ∧ inW a4) ∧ (inW b0 ∧ inW b1 ∧ inW b2 ∧ inW b3 ∧ inW b4)) ∧
    ∀ c0 c1 c2 c3 c4 : Int, wordsA c0 c1 c2 c3 c4 = timesR a0.toNat a1.toNat a2.toNat a3.toNat a4.toNat b0.toNat b1.toNat b2.toNat b3.toNat b4.toNat → K c0 c1 c2 c3 c4
def timesW : List AV → AMem → KP → Prop
  | [.agg [.int .u64 a0, .int .u64 a1, .int .u64 a2, .int .u64 a3, .int .u64 a4], .agg [.int .u64 b0, .int .u64 b1, .int .u64 b2, .int .u64 b3, .int .u64 b4]], m, K =>
    timesQ a0 a1 a2 a3 a4 b0 b1 b2 b3 b4 fun c0 c1 c2 c3 c4 => K (wordsA c0 c1 c2 c3 c4) m
  | _, _, _ => False
def ow3 (f : Nat) : Option (List AV → AMem → KP → Prop) :=
  Bool.casesOn (motive := fun _ => Option (List AV → AMem → KP → Prop)) (Nat.beq f 56) none (some timesW)

def powP : List Bool → Int → Int → Int → Int → Int → Int → Int → Int → Int → Int → (Int → Int → Int → Int → Int → Prop) → Prop
  | [], c0, c1, c2, c3, c4, _, _, _, _, _, K => K c0 c1 c2 c3 c4
  | b :: r, c0, c1, c2, c3, c4, x0, x1, x2, x3, x4, K => timesQ c0 c1 c2 c3 c4 c0 c1 c2 c3 c4 fun d0 d1 d2 d3 d4 =>
    Bool.casesOn (motive := fun _ => Prop) b (powP r d0 d1 d2 d3 d4 x0 x1 x2 x3 x4 K)
      (timesQ d0 d1 d2 d3 d4 x0 x1 x2 x3 x4 fun e0 e1 e2 e3 e4 => powP r e0 e1 e2 e3 e4 x0 x1 x2 x3 x4 K)
def bitsOf (l : List Nat) : List Bool := (l.reverse.map fun b => [b.testBit 7, b.testBit 6, b.testBit 5, b.testBit 4, b.testBit 3, b.testBit 2, b.testBit 1, b.testBit 0]).flatten


theorem wordsA_inj {a0 a1 a2 a3 a4 b0 b1 b2 b3 b4 : Int} (h : wordsA a0 a1 a2 a3 a4 = wordsA b0 b1 b2 b3 b4) : a0 = b0 ∧ a1 = b1 ∧ a2 = b2 ∧ a3 = b3 ∧ a4 = b4 := by
  unfold wordsA at h
  simpa using h
theorem inW_nat {x : Int} (h : inW x) : ∃ n : Nat, x = .ofNat n ∧ n < B53 := by
  obtain ⟨X, rfl⟩ := Int.eq_ofNat_of_zero_le h.1
  exact ⟨X, rfl, by have := h.2; simp only [B53]; omega⟩
theorem inW_of {n : Nat} (h : n < B53) : inW (.ofNat n) := ⟨Int.natCast_nonneg n, by have : n < 9007199254740992 := h; exact Int.ofNat_lt.2 this⟩
theorem timesS_of {a0 a1 a2 a3 a4 b0 b1 b2 b3 b4 : Nat} (h : timesB a0 a1 a2 a3 a4 b0 b1 b2 b3 b4 = true) :
    timesS [wordsA (.ofNat a0) (.ofNat a1) (.ofNat a2) (.ofNat a3) (.ofNat a4), wordsA (.ofNat b0) (.ofNat b1) (.ofNat b2) (.ofNat b3) (.ofNat b4)] = some (timesR a0 a1 a2 a3 a4 b0 b1 b2 b3 b4) := by
  show Bool.casesOn (motive := fun _ => Option AV) (timesB a0 a1 a2 a3 a4 b0 b1 b2 b3 b4) none _ = _
  rw [h]
  simp only [timesR, timesN, forceN_eq]
theorem timesW_ok {args : List AV} {m : AMem} {K : KP} (h : timesW args m K) : ∃ r, timesS args = some r ∧ K r m := by
  unfold timesW at h
  split at h
  · next a0 a1 a2 a3 a4 b0 b1 b2 b3 b4 =>
    obtain ⟨⟨⟨h0, h1, h2, h3, h4⟩, h5, h6, h7, h8, h9⟩, hk⟩ := h
    obtain ⟨a0, rfl, g0⟩ := inW_nat h0
    obtain ⟨a1, rfl, g1⟩ := inW_nat h1
    obtain ⟨a2, rfl, g2⟩ := inW_nat h2
    obtain ⟨a3, rfl, g3⟩ := inW_nat h3
    obtain ⟨a4, rfl, g4⟩ := inW_nat h4
    obtain ⟨b0, rfl, g5⟩ := inW_nat h5
    obtain ⟨b1, rfl, g6⟩ := inW_nat h6
    obtain ⟨b2, rfl, g7⟩ := inW_nat h7
    obtain ⟨b3, rfl, g8⟩ := inW_nat h8
    obtain ⟨b4, rfl, g9⟩ := inW_nat h9
    refine ⟨_, timesS_of (by simp only [timesB, Bool.and_eq_true, Nat.blt_eq]; exact ⟨⟨⟨⟨⟨⟨⟨⟨⟨g0, g1⟩, g2⟩, g3⟩, g4⟩, g5⟩, g6⟩, g7⟩, g8⟩, g9⟩), ?_⟩
    simp only [timesR, timesN, forceN_eq] at hk ⊢
    exact hk _ _ _ _ _ rfl
  · cases h
theorem ow3_none : ∀ f, ow3 f = none → (pEnv specs3).orc f = none := by
  intro f h
  unfold ow3 at h
  cases h0 : Nat.beq f 56 with
  | true => rw [h0] at h; cases h
  | false =>
    show Bool.casesOn (motive := fun _ => Option (List AV → AMem → R)) (Nat.beq f 56) none (some (orcS timesS)) = none
    rw [h0]
theorem ow3_some : ∀ f w, ow3 f = some w → ∀ args m K, w args m K → ∃ o r m', (pEnv specs3).orc f = some o ∧ o args m = some (r, m') ∧ K r m' := by
  intro f w h args m K hw
  unfold ow3 at h
  cases h0 : Nat.beq f 56 with
  | true =>
    rw [h0] at h; cases h
    have := Nat.eq_of_beq_eq_true h0; subst this
    obtain ⟨r, h2, h3⟩ := timesW_ok hw
    exact ⟨orcS timesS, r, m, rfl, orcS_of h2 m, h3⟩
  | false => rw [h0] at h; cases h

theorem sum_le {a b X Y : Nat} (ha : a ≤ X) (hb : b ≤ Y) : a + b ≤ X + Y := Nat.add_le_add ha hb
theorem times_lt {a0 a1 a2 a3 a4 b0 b1 b2 b3 b4 : Nat} (h : timesB a0 a1 a2 a3 a4 b0 b1 b2 b3 b4 = true) {Q : Nat → Nat → Nat → Nat → Nat → Prop}
    (hq : ∀ c0 c1 c2 c3 c4 : Nat, c0 < B53 → c1 < B53 → c2 < B53 → c3 < B53 → c4 < B53 → timesR a0 a1 a2 a3 a4 b0 b1 b2 b3 b4 = wordsA (.ofNat c0) (.ofNat c1) (.ofNat c2) (.ofNat c3) (.ofNat c4) → Q c0 c1 c2 c3 c4) :
    timesN a0 a1 a2 a3 a4 b0 b1 b2 b3 b4 Q := by
  simp only [timesB, Bool.and_eq_true, Nat.blt_eq] at h
  obtain ⟨⟨⟨⟨⟨⟨⟨⟨⟨h0, h1⟩, h2⟩, h3⟩, h4⟩, h5⟩, h6⟩, h7⟩, h8⟩, h9⟩ := h
  simp only [B53] at h0 h1 h2 h3 h4 h5 h6 h7 h8 h9
  have hp : ∀ x y : Nat, x < 9007199254740992 → y < 9007199254740992 → x * y ≤ 9007199254740991 * 9007199254740991 := fun x y hx hy => Nat.mul_le_mul (by omega) (by omega)
  have hp19 : ∀ x y : Nat, x < 9007199254740992 → y < 9007199254740992 → x * 19 * y ≤ 171136785840078829 * 9007199254740991 := fun x y hx hy => Nat.mul_le_mul (by omega) (by omega)
  have q0 : sum0 a0 a1 a2 a3 a4 b0 b1 b2 b3 b4 ≤ 8000000000000000000000000000000000 := by
    unfold sum0
    have := hp a0 b0 h0 h5
    have := hp19 a1 b4 h1 h9
    have := hp19 a2 b3 h2 h8
    have := hp19 a3 b2 h3 h7
    have := hp19 a4 b1 h4 h6
    omega
  have q1 : sum1 a0 a1 a2 a3 a4 b0 b1 b2 b3 b4 ≤ 8000000000000000000000000000000000 := by
    unfold sum1
    have := hp a0 b1 h0 h6
    have := hp a1 b0 h1 h5
    have := hp19 a2 b4 h2 h9
    have := hp19 a3 b3 h3 h8
    have := hp19 a4 b2 h4 h7
    omega
  have q2 : sum2 a0 a1 a2 a3 a4 b0 b1 b2 b3 b4 ≤ 8000000000000000000000000000000000 := by
    unfold sum2
    have := hp a0 b2 h0 h7
    have := hp a1 b1 h1 h6
    have := hp a2 b0 h2 h5
    have := hp19 a3 b4 h3 h9
    have := hp19 a4 b3 h4 h8
    omega
  have q3 : sum3 a0 a1 a2 a3 a4 b0 b1 b2 b3 b4 ≤ 8000000000000000000000000000000000 := by
    unfold sum3
    have := hp a0 b3 h0 h8
    have := hp a1 b2 h1 h7
    have := hp a2 b1 h2 h6
    have := hp a3 b0 h3 h5
    have := hp19 a4 b4 h4 h9
    omega
  have q4 : sum4 a0 a1 a2 a3 a4 b0 b1 b2 b3 b4 ≤ 8000000000000000000000000000000000 := by
    unfold sum4
    have := hp a0 b4 h0 h9
    have := hp a1 b3 h1 h8
    have := hp a2 b2 h2 h7
    have := hp a3 b1 h3 h6
    have := hp a4 b0 h4 h5
    omega
  simp only [timesR, timesN, forceN_eq] at hq ⊢
  refine hq _ _ _ _ _ ?_ ?_ ?_ ?_ ?_ rfl
  all_goals
    simp only [B53]
    generalize sum0 a0 a1 a2 a3 a4 b0 b1 b2 b3 b4 = S0 at *
    generalize sum1 a0 a1 a2 a3 a4 b0 b1 b2 b3 b4 = S1 at *
    generalize sum2 a0 a1 a2 a3 a4 b0 b1 b2 b3 b4 = S2 at *
    generalize sum3 a0 a1 a2 a3 a4 b0 b1 b2 b3 b4 = S3 at *
    generalize sum4 a0 a1 a2 a3 a4 b0 b1 b2 b3 b4 = S4 at *
    clear hq hp hp19
    omega

theorem timesQ_nat {a0 a1 a2 a3 a4 b0 b1 b2 b3 b4 : Nat} (h : timesB a0 a1 a2 a3 a4 b0 b1 b2 b3 b4 = true) {K : Int → Int → Int → Int → Int → Prop}
    (hk : timesN a0 a1 a2 a3 a4 b0 b1 b2 b3 b4 fun c0 c1 c2 c3 c4 => K (.ofNat c0) (.ofNat c1) (.ofNat c2) (.ofNat c3) (.ofNat c4)) :
    timesQ (.ofNat a0) (.ofNat a1) (.ofNat a2) (.ofNat a3) (.ofNat a4) (.ofNat b0) (.ofNat b1) (.ofNat b2) (.ofNat b3) (.ofNat b4) K := by
  have hb := h
  simp only [timesB, Bool.and_eq_true, Nat.blt_eq] at h
  obtain ⟨⟨⟨⟨⟨⟨⟨⟨⟨h0, h1⟩, h2⟩, h3⟩, h4⟩, h5⟩, h6⟩, h7⟩, h8⟩, h9⟩ := h
  refine ⟨⟨⟨inW_of h0, inW_of h1, inW_of h2, inW_of h3, inW_of h4⟩, inW_of h5, inW_of h6, inW_of h7, inW_of h8, inW_of h9⟩, fun c0 c1 c2 c3 c4 hc => ?_⟩
  simp only [nat_of, timesR, timesN, forceN_eq] at hc hk
  obtain ⟨rfl, rfl, rfl, rfl, rfl⟩ := wordsA_inj hc
  exact hk

/-- the words of the power: the bits, the high one first -/
def powN {α : Sort _} : List Bool → Nat → Nat → Nat → Nat → Nat → Nat → Nat → Nat → Nat → Nat → (Nat → Nat → Nat → Nat → Nat → α) → α
  | [], c0, c1, c2, c3, c4, _, _, _, _, _, K => K c0 c1 c2 c3 c4
  | b :: r, c0, c1, c2, c3, c4, x0, x1, x2, x3, x4, K => timesN c0 c1 c2 c3 c4 c0 c1 c2 c3 c4 fun d0 d1 d2 d3 d4 =>
    Bool.casesOn (motive := fun _ => α) b (powN r d0 d1 d2 d3 d4 x0 x1 x2 x3 x4 K)
      (timesN d0 d1 d2 d3 d4 x0 x1 x2 x3 x4 fun e0 e1 e2 e3 e4 => powN r e0 e1 e2 e3 e4 x0 x1 x2 x3 x4 K)

def lt5 (a0 a1 a2 a3 a4 : Nat) : Bool := Nat.blt a0 B53 && Nat.blt a1 B53 && Nat.blt a2 B53 && Nat.blt a3 B53 && Nat.blt a4 B53
theorem lt5_both {a0 a1 a2 a3 a4 b0 b1 b2 b3 b4 : Nat} (ha : lt5 a0 a1 a2 a3 a4 = true) (hb : lt5 b0 b1 b2 b3 b4 = true) : timesB a0 a1 a2 a3 a4 b0 b1 b2 b3 b4 = true := by
  simp only [lt5, timesB, Bool.and_eq_true] at *
  obtain ⟨⟨⟨⟨h0, h1⟩, h2⟩, h3⟩, h4⟩ := ha
  obtain ⟨⟨⟨⟨h5, h6⟩, h7⟩, h8⟩, h9⟩ := hb
  exact ⟨⟨⟨⟨⟨⟨⟨⟨⟨h0, h1⟩, h2⟩, h3⟩, h4⟩, h5⟩, h6⟩, h7⟩, h8⟩, h9⟩
theorem lt5_of {a0 a1 a2 a3 a4 : Nat} (h0 : a0 < B53) (h1 : a1 < B53) (h2 : a2 < B53) (h3 : a3 < B53) (h4 : a4 < B53) : lt5 a0 a1 a2 a3 a4 = true := by
  simp only [lt5, Bool.and_eq_true, Nat.blt_eq]
  exact ⟨⟨⟨⟨h0, h1⟩, h2⟩, h3⟩, h4⟩

theorem powP_nat {x0 x1 x2 x3 x4 : Nat} (hx : lt5 x0 x1 x2 x3 x4 = true) {K : Int → Int → Int → Int → Int → Prop} : ∀ (l : List Bool) (c0 c1 c2 c3 c4 : Nat), lt5 c0 c1 c2 c3 c4 = true →
    (powN l c0 c1 c2 c3 c4 x0 x1 x2 x3 x4 fun c0 c1 c2 c3 c4 => K (.ofNat c0) (.ofNat c1) (.ofNat c2) (.ofNat c3) (.ofNat c4)) →
    powP l (.ofNat c0) (.ofNat c1) (.ofNat c2) (.ofNat c3) (.ofNat c4) (.ofNat x0) (.ofNat x1) (.ofNat x2) (.ofNat x3) (.ofNat x4) K
  | [], c0, c1, c2, c3, c4, _, hk => hk
  | b :: r, c0, c1, c2, c3, c4, hc, hk => by
    refine timesQ_nat (lt5_both hc hc) ?_
    have key := @times_lt c0 c1 c2 c3 c4 c0 c1 c2 c3 c4 (lt5_both hc hc)
    simp only [powN, timesN, forceN_eq] at hk key ⊢
    refine @key (fun d0 d1 d2 d3 d4 => (Bool.rec (powN r d0 d1 d2 d3 d4 x0 x1 x2 x3 x4 fun c0 c1 c2 c3 c4 => K (.ofNat c0) (.ofNat c1) (.ofNat c2) (.ofNat c3) (.ofNat c4)) (timesN d0 d1 d2 d3 d4 x0 x1 x2 x3 x4 fun e0 e1 e2 e3 e4 => powN r e0 e1 e2 e3 e4 x0 x1 x2 x3 x4 fun c0 c1 c2 c3 c4 => K (.ofNat c0) (.ofNat c1) (.ofNat c2) (.ofNat c3) (.ofNat c4)) b : Prop) → (Bool.rec (powP r (.ofNat d0) (.ofNat d1) (.ofNat d2) (.ofNat d3) (.ofNat d4) (.ofNat x0) (.ofNat x1) (.ofNat x2) (.ofNat x3) (.ofNat x4) K) (timesQ (.ofNat d0) (.ofNat d1) (.ofNat d2) (.ofNat d3) (.ofNat d4) (.ofNat x0) (.ofNat x1) (.ofNat x2) (.ofNat x3) (.ofNat x4) fun e0 e1 e2 e3 e4 => powP r e0 e1 e2 e3 e4 (.ofNat x0) (.ofNat x1) (.ofNat x2) (.ofNat x3) (.ofNat x4) K) b : Prop)) ?_ ?_
    · intro d0 d1 d2 d3 d4 g0 g1 g2 g3 g4 _ hk
      have hd := lt5_of g0 g1 g2 g3 g4
      cases b with
      | false => exact powP_nat hx r d0 d1 d2 d3 d4 hd hk
      | true =>
        refine timesQ_nat (lt5_both hd hx) ?_
        have key := @times_lt d0 d1 d2 d3 d4 x0 x1 x2 x3 x4 (lt5_both hd hx)
        simp only [timesN, forceN_eq] at hk key ⊢
        refine @key (fun e0 e1 e2 e3 e4 => (powN r e0 e1 e2 e3 e4 x0 x1 x2 x3 x4 fun c0 c1 c2 c3 c4 => K (.ofNat c0) (.ofNat c1) (.ofNat c2) (.ofNat c3) (.ofNat c4)) → powP r (.ofNat e0) (.ofNat e1) (.ofNat e2) (.ofNat e3) (.ofNat e4) (.ofNat x0) (.ofNat x1) (.ofNat x2) (.ofNat x3) (.ofNat x4) K) ?_ hk
        intro e0 e1 e2 e3 e4 g0 g1 g2 g3 g4 _ hk
        exact powP_nat hx r e0 e1 e2 e3 e4 (lt5_of g0 g1 g2 g3 g4) hk
    · simpa only [timesN, forceN_eq] using hk
end
end Ev
