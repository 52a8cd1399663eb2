/-
  The product of two numbers of five words: what the code computes. Conditions: words below 2^53.
-/
import Derived.Test.YtmbkjhcmbbcphaaF1
namespace Ev
open Go Go.Proofs
noncomputable section

theorem f1_some {ow : Nat → Option (List AV → AMem → KP → Prop)} {l : List (Nat × (List AV → Option AV))} {f : Nat} {args : List AV} {K : AV → Prop} {n : Nat}
    (hE : EnvOK (pEnv l) Try.prog) (hn : ∀ f, ow f = none → (pEnv l).orc f = none) (ho : ∀ f w, ow f = some w → ∀ args m K, w args m K → ∃ o r m', (pEnv l).orc f = some o ∧ o args m = some (r, m') ∧ K r m')
    (h : wpCall noEx (pEnv l) ow n (.fn f) args ⟨0, .nil⟩ (fun r _ => ∀ _ : AMem, K r)) : ∃ r m', evCall (pEnv l) n (.fn f) args ⟨0, .nil⟩ = some (r, m') ∧ K r := by
  obtain ⟨r, m', h1, h2⟩ := wpCall_ok (cf := noEx) hE.grows (fun g h => by cases h) hn ho n _ _ _ _ h
  exact ⟨r, m', h1, h2 m'⟩

theorem ow1_none : ∀ f, ow1 f = none → (pEnv specs1).orc f = none := by
  intro f h
  show lookS specs1 f = none
  unfold ow1 at h
  cases h1 : Nat.beq f 72 with
  | true => rw [h1] at h; cases h
  | false =>
    rw [h1] at h
    cases h2 : Nat.beq f 73 with
    | true => rw [h2] at h; cases h
    | false =>
      show Bool.casesOn (motive := fun _ => Option (List AV → AMem → R)) (Nat.beq f 72) (Bool.casesOn (motive := fun _ => Option (List AV → AMem → R)) (Nat.beq f 73) none (some (orcS mul64S))) (some (orcS add64S)) = none
      rw [h1, h2]
theorem orcS_of {s : List AV → Option AV} {args : List AV} {r : AV} (h : s args = some r) (m : AMem) : orcS s args m = some (r, m) := by
  unfold orcS; rw [h]
theorem ow1_some : ∀ f w, ow1 f = some w → ∀ args m K, w args m K → ∃ o r m', (pEnv specs1).orc f = some o ∧ o args m = some (r, m') ∧ K r m' := by
  intro f w h args m K hw
  unfold ow1 at h
  cases h1 : Nat.beq f 72 with
  | true =>
    rw [h1] at h; cases h
    have := Nat.eq_of_beq_eq_true h1; subst this
    obtain ⟨r, h2, h3⟩ := add64W_ok hw
    exact ⟨orcS add64S, r, m, rfl, orcS_of h2 m, h3⟩
  | false =>
    rw [h1] at h
    cases h2 : Nat.beq f 73 with
    | true =>
      rw [h2] at h; cases h
      have := Nat.eq_of_beq_eq_true h2; subst this
      obtain ⟨r, h2, h3⟩ := mul64W_ok hw
      exact ⟨orcS mul64S, r, m, rfl, orcS_of h2 m, h3⟩
    | false => rw [h2] at h; cases h

def plusV (h l a b : Nat) : Nat := h * M64 + l + a * b
def plusS : List AV → Option AV
  | [.agg [.int .u64 (.ofNat h), .int .u64 (.ofNat l)], .int .u64 (.ofNat a), .int .u64 (.ofNat b)] =>
    Bool.casesOn (motive := fun _ => Option AV) ((Nat.blt h M64 && Nat.blt l M64) && (Nat.blt a M64 && Nat.blt b M64)) none
      (some (longA (.ofNat (plusV h l a b / M64 % M64)) (.ofNat (plusV h l a b % M64))))
  | _ => none
def plusQ (hi lo a b : Int) (K : Int → Int → Prop) : Prop :=
  (inU hi ∧ inU lo ∧ inU a ∧ inU b) ∧ ∀ s d : Int, s = .ofNat (plusV hi.toNat lo.toNat a.toNat b.toNat / M64 % M64) → d = .ofNat (plusV hi.toNat lo.toNat a.toNat b.toNat % M64) → K s d
def plusW : List AV → AMem → KP → Prop
  | [.agg [.int .u64 h, .int .u64 l], .int .u64 a, .int .u64 b], m, K => plusQ h l a b fun s d => K (longA s d) m
  | _, _, _ => False
theorem plusW_ok {args : List AV} {m : AMem} {K : KP} (h : plusW args m K) : ∃ r, plusS args = some r ∧ K r m := by
  unfold plusW at h
  split at h
  · next h0 l a b =>
    obtain ⟨⟨h1, h2, h3, h4⟩, hk⟩ := h
    obtain ⟨h0, rfl, H1⟩ := inU_nat h1
    obtain ⟨l, rfl, H2⟩ := inU_nat h2
    obtain ⟨a, rfl, H3⟩ := inU_nat h3
    obtain ⟨b, rfl, H4⟩ := inU_nat h4
    refine ⟨_, ?_, hk _ _ rfl rfl⟩
    show Bool.casesOn (motive := fun _ => Option AV) ((Nat.blt h0 M64 && Nat.blt l M64) && (Nat.blt a M64 && Nat.blt b M64)) none (some _) = _
    have : ((Nat.blt h0 M64 && Nat.blt l M64) && (Nat.blt a M64 && Nat.blt b M64)) = true := by simp only [Bool.and_eq_true, Nat.blt_eq]; exact ⟨⟨H1, H2⟩, H3, H4⟩
    rw [this]; rfl
  · cases h

theorem plusP_nat {h l a b : Nat} (_ : h < M64) (hl : l < M64) (ha : a < M64) (hb : b < M64) {K : Int → Int → Prop}
    (hk : K (.ofNat (plusV h l a b / M64 % M64)) (.ofNat (plusV h l a b % M64))) : plusP (.ofNat h) (.ofNat l) (.ofNat a) (.ofNat b) K := by
  have hU : ∀ n : Nat, n < M64 → inU (.ofNat n) := fun n h => ⟨Int.natCast_nonneg n, by have : n < 18446744073709551616 := h; exact Int.ofNat_lt.2 this⟩
  have hab : a * b ≤ 18446744073709551615 * 18446744073709551615 := Nat.mul_le_mul (by simp only [M64] at ha; omega) (by simp only [M64] at hb; omega)
  have hn : ∀ n : Nat, (Int.ofNat n).toNat = n := fun _ => rfl
  refine ⟨⟨hU a ha, hU b hb⟩, ?_⟩
  intro s d hs hd
  rw [hn, hn] at hs hd
  subst hs hd
  refine ⟨⟨Int.natCast_nonneg _, Int.natCast_nonneg _, by decide, by decide⟩, ?_⟩
  intro s d hs hd
  rw [hn, hn, show (0 : Int).toNat = 0 from rfl] at hs hd
  subst hs hd
  refine ⟨⟨Int.natCast_nonneg _, Int.natCast_nonneg _, Int.natCast_nonneg _, ?_⟩, ?_⟩
  · show ((_ : Nat) : Int) ≤ ((1 : Nat) : Int)
    rw [Int.ofNat_le]
    generalize a * b = p at *
    simp only [M64] at *
    omega
  · intro s d hs hd
    rw [hn, hn, hn] at hs
    have e1 : (h + a * b / M64 + (l + a * b % M64 + 0) / M64) % M64 = plusV h l a b / M64 % M64 := by
      unfold plusV
      generalize a * b = p at *
      simp only [M64] at *
      omega
    have e2 : (l + a * b % M64 + 0) % M64 = plusV h l a b % M64 := by
      unfold plusV
      generalize a * b = p at *
      simp only [M64] at *
      omega
    rw [e1] at hs
    rw [hs, e2]
    exact hk

theorem plus_c : PlainC Try.prog 71 plusS := by
  refine ⟨fun args r h => ?_, fun args r h => ?_⟩ <;> unfold plusS at h <;> split at h
  · next h0 l a b =>
    cases hb : ((Nat.blt h0 M64 && Nat.blt l M64) && (Nat.blt a M64 && Nat.blt b M64)) with
    | false => rw [hb] at h; cases h
    | true => rw [hb] at h; cases h; exact ⟨rfl, rfl⟩
  · cases h
  · next h0 l a b =>
    cases hb : ((Nat.blt h0 M64 && Nat.blt l M64) && (Nat.blt a M64 && Nat.blt b M64)) with
    | false => rw [hb] at h; cases h
    | true =>
      rw [hb] at h; cases h
      simp only [Bool.and_eq_true, Nat.blt_eq] at hb
      have h1 : plusP (.ofNat h0) (.ofNat l) (.ofNat a) (.ofNat b) fun s d => ∀ _ : AMem, longA s d = longA (.ofNat (plusV h0 l a b / M64 % M64)) (.ofNat (plusV h0 l a b % M64)) :=
        plusP_nat hb.1.1 hb.1.2 hb.2.1 hb.2.2 (fun _ => rfl)
      have h2 := f1_some (K := fun r => r = longA (.ofNat (plusV h0 l a b / M64 % M64)) (.ofNat (plusV h0 l a b % M64))) (okE specs1 specs1_ok) ow1_none ow1_some (Eq.mp (plus_wp (.ofNat h0) (.ofNat l) (.ofNat a) (.ofNat b) (fun r _ => r = longA (.ofNat (plusV h0 l a b / M64 % M64)) (.ofNat (plusV h0 l a b % M64)))) h1)
      obtain ⟨r, m', h3, rfl⟩ := h2
      exact ⟨_, _, m', okE specs1 specs1_ok, h3⟩
  · cases h

/-! the product -/
def specs2 : List (Nat × (List AV → Option AV)) := [(72, add64S), (73, mul64S), (71, plusS)]
theorem specs2_ok : ∀ p ∈ specs2, FnOK Try.prog p.1 (orcS p.2) := by
  intro p hp
  simp only [specs2, List.mem_cons, List.not_mem_nil, or_false] at hp
  rcases hp with rfl | rfl | rfl
  · exact fn_add64
  · exact plain_ok mul64_c
  · exact plain_ok plus_c
def ow2 (f : Nat) : Option (List AV → AMem → KP → Prop) :=
  Bool.casesOn (motive := fun _ => Option (List AV → AMem → KP → Prop)) (Nat.beq f 71) (ow1 f) (some plusW)
theorem ow2_none : ∀ f, ow2 f = none → (pEnv specs2).orc f = none := by
  intro f h
  unfold ow2 at h
  cases h0 : Nat.beq f 71 with
  | true => rw [h0] at h; cases h
  | false =>
    rw [h0] at h
    unfold ow1 at h
    cases h1 : Nat.beq f 72 with
    | true => rw [h1] at h; cases h
    | false =>
      rw [h1] at h
      cases h2 : Nat.beq f 73 with
      | true => rw [h2] at h; cases h
      | false =>
        show Bool.casesOn (motive := fun _ => Option (List AV → AMem → R)) (Nat.beq f 72) (Bool.casesOn (motive := fun _ => Option (List AV → AMem → R)) (Nat.beq f 73) (Bool.casesOn (motive := fun _ => Option (List AV → AMem → R)) (Nat.beq f 71) none (some (orcS plusS))) (some (orcS mul64S))) (some (orcS add64S)) = none
        rw [h0, h1, h2]
theorem ow2_some : ∀ f w, ow2 f = some w → ∀ args m K, w args m K → ∃ o r m', (pEnv specs2).orc f = some o ∧ o args m = some (r, m') ∧ K r m' := by
  intro f w h args m K hw
  unfold ow2 at h
  cases h0 : Nat.beq f 71 with
  | true =>
    rw [h0] at h; cases h
    have := Nat.eq_of_beq_eq_true h0; subst this
    obtain ⟨r, h2, h3⟩ := plusW_ok hw
    exact ⟨orcS plusS, r, m, rfl, orcS_of h2 m, h3⟩
  | false =>
    rw [h0] at h
    unfold ow1 at h
    cases h1 : Nat.beq f 72 with
    | true =>
      rw [h1] at h; cases h
      have := Nat.eq_of_beq_eq_true h1; subst this
      obtain ⟨r, h2, h3⟩ := add64W_ok hw
      exact ⟨orcS add64S, r, m, rfl, orcS_of h2 m, h3⟩
    | false =>
      rw [h1] at h
      cases h2 : Nat.beq f 73 with
      | true =>
        rw [h2] at h; cases h
        have := Nat.eq_of_beq_eq_true h2; subst this
        obtain ⟨r, h2, h3⟩ := mul64W_ok hw
        exact ⟨orcS mul64S, r, m, rfl, orcS_of h2 m, h3⟩
      | false => rw [h2] at h; cases h

def m51 : Int := 2251799813685247
def wordsA (a b c d e : Int) : AV := .agg [.int .u64 a, .int .u64 b, .int .u64 c, .int .u64 d, .int .u64 e]
def carP (h l over : Int) (K : Int → Int → Prop) : Prop :=
  add64P l over 0 fun lo c => K (uand lo m51) (uor (ushl (uadd h c) 13) (ushr lo 51))

def timesP (a0 a1 a2 a3 a4 b0 b1 b2 b3 b4 : Int) (K : Int → Int → Int → Int → Int → Prop) : Prop :=
  plusQ 0 0 a0 b0 fun h1 l1 =>
  plusQ 0 0 a0 b1 fun h2 l2 =>
  plusQ 0 0 a0 b2 fun h3 l3 =>
  plusQ 0 0 a0 b3 fun h4 l4 =>
  plusQ 0 0 a0 b4 fun h5 l5 =>
  plusQ h2 l2 a1 b0 fun h6 l6 =>
  plusQ h3 l3 a1 b1 fun h7 l7 =>
  plusQ h4 l4 a1 b2 fun h8 l8 =>
  plusQ h5 l5 a1 b3 fun h9 l9 =>
  plusQ h1 l1 (umul a1 19) b4 fun h10 l10 =>
  plusQ h7 l7 a2 b0 fun h11 l11 =>
  plusQ h8 l8 a2 b1 fun h12 l12 =>
  plusQ h9 l9 a2 b2 fun h13 l13 =>
  plusQ h10 l10 (umul a2 19) b3 fun h14 l14 =>
  plusQ h6 l6 (umul a2 19) b4 fun h15 l15 =>
  plusQ h12 l12 a3 b0 fun h16 l16 =>
  plusQ h13 l13 a3 b1 fun h17 l17 =>
  plusQ h14 l14 (umul a3 19) b2 fun h18 l18 =>
  plusQ h15 l15 (umul a3 19) b3 fun h19 l19 =>
  plusQ h11 l11 (umul a3 19) b4 fun h20 l20 =>
  plusQ h17 l17 a4 b0 fun h21 l21 =>
  plusQ h18 l18 (umul a4 19) b1 fun h22 l22 =>
  plusQ h19 l19 (umul a4 19) b2 fun h23 l23 =>
  plusQ h20 l20 (umul a4 19) b3 fun h24 l24 =>
  plusQ h16 l16 (umul a4 19) b4 fun h25 l25 =>
  carP h22 l22 0 fun o0 v0 =>
  carP h23 l23 v0 fun o1 v1 =>
  carP h24 l24 v1 fun o2 v2 =>
  carP h25 l25 v2 fun o3 v3 =>
  carP h21 l21 v3 fun o4 v4 =>
  mul64P v4 19 fun h l => add64P l o0 0 fun l c => K (uand l m51) (uadd o1 (uor (ushl (uadd h c) 13) (ushr l 51))) o2 o3 o4

set_option maxRecDepth 100000 in
theorem times_wp (a0 a1 a2 a3 a4 b0 b1 b2 b3 b4 : Int) (K : AV → Prop) : (timesP a0 a1 a2 a3 a4 b0 b1 b2 b3 b4 fun c0 c1 c2 c3 c4 => ∀ _ : AMem, K (wordsA c0 c1 c2 c3 c4)) = wpCall noEx (pEnv specs2) ow2 1000 (.fn 56) [wordsA a0 a1 a2 a3 a4, wordsA b0 b1 b2 b3 b4] ⟨0, .nil⟩ (fun r _ => ∀ _ : AMem, K r) := by kernel_rfl
end
end Ev
