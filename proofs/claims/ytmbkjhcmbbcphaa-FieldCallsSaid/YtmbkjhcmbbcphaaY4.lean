/-
  The reference's functions on numbers, as functions of plain data: Add, Sub, Mul, Pow. Conditions: numbers of 32 bytes.
-/
import Derived.Test.YtmbkjhcmbbcphaaY3
import Derived.Test.YtmbkjhcmbbcphaaU6
namespace Ev
open Go Go.Proofs
noncomputable section

theorem carV_ex (w0 w1 w2 w3 w4 w5 w6 w7 w8 w9 : Int) : ∃ v0 v1 v2 v3 v4 v5 v6 v7 v8 v9 : Int, wideA v0 v1 v2 v3 v4 v5 v6 v7 v8 v9 = carryM w0 w1 w2 w3 w4 w5 w6 w7 w8 w9 wideA :=
  carryM_ind (Q := fun v => ∃ v0 v1 v2 v3 v4 v5 v6 v7 v8 v9 : Int, wideA v0 v1 v2 v3 v4 v5 v6 v7 v8 v9 = v) (fun v0 v1 v2 v3 v4 v5 v6 v7 v8 v9 => ⟨v0, v1, v2, v3, v4, v5, v6, v7, v8, v9, rfl⟩) w0 w1 w2 w3 w4 w5 w6 w7 w8 w9

def plS : List AV → Option AV
  | [.agg [.int .i64 x0, .int .i64 x1, .int .i64 x2, .int .i64 x3, .int .i64 x4, .int .i64 x5, .int .i64 x6, .int .i64 x7, .int .i64 x8, .int .i64 x9], .agg [.int .i64 y0, .int .i64 y1, .int .i64 y2, .int .i64 y3, .int .i64 y4, .int .i64 y5, .int .i64 y6, .int .i64 y7, .int .i64 y8, .int .i64 y9]] => some (carryM (iadd x0 y0) (iadd x1 y1) (iadd x2 y2) (iadd x3 y3) (iadd x4 y4) (iadd x5 y5) (iadd x6 y6) (iadd x7 y7) (iadd x8 y8) (iadd x9 y9) wideA)
  | _ => none
theorem pl_c : PlainC Try.prog 53 plS := by
  refine ⟨fun l r h => ?_, fun l r h => ?_⟩ <;> unfold plS at h <;> split at h
  · next x0 x1 x2 x3 x4 x5 x6 x7 x8 x9 y0 y1 y2 y3 y4 y5 y6 y7 y8 y9 => cases h; exact ⟨rfl, carV_plain _ _ _ _ _ _ _ _ _ _⟩
  · cases h
  · next x0 x1 x2 x3 x4 x5 x6 x7 x8 x9 y0 y1 y2 y3 y4 y5 y6 y7 y8 y9 =>
    have h : carryM (iadd x0 y0) (iadd x1 y1) (iadd x2 y2) (iadd x3 y3) (iadd x4 y4) (iadd x5 y5) (iadd x6 y6) (iadd x7 y7) (iadd x8 y8) (iadd x9 y9) wideA = r := Option.some.inj h
    have hk : carQ (iadd x0 y0) (iadd x1 y1) (iadd x2 y2) (iadd x3 y3) (iadd x4 y4) (iadd x5 y5) (iadd x6 y6) (iadd x7 y7) (iadd x8 y8) (iadd x9 y9) fun v0 v1 v2 v3 v4 v5 v6 v7 v8 v9 => ∀ _ : AMem, wideA v0 v1 v2 v3 v4 v5 v6 v7 v8 v9 = r := fun v0 v1 v2 v3 v4 v5 v6 v7 v8 v9 hv _ => hv.trans h
    have g := @run_of _ _ pairedO specsO_ok cfP' pfO_some 53 1000 [wideA x0 x1 x2 x3 x4 x5 x6 x7 x8 x9, wideA y0 y1 y2 y3 y4 y5 y6 y7 y8 y9] (fun v => v = r)
    rw [← plus_wp'] at g
    obtain ⟨r', m, h1, rfl⟩ := g hk
    exact ⟨_, _, m, okE specsO specsO_ok, h1⟩
  · cases h
def plA : List AV → AMem → KP → Prop
  | [.agg [.int .i64 x0, .int .i64 x1, .int .i64 x2, .int .i64 x3, .int .i64 x4, .int .i64 x5, .int .i64 x6, .int .i64 x7, .int .i64 x8, .int .i64 x9], .agg [.int .i64 y0, .int .i64 y1, .int .i64 y2, .int .i64 y3, .int .i64 y4, .int .i64 y5, .int .i64 y6, .int .i64 y7, .int .i64 y8, .int .i64 y9]], m, K => carQ (iadd x0 y0) (iadd x1 y1) (iadd x2 y2) (iadd x3 y3) (iadd x4 y4) (iadd x5 y5) (iadd x6 y6) (iadd x7 y7) (iadd x8 y8) (iadd x9 y9) fun v0 v1 v2 v3 v4 v5 v6 v7 v8 v9 => K (wideA v0 v1 v2 v3 v4 v5 v6 v7 v8 v9) m
  | _, _, _ => False
theorem plA_ok {args : List AV} {m : AMem} {K : KP} (h : plA args m K) : ∃ r, plS args = some r ∧ K r m := by
  unfold plA at h
  split at h
  · next x0 x1 x2 x3 x4 x5 x6 x7 x8 x9 y0 y1 y2 y3 y4 y5 y6 y7 y8 y9 =>
    obtain ⟨v0, v1, v2, v3, v4, v5, v6, v7, v8, v9, hv⟩ := carV_ex (iadd x0 y0) (iadd x1 y1) (iadd x2 y2) (iadd x3 y3) (iadd x4 y4) (iadd x5 y5) (iadd x6 y6) (iadd x7 y7) (iadd x8 y8) (iadd x9 y9)
    have h2 : K (wideA v0 v1 v2 v3 v4 v5 v6 v7 v8 v9) m := h v0 v1 v2 v3 v4 v5 v6 v7 v8 v9 hv
    rw [hv] at h2
    exact ⟨_, rfl, h2⟩
  · cases h

def mnS : List AV → Option AV
  | [.agg [.int .i64 x0, .int .i64 x1, .int .i64 x2, .int .i64 x3, .int .i64 x4, .int .i64 x5, .int .i64 x6, .int .i64 x7, .int .i64 x8, .int .i64 x9], .agg [.int .i64 y0, .int .i64 y1, .int .i64 y2, .int .i64 y3, .int .i64 y4, .int .i64 y5, .int .i64 y6, .int .i64 y7, .int .i64 y8, .int .i64 y9]] => some (carryM (isub (iadd x0 (pM 0)) y0) (isub (iadd x1 (pM 1)) y1) (isub (iadd x2 (pM 2)) y2) (isub (iadd x3 (pM 3)) y3) (isub (iadd x4 (pM 4)) y4) (isub (iadd x5 (pM 5)) y5) (isub (iadd x6 (pM 6)) y6) (isub (iadd x7 (pM 7)) y7) (isub (iadd x8 (pM 8)) y8) (isub (iadd x9 (pM 9)) y9) wideA)
  | _ => none
theorem mn_c : PlainC Try.prog 55 mnS := by
  refine ⟨fun l r h => ?_, fun l r h => ?_⟩ <;> unfold mnS at h <;> split at h
  · next x0 x1 x2 x3 x4 x5 x6 x7 x8 x9 y0 y1 y2 y3 y4 y5 y6 y7 y8 y9 => cases h; exact ⟨rfl, carV_plain _ _ _ _ _ _ _ _ _ _⟩
  · cases h
  · next x0 x1 x2 x3 x4 x5 x6 x7 x8 x9 y0 y1 y2 y3 y4 y5 y6 y7 y8 y9 =>
    have h : carryM (isub (iadd x0 (pM 0)) y0) (isub (iadd x1 (pM 1)) y1) (isub (iadd x2 (pM 2)) y2) (isub (iadd x3 (pM 3)) y3) (isub (iadd x4 (pM 4)) y4) (isub (iadd x5 (pM 5)) y5) (isub (iadd x6 (pM 6)) y6) (isub (iadd x7 (pM 7)) y7) (isub (iadd x8 (pM 8)) y8) (isub (iadd x9 (pM 9)) y9) wideA = r := Option.some.inj h
    have hk : carQ (isub (iadd x0 (pM 0)) y0) (isub (iadd x1 (pM 1)) y1) (isub (iadd x2 (pM 2)) y2) (isub (iadd x3 (pM 3)) y3) (isub (iadd x4 (pM 4)) y4) (isub (iadd x5 (pM 5)) y5) (isub (iadd x6 (pM 6)) y6) (isub (iadd x7 (pM 7)) y7) (isub (iadd x8 (pM 8)) y8) (isub (iadd x9 (pM 9)) y9) fun v0 v1 v2 v3 v4 v5 v6 v7 v8 v9 => ∀ _ : AMem, wideA v0 v1 v2 v3 v4 v5 v6 v7 v8 v9 = r := fun v0 v1 v2 v3 v4 v5 v6 v7 v8 v9 hv _ => hv.trans h
    have g := @run_of _ _ pairedO specsO_ok cfP' pfO_some 55 1000 [wideA x0 x1 x2 x3 x4 x5 x6 x7 x8 x9, wideA y0 y1 y2 y3 y4 y5 y6 y7 y8 y9] (fun v => v = r)
    rw [← minus_wp] at g
    obtain ⟨r', m, h1, rfl⟩ := g hk
    exact ⟨_, _, m, okE specsO specsO_ok, h1⟩
  · cases h
def mnA : List AV → AMem → KP → Prop
  | [.agg [.int .i64 x0, .int .i64 x1, .int .i64 x2, .int .i64 x3, .int .i64 x4, .int .i64 x5, .int .i64 x6, .int .i64 x7, .int .i64 x8, .int .i64 x9], .agg [.int .i64 y0, .int .i64 y1, .int .i64 y2, .int .i64 y3, .int .i64 y4, .int .i64 y5, .int .i64 y6, .int .i64 y7, .int .i64 y8, .int .i64 y9]], m, K => carQ (isub (iadd x0 (pM 0)) y0) (isub (iadd x1 (pM 1)) y1) (isub (iadd x2 (pM 2)) y2) (isub (iadd x3 (pM 3)) y3) (isub (iadd x4 (pM 4)) y4) (isub (iadd x5 (pM 5)) y5) (isub (iadd x6 (pM 6)) y6) (isub (iadd x7 (pM 7)) y7) (isub (iadd x8 (pM 8)) y8) (isub (iadd x9 (pM 9)) y9) fun v0 v1 v2 v3 v4 v5 v6 v7 v8 v9 => K (wideA v0 v1 v2 v3 v4 v5 v6 v7 v8 v9) m
  | _, _, _ => False
theorem mnA_ok {args : List AV} {m : AMem} {K : KP} (h : mnA args m K) : ∃ r, mnS args = some r ∧ K r m := by
  unfold mnA at h
  split at h
  · next x0 x1 x2 x3 x4 x5 x6 x7 x8 x9 y0 y1 y2 y3 y4 y5 y6 y7 y8 y9 =>
    obtain ⟨v0, v1, v2, v3, v4, v5, v6, v7, v8, v9, hv⟩ := carV_ex (isub (iadd x0 (pM 0)) y0) (isub (iadd x1 (pM 1)) y1) (isub (iadd x2 (pM 2)) y2) (isub (iadd x3 (pM 3)) y3) (isub (iadd x4 (pM 4)) y4) (isub (iadd x5 (pM 5)) y5) (isub (iadd x6 (pM 6)) y6) (isub (iadd x7 (pM 7)) y7) (isub (iadd x8 (pM 8)) y8) (isub (iadd x9 (pM 9)) y9)
    have h2 : K (wideA v0 v1 v2 v3 v4 v5 v6 v7 v8 v9) m := h v0 v1 v2 v3 v4 v5 v6 v7 v8 v9 hv
    rw [hv] at h2
    exact ⟨_, rfl, h2⟩
  · cases h

/-! powers -/
def pwRun (args : List AV) : R := evCall (pEnv specsPw) (999 + 1) (.fn 59) args ⟨0, .nil⟩
theorem pw_at {E : Nat} (hE : E < 256 ^ 32) {x0 x1 x2 x3 x4 x5 x6 x7 x8 x9 : Nat} (hx : N10 x0 x1 x2 x3 x4 x5 x6 x7 x8 x9) : ∃ o0 o1 o2 o3 o4 o5 o6 o7 o8 o9 : Nat, ∃ m, (N10 o0 o1 o2 o3 o4 o5 o6 o7 o8 o9 ∧ val10 o0 o1 o2 o3 o4 o5 o6 o7 o8 o9 % pF = val10 x0 x1 x2 x3 x4 x5 x6 x7 x8 x9 ^ E % pF) ∧ pwRun [wideA (.ofNat x0) (.ofNat x1) (.ofNat x2) (.ofNat x3) (.ofNat x4) (.ofNat x5) (.ofNat x6) (.ofNat x7) (.ofNat x8) (.ofNat x9), .agg (encL 32 E)] = some (wideA (.ofNat o0) (.ofNat o1) (.ofNat o2) (.ofNat o3) (.ofNat o4) (.ofNat o5) (.ofNat o6) (.ofNat o7) (.ofNat o8) (.ofNat o9), m) := by
  obtain ⟨r, m, h1, o0, o1, o2, o3, o4, o5, o6, o7, o8, o9, hr, h2, h3⟩ := WPw_ok (power59 hE hx (K := fun r => ∃ o0 o1 o2 o3 o4 o5 o6 o7 o8 o9 : Nat, r = wideA (.ofNat o0) (.ofNat o1) (.ofNat o2) (.ofNat o3) (.ofNat o4) (.ofNat o5) (.ofNat o6) (.ofNat o7) (.ofNat o8) (.ofNat o9) ∧ N10 o0 o1 o2 o3 o4 o5 o6 o7 o8 o9 ∧ val10 o0 o1 o2 o3 o4 o5 o6 o7 o8 o9 % pF = val10 x0 x1 x2 x3 x4 x5 x6 x7 x8 x9 ^ E % pF) (fun o0 o1 o2 o3 o4 o5 o6 o7 o8 o9 h1 h2 => ⟨o0, o1, o2, o3, o4, o5, o6, o7, o8, o9, rfl, h1, h2⟩) rfl rfl)
  subst hr
  exact ⟨o0, o1, o2, o3, o4, o5, o6, o7, o8, o9, m, ⟨h2, h3⟩, h1⟩
def pwS : List AV → Option AV
  | [.agg [.int .i64 (.ofNat x0), .int .i64 (.ofNat x1), .int .i64 (.ofNat x2), .int .i64 (.ofNat x3), .int .i64 (.ofNat x4), .int .i64 (.ofNat x5), .int .i64 (.ofNat x6), .int .i64 (.ofNat x7), .int .i64 (.ofNat x8), .int .i64 (.ofNat x9)], .agg l] => Bool.casesOn (motive := fun _ => Option AV) (n10B x0 x1 x2 x3 x4 x5 x6 x7 x8 x9) none (Option.casesOn (motive := fun _ => Option AV) (decN 32 l) none fun _ => (pwRun [wideA (.ofNat x0) (.ofNat x1) (.ofNat x2) (.ofNat x3) (.ofNat x4) (.ofNat x5) (.ofNat x6) (.ofNat x7) (.ofNat x8) (.ofNat x9), .agg l]).map (·.1))
  | _ => none
theorem pwS_some {args : List AV} {r : AV} (h : pwS args = some r) : ∃ x0 x1 x2 x3 x4 x5 x6 x7 x8 x9 : Nat, ∃ E l, args = [wideA (.ofNat x0) (.ofNat x1) (.ofNat x2) (.ofNat x3) (.ofNat x4) (.ofNat x5) (.ofNat x6) (.ofNat x7) (.ofNat x8) (.ofNat x9), .agg l] ∧ N10 x0 x1 x2 x3 x4 x5 x6 x7 x8 x9 ∧ decN 32 l = some E ∧ (pwRun args).map (·.1) = some r := by
  unfold pwS at h
  split at h
  · next x0 x1 x2 x3 x4 x5 x6 x7 x8 x9 l =>
    cases hb : n10B x0 x1 x2 x3 x4 x5 x6 x7 x8 x9 with
    | false => rw [hb] at h; cases h
    | true =>
      rw [hb] at h
      cases hd : decN 32 l with
      | none => rw [hd] at h; cases h
      | some E => rw [hd] at h; exact ⟨x0, x1, x2, x3, x4, x5, x6, x7, x8, x9, E, l, rfl, (n10B_iff x0 x1 x2 x3 x4 x5 x6 x7 x8 x9).1 hb, hd, h⟩
  · cases h
theorem pw_c : PlainC Try.prog 59 pwS := by
  refine ⟨fun l r h => ?_, fun l r h => ?_⟩ <;> obtain ⟨x0, x1, x2, x3, x4, x5, x6, x7, x8, x9, E, l, rfl, hn, hd, hr⟩ := pwS_some h <;> obtain ⟨rfl, hE⟩ := enc_decN hd <;> obtain ⟨o0, o1, o2, o3, o4, o5, o6, o7, o8, o9, m, _, hm⟩ := pw_at hE hn <;> rw [hm] at hr <;> cases hr
  · refine ⟨?_, rfl⟩
    show (AV.plain (wideA _ _ _ _ _ _ _ _ _ _) && (AV.plains (encL 32 E) && true)) = true
    rw [plains_enc]; rfl
  · exact ⟨_, _, m, okE specsPw specsPw_ok, hm⟩
def likeP (n0 n1 n2 n3 n4 n5 n6 n7 n8 n9 E : Nat) (v0 v1 v2 v3 v4 v5 v6 v7 v8 v9 : Int) : Prop := ∃ o0 o1 o2 o3 o4 o5 o6 o7 o8 o9 : Nat, (v0 = .ofNat o0 ∧ v1 = .ofNat o1 ∧ v2 = .ofNat o2 ∧ v3 = .ofNat o3 ∧ v4 = .ofNat o4 ∧ v5 = .ofNat o5 ∧ v6 = .ofNat o6 ∧ v7 = .ofNat o7 ∧ v8 = .ofNat o8 ∧ v9 = .ofNat o9) ∧ N10 o0 o1 o2 o3 o4 o5 o6 o7 o8 o9 ∧ val10 o0 o1 o2 o3 o4 o5 o6 o7 o8 o9 % pF = val10 n0 n1 n2 n3 n4 n5 n6 n7 n8 n9 ^ E % pF
def pwQ (x0 x1 x2 x3 x4 x5 x6 x7 x8 x9 : Int) (l : List AV) (K : Int → Int → Int → Int → Int → Int → Int → Int → Int → Int → Prop) : Prop :=
  ∃ n0 n1 n2 n3 n4 n5 n6 n7 n8 n9 : Nat, (x0 = .ofNat n0 ∧ x1 = .ofNat n1 ∧ x2 = .ofNat n2 ∧ x3 = .ofNat n3 ∧ x4 = .ofNat n4 ∧ x5 = .ofNat n5 ∧ x6 = .ofNat n6 ∧ x7 = .ofNat n7 ∧ x8 = .ofNat n8 ∧ x9 = .ofNat n9) ∧ N10 n0 n1 n2 n3 n4 n5 n6 n7 n8 n9 ∧ ∃ E, decN 32 l = some E ∧ ∀ v0 v1 v2 v3 v4 v5 v6 v7 v8 v9 : Int, likeP n0 n1 n2 n3 n4 n5 n6 n7 n8 n9 E v0 v1 v2 v3 v4 v5 v6 v7 v8 v9 → K v0 v1 v2 v3 v4 v5 v6 v7 v8 v9
def pwA : List AV → AMem → KP → Prop
  | [.agg [.int .i64 x0, .int .i64 x1, .int .i64 x2, .int .i64 x3, .int .i64 x4, .int .i64 x5, .int .i64 x6, .int .i64 x7, .int .i64 x8, .int .i64 x9], .agg l], m, K => pwQ x0 x1 x2 x3 x4 x5 x6 x7 x8 x9 l fun v0 v1 v2 v3 v4 v5 v6 v7 v8 v9 => K (wideA v0 v1 v2 v3 v4 v5 v6 v7 v8 v9) m
  | _, _, _ => False
theorem pwA_ok {args : List AV} {m : AMem} {K : KP} (h : pwA args m K) : ∃ r, pwS args = some r ∧ K r m := by
  unfold pwA at h
  split at h
  · next x0 x1 x2 x3 x4 x5 x6 x7 x8 x9 l =>
    obtain ⟨n0, n1, n2, n3, n4, n5, n6, n7, n8, n9, ⟨rfl, rfl, rfl, rfl, rfl, rfl, rfl, rfl, rfl, rfl⟩, hn, E, hd, hk⟩ := h
    obtain ⟨rfl, hE⟩ := enc_decN hd
    obtain ⟨o0, o1, o2, o3, o4, o5, o6, o7, o8, o9, m', h2, hm⟩ := pw_at hE hn
    refine ⟨wideA (.ofNat o0) (.ofNat o1) (.ofNat o2) (.ofNat o3) (.ofNat o4) (.ofNat o5) (.ofNat o6) (.ofNat o7) (.ofNat o8) (.ofNat o9), ?_, hk _ _ _ _ _ _ _ _ _ _ ⟨o0, o1, o2, o3, o4, o5, o6, o7, o8, o9, ⟨rfl, rfl, rfl, rfl, rfl, rfl, rfl, rfl, rfl, rfl⟩, h2.1, h2.2⟩⟩
    show Bool.casesOn (motive := fun _ => Option AV) (n10B n0 n1 n2 n3 n4 n5 n6 n7 n8 n9) none (Option.casesOn (motive := fun _ => Option AV) (decN 32 (encL 32 E)) none fun _ => (pwRun [wideA (.ofNat n0) (.ofNat n1) (.ofNat n2) (.ofNat n3) (.ofNat n4) (.ofNat n5) (.ofNat n6) (.ofNat n7) (.ofNat n8) (.ofNat n9), .agg (encL 32 E)]).map (·.1)) = _
    rw [(n10B_iff n0 n1 n2 n3 n4 n5 n6 n7 n8 n9).2 hn, hd, hm]; rfl
  · cases h

def specsRf : List (Nat × (List AV → Option AV)) := [(52, opS), (51, clS), (53, plS), (55, mnS), (57, tmS), (59, pwS)]
theorem specsRf_ok : ∀ p ∈ specsRf, FnOK Try.prog p.1 (orcS p.2) := by
  intro p hp
  simp only [specsRf, List.mem_cons, List.not_mem_nil, or_false] at hp
  rcases hp with rfl | rfl | rfl | rfl | rfl | rfl
  · exact plain_ok op_c
  · exact plain_ok cl_c
  · exact plain_ok pl_c
  · exact plain_ok mn_c
  · exact plain_ok tm_c
  · exact plain_ok pw_c
def waysRf : List (Nat × (List AV → AMem → KP → Prop)) := [(52, opA), (51, clA), (53, plA), (55, mnA), (57, tmA), (59, pwA)]
theorem pairedRf : Paired specsRf waysRf := .cons (fun _ _ _ h => opA_ok h) (.cons (fun _ _ _ h => clA_ok h) (.cons (fun _ _ _ h => plA_ok h) (.cons (fun _ _ _ h => mnA_ok h) (.cons (fun _ _ _ h => tmA_ok h) (.cons (fun _ _ _ h => pwA_ok h) .nil)))))
def pfT (l : List (Nat × (List AV → Option AV))) (f : Nat) : Bool := List.rec (motive := fun _ => Bool) false (fun p _ ih => Nat.beq f p.1 || ih) l
theorem pfT_some {l : List (Nat × (List AV → Option AV))} {g : Nat} (h : pfT l g = true) : ∃ s, lookS l g = some (orcS s) := by
  induction l with
  | nil => cases h
  | cons p l ih =>
    have h : (Nat.beq g p.1 || pfT l g) = true := h
    show ∃ s, Bool.casesOn (motive := fun _ => Option (List AV → AMem → R)) (Nat.beq g p.1) (lookS l g) (some (orcS p.2)) = some (orcS s)
    cases hb : Nat.beq g p.1 with
    | true => exact ⟨p.2, rfl⟩
    | false => rw [hb, Bool.false_or] at h; exact ih h
def cfRf : Wcfg := ⟨fun _ => false, pfT specsRf, fun _ => none⟩
theorem rAdd_wp (A B : Nat) (K : AV → Prop) : (opQ (encL 32 A) fun x0 x1 x2 x3 x4 x5 x6 x7 x8 x9 => opQ (encL 32 B) fun y0 y1 y2 y3 y4 y5 y6 y7 y8 y9 => carQ (iadd x0 y0) (iadd x1 y1) (iadd x2 y2) (iadd x3 y3) (iadd x4 y4) (iadd x5 y5) (iadd x6 y6) (iadd x7 y7) (iadd x8 y8) (iadd x9 y9) fun v0 v1 v2 v3 v4 v5 v6 v7 v8 v9 => clQ v0 v1 v2 v3 v4 v5 v6 v7 v8 v9 fun r => ∀ _ : AMem, K (.agg r)) =
    wpCall cfRf (pEnv specsRf) (owL waysRf) 1000 (.fn 18) [.agg (encL 32 A), .agg (encL 32 B)] ⟨0, .nil⟩ (fun r _ => ∀ _ : AMem, K r) := by kernel_rfl
theorem rSub_wp (A B : Nat) (K : AV → Prop) : (opQ (encL 32 A) fun x0 x1 x2 x3 x4 x5 x6 x7 x8 x9 => opQ (encL 32 B) fun y0 y1 y2 y3 y4 y5 y6 y7 y8 y9 => carQ (isub (iadd x0 (pM 0)) y0) (isub (iadd x1 (pM 1)) y1) (isub (iadd x2 (pM 2)) y2) (isub (iadd x3 (pM 3)) y3) (isub (iadd x4 (pM 4)) y4) (isub (iadd x5 (pM 5)) y5) (isub (iadd x6 (pM 6)) y6) (isub (iadd x7 (pM 7)) y7) (isub (iadd x8 (pM 8)) y8) (isub (iadd x9 (pM 9)) y9) fun v0 v1 v2 v3 v4 v5 v6 v7 v8 v9 => clQ v0 v1 v2 v3 v4 v5 v6 v7 v8 v9 fun r => ∀ _ : AMem, K (.agg r)) =
    wpCall cfRf (pEnv specsRf) (owL waysRf) 1000 (.fn 20) [.agg (encL 32 A), .agg (encL 32 B)] ⟨0, .nil⟩ (fun r _ => ∀ _ : AMem, K r) := by kernel_rfl
theorem rMul_wp (A B : Nat) (K : AV → Prop) : (opQ (encL 32 A) fun x0 x1 x2 x3 x4 x5 x6 x7 x8 x9 => opQ (encL 32 B) fun y0 y1 y2 y3 y4 y5 y6 y7 y8 y9 => tmQ x0 x1 x2 x3 x4 x5 x6 x7 x8 x9 y0 y1 y2 y3 y4 y5 y6 y7 y8 y9 fun v0 v1 v2 v3 v4 v5 v6 v7 v8 v9 => clQ v0 v1 v2 v3 v4 v5 v6 v7 v8 v9 fun r => ∀ _ : AMem, K (.agg r)) =
    wpCall cfRf (pEnv specsRf) (owL waysRf) 1000 (.fn 24) [.agg (encL 32 A), .agg (encL 32 B)] ⟨0, .nil⟩ (fun r _ => ∀ _ : AMem, K r) := by kernel_rfl
theorem rPow_wp (A E : Nat) (K : AV → Prop) : (opQ (encL 32 A) fun x0 x1 x2 x3 x4 x5 x6 x7 x8 x9 => pwQ x0 x1 x2 x3 x4 x5 x6 x7 x8 x9 (encL 32 E) fun v0 v1 v2 v3 v4 v5 v6 v7 v8 v9 => clQ v0 v1 v2 v3 v4 v5 v6 v7 v8 v9 fun r => ∀ _ : AMem, K (.agg r)) =
    wpCall cfRf (pEnv specsRf) (owL waysRf) 1000 (.fn 26) [.agg (encL 32 A), .agg (encL 32 E)] ⟨0, .nil⟩ (fun r _ => ∀ _ : AMem, K r) := by kernel_rfl
theorem pM_nat (i : Nat) : pM i = .ofNat (4 * (2 ^ (26 - i % 2) - 1 - Bool.casesOn (motive := fun _ => Nat) (Nat.beq i 0) 0 18)) := rfl
theorem plus_nat {x0 x1 x2 x3 x4 x5 x6 x7 x8 x9 y0 y1 y2 y3 y4 y5 y6 y7 y8 y9 : Nat} (hx : N10 x0 x1 x2 x3 x4 x5 x6 x7 x8 x9) (hy : N10 y0 y1 y2 y3 y4 y5 y6 y7 y8 y9) {K : Int → Int → Int → Int → Int → Int → Int → Int → Int → Int → Prop} (hk : ∀ n0 n1 n2 n3 n4 n5 n6 n7 n8 n9 : Nat, N10 n0 n1 n2 n3 n4 n5 n6 n7 n8 n9 → val10 n0 n1 n2 n3 n4 n5 n6 n7 n8 n9 % pF = (val10 x0 x1 x2 x3 x4 x5 x6 x7 x8 x9 + val10 y0 y1 y2 y3 y4 y5 y6 y7 y8 y9) % pF → K (.ofNat n0) (.ofNat n1) (.ofNat n2) (.ofNat n3) (.ofNat n4) (.ofNat n5) (.ofNat n6) (.ofNat n7) (.ofNat n8) (.ofNat n9)) :
    carQ (iadd (.ofNat x0) (.ofNat y0)) (iadd (.ofNat x1) (.ofNat y1)) (iadd (.ofNat x2) (.ofNat y2)) (iadd (.ofNat x3) (.ofNat y3)) (iadd (.ofNat x4) (.ofNat y4)) (iadd (.ofNat x5) (.ofNat y5)) (iadd (.ofNat x6) (.ofNat y6)) (iadd (.ofNat x7) (.ofNat y7)) (iadd (.ofNat x8) (.ofNat y8)) (iadd (.ofNat x9) (.ofNat y9)) K := by
  obtain ⟨a0, a1, a2, a3, a4, a5, a6, a7, a8, a9⟩ := hx
  obtain ⟨b0, b1, b2, b3, b4, b5, b6, b7, b8, b9⟩ := hy
  rw [iadd_nat (a := x0) (b := y0) (by omega), iadd_nat (a := x1) (b := y1) (by omega), iadd_nat (a := x2) (b := y2) (by omega), iadd_nat (a := x3) (b := y3) (by omega), iadd_nat (a := x4) (b := y4) (by omega), iadd_nat (a := x5) (b := y5) (by omega), iadd_nat (a := x6) (b := y6) (by omega), iadd_nat (a := x7) (b := y7) (by omega), iadd_nat (a := x8) (b := y8) (by omega), iadd_nat (a := x9) (b := y9) (by omega)]
  refine carQ_next (P' := fun n0 n1 n2 n3 n4 n5 n6 n7 n8 n9 => N10 n0 n1 n2 n3 n4 n5 n6 n7 n8 n9 ∧ val10 n0 n1 n2 n3 n4 n5 n6 n7 n8 n9 % pF = (val10 x0 x1 x2 x3 x4 x5 x6 x7 x8 x9 + val10 y0 y1 y2 y3 y4 y5 y6 y7 y8 y9) % pF) ⟨by omega, by omega, by omega, by omega, by omega, by omega, by omega, by omega, by omega, by omega⟩ (fun n0 n1 n2 n3 n4 n5 n6 n7 n8 n9 c0 c1 c2 c3 c4 c5 c6 c7 c8 c9 hc => ?_) fun n0 n1 n2 n3 n4 n5 n6 n7 n8 n9 h => hk _ _ _ _ _ _ _ _ _ _ h.1 h.2
  have v1 := car_val hc
  refine ⟨car_b hc ?_, ?_⟩
  · obtain ⟨⟨k0, m0, o0⟩, ⟨k1, m1⟩, ⟨k2, m2⟩, ⟨k3, m3⟩, ⟨k4, m4⟩, ⟨k5, m5⟩, ⟨k6, m6⟩, ⟨k7, m7⟩, ⟨k8, m8⟩, ⟨k9, m9⟩⟩ := hc
    omega
  · have e : val10 (x0 + y0) (x1 + y1) (x2 + y2) (x3 + y3) (x4 + y4) (x5 + y5) (x6 + y6) (x7 + y7) (x8 + y8) (x9 + y9) = val10 x0 x1 x2 x3 x4 x5 x6 x7 x8 x9 + val10 y0 y1 y2 y3 y4 y5 y6 y7 y8 y9 := by unfold val10; omega
    rw [← e, ← v1, Nat.add_mul_mod_self_right]
theorem minus_nat {x0 x1 x2 x3 x4 x5 x6 x7 x8 x9 y0 y1 y2 y3 y4 y5 y6 y7 y8 y9 : Nat} (hx : N10 x0 x1 x2 x3 x4 x5 x6 x7 x8 x9) (hy : N10 y0 y1 y2 y3 y4 y5 y6 y7 y8 y9) {K : Int → Int → Int → Int → Int → Int → Int → Int → Int → Int → Prop} (hk : ∀ n0 n1 n2 n3 n4 n5 n6 n7 n8 n9 : Nat, N10 n0 n1 n2 n3 n4 n5 n6 n7 n8 n9 → (val10 n0 n1 n2 n3 n4 n5 n6 n7 n8 n9 + val10 y0 y1 y2 y3 y4 y5 y6 y7 y8 y9) % pF = val10 x0 x1 x2 x3 x4 x5 x6 x7 x8 x9 % pF → K (.ofNat n0) (.ofNat n1) (.ofNat n2) (.ofNat n3) (.ofNat n4) (.ofNat n5) (.ofNat n6) (.ofNat n7) (.ofNat n8) (.ofNat n9)) :
    carQ (isub (iadd (.ofNat x0) (pM 0)) (.ofNat y0)) (isub (iadd (.ofNat x1) (pM 1)) (.ofNat y1)) (isub (iadd (.ofNat x2) (pM 2)) (.ofNat y2)) (isub (iadd (.ofNat x3) (pM 3)) (.ofNat y3)) (isub (iadd (.ofNat x4) (pM 4)) (.ofNat y4)) (isub (iadd (.ofNat x5) (pM 5)) (.ofNat y5)) (isub (iadd (.ofNat x6) (pM 6)) (.ofNat y6)) (isub (iadd (.ofNat x7) (pM 7)) (.ofNat y7)) (isub (iadd (.ofNat x8) (pM 8)) (.ofNat y8)) (isub (iadd (.ofNat x9) (pM 9)) (.ofNat y9)) K := by
  obtain ⟨a0, a1, a2, a3, a4, a5, a6, a7, a8, a9⟩ := hx
  obtain ⟨b0, b1, b2, b3, b4, b5, b6, b7, b8, b9⟩ := hy
  have e0 : pM 0 = .ofNat 268435380 := rfl
  rw [e0, iadd_nat (a := x0) (b := 268435380) (by omega), isub_nat (a := x0 + 268435380) (b := y0) (by omega) (by omega)]
  have e1 : pM 1 = .ofNat 134217724 := rfl
  rw [e1, iadd_nat (a := x1) (b := 134217724) (by omega), isub_nat (a := x1 + 134217724) (b := y1) (by omega) (by omega)]
  have e2 : pM 2 = .ofNat 268435452 := rfl
  rw [e2, iadd_nat (a := x2) (b := 268435452) (by omega), isub_nat (a := x2 + 268435452) (b := y2) (by omega) (by omega)]
  have e3 : pM 3 = .ofNat 134217724 := rfl
  rw [e3, iadd_nat (a := x3) (b := 134217724) (by omega), isub_nat (a := x3 + 134217724) (b := y3) (by omega) (by omega)]
  have e4 : pM 4 = .ofNat 268435452 := rfl
  rw [e4, iadd_nat (a := x4) (b := 268435452) (by omega), isub_nat (a := x4 + 268435452) (b := y4) (by omega) (by omega)]
  have e5 : pM 5 = .ofNat 134217724 := rfl
  rw [e5, iadd_nat (a := x5) (b := 134217724) (by omega), isub_nat (a := x5 + 134217724) (b := y5) (by omega) (by omega)]
  have e6 : pM 6 = .ofNat 268435452 := rfl
  rw [e6, iadd_nat (a := x6) (b := 268435452) (by omega), isub_nat (a := x6 + 268435452) (b := y6) (by omega) (by omega)]
  have e7 : pM 7 = .ofNat 134217724 := rfl
  rw [e7, iadd_nat (a := x7) (b := 134217724) (by omega), isub_nat (a := x7 + 134217724) (b := y7) (by omega) (by omega)]
  have e8 : pM 8 = .ofNat 268435452 := rfl
  rw [e8, iadd_nat (a := x8) (b := 268435452) (by omega), isub_nat (a := x8 + 268435452) (b := y8) (by omega) (by omega)]
  have e9 : pM 9 = .ofNat 134217724 := rfl
  rw [e9, iadd_nat (a := x9) (b := 134217724) (by omega), isub_nat (a := x9 + 134217724) (b := y9) (by omega) (by omega)]
  refine carQ_next (P' := fun n0 n1 n2 n3 n4 n5 n6 n7 n8 n9 => N10 n0 n1 n2 n3 n4 n5 n6 n7 n8 n9 ∧ (val10 n0 n1 n2 n3 n4 n5 n6 n7 n8 n9 + val10 y0 y1 y2 y3 y4 y5 y6 y7 y8 y9) % pF = val10 x0 x1 x2 x3 x4 x5 x6 x7 x8 x9 % pF) ⟨by omega, by omega, by omega, by omega, by omega, by omega, by omega, by omega, by omega, by omega⟩ (fun n0 n1 n2 n3 n4 n5 n6 n7 n8 n9 c0 c1 c2 c3 c4 c5 c6 c7 c8 c9 hc => ?_) fun n0 n1 n2 n3 n4 n5 n6 n7 n8 n9 h => hk _ _ _ _ _ _ _ _ _ _ h.1 h.2
  have v1 := car_val hc
  refine ⟨car_b hc ?_, ?_⟩
  · obtain ⟨⟨k0, m0, o0⟩, ⟨k1, m1⟩, ⟨k2, m2⟩, ⟨k3, m3⟩, ⟨k4, m4⟩, ⟨k5, m5⟩, ⟨k6, m6⟩, ⟨k7, m7⟩, ⟨k8, m8⟩, ⟨k9, m9⟩⟩ := hc
    omega
  · have e : val10 (x0 + 268435380 - y0) (x1 + 134217724 - y1) (x2 + 268435452 - y2) (x3 + 134217724 - y3) (x4 + 268435452 - y4) (x5 + 134217724 - y5) (x6 + 268435452 - y6) (x7 + 134217724 - y7) (x8 + 268435452 - y8) (x9 + 134217724 - y9) + val10 y0 y1 y2 y3 y4 y5 y6 y7 y8 y9 = val10 x0 x1 x2 x3 x4 x5 x6 x7 x8 x9 + 4 * pF := by unfold val10 pF; omega
    have e2 : val10 n0 n1 n2 n3 n4 n5 n6 n7 n8 n9 + val10 y0 y1 y2 y3 y4 y5 y6 y7 y8 y9 + c9 * pF = val10 x0 x1 x2 x3 x4 x5 x6 x7 x8 x9 + 4 * pF := by omega
    have e3 : (val10 n0 n1 n2 n3 n4 n5 n6 n7 n8 n9 + val10 y0 y1 y2 y3 y4 y5 y6 y7 y8 y9 + c9 * pF) % pF = (val10 x0 x1 x2 x3 x4 x5 x6 x7 x8 x9 + 4 * pF) % pF := by rw [e2]
    rw [Nat.add_mul_mod_self_right, Nat.add_mul_mod_self_right] at e3
    exact e3

theorem rAdd_c : PlainC Try.prog 18 (numS2 addN) := num2_c fun A B hA hB => by
  obtain ⟨R, hR⟩ : ∃ R, R = AV.agg (encL 32 (addN A B)) := ⟨_, rfl⟩
  have g := @run_of _ _ pairedRf specsRf_ok cfRf (fun _ h => pfT_some h) 18 1000 [.agg (encL 32 A), .agg (encL 32 B)] (fun r => r = R)
  rw [← rAdd_wp] at g
  obtain ⟨r, m, h, rfl⟩ := g (opQ_nat hA fun x0 x1 x2 x3 x4 x5 x6 x7 x8 x9 h1 h2 => opQ_nat hB fun y0 y1 y2 y3 y4 y5 y6 y7 y8 y9 h3 h4 => plus_nat h1 h3 fun n0 n1 n2 n3 n4 n5 n6 n7 n8 n9 h5 h6 => clQ_nat h5 fun _ => by rw [h6, Nat.add_mod, h2, h4, ← Nat.add_mod, hR]; rfl)
  rw [← hR]
  exact ⟨_, _, m, okE specsRf specsRf_ok, h⟩

theorem rMul_c : PlainC Try.prog 24 (numS2 mulN) := num2_c fun A B hA hB => by
  obtain ⟨R, hR⟩ : ∃ R, R = AV.agg (encL 32 (mulN A B)) := ⟨_, rfl⟩
  have g := @run_of _ _ pairedRf specsRf_ok cfRf (fun _ h => pfT_some h) 24 1000 [.agg (encL 32 A), .agg (encL 32 B)] (fun r => r = R)
  rw [← rMul_wp] at g
  obtain ⟨r, m, h, rfl⟩ := g (opQ_nat hA fun x0 x1 x2 x3 x4 x5 x6 x7 x8 x9 h1 h2 => opQ_nat hB fun y0 y1 y2 y3 y4 y5 y6 y7 y8 y9 h3 h4 => tm_nat h1 h3 fun n0 n1 n2 n3 n4 n5 n6 n7 n8 n9 h5 h6 => clQ_nat h5 fun _ => by rw [h6, Nat.mul_mod, h2, h4, ← Nat.mul_mod, hR]; rfl)
  rw [← hR]
  exact ⟨_, _, m, okE specsRf specsRf_ok, h⟩

theorem sub_of {z y x A B : Nat} (h : (z + y) % pF = x % pF) (hx : x % pF = A % pF) (hy : y % pF = B % pF) : z % pF = subN A B := by
  unfold subN
  have e1 : (z % pF + B % pF) % pF = A % pF := by rw [← hy, ← Nat.add_mod, h, hx]
  have l1 : z % pF < pF := Nat.mod_lt _ (by decide)
  have l2 : B % pF < pF := Nat.mod_lt _ (by decide)
  have l3 : A % pF < pF := Nat.mod_lt _ (by decide)
  generalize z % pF = a at *
  generalize B % pF = b at *
  generalize A % pF = c at *
  simp only [pF] at *
  omega

theorem rSub_c : PlainC Try.prog 20 (numS2 subN) := num2_c fun A B hA hB => by
  obtain ⟨R, hR⟩ : ∃ R, R = AV.agg (encL 32 (subN A B)) := ⟨_, rfl⟩
  have g := @run_of _ _ pairedRf specsRf_ok cfRf (fun _ h => pfT_some h) 20 1000 [.agg (encL 32 A), .agg (encL 32 B)] (fun r => r = R)
  rw [← rSub_wp] at g
  obtain ⟨r, m, h, rfl⟩ := g (opQ_nat hA fun x0 x1 x2 x3 x4 x5 x6 x7 x8 x9 h1 h2 => opQ_nat hB fun y0 y1 y2 y3 y4 y5 y6 y7 y8 y9 h3 h4 => minus_nat h1 h3 fun n0 n1 n2 n3 n4 n5 n6 n7 n8 n9 h5 h6 => clQ_nat h5 fun _ => by rw [sub_of h6 h2 h4, hR])
  rw [← hR]
  exact ⟨_, _, m, okE specsRf specsRf_ok, h⟩

theorem rPow_c : PlainC Try.prog 26 (numS2 powM) := num2_c fun A B hA hB => by
  obtain ⟨R, hR⟩ : ∃ R, R = AV.agg (encL 32 (powM A B)) := ⟨_, rfl⟩
  have g := @run_of _ _ pairedRf specsRf_ok cfRf (fun _ h => pfT_some h) 26 1000 [.agg (encL 32 A), .agg (encL 32 B)] (fun r => r = R)
  rw [← rPow_wp] at g
  obtain ⟨r, m, h, rfl⟩ := g (opQ_nat hA fun x0 x1 x2 x3 x4 x5 x6 x7 x8 x9 h1 h2 => ⟨x0, x1, x2, x3, x4, x5, x6, x7, x8, x9, ⟨rfl, rfl, rfl, rfl, rfl, rfl, rfl, rfl, rfl, rfl⟩, h1, B, decN_enc hB, fun v0 v1 v2 v3 v4 v5 v6 v7 v8 v9 ⟨o0, o1, o2, o3, o4, o5, o6, o7, o8, o9, ⟨t0, t1, t2, t3, t4, t5, t6, t7, t8, t9⟩, h5, h6⟩ => by
    subst t0 t1 t2 t3 t4 t5 t6 t7 t8 t9
    exact clQ_nat h5 fun _ => by
      rw [h6, Nat.pow_mod, h2, ← Nat.pow_mod, hR]; rfl⟩)
  rw [← hR]
  exact ⟨_, _, m, okE specsRf specsRf_ok, h⟩
end
end Ev
