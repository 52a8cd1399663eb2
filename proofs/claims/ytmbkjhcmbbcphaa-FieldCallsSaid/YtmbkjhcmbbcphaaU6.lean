/-
  Powers to any exponent: (words).power as an oracle, Pow, Inv. Conditions: numbers of 32 bytes.
-/
import Derived.Test.YtmbkjhcmbbcphaaU5
import Derived.Test.YtmbkjhcmbbcphaaSs
namespace Ev
open Go Go.Proofs
noncomputable section

def powRun (args : List AV) : R := evCall (pEnv specs3) (999 + 1) (.fn 58) args ⟨0, .nil⟩
theorem power_at {w0 w1 w2 w3 w4 : Nat} (hw : lt5 w0 w1 w2 w3 w4 = true) {X : List AV} {E : Nat} (hd : decN 32 X = some E) :
    ∃ d0 d1 d2 d3 d4 : Nat, ∃ m, (lt5 d0 d1 d2 d3 d4 = true ∧ val5 d0 d1 d2 d3 d4 % pF = val5 w0 w1 w2 w3 w4 ^ E % pF) ∧ powRun [wordsA (.ofNat w0) (.ofNat w1) (.ofNat w2) (.ofNat w3) (.ofNat w4), .agg X] = some (wordsA (.ofNat d0) (.ofNat d1) (.ofNat d2) (.ofNat d3) (.ofNat d4), m) := by
  obtain ⟨b0, b1, b2, b3, b4, b5, b6, b7, l0, V0, e0, ⟨h0, h1, h2, h3, h4, h5, h6, h7⟩, d0, v0⟩ := decN_eight (n := 24) hd
  obtain ⟨b8, b9, b10, b11, b12, b13, b14, b15, l1, V1, e1, ⟨h8, h9, h10, h11, h12, h13, h14, h15⟩, d1, v1⟩ := decN_eight (n := 16) d0
  obtain ⟨b16, b17, b18, b19, b20, b21, b22, b23, l2, V2, e2, ⟨h16, h17, h18, h19, h20, h21, h22, h23⟩, d2, v2⟩ := decN_eight (n := 8) d1
  obtain ⟨b24, b25, b26, b27, b28, b29, b30, b31, l3, V3, e3, ⟨h24, h25, h26, h27, h28, h29, h30, h31⟩, d3, v3⟩ := decN_eight (n := 0) d2
  obtain ⟨e4, v4⟩ := decN_zero d3
  have hX : X = bytesA (.ofNat b0) (.ofNat b1) (.ofNat b2) (.ofNat b3) (.ofNat b4) (.ofNat b5) (.ofNat b6) (.ofNat b7) (.ofNat b8) (.ofNat b9) (.ofNat b10) (.ofNat b11) (.ofNat b12) (.ofNat b13) (.ofNat b14) (.ofNat b15) (.ofNat b16) (.ofNat b17) (.ofNat b18) (.ofNat b19) (.ofNat b20) (.ofNat b21) (.ofNat b22) (.ofNat b23) (.ofNat b24) (.ofNat b25) (.ofNat b26) (.ofNat b27) (.ofNat b28) (.ofNat b29) (.ofNat b30) (.ofNat b31) := by rw [e0, e1, e2, e3, e4]; rfl
  have hE : L4 (eight b24 b25 b26 b27 b28 b29 b30 b31) (eight b16 b17 b18 b19 b20 b21 b22 b23) (eight b8 b9 b10 b11 b12 b13 b14 b15) (eight b0 b1 b2 b3 b4 b5 b6 b7) = E := by
    unfold L4
    omega
  obtain ⟨r, m, h, d0, d1, d2, d3, d4, hr, hl, hv⟩ := WC_ok (power_all hw h0 h1 h2 h3 h4 h5 h6 h7 h8 h9 h10 h11 h12 h13 h14 h15 h16 h17 h18 h19 h20 h21 h22 h23 h24 h25 h26 h27 h28 h29 h30 h31 hX (Q := fun r => ∃ d0 d1 d2 d3 d4 : Nat, r = wordsA (.ofNat d0) (.ofNat d1) (.ofNat d2) (.ofNat d3) (.ofNat d4) ∧ lt5 d0 d1 d2 d3 d4 = true ∧ val5 d0 d1 d2 d3 d4 % pF = val5 w0 w1 w2 w3 w4 ^ E % pF)
    fun d0 d1 d2 d3 d4 hl hv => ⟨d0, d1, d2, d3, d4, rfl, hl, by rw [hE] at hv; exact hv⟩)
  subst hr
  exact ⟨d0, d1, d2, d3, d4, m, ⟨hl, hv⟩, h⟩

def powXS : List AV → Option AV
  | [.agg [.int .u64 (.ofNat x0), .int .u64 (.ofNat x1), .int .u64 (.ofNat x2), .int .u64 (.ofNat x3), .int .u64 (.ofNat x4)], .agg l] =>
    Bool.casesOn (motive := fun _ => Option AV) (lt5 x0 x1 x2 x3 x4) none (Option.casesOn (motive := fun _ => Option AV) (decN 32 l) none fun _ => (powRun [wordsA (.ofNat x0) (.ofNat x1) (.ofNat x2) (.ofNat x3) (.ofNat x4), .agg l]).map (·.1))
  | _ => none
theorem powXS_some {args : List AV} {r : AV} (h : powXS args = some r) : ∃ w0 w1 w2 w3 w4 E : Nat, ∃ l, args = [wordsA (.ofNat w0) (.ofNat w1) (.ofNat w2) (.ofNat w3) (.ofNat w4), .agg l] ∧ lt5 w0 w1 w2 w3 w4 = true ∧ decN 32 l = some E ∧ (powRun args).map (·.1) = some r := by
  unfold powXS at h
  split at h
  · next x0 x1 x2 x3 x4 l =>
    cases hb : lt5 x0 x1 x2 x3 x4 with
    | false => rw [hb] at h; cases h
    | true =>
      rw [hb] at h
      cases hd : decN 32 l with
      | none => rw [hd] at h; cases h
      | some E =>
        rw [hd] at h
        exact ⟨x0, x1, x2, x3, x4, E, l, rfl, hb, hd, h⟩
  · cases h
theorem powX_c : PlainC Try.prog 58 powXS := by
  refine ⟨fun l r h => ?_, fun l r h => ?_⟩ <;> obtain ⟨w0, w1, w2, w3, w4, E, X, rfl, hw, hd, hr⟩ := powXS_some h <;> obtain ⟨d0, d1, d2, d3, d4, m, _, hm⟩ := power_at hw hd <;> rw [hm] at hr <;> cases hr
  · refine ⟨?_, rfl⟩
    show (AV.plain (wordsA _ _ _ _ _) && (AV.plains X && true)) = true
    rw [(enc_decN hd).1, plains_enc]; rfl
  · exact ⟨_, _, m, okE specs3 specs3_ok, hm⟩

def wordsLike (x0 x1 x2 x3 x4 : Int) (E : Nat) (c0 c1 c2 c3 c4 : Int) : Prop :=
  ∃ d0 d1 d2 d3 d4 : Nat, (c0 = .ofNat d0 ∧ c1 = .ofNat d1 ∧ c2 = .ofNat d2 ∧ c3 = .ofNat d3 ∧ c4 = .ofNat d4) ∧ lt5 d0 d1 d2 d3 d4 = true ∧ val5 d0 d1 d2 d3 d4 % pF = val5 x0.toNat x1.toNat x2.toNat x3.toNat x4.toNat ^ E % pF
def powXW (x0 x1 x2 x3 x4 : Int) (l : List AV) (K : Int → Int → Int → Int → Int → Prop) : Prop :=
  (inW x0 ∧ inW x1 ∧ inW x2 ∧ inW x3 ∧ inW x4) ∧ ∃ E, decN 32 l = some E ∧ ∀ c0 c1 c2 c3 c4 : Int, wordsLike x0 x1 x2 x3 x4 E c0 c1 c2 c3 c4 → K c0 c1 c2 c3 c4
def powXA : List AV → AMem → KP → Prop
  | [.agg [.int .u64 x0, .int .u64 x1, .int .u64 x2, .int .u64 x3, .int .u64 x4], .agg l], m, K => powXW x0 x1 x2 x3 x4 l fun c0 c1 c2 c3 c4 => K (wordsA c0 c1 c2 c3 c4) m
  | _, _, _ => False
theorem powXA_ok {args : List AV} {m : AMem} {K : KP} (h : powXA args m K) : ∃ r, powXS args = some r ∧ K r m := by
  unfold powXA at h
  split at h
  · next x0 x1 x2 x3 x4 l =>
    obtain ⟨⟨h0, h1, h2, h3, h4⟩, E, hd, hk⟩ := h
    obtain ⟨x0, rfl, g0⟩ := inW_nat h0
    obtain ⟨x1, rfl, g1⟩ := inW_nat h1
    obtain ⟨x2, rfl, g2⟩ := inW_nat h2
    obtain ⟨x3, rfl, g3⟩ := inW_nat h3
    obtain ⟨x4, rfl, g4⟩ := inW_nat h4
    obtain ⟨d0, d1, d2, d3, d4, m', ⟨hl, hv⟩, hm⟩ := power_at (lt5_of g0 g1 g2 g3 g4) hd
    refine ⟨wordsA (.ofNat d0) (.ofNat d1) (.ofNat d2) (.ofNat d3) (.ofNat d4), ?_, hk _ _ _ _ _ ⟨d0, d1, d2, d3, d4, ⟨rfl, rfl, rfl, rfl, rfl⟩, hl, hv⟩⟩
    show Bool.casesOn (motive := fun _ => Option AV) (lt5 x0 x1 x2 x3 x4) none (Option.casesOn (motive := fun _ => Option AV) (decN 32 l) none fun _ => (powRun [wordsA (.ofNat x0) (.ofNat x1) (.ofNat x2) (.ofNat x3) (.ofNat x4), .agg l]).map (·.1)) = _
    rw [lt5_of g0 g1 g2 g3 g4, hd, hm]
    rfl
  · cases h

def specsX : List (Nat × (List AV → Option AV)) := [(49, openS), (50, closeS), (58, powXS)]
theorem specsX_ok : ∀ p ∈ specsX, FnOK Try.prog p.1 (orcS p.2) := by
  intro p hp
  simp only [specsX, List.mem_cons, List.not_mem_nil, or_false] at hp
  rcases hp with rfl | rfl | rfl
  · exact plain_ok open_c
  · exact plain_ok close_c
  · exact plain_ok powX_c
def waysX : List (Nat × (List AV → AMem → KP → Prop)) := [(49, openA), (50, closeA), (58, powXA)]
theorem pairedX : Paired specsX waysX := .cons (fun _ _ _ h => openA_ok h) (.cons (fun _ _ _ h => closeA_ok h) (.cons (fun _ _ _ h => powXA_ok h) .nil))
def xP (f : Nat) : Bool := Nat.beq f 49 || (Nat.beq f 50 || Nat.beq f 58)
def cfX : Wcfg := ⟨fun _ => false, xP, fun _ => none⟩
theorem pfX (g : Nat) (h : xP g = true) : ∃ s, lookS specsX g = some (orcS s) := by
  simp only [xP, Bool.or_eq_true] at h
  rcases h with h | h | h
  all_goals (have := Nat.eq_of_beq_eq_true h; subst this; exact ⟨_, rfl⟩)
theorem powX_wp (A E : Nat) (K : AV → Prop) : (openQ (encL 32 A) fun x0 x1 x2 x3 x4 => powXW x0 x1 x2 x3 x4 (encL 32 E) fun c0 c1 c2 c3 c4 => closeQ c0 c1 c2 c3 c4 fun r => ∀ _ : AMem, K r) =
    wpCall cfX (pEnv specsX) (owL waysX) 1000 (.fn 25) [.agg (encL 32 A), .agg (encL 32 E)] ⟨0, .nil⟩ (fun r _ => ∀ _ : AMem, K r) := by kernel_rfl

/-- the power's rest -/
def powM (A E : Nat) : Nat := A ^ E % pF
theorem of_lt5' {c0 c1 c2 c3 c4 : Nat} (h : lt5 c0 c1 c2 c3 c4 = true) : c0 < B63 ∧ c1 < B63 ∧ c2 < B63 ∧ c3 < B63 ∧ c4 < B63 := by
  simp only [lt5, Bool.and_eq_true, Nat.blt_eq, B53] at h
  simp only [B63]
  omega
theorem pow_c : PlainC Try.prog 25 (numS2 powM) := num2_c fun A E hA hE => by
  have hk : openQ (encL 32 A) fun x0 x1 x2 x3 x4 => powXW x0 x1 x2 x3 x4 (encL 32 E) fun c0 c1 c2 c3 c4 => closeQ c0 c1 c2 c3 c4 fun r => ∀ _ : AMem, r = .agg (encL 32 (powM A E)) :=
    openQ_nat hA fun x0 x1 x2 x3 x4 h0 h1 h2 h3 h4 hx => by
      refine ⟨⟨inW_of (by simp only [B53]; omega), inW_of (by simp only [B53]; omega), inW_of (by simp only [B53]; omega), inW_of (by simp only [B53]; omega), inW_of (by simp only [B53]; omega)⟩, E, decN_enc hE, fun c0 c1 c2 c3 c4 hc => ?_⟩
      obtain ⟨d0, d1, d2, d3, d4, ⟨rfl, rfl, rfl, rfl, rfl⟩, hl, hv⟩ := hc
      obtain ⟨j0, j1, j2, j3, j4⟩ := of_lt5' hl
      refine closeQ_nat j0 j1 j2 j3 j4 fun _ => ?_
      rw [hv]
      show AV.agg (encL 32 (val5 x0 x1 x2 x3 x4 ^ E % pF)) = _
      rw [hx]; rfl
  obtain ⟨r, m, h, rfl⟩ := run_of pairedX specsX_ok (cf := cfX) pfX (K := fun r => r = .agg (encL 32 (powM A E))) (Eq.mp (powX_wp A E _) hk)
  exact ⟨_, _, m, okE specsX specsX_ok, h⟩
end
end Ev
