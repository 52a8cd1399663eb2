/-
  Powers of numbers to exponents that are named. Conditions: numbers of 32 bytes.
-/
import Derived.Test.YtedpakhefdlbbaaS2
import Derived.Test.YtedpakhefdlbbaaPOne
import Derived.Test.YtedpakhefdlbbaaPPair
namespace Ev
open Go Go.Proofs
noncomputable section

def powW (es : List (List Nat)) (x0 x1 x2 x3 x4 : Int) (l : List AV) (K : Int → Int → Int → Int → Int → Prop) : Prop :=
  (inW x0 ∧ inW x1 ∧ inW x2 ∧ inW x3 ∧ inW x4) ∧ ∃ e, (e ∈ es ∧ AV.agg l = num e) ∧ ∀ c0 c1 c2 c3 c4 : Int, wordsA c0 c1 c2 c3 c4 = powR (bitsOf e) x0.toNat x1.toNat x2.toNat x3.toNat x4.toNat → K c0 c1 c2 c3 c4
def powA (es : List (List Nat)) : List AV → AMem → KP → Prop
  | [.agg [.int .u64 x0, .int .u64 x1, .int .u64 x2, .int .u64 x3, .int .u64 x4], .agg l], m, K => powW es x0 x1 x2 x3 x4 l fun c0 c1 c2 c3 c4 => K (wordsA c0 c1 c2 c3 c4) m
  | _, _, _ => False
theorem num_inj {e e' : List Nat} (h : num e = num e') : e = e' := by
  simp only [num, AV.agg.injEq] at h
  induction e generalizing e' with
  | nil => cases e' with
    | nil => rfl
    | cons a l => simp at h
  | cons a l ih => cases e' with
    | nil => simp at h
    | cons b l' =>
      simp only [List.map_cons, List.cons.injEq, AV.int.injEq, true_and] at h
      rw [ih h.2]
      rw [Int.ofNat.inj h.1]
theorem eqBytes_of : ∀ {l : List AV} {e : List Nat}, AV.agg l = num e → eqBytes l e = true
  | [], [], _ => rfl
  | [], _ :: _, h => by simp [num] at h
  | _ :: _, [], h => by simp [num] at h
  | a :: l, n :: r, h => by
    simp only [num, List.map_cons, AV.agg.injEq, List.cons.injEq] at h
    obtain ⟨rfl, h2⟩ := h
    have ih := eqBytes_of (l := l) (e := r) (by rw [num, h2])
    show Bool.casesOn (motive := fun _ => Bool) (byteIs (.int .u8 (.ofNat n)) n) false (eqBytes l r) = true
    have : byteIs (.int .u8 (.ofNat n)) n = true := Nat.beq_refl n
    rw [this]; exact ih
theorem findE_of {l : List AV} {es : List (List Nat)} {e : List Nat} (he : e ∈ es) (hl : AV.agg l = num e) : findE l es = some (bitsOf e) := by
  induction es with
  | nil => cases he
  | cons e' es ih =>
    show Bool.casesOn (motive := fun _ => Option (List Bool)) (eqBytes l e') (findE l es) (some (bitsOf e')) = _
    cases hb : eqBytes l e' with
    | true =>
      have := num_inj ((eqBytes_eq hb).symm.trans hl)
      subst this; rfl
    | false =>
      rcases List.mem_cons.1 he with rfl | he
      · rw [eqBytes_of hl] at hb; cases hb
      · exact ih he
theorem powR_ind {x0 x1 x2 x3 x4 : Nat} (hx : lt5 x0 x1 x2 x3 x4 = true) (b : List Bool) {P : AV → Prop}
    (h : ∀ d0 d1 d2 d3 d4, lt5 d0 d1 d2 d3 d4 = true → val5 d0 d1 d2 d3 d4 % pF = val5 x0 x1 x2 x3 x4 ^ bval b % pF → P (wordsA (.ofNat d0) (.ofNat d1) (.ofNat d2) (.ofNat d3) (.ofNat d4))) : P (powR b x0 x1 x2 x3 x4) := by
  unfold powR
  rw [powN_map P]
  refine powN_val hx b 1 0 0 0 0 rfl fun d0 d1 d2 d3 d4 hd hv => h d0 d1 d2 d3 d4 hd ?_
  rw [hv, show val5 1 0 0 0 0 = 1 from rfl, Nat.one_pow, Nat.one_mul]
theorem powA_ok {es : List (List Nat)} {args : List AV} {m : AMem} {K : KP} (h : powA es args m K) : ∃ r, powS es args = some r ∧ K r m := by
  unfold powA at h
  split at h
  · next x0 x1 x2 x3 x4 l =>
    obtain ⟨⟨h0, h1, h2, h3, h4⟩, e, ⟨he, hl⟩, hk⟩ := h
    obtain ⟨x0, rfl, g0⟩ := inW_nat h0
    obtain ⟨x1, rfl, g1⟩ := inW_nat h1
    obtain ⟨x2, rfl, g2⟩ := inW_nat h2
    obtain ⟨x3, rfl, g3⟩ := inW_nat h3
    obtain ⟨x4, rfl, g4⟩ := inW_nat h4
    have hr : powS es [wordsA (.ofNat x0) (.ofNat x1) (.ofNat x2) (.ofNat x3) (.ofNat x4), .agg l] = some (powR (bitsOf e) x0 x1 x2 x3 x4) := by
      show Bool.casesOn (motive := fun _ => Option AV) (lt5 x0 x1 x2 x3 x4) none (Option.casesOn (motive := fun _ => Option AV) (findE l es) none fun b => some (powR b x0 x1 x2 x3 x4)) = _
      rw [lt5_of g0 g1 g2 g3 g4, findE_of he hl]
    refine ⟨_, hr, ?_⟩
    obtain ⟨R, hR⟩ : ∃ R, powR (bitsOf e) x0 x1 x2 x3 x4 = R := ⟨_, rfl⟩
    have hx : powR (bitsOf e) x0 x1 x2 x3 x4 = R → K (powR (bitsOf e) x0 x1 x2 x3 x4) m :=
      powR_ind (lt5_of g0 g1 g2 g3 g4) (bitsOf e) (P := fun v => v = R → K v m) fun d0 d1 d2 d3 d4 _ _ hv => hk _ _ _ _ _ (hv.trans hR.symm)
    exact hx hR
  · cases h

def esS : List (List Nat) := [eOne, ePair, eInv, eRoot, eTwo]
theorem esS_ok : ∀ e ∈ esS, WPow e := by
  intro e he
  simp only [esS, List.mem_cons, List.not_mem_nil, or_false] at he
  rcases he with rfl | rfl | rfl | rfl | rfl
  · exact powOne_wp
  · exact powPair_wp
  · exact powInv_wp
  · exact powRoot_wp
  · exact powTwo_wp
def specsP : List (Nat × (List AV → Option AV)) := [(35, openS), (36, closeS), (37, powS esS)]
theorem specsP_ok : ∀ p ∈ specsP, FnOK Try.prog p.1 (orcS p.2) := by
  intro p hp
  simp only [specsP, List.mem_cons, List.not_mem_nil, or_false] at hp
  rcases hp with rfl | rfl | rfl
  · exact plain_ok open_c
  · exact plain_ok close_c
  · exact plain_ok (powS_c esS_ok)
def waysP : List (Nat × (List AV → AMem → KP → Prop)) := [(35, openA), (36, closeA), (37, powA esS)]
theorem pairedP : Paired specsP waysP := .cons (fun _ _ _ h => openA_ok h) (.cons (fun _ _ _ h => closeA_ok h) (.cons (fun _ _ _ h => powA_ok h) .nil))
def pP (f : Nat) : Bool := Nat.beq f 35 || (Nat.beq f 36 || Nat.beq f 37)
def cfP : Wcfg := ⟨fun _ => false, pP, fun _ => none⟩
theorem pfP (g : Nat) (h : pP g = true) : ∃ s, lookS specsP g = some (orcS s) := by
  simp only [pP, Bool.or_eq_true] at h
  rcases h with h | h | h
  all_goals (have := Nat.eq_of_beq_eq_true h; subst this; exact ⟨_, rfl⟩)
theorem pow_wp (A E : Nat) (K : AV → Prop) : (openQ (encL 32 A) fun x0 x1 x2 x3 x4 => powW esS x0 x1 x2 x3 x4 (encL 32 E) fun c0 c1 c2 c3 c4 => closeQ c0 c1 c2 c3 c4 fun r => ∀ _ : AMem, K r) =
    wpCall cfP (pEnv specsP) (owL waysP) 1000 (.fn 16) [.agg (encL 32 A), .agg (encL 32 E)] ⟨0, .nil⟩ (fun r _ => ∀ _ : AMem, K r) := by kernel_rfl

/-- which exponents, with their bytes -/
theorem pow_at {A E : Nat} {e : List Nat} (hA : A < 256 ^ 32) (he : e ∈ esS) (hE : AV.agg (encL 32 E) = num e) (hv : bval (bitsOf e) = E) : ∃ m, evCall (pEnv specsP) 1000 (.fn 16) [.agg (encL 32 A), .agg (encL 32 E)] ⟨0, .nil⟩ = some (.agg (encL 32 (A ^ E % pF)), m) := by
  have hk : openQ (encL 32 A) fun x0 x1 x2 x3 x4 => powW esS x0 x1 x2 x3 x4 (encL 32 E) fun c0 c1 c2 c3 c4 => closeQ c0 c1 c2 c3 c4 fun r => ∀ _ : AMem, r = .agg (encL 32 (A ^ E % pF)) :=
    openQ_nat hA fun x0 x1 x2 x3 x4 h0 h1 h2 h3 h4 hx => by
      have hlt := lt5_open h0 h1 h2 h3 h4
      refine ⟨⟨inW_of (by simp only [B53]; omega), inW_of (by simp only [B53]; omega), inW_of (by simp only [B53]; omega), inW_of (by simp only [B53]; omega), inW_of (by simp only [B53]; omega)⟩, e, ⟨he, hE⟩, fun c0 c1 c2 c3 c4 hc => ?_⟩
      have hq : wordsA c0 c1 c2 c3 c4 = powR (bitsOf e) x0 x1 x2 x3 x4 → closeQ c0 c1 c2 c3 c4 fun r => ∀ _ : AMem, r = .agg (encL 32 (A ^ E % pF)) :=
        powR_ind hlt (bitsOf e) (P := fun v => wordsA c0 c1 c2 c3 c4 = v → closeQ c0 c1 c2 c3 c4 fun r => ∀ _ : AMem, r = .agg (encL 32 (A ^ E % pF))) fun d0 d1 d2 d3 d4 hd hvd hcd => by
          obtain ⟨rfl, rfl, rfl, rfl, rfl⟩ := wordsA_inj hcd
          obtain ⟨j0, j1, j2, j3, j4⟩ := of_lt5 hd
          refine closeQ_nat j0 j1 j2 j3 j4 fun _ => ?_
          rw [hvd, hx, hv]
      exact hq hc
  obtain ⟨r, m, h, rfl⟩ := run_of pairedP specsP_ok (cf := cfP) pfP (K := fun r => r = .agg (encL 32 (A ^ E % pF))) (Eq.mp (pow_wp A E _) hk)
  exact ⟨m, h⟩

def isE (E : Nat) : Bool := Nat.beq E 1 || Nat.beq E 2
def powES : List AV → Option AV
  | [.agg l, .agg l'] => Option.casesOn (motive := fun _ => Option AV) (decN 32 l) none fun A => Option.casesOn (motive := fun _ => Option AV) (decN 32 l') none fun E =>
    Bool.casesOn (motive := fun _ => Option AV) (isE E) none (some (.agg (encL 32 (A ^ E % pF))))
  | _ => none
def powQ (l l' : List AV) (K : List AV → Prop) : Prop := ∃ A E, (decN 32 l = some A ∧ decN 32 l' = some E) ∧ isE E = true ∧ K (encL 32 (A ^ E % pF))
def powEA : List AV → AMem → KP → Prop
  | [.agg l, .agg l'], m, K => powQ l l' fun r => K (.agg r) m
  | _, _, _ => False
theorem powEA_ok {args : List AV} {m : AMem} {K : KP} (h : powEA args m K) : ∃ r, powES args = some r ∧ K r m := by
  unfold powEA at h
  split at h
  · next l l' =>
    obtain ⟨A, E, ⟨hd, hd'⟩, hE, hk⟩ := h
    refine ⟨_, ?_, hk⟩
    show Option.casesOn (motive := fun _ => Option AV) (decN 32 l) none _ = _
    rw [hd]
    show Option.casesOn (motive := fun _ => Option AV) (decN 32 l') none _ = _
    rw [hd']
    show Bool.casesOn (motive := fun _ => Option AV) (isE E) none _ = _
    rw [hE]
  · cases h
theorem powE_c : PlainC Try.prog 16 powES := by
  have main : ∀ l r, powES l = some r → ∃ A E, A < 256 ^ 32 ∧ isE E = true ∧ l = [.agg (encL 32 A), .agg (encL 32 E)] ∧ r = .agg (encL 32 (A ^ E % pF)) := by
    intro l r h
    unfold powES at h
    split at h
    · next l l' =>
      cases hd : decN 32 l with
      | none => rw [hd] at h; cases h
      | some A =>
        rw [hd] at h
        cases hd' : decN 32 l' with
        | none => rw [hd'] at h; cases h
        | some E =>
          rw [hd'] at h
          cases hE : isE E with
          | false => simp only [hE] at h; cases h
          | true =>
            simp only [hE] at h
            cases h
            obtain ⟨rfl, hA⟩ := enc_decN hd
            obtain ⟨rfl, hB⟩ := enc_decN hd'
            exact ⟨A, E, hA, hE, rfl, rfl⟩
    · cases h
  refine ⟨fun l r hs => ?_, fun l r hs => ?_⟩ <;> obtain ⟨A, E, hA, hE, rfl, rfl⟩ := main l r hs
  · exact ⟨by show (AV.plain _ && (AV.plain _ && true)) = true; rw [plain_enc, plain_enc]; rfl, plain_enc _⟩
  · simp only [isE, Bool.or_eq_true] at hE
    rcases hE with h | h
    · have := Nat.eq_of_beq_eq_true h; subst this
      obtain ⟨m, hm⟩ := pow_at (E := 1) (e := eOne) hA (by simp [esS]) (by kernel_rfl) (by kernel_rfl)
      exact ⟨_, _, m, okE specsP specsP_ok, hm⟩
    · have := Nat.eq_of_beq_eq_true h; subst this
      obtain ⟨m, hm⟩ := pow_at (E := 2) (e := ePair) hA (by simp [esS]) (by kernel_rfl) (by kernel_rfl)
      exact ⟨_, _, m, okE specsP specsP_ok, hm⟩
end
end Ev
