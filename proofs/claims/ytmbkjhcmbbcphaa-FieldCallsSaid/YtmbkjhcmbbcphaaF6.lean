/-
  Powers of numbers of five words to the exponents that the program names, as an oracle. Conditions: words below 2^53.
-/
import Derived.Test.YtmbkjhcmbbcphaaPInv
import Derived.Test.YtmbkjhcmbbcphaaPRoot
import Derived.Test.YtmbkjhcmbbcphaaPTwo
import Derived.Test.YtmbkjhcmbbcphaaPNought
namespace Ev
open Go Go.Proofs
noncomputable section

def powR (l : List Bool) (x0 x1 x2 x3 x4 : Nat) : AV := powN l 1 0 0 0 0 x0 x1 x2 x3 x4 fun c0 c1 c2 c3 c4 => wordsA (.ofNat c0) (.ofNat c1) (.ofNat c2) (.ofNat c3) (.ofNat c4)

theorem powN_map {α β : Sort _} (g : α → β) : ∀ (l : List Bool) (c0 c1 c2 c3 c4 x0 x1 x2 x3 x4 : Nat) (K : Nat → Nat → Nat → Nat → Nat → α),
    g (powN l c0 c1 c2 c3 c4 x0 x1 x2 x3 x4 K) = powN l c0 c1 c2 c3 c4 x0 x1 x2 x3 x4 fun d0 d1 d2 d3 d4 => g (K d0 d1 d2 d3 d4)
  | [], c0, c1, c2, c3, c4, x0, x1, x2, x3, x4, K => rfl
  | b :: r, c0, c1, c2, c3, c4, x0, x1, x2, x3, x4, K => by
    simp only [powN, timesN, forceN_eq]
    cases b with
    | false => exact powN_map g r _ _ _ _ _ _ _ _ _ _ _
    | true => exact powN_map g r _ _ _ _ _ _ _ _ _ _ _

/-- the power's run, of its conditions -/
theorem pow_run {e : List Nat} (hwp : ∀ (x0 x1 x2 x3 x4 : Int) (K : AV → Prop), (powP (bitsOf e) 1 0 0 0 0 x0 x1 x2 x3 x4 fun c0 c1 c2 c3 c4 => ∀ _ : AMem, K (wordsA c0 c1 c2 c3 c4)) =
      wpCall noEx (pEnv specs3) ow3 1000 (.fn 58) [wordsA x0 x1 x2 x3 x4, num e] ⟨0, .nil⟩ (fun r _ => ∀ _ : AMem, K r))
    {x0 x1 x2 x3 x4 : Nat} (hx : lt5 x0 x1 x2 x3 x4 = true) :
    ∃ m, evCall (pEnv specs3) 1000 (.fn 58) [wordsA (.ofNat x0) (.ofNat x1) (.ofNat x2) (.ofNat x3) (.ofNat x4), num e] ⟨0, .nil⟩ = some (powR (bitsOf e) x0 x1 x2 x3 x4, m) := by
  have hk : powP (bitsOf e) 1 0 0 0 0 (.ofNat x0) (.ofNat x1) (.ofNat x2) (.ofNat x3) (.ofNat x4) fun c0 c1 c2 c3 c4 => ∀ _ : AMem, wordsA c0 c1 c2 c3 c4 = powR (bitsOf e) x0 x1 x2 x3 x4 := by
    refine powP_nat hx (bitsOf e) 1 0 0 0 0 rfl ?_
    have : ∀ v : AV, powR (bitsOf e) x0 x1 x2 x3 x4 = v → powN (bitsOf e) 1 0 0 0 0 x0 x1 x2 x3 x4 fun c0 c1 c2 c3 c4 => ∀ _ : AMem, wordsA (.ofNat c0) (.ofNat c1) (.ofNat c2) (.ofNat c3) (.ofNat c4) = v := by
      intro v hv
      have := powN_map (fun u : AV => ∀ _ : AMem, u = v) (bitsOf e) 1 0 0 0 0 x0 x1 x2 x3 x4 fun c0 c1 c2 c3 c4 => wordsA (.ofNat c0) (.ofNat c1) (.ofNat c2) (.ofNat c3) (.ofNat c4)
      rw [← this]
      exact fun _ => hv
    exact this _ rfl
  obtain ⟨r, m', h3, rfl⟩ := f1_some (K := fun r => r = powR (bitsOf e) x0 x1 x2 x3 x4) (okE specs3 specs3_ok) ow3_none ow3_some (Eq.mp (hwp _ _ _ _ _ (fun r => r = powR (bitsOf e) x0 x1 x2 x3 x4)) hk)
  exact ⟨m', h3⟩

def byteIs (a : AV) (n : Nat) : Bool := match a with
  | .int .u8 (.ofNat x) => Nat.beq x n
  | _ => false
theorem byteIs_eq {a : AV} {n : Nat} (h : byteIs a n = true) : a = .int .u8 (.ofNat n) := by
  unfold byteIs at h
  split at h
  · rw [Nat.eq_of_beq_eq_true h]
  · cases h
def eqBytes (l : List AV) : List Nat → Bool :=
  List.rec (motive := fun _ => List Nat → Bool) (fun b => List.casesOn (motive := fun _ => Bool) b true fun _ _ => false)
    (fun a _ ih b => List.casesOn (motive := fun _ => Bool) b false fun n r => Bool.casesOn (motive := fun _ => Bool) (byteIs a n) false (ih r)) l
theorem eqBytes_eq : ∀ {l : List AV} {b : List Nat}, eqBytes l b = true → AV.agg l = num b
  | [], [], _ => rfl
  | [], _ :: _, h => by cases h
  | a :: l, [], h => by cases h
  | a :: l, n :: r, h => by
    have h : Bool.casesOn (motive := fun _ => Bool) (byteIs a n) false (eqBytes l r) = true := h
    cases hb : byteIs a n with
    | false => rw [hb] at h; cases h
    | true =>
      rw [hb] at h
      have ih := eqBytes_eq (l := l) (b := r) h
      simp only [num, AV.agg.injEq] at ih
      rw [byteIs_eq hb]
      simp only [num, ih, List.map_cons]

def powE (l : List AV) : Option (List Bool) :=
  Bool.casesOn (motive := fun _ => Option (List Bool)) (eqBytes l eInv)
    (Bool.casesOn (motive := fun _ => Option (List Bool)) (eqBytes l eRoot)
      (Bool.casesOn (motive := fun _ => Option (List Bool)) (eqBytes l eTwo)
        (Bool.casesOn (motive := fun _ => Option (List Bool)) (eqBytes l eNought) none (some (bitsOf eNought)))
        (some (bitsOf eTwo)))
      (some (bitsOf eRoot)))
    (some (bitsOf eInv))
def powerS : List AV → Option AV
  | [.agg [.int .u64 (.ofNat x0), .int .u64 (.ofNat x1), .int .u64 (.ofNat x2), .int .u64 (.ofNat x3), .int .u64 (.ofNat x4)], .agg l] =>
    Bool.casesOn (motive := fun _ => Option AV) (lt5 x0 x1 x2 x3 x4) none
      (Option.casesOn (motive := fun _ => Option AV) (powE l) none fun b => powN b 1 0 0 0 0 x0 x1 x2 x3 x4 fun c0 c1 c2 c3 c4 => some (wordsA (.ofNat c0) (.ofNat c1) (.ofNat c2) (.ofNat c3) (.ofNat c4)))
  | _ => none

theorem power_c : PlainC Try.prog 58 powerS := by
  have main : ∀ l r, powerS l = some r → ∃ (e : List Nat) (x0 x1 x2 x3 x4 : Nat), l = [wordsA (.ofNat x0) (.ofNat x1) (.ofNat x2) (.ofNat x3) (.ofNat x4), num e] ∧ lt5 x0 x1 x2 x3 x4 = true ∧ r = powR (bitsOf e) x0 x1 x2 x3 x4 ∧
      (∃ m, evCall (pEnv specs3) 1000 (.fn 58) l ⟨0, .nil⟩ = some (r, m)) := by
    intro l r h
    unfold powerS at h
    split at h
    · next x0 x1 x2 x3 x4 l =>
      cases hb : lt5 x0 x1 x2 x3 x4 with
      | false => rw [hb] at h; cases h
      | true =>
        rw [hb] at h
        have h : Option.casesOn (motive := fun _ => Option AV) (powE l) none (fun b => powN b 1 0 0 0 0 x0 x1 x2 x3 x4 fun c0 c1 c2 c3 c4 => some (wordsA (.ofNat c0) (.ofNat c1) (.ofNat c2) (.ofNat c3) (.ofNat c4))) = some r := h
        have fin : ∀ e : List Nat, AV.agg l = num e → powE l = some (bitsOf e) → (∀ (x0 x1 x2 x3 x4 : Int) (K : AV → Prop), (powP (bitsOf e) 1 0 0 0 0 x0 x1 x2 x3 x4 fun c0 c1 c2 c3 c4 => ∀ _ : AMem, K (wordsA c0 c1 c2 c3 c4)) =
            wpCall noEx (pEnv specs3) ow3 1000 (.fn 58) [wordsA x0 x1 x2 x3 x4, num e] ⟨0, .nil⟩ (fun r _ => ∀ _ : AMem, K r)) →
            ∃ (e : List Nat) (y0 y1 y2 y3 y4 : Nat), [wordsA (.ofNat x0) (.ofNat x1) (.ofNat x2) (.ofNat x3) (.ofNat x4), AV.agg l] = [wordsA (.ofNat y0) (.ofNat y1) (.ofNat y2) (.ofNat y3) (.ofNat y4), num e] ∧ lt5 y0 y1 y2 y3 y4 = true ∧ r = powR (bitsOf e) y0 y1 y2 y3 y4 ∧
            (∃ m, evCall (pEnv specs3) 1000 (.fn 58) [wordsA (.ofNat x0) (.ofNat x1) (.ofNat x2) (.ofNat x3) (.ofNat x4), AV.agg l] ⟨0, .nil⟩ = some (r, m)) := by
          intro e he hp hwp
          rw [hp] at h
          have h : (powN (bitsOf e) 1 0 0 0 0 x0 x1 x2 x3 x4 fun c0 c1 c2 c3 c4 => some (wordsA (.ofNat c0) (.ofNat c1) (.ofNat c2) (.ofNat c3) (.ofNat c4))) = some r := h
          rw [← powN_map some] at h
          have hr : r = powR (bitsOf e) x0 x1 x2 x3 x4 := (Option.some.inj h).symm
          refine ⟨e, x0, x1, x2, x3, x4, by rw [he], hb, hr, ?_⟩
          rw [he, hr]
          exact pow_run hwp hb
        unfold powE at fin
        cases h1 : eqBytes l eInv with
        | true => exact fin eInv (eqBytes_eq h1) (by rw [h1]) powInv_wp
        | false =>
          cases h2 : eqBytes l eRoot with
          | true => exact fin eRoot (eqBytes_eq h2) (by rw [h1, h2]) powRoot_wp
          | false =>
            cases h3 : eqBytes l eTwo with
            | true => exact fin eTwo (eqBytes_eq h3) (by rw [h1, h2, h3]) powTwo_wp
            | false =>
              cases h4 : eqBytes l eNought with
              | true => exact fin eNought (eqBytes_eq h4) (by rw [h1, h2, h3, h4]) powNought_wp
              | false =>
                exfalso
                unfold powE at h
                rw [h1, h2, h3, h4] at h
                cases h
    · cases h
  have plainNum : ∀ e : List Nat, AV.plain (num e) = true := by
    intro e
    show AV.plains (e.map fun n => AV.int .u8 (.ofNat n)) = true
    induction e with
    | nil => rfl
    | cons n r ih => simpa [AV.plains, AV.plain] using ih
  refine ⟨fun l r h => ?_, fun l r h => ?_⟩
  · obtain ⟨e, x0, x1, x2, x3, x4, rfl, _, rfl, _⟩ := main l r h
    refine ⟨?_, ?_⟩
    · show (AV.plain (wordsA _ _ _ _ _) && (AV.plain (num e) && true)) = true
      rw [plainNum]; rfl
    · unfold powR
      rw [powN_map AV.plain]
      have := powN_map (fun _ : AV => true) (bitsOf e) 1 0 0 0 0 x0 x1 x2 x3 x4 fun c0 c1 c2 c3 c4 => wordsA (.ofNat c0) (.ofNat c1) (.ofNat c2) (.ofNat c3) (.ofNat c4)
      exact this.symm
  · obtain ⟨e, x0, x1, x2, x3, x4, rfl, _, rfl, m, hm⟩ := main l r h
    exact ⟨_, _, m, okE specs3 specs3_ok, hm⟩

def specs4 : List (Nat × (List AV → Option AV)) := [(56, timesS), (58, powerS)]
theorem specs4_ok : ∀ p ∈ specs4, FnOK Try.prog p.1 (orcS p.2) := by
  intro p hp
  simp only [specs4, List.mem_cons, List.not_mem_nil, or_false] at hp
  rcases hp with rfl | rfl
  · exact plain_ok times_c
  · exact plain_ok power_c
theorem okE4 : EnvOK (pEnv specs4) Try.prog := okE specs4 specs4_ok
end
end Ev
