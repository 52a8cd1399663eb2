/-
  The numbers' functions: the rests by 2^255 - 19, as functions of plain data. Conditions: numbers of 32 bytes.
-/
import Derived.Test.YtmbkjhcmbbcphaaG6
namespace Ev
open Go Go.Proofs
noncomputable section

def restN (A : Nat) : Nat := A % pF
def addN (A B : Nat) : Nat := (A + B) % pF
def mulN (A B : Nat) : Nat := A * B % pF
def subN (A B : Nat) : Nat := (A % pF + (pF - B % pF)) % pF

def numS1 (g : Nat → Nat) : List AV → Option AV
  | [.agg l] => Option.casesOn (motive := fun _ => Option AV) (decN 32 l) none fun A => some (.agg (encL 32 (g A)))
  | _ => none
def numS2 (g : Nat → Nat → Nat) : List AV → Option AV
  | [.agg l, .agg l'] => Option.casesOn (motive := fun _ => Option AV) (decN 32 l) none fun A => Option.casesOn (motive := fun _ => Option AV) (decN 32 l') none fun B => some (.agg (encL 32 (g A B)))
  | _ => none
def q1 (g : Nat → Nat) (l : List AV) (K : List AV → Prop) : Prop := ∃ A, decN 32 l = some A ∧ K (encL 32 (g A))
def q2 (g : Nat → Nat → Nat) (l l' : List AV) (K : List AV → Prop) : Prop := ∃ A B, (decN 32 l = some A ∧ decN 32 l' = some B) ∧ K (encL 32 (g A B))
def numA1 (g : Nat → Nat) : List AV → AMem → KP → Prop
  | [.agg l], m, K => q1 g l fun r => K (.agg r) m
  | _, _, _ => False
def numA2 (g : Nat → Nat → Nat) : List AV → AMem → KP → Prop
  | [.agg l, .agg l'], m, K => q2 g l l' fun r => K (.agg r) m
  | _, _, _ => False
theorem numA1_ok {g : Nat → Nat} {args : List AV} {m : AMem} {K : KP} (h : numA1 g args m K) : ∃ r, numS1 g args = some r ∧ K r m := by
  unfold numA1 at h
  split at h
  · next l =>
    obtain ⟨A, hd, hk⟩ := h
    refine ⟨_, ?_, hk⟩
    show Option.casesOn (motive := fun _ => Option AV) (decN 32 l) none _ = _
    rw [hd]
  · cases h
theorem numA2_ok {g : Nat → Nat → Nat} {args : List AV} {m : AMem} {K : KP} (h : numA2 g args m K) : ∃ r, numS2 g args = some r ∧ K r m := by
  unfold numA2 at h
  split at h
  · next l l' =>
    obtain ⟨A, B, ⟨hd, hd'⟩, hk⟩ := h
    refine ⟨_, ?_, hk⟩
    show Option.casesOn (motive := fun _ => Option AV) (decN 32 l) none _ = _
    rw [hd]
    show Option.casesOn (motive := fun _ => Option AV) (decN 32 l') none _ = _
    rw [hd']
  · cases h
theorem plain_enc (V : Nat) : AV.plain (.agg (encL 32 V)) = true := plains_enc 32 V
theorem num1_c {f : Nat} {g : Nat → Nat} (h : ∀ A, A < 256 ^ 32 → ∃ E n m, EnvOK E Try.prog ∧ evCall E n (.fn f) [.agg (encL 32 A)] ⟨0, .nil⟩ = some (.agg (encL 32 (g A)), m)) : PlainC Try.prog f (numS1 g) := by
  have main : ∀ l r, numS1 g l = some r → ∃ A, A < 256 ^ 32 ∧ l = [.agg (encL 32 A)] ∧ r = .agg (encL 32 (g A)) := by
    intro l r h
    unfold numS1 at h
    split at h
    · next l =>
      cases hd : decN 32 l with
      | none => rw [hd] at h; cases h
      | some A =>
        rw [hd] at h; cases h
        obtain ⟨rfl, hA⟩ := enc_decN hd
        exact ⟨A, hA, rfl, rfl⟩
    · cases h
  refine ⟨fun l r hs => ?_, fun l r hs => ?_⟩ <;> obtain ⟨A, hA, rfl, rfl⟩ := main l r hs
  · exact ⟨by show (AV.plain _ && true) = true; rw [plain_enc]; rfl, plain_enc _⟩
  · exact h A hA
theorem num2_c {f : Nat} {g : Nat → Nat → Nat} (h : ∀ A B, A < 256 ^ 32 → B < 256 ^ 32 → ∃ E n m, EnvOK E Try.prog ∧ evCall E n (.fn f) [.agg (encL 32 A), .agg (encL 32 B)] ⟨0, .nil⟩ = some (.agg (encL 32 (g A B)), m)) : PlainC Try.prog f (numS2 g) := by
  have main : ∀ l r, numS2 g l = some r → ∃ A B, A < 256 ^ 32 ∧ B < 256 ^ 32 ∧ l = [.agg (encL 32 A), .agg (encL 32 B)] ∧ r = .agg (encL 32 (g A B)) := by
    intro l r h
    unfold numS2 at h
    split at h
    · next l l' =>
      cases hd : decN 32 l with
      | none => rw [hd] at h; cases h
      | some A =>
        rw [hd] at h
        cases hd' : decN 32 l' with
        | none => rw [hd'] at h; cases h
        | some B =>
          rw [hd'] at h; cases h
          obtain ⟨rfl, hA⟩ := enc_decN hd
          obtain ⟨rfl, hB⟩ := enc_decN hd'
          exact ⟨A, B, hA, hB, rfl, rfl⟩
    · cases h
  refine ⟨fun l r hs => ?_, fun l r hs => ?_⟩ <;> obtain ⟨A, B, hA, hB, rfl, rfl⟩ := main l r hs
  · exact ⟨by show (AV.plain _ && (AV.plain _ && true)) = true; rw [plain_enc, plain_enc]; rfl, plain_enc _⟩
  · exact h A B hA hB

theorem lt5_open {c0 c1 c2 c3 c4 : Nat} (h0 : c0 < 2251799813685248) (h1 : c1 < 2251799813685248) (h2 : c2 < 2251799813685248) (h3 : c3 < 2251799813685248) (h4 : c4 < 4503599627370496) : lt5 c0 c1 c2 c3 c4 = true :=
  lt5_of (by simp only [B53]; omega) (by simp only [B53]; omega) (by simp only [B53]; omega) (by simp only [B53]; omega) (by simp only [B53]; omega)
theorem of_lt5 {c0 c1 c2 c3 c4 : Nat} (h : lt5 c0 c1 c2 c3 c4 = true) : c0 < B63 ∧ c1 < B63 ∧ c2 < B63 ∧ c3 < B63 ∧ c4 < B63 := by
  simp only [lt5, Bool.and_eq_true, Nat.blt_eq, B53] at h
  simp only [B63]
  omega

theorem rest_c : PlainC Try.prog 11 (numS1 restN) := num1_c fun A hA => by
  have hk : restP (encL 32 A) fun r => ∀ _ : AMem, r = .agg (encL 32 (restN A)) := openQ_nat hA fun c0 c1 c2 c3 c4 h0 h1 h2 h3 h4 hv => by
    refine closeQ_nat (by simp only [B63]; omega) (by simp only [B63]; omega) (by simp only [B63]; omega) (by simp only [B63]; omega) (by simp only [B63]; omega) fun _ => ?_
    rw [hv]; rfl
  obtain ⟨r, m, h, rfl⟩ := run_of pairedN specsN_ok (cf := cfN) pfN (K := fun r => r = .agg (encL 32 (restN A))) (Eq.mp (rest_wp A _) hk)
  exact ⟨_, _, m, okE specsN specsN_ok, h⟩
theorem mul_c : PlainC Try.prog 23 (numS2 mulN) := num2_c fun A B hA hB => by
  have hk : mulP (encL 32 A) (encL 32 B) fun r => ∀ _ : AMem, r = .agg (encL 32 (mulN A B)) := openQ_nat hA fun c0 c1 c2 c3 c4 h0 h1 h2 h3 h4 hv => openQ_nat hB fun d0 d1 d2 d3 d4 k0 k1 k2 k3 k4 hv' =>
    timesQ_val (lt5_open h0 h1 h2 h3 h4) (lt5_open k0 k1 k2 k3 k4) fun z0 z1 z2 z3 z4 hz hm => by
      obtain ⟨j0, j1, j2, j3, j4⟩ := of_lt5 hz
      refine closeQ_nat j0 j1 j2 j3 j4 fun _ => ?_
      rw [hm, hv, hv']; rfl
  obtain ⟨r, m, h, rfl⟩ := run_of pairedN specsN_ok (cf := cfN) pfN (K := fun r => r = .agg (encL 32 (mulN A B))) (Eq.mp (mul_wp A B _) hk)
  exact ⟨_, _, m, okE specsN specsN_ok, h⟩
theorem add_c : PlainC Try.prog 17 (numS2 addN) := num2_c fun A B hA hB => by
  have hk : addP (encL 32 A) (encL 32 B) fun r => ∀ _ : AMem, r = .agg (encL 32 (addN A B)) := openQ_nat hA fun c0 c1 c2 c3 c4 h0 h1 h2 h3 h4 hv => openQ_nat hB fun d0 d1 d2 d3 d4 k0 k1 k2 k3 k4 hv' => by
    have st : ∀ w v : Nat, w < 9007199254740992 → v < 9007199254740992 → uadd (.ofNat w) (.ofNat v) = .ofNat (w + v) := fun w v hw hv => by rw [uadd_nat]; congr 1; simp only [M64]; omega
    rw [st c0 d0 (by omega) (by omega), st c1 d1 (by omega) (by omega), st c2 d2 (by omega) (by omega), st c3 d3 (by omega) (by omega), st c4 d4 (by omega) (by omega)]
    refine closeQ_nat (by simp only [B63]; omega) (by simp only [B63]; omega) (by simp only [B63]; omega) (by simp only [B63]; omega) (by simp only [B63]; omega) fun _ => ?_
    have : val5 (c0 + d0) (c1 + d1) (c2 + d2) (c3 + d3) (c4 + d4) = A + B := by rw [← hv, ← hv']; unfold val5; omega
    rw [this]; rfl
  obtain ⟨r, m, h, rfl⟩ := run_of pairedN specsN_ok (cf := cfN) pfN (K := fun r => r = .agg (encL 32 (addN A B))) (Eq.mp (add_wp A B _) hk)
  exact ⟨_, _, m, okE specsN specsN_ok, h⟩
theorem sub_mod {X A B k : Nat} (h : X + B = A + pF * k) : X % pF = subN A B := by
  unfold subN
  have h1 := Nat.div_add_mod B pF
  have h2 : B % pF < pF := Nat.mod_lt _ (by decide)
  have h3 : (X + pF * (B / pF + 1)) % pF = (A + (pF - B % pF) + pF * k) % pF := by
    congr 1
    rw [Nat.mul_add, Nat.mul_one]
    omega
  rw [Nat.add_mul_mod_self_left, Nat.add_mul_mod_self_left] at h3
  rw [h3]
  rw [Nat.mod_add_mod]
theorem sub_c : PlainC Try.prog 19 (numS2 subN) := num2_c fun A B hA hB => by
  have hk : subP (encL 32 A) (encL 32 B) fun r => ∀ _ : AMem, r = .agg (encL 32 (subN A B)) := openQ_nat hA fun c0 c1 c2 c3 c4 h0 h1 h2 h3 h4 hv => openQ_nat hB fun d0 d1 d2 d3 d4 k0 k1 k2 k3 k4 hv' => by
    refine carM_nat (by omega) (by omega) (by omega) (by omega) (by omega) fun z0 z1 z2 z3 z4 o g0 g1 g2 g3 g4 go _ hz => ?_
    have e64 : M64 = 18446744073709551616 := rfl
    have st : ∀ w v : Nat, w < 9007199254740992 → v ≤ 9007199254740988 → uadd (.ofNat w) (usub m4 (.ofNat v)) = .ofNat (w + (9007199254740988 - v)) := fun w v hw hv => by
      rw [show m4 = .ofNat 9007199254740988 from rfl, usub_nat hv (by rw [e64]; omega), uadd_nat]; congr 1; rw [e64]; omega
    rw [st c0 z0 (by omega) (by omega), st c1 z1 (by omega) (by omega), st c2 z2 (by omega) (by omega), st c3 z3 (by omega) (by omega), st c4 z4 (by omega) (by omega)]
    rw [show (72 : Int) = .ofNat 72 from rfl, usub_nat (by omega) (by rw [e64]; omega)]
    refine closeQ_nat (by simp only [B63]; omega) (by simp only [B63]; omega) (by simp only [B63]; omega) (by simp only [B63]; omega) (by simp only [B63]; omega) fun _ => ?_
    have hx : val5 (c0 + (9007199254740988 - z0) - 72) (c1 + (9007199254740988 - z1)) (c2 + (9007199254740988 - z2)) (c3 + (9007199254740988 - z3)) (c4 + (9007199254740988 - z4)) + B = A + pF * (o + 4) := by
      rw [← hv, ← hv', ← hz]
      unfold val5 pF
      omega
    rw [sub_mod hx]
  obtain ⟨r, m, h, rfl⟩ := run_of pairedN specsN_ok (cf := cfN) pfN (K := fun r => r = .agg (encL 32 (subN A B))) (Eq.mp (sub_wp A B _) hk)
  exact ⟨_, _, m, okE specsN specsN_ok, h⟩

/-! comparisons of numbers -/
theorem eqCells_enc : ∀ (n X Y : Nat), eqCells (List.replicate n .int) (encL n X) (encL n Y) = some (decide (X % 256 ^ n = Y % 256 ^ n))
  | 0, X, Y => by simp [encL, eqCells, Nat.mod_one]
  | n + 1, X, Y => by
    have ih := eqCells_enc n (X / 256) (Y / 256)
    rw [List.replicate_succ]
    have hc : eqCell .int (.int .u8 (.ofNat (X % 256))) (.int .u8 (.ofNat (Y % 256))) = some (Nat.beq (X % 256) (Y % 256)) := rfl
    show (match eqCell .int (.int .u8 (.ofNat (X % 256))) (.int .u8 (.ofNat (Y % 256))) with
      | some true => eqCells (List.replicate n .int) (encL n (X / 256)) (encL n (Y / 256))
      | some false => match eqCells (List.replicate n .int) (encL n (X / 256)) (encL n (Y / 256)) with
        | some _ => some false
        | none => none
      | none => none) = _
    rw [hc, ih]
    have hX : X % 256 ^ (n + 1) = X % 256 + 256 * (X / 256 % 256 ^ n) := by rw [Nat.pow_succ, Nat.mul_comm, Nat.mod_mul]
    have hY : Y % 256 ^ (n + 1) = Y % 256 + 256 * (Y / 256 % 256 ^ n) := by rw [Nat.pow_succ, Nat.mul_comm, Nat.mod_mul]
    rw [hX, hY]
    cases hb : Nat.beq (X % 256) (Y % 256) with
    | true =>
      have := Nat.eq_of_beq_eq_true hb
      simp only [Option.some.injEq, decide_eq_decide]
      omega
    | false =>
      have hne : X % 256 ≠ Y % 256 := Nat.ne_of_beq_eq_false hb
      simp only [Option.some.injEq]
      symm
      rw [decide_eq_false_iff_not]
      omega
theorem eqAgg23 (l : List (Nat × (List AV → Option AV))) (a b : List AV) : eqAgg (pEnv l) 23 a b = eqCells (List.replicate 32 .int) a b := by kernel_rfl
theorem eq_num {l : List (Nat × (List AV → Option AV))} {X Y : Nat} (hX : X < 256 ^ 32) (hY : Y < 256 ^ 32) : eqAgg (pEnv l) 23 (encL 32 X) (encL 32 Y) = some (decide (X = Y)) := by
  rw [eqAgg23, eqCells_enc, Nat.mod_eq_of_lt hX, Nat.mod_eq_of_lt hY]
end
end Ev
