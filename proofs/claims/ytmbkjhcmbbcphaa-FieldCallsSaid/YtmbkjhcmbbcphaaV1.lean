/-
  Numbers just below a power of two, inverses, roots: as functions of plain data. Conditions: numbers of 32 bytes.
-/
import Derived.Test.YtmbkjhcmbbcphaaU6
import Derived.Test.YtmbkjhcmbbcphaaSs
namespace Ev
open Go Go.Proofs
noncomputable section

/-! near -/
def nearB (n k : Nat) : Bool := (Nat.beq n 252 && Nat.beq k 2) || ((Nat.beq n 253 && Nat.beq k 5) || (Nat.beq n 255 && Nat.beq k 21))
def nearS : List AV → Option AV
  | [.int .i64 (.ofNat n), .int .u8 (.ofNat k)] => Bool.casesOn (motive := fun _ => Option AV) (nearB n k) none (some (.agg (encL 32 (2 ^ n - k))))
  | _ => none
theorem near1 : ansR (evCall (pEnv []) 1000 (.fn 47) [.int .i64 252, .int .u8 2] ⟨0, .nil⟩) = some (.agg (encL 32 (2 ^ 252 - 2))) := by kernel_rfl
theorem near2 : ansR (evCall (pEnv []) 1000 (.fn 47) [.int .i64 253, .int .u8 5] ⟨0, .nil⟩) = some (.agg (encL 32 (2 ^ 253 - 5))) := by kernel_rfl
theorem near3 : ansR (evCall (pEnv []) 1000 (.fn 47) [.int .i64 255, .int .u8 21] ⟨0, .nil⟩) = some (.agg (encL 32 (2 ^ 255 - 21))) := by kernel_rfl
theorem nearB_cases {n k : Nat} (h : nearB n k = true) : (n = 252 ∧ k = 2) ∨ (n = 253 ∧ k = 5) ∨ (n = 255 ∧ k = 21) := by
  simp only [nearB, Bool.or_eq_true, Bool.and_eq_true] at h
  rcases h with h | h | h
  · exact .inl ⟨Nat.eq_of_beq_eq_true h.1, Nat.eq_of_beq_eq_true h.2⟩
  · exact .inr (.inl ⟨Nat.eq_of_beq_eq_true h.1, Nat.eq_of_beq_eq_true h.2⟩)
  · exact .inr (.inr ⟨Nat.eq_of_beq_eq_true h.1, Nat.eq_of_beq_eq_true h.2⟩)
theorem nearS_some {l : List AV} {r : AV} (h : nearS l = some r) : ∃ n k : Nat, l = [.int .i64 (.ofNat n), .int .u8 (.ofNat k)] ∧ nearB n k = true ∧ r = .agg (encL 32 (2 ^ n - k)) := by
  unfold nearS at h
  split at h
  · next n k =>
    cases hb : nearB n k with
    | false => rw [hb] at h; cases h
    | true => rw [hb] at h; exact ⟨n, k, rfl, hb, (Option.some.inj h).symm⟩
  · cases h
theorem near_c : PlainC Try.prog 47 nearS := by
  refine ⟨fun l r h => ?_, fun l r h => ?_⟩ <;> obtain ⟨n, k, rfl, hb, rfl⟩ := nearS_some h
  · exact ⟨rfl, plain_enc _⟩
  · rcases nearB_cases hb with ⟨rfl, rfl⟩ | ⟨rfl, rfl⟩ | ⟨rfl, rfl⟩
    · obtain ⟨m, hm⟩ := ansR_some near1; exact ⟨_, _, m, okE0, hm⟩
    · obtain ⟨m, hm⟩ := ansR_some near2; exact ⟨_, _, m, okE0, hm⟩
    · obtain ⟨m, hm⟩ := ansR_some near3; exact ⟨_, _, m, okE0, hm⟩
def nearQ (n k : Int) (K : List AV → Prop) : Prop := (nearB n.toNat k.toNat = true ∧ 0 ≤ n ∧ 0 ≤ k) ∧ K (encL 32 (2 ^ n.toNat - k.toNat))
def nearA : List AV → AMem → KP → Prop
  | [.int .i64 n, .int .u8 k], m, K => nearQ n k fun r => K (.agg r) m
  | _, _, _ => False
theorem nearA_ok {args : List AV} {m : AMem} {K : KP} (h : nearA args m K) : ∃ r, nearS args = some r ∧ K r m := by
  unfold nearA at h
  split at h
  · next n k =>
    obtain ⟨⟨hb, hn, hk⟩, hK⟩ := h
    obtain ⟨n, rfl⟩ := Int.eq_ofNat_of_zero_le hn
    obtain ⟨k, rfl⟩ := Int.eq_ofNat_of_zero_le hk
    refine ⟨_, ?_, hK⟩
    show Bool.casesOn (motive := fun _ => Option AV) (nearB n k) none (some (.agg (encL 32 (2 ^ n - k)))) = _
    have hb : nearB n k = true := hb
    rw [hb]; rfl
  · cases h
theorem nearQ_1 {K : List AV → Prop} (h : K (encL 32 (2 ^ 252 - 2))) : nearQ 252 2 K := ⟨⟨rfl, by decide, by decide⟩, h⟩
theorem nearQ_2 {K : List AV → Prop} (h : K (encL 32 (2 ^ 253 - 5))) : nearQ 253 5 K := ⟨⟨rfl, by decide, by decide⟩, h⟩
theorem nearQ_3 {K : List AV → Prop} (h : K (encL 32 (2 ^ 255 - 21))) : nearQ 255 21 K := ⟨⟨rfl, by decide, by decide⟩, h⟩

/-! of, as a condition -/
def ofQ (n : Int) (K : List AV → Prop) : Prop := inU n ∧ K (encL 32 n.toNat)
theorem ofQ_nat {n : Nat} (h : n < M64) {K : List AV → Prop} (hk : K (encL 32 n)) : ofQ (.ofNat n) K := ⟨inU_of h, hk⟩

/-! the environment of roots and inverses -/
def specsY : List (Nat × (List AV → Option AV)) := [(47, nearS), (25, numS2 powM), (23, numS2 mulN), (31, predS2 sameN), (29, predS oddN), (21, numS1 negN), (15, ofS)]
theorem specsY_ok : ∀ p ∈ specsY, FnOK Try.prog p.1 (orcS p.2) := by
  intro p hp
  simp only [specsY, List.mem_cons, List.not_mem_nil, or_false] at hp
  rcases hp with rfl | rfl | rfl | rfl | rfl | rfl | rfl
  · exact plain_ok near_c
  · exact plain_ok pow_c
  · exact plain_ok mul_c
  · exact plain_ok same_c
  · exact plain_ok odd_c
  · exact plain_ok neg_c
  · exact plain_ok of_c
def waysY : List (Nat × (List AV → AMem → KP → Prop)) := [(47, nearA), (25, numA2 powM), (23, numA2 mulN), (31, predA2 sameN), (29, predA oddN), (21, numA1 negN), (15, ofA)]
theorem pairedY : Paired specsY waysY := .cons (fun _ _ _ h => nearA_ok h) (.cons (fun _ _ _ h => numA2_ok h) (.cons (fun _ _ _ h => numA2_ok h) (.cons (fun _ _ _ h => predA2_ok h)
  (.cons (fun _ _ _ h => predA_ok h) (.cons (fun _ _ _ h => numA1_ok h) (.cons (fun _ _ _ h => ofA_ok h) .nil))))))
def yP (f : Nat) : Bool := Nat.beq f 47 || (Nat.beq f 25 || (Nat.beq f 23 || (Nat.beq f 31 || (Nat.beq f 29 || (Nat.beq f 21 || Nat.beq f 15)))))
theorem pfY (g : Nat) (h : yP g = true) : ∃ s, lookS specsY g = some (orcS s) := by
  simp only [yP, Bool.or_eq_true] at h
  rcases h with h | h | h | h | h | h | h
  all_goals (have := Nat.eq_of_beq_eq_true h; subst this; exact ⟨_, rfl⟩)
def cfY : Wcfg := ⟨fun _ => false, yP, fun _ => none⟩

/-! inverses -/
def invN (A : Nat) : Nat := powM A (2 ^ 255 - 21)
theorem inv_wp (A : Nat) (K : AV → Prop) : (nearQ 255 21 fun e => q2 powM (encL 32 A) e fun r => ∀ _ : AMem, K (.agg r)) = wpCall cfY (pEnv specsY) (owL waysY) 1000 (.fn 27) [.agg (encL 32 A)] ⟨0, .nil⟩ (fun r _ => ∀ _ : AMem, K r) := by kernel_rfl
theorem inv_c : PlainC Try.prog 27 (numS1 invN) := num1_c fun A hA => by
  have hk : nearQ 255 21 fun e => q2 powM (encL 32 A) e fun r => ∀ _ : AMem, AV.agg r = .agg (encL 32 (invN A)) := nearQ_3 (q2_nat hA (by decide) fun _ => rfl)
  obtain ⟨r, m, h, rfl⟩ := run_of pairedY specsY_ok (cf := cfY) pfY (K := fun r => r = .agg (encL 32 (invN A))) (Eq.mp (inv_wp A _) hk)
  exact ⟨_, _, m, okE specsY specsY_ok, h⟩

/-! roots -/
def evenN (x : Nat) : Nat := Bool.casesOn (motive := fun _ => Nat) (oddN x) x (negN x)
/-- for any exponents -/
def root1G (e A : Nat) : Nat := powM A e
def root2G (e f A : Nat) : Nat := mulN (root1G e A) (powM 2 f)
def rootRG (e f A : Nat) : Nat := Bool.casesOn (motive := fun _ => Nat) (sameN (mulN (root1G e A) (root1G e A)) A) (Bool.casesOn (motive := fun _ => Nat) (sameN (mulN (root2G e f A) (root2G e f A)) A) 0 (evenN (root2G e f A))) (evenN (root1G e A))
def rootBG (e f A : Nat) : Bool := sameN (mulN (root1G e A) (root1G e A)) A || sameN (mulN (root2G e f A) (root2G e f A)) A
def rootR (A : Nat) : Nat := rootRG (2 ^ 252 - 2) (2 ^ 253 - 5) A
def rootB (A : Nat) : Bool := rootBG (2 ^ 252 - 2) (2 ^ 253 - 5) A
def rootS : List AV → Option AV
  | [.agg l] => Option.casesOn (motive := fun _ => Option AV) (decN 32 l) none fun A => some (.tup [.agg (encL 32 (rootR A)), .bool (rootB A)])
  | _ => none
def rootQ (l : List AV) (K : List AV → Bool → Prop) : Prop := ∃ A, decN 32 l = some A ∧ K (encL 32 (rootR A)) (rootB A)
def rootA : List AV → AMem → KP → Prop
  | [.agg l], m, K => rootQ l fun r b => K (.tup [.agg r, .bool b]) m
  | _, _, _ => False
theorem rootA_ok {args : List AV} {m : AMem} {K : KP} (h : rootA args m K) : ∃ r, rootS args = some r ∧ K r m := by
  unfold rootA at h
  split at h
  · next l =>
    obtain ⟨A, hd, hk⟩ := h
    refine ⟨_, ?_, hk⟩
    show Option.casesOn (motive := fun _ => Option AV) (decN 32 l) none _ = _
    rw [hd]
  · cases h
def endR (x : List AV) (K : List AV → Bool → Prop) : Prop := predQ oddN x (q1 negN x fun y => K y true) (K x true)
def rootP (a : List AV) (K : List AV → Bool → Prop) : Prop :=
  nearQ 252 2 fun e => q2 powM a e fun x => q2 mulN x x fun s => predQ2 sameN s a (endR x K)
    (ofQ 2 fun t => nearQ 253 5 fun e => q2 powM t e fun w => q2 mulN x w fun y => q2 mulN y y fun s => predQ2 sameN s a (endR y K) (K (encL 32 0) false))
theorem root_wp (A : Nat) (K : AV → Prop) : (rootP (encL 32 A) fun r b => ∀ _ : AMem, K (.tup [.agg r, .bool b])) = wpCall cfY (pEnv specsY) (owL waysY) 1000 (.fn 9) [.agg (encL 32 A)] ⟨0, .nil⟩ (fun r _ => ∀ _ : AMem, K r) := by kernel_rfl
theorem lt_mul' (A B : Nat) : mulN A B < 256 ^ 32 := mod_lt32 _
theorem lt_pow' (A B : Nat) : powM A B < 256 ^ 32 := mod_lt32 _
theorem predQ2_of {g : Nat → Nat → Bool} {A B : Nat} (hA : A < 256 ^ 32) (hB : B < 256 ^ 32) {T F : Prop} (ht : g A B = true → T) (hf : g A B = false → F) : predQ2 g (encL 32 A) (encL 32 B) T F := ⟨A, B, ⟨decN_enc hA, decN_enc hB⟩, ht, hf⟩
theorem endR_nat {x : Nat} (hx : x < 256 ^ 32) {K : List AV → Bool → Prop} (hk : K (encL 32 (evenN x)) true) : endR (encL 32 x) K := by
  refine ⟨x, decN_enc hx, fun h => q1_nat hx ?_, fun h => ?_⟩
  · unfold evenN at hk; rw [h] at hk; exact hk
  · unfold evenN at hk; rw [h] at hk; exact hk
theorem rootG_nat {A e f : Nat} (hA : A < 256 ^ 32) (he : e < 256 ^ 32) (hf : f < 256 ^ 32) {K : List AV → Bool → Prop} (hk : K (encL 32 (rootRG e f A)) (rootBG e f A))
    {N : (List AV → Prop) → Prop} (hN : ∀ K, K (encL 32 f) → N K) :
    q2 powM (encL 32 A) (encL 32 e) fun x => q2 mulN x x fun s => predQ2 sameN s (encL 32 A) (endR x K)
      (ofQ 2 fun t => N fun e => q2 powM t e fun w => q2 mulN x w fun y => q2 mulN y y fun s => predQ2 sameN s (encL 32 A) (endR y K) (K (encL 32 0) false)) := by
  refine q2_nat hA he (q2_nat (lt_pow' _ _) (lt_pow' _ _) (predQ2_of (lt_mul' _ _) hA (fun h => ?_) fun h => ?_))
  · refine endR_nat (lt_pow' _ _) ?_
    unfold rootRG rootBG root1G at hk
    rw [h] at hk; exact hk
  · refine ofQ_nat (n := 2) (by decide) (hN _ (q2_nat (A := 2) (by decide) hf (q2_nat (lt_pow' _ _) (lt_pow' _ _) (q2_nat (lt_mul' _ _) (lt_mul' _ _) (predQ2_of (lt_mul' _ _) hA (fun h2 => ?_) fun h2 => ?_)))))
    · refine endR_nat (lt_mul' _ _) ?_
      unfold rootRG rootBG root2G root1G at hk
      rw [h, h2] at hk; exact hk
    · unfold rootRG rootBG root2G root1G at hk
      rw [h, h2] at hk; exact hk
theorem rootP_nat {A : Nat} (hA : A < 256 ^ 32) {K : List AV → Bool → Prop} (hk : K (encL 32 (rootR A)) (rootB A)) : rootP (encL 32 A) K :=
  nearQ_1 (rootG_nat (e := 2 ^ 252 - 2) (f := 2 ^ 253 - 5) hA (by decide) (by decide) hk fun _ h => nearQ_2 h)
theorem root_c : PlainC Try.prog 9 rootS := by
  have main : ∀ l r, rootS l = some r → ∃ A, A < 256 ^ 32 ∧ l = [.agg (encL 32 A)] ∧ r = .tup [.agg (encL 32 (rootR A)), .bool (rootB A)] := by
    intro l r h
    unfold rootS at h
    split at h
    · next l =>
      cases hd : decN 32 l with
      | none => rw [hd] at h; cases h
      | some A =>
        rw [hd] at h; cases h
        obtain ⟨rfl, hA⟩ := enc_decN hd
        exact ⟨A, hA, rfl, rfl⟩
    · cases h
  refine ⟨fun l r hs => ?_, fun l r hs => ?_⟩ <;> obtain ⟨A, hA, rfl, rfl⟩ := main l r hs
  · refine ⟨?_, ?_⟩
    · show (AV.plain _ && true) = true
      rw [plain_enc]; rfl
    · simp [AV.plain, AV.plains, plains_enc]
  · have hk : rootP (encL 32 A) fun r b => ∀ _ : AMem, AV.tup [.agg r, .bool b] = .tup [.agg (encL 32 (rootR A)), .bool (rootB A)] := rootP_nat hA fun _ => rfl
    obtain ⟨r, m, h, rfl⟩ := run_of pairedY specsY_ok (cf := cfY) pfY (K := fun r => r = .tup [.agg (encL 32 (rootR A)), .bool (rootB A)]) (Eq.mp (root_wp A _) hk)
    exact ⟨_, _, m, okE specsY specsY_ok, h⟩
end
end Ev
