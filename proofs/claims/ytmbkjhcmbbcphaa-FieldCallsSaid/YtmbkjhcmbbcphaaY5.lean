/-
  The reference's functions on numbers, as functions of plain data: the others. Conditions: numbers of 32 bytes.
-/
import Derived.Test.YtmbkjhcmbbcphaaY4
import Derived.Test.YtmbkjhcmbbcphaaV1
namespace Ev
open Go Go.Proofs
noncomputable section

/-! shifted -/
def shB (n k : Nat) : Bool := (Nat.beq n 2 && Nat.beq k 0) || ((Nat.beq n 5 && Nat.beq k 3) || (Nat.beq n 1 && Nat.beq k 2))
def shV (n k : Nat) : Nat := (pF - n) / 2 ^ k
def shS : List AV → Option AV
  | [.int .i64 (.ofNat n), .int .i64 (.ofNat k)] => Bool.casesOn (motive := fun _ => Option AV) (shB n k) none (some (.agg (encL 32 (shV n k))))
  | _ => none
theorem sh1 : ansR (evCall (pEnv []) 1000 (.fn 48) [.int .i64 2, .int .i64 0] ⟨0, .nil⟩) = some (.agg (encL 32 (shV 2 0))) := by kernel_rfl
theorem sh2 : ansR (evCall (pEnv []) 1000 (.fn 48) [.int .i64 5, .int .i64 3] ⟨0, .nil⟩) = some (.agg (encL 32 (shV 5 3))) := by kernel_rfl
theorem sh3 : ansR (evCall (pEnv []) 1000 (.fn 48) [.int .i64 1, .int .i64 2] ⟨0, .nil⟩) = some (.agg (encL 32 (shV 1 2))) := by kernel_rfl
theorem shB_cases {n k : Nat} (h : shB n k = true) : (n = 2 ∧ k = 0) ∨ (n = 5 ∧ k = 3) ∨ (n = 1 ∧ k = 2) := by
  simp only [shB, Bool.or_eq_true, Bool.and_eq_true] at h
  rcases h with h | h | h
  · exact .inl ⟨Nat.eq_of_beq_eq_true h.1, Nat.eq_of_beq_eq_true h.2⟩
  · exact .inr (.inl ⟨Nat.eq_of_beq_eq_true h.1, Nat.eq_of_beq_eq_true h.2⟩)
  · exact .inr (.inr ⟨Nat.eq_of_beq_eq_true h.1, Nat.eq_of_beq_eq_true h.2⟩)
theorem shS_some {l : List AV} {r : AV} (h : shS l = some r) : ∃ n k : Nat, l = [.int .i64 (.ofNat n), .int .i64 (.ofNat k)] ∧ shB n k = true ∧ r = .agg (encL 32 (shV n k)) := by
  unfold shS at h
  split at h
  · next n k =>
    cases hb : shB n k with
    | false => rw [hb] at h; cases h
    | true => rw [hb] at h; exact ⟨n, k, rfl, hb, (Option.some.inj h).symm⟩
  · cases h
theorem sh_c : PlainC Try.prog 48 shS := by
  refine ⟨fun l r h => ?_, fun l r h => ?_⟩ <;> obtain ⟨n, k, rfl, hb, rfl⟩ := shS_some h
  · exact ⟨rfl, plain_enc _⟩
  · rcases shB_cases hb with ⟨rfl, rfl⟩ | ⟨rfl, rfl⟩ | ⟨rfl, rfl⟩
    · obtain ⟨m, hm⟩ := ansR_some sh1; exact ⟨_, _, m, okE0, hm⟩
    · obtain ⟨m, hm⟩ := ansR_some sh2; exact ⟨_, _, m, okE0, hm⟩
    · obtain ⟨m, hm⟩ := ansR_some sh3; exact ⟨_, _, m, okE0, hm⟩
def shQ (n k : Int) (K : List AV → Prop) : Prop := (shB n.toNat k.toNat = true ∧ 0 ≤ n ∧ 0 ≤ k) ∧ K (encL 32 (shV n.toNat k.toNat))
def shA : List AV → AMem → KP → Prop
  | [.int .i64 n, .int .i64 k], m, K => shQ n k fun r => K (.agg r) m
  | _, _, _ => False
theorem shA_ok {args : List AV} {m : AMem} {K : KP} (h : shA args m K) : ∃ r, shS args = some r ∧ K r m := by
  unfold shA at h
  split at h
  · next n k =>
    obtain ⟨⟨hb, hn, hk⟩, hK⟩ := h
    obtain ⟨n, rfl⟩ := Int.eq_ofNat_of_zero_le hn
    obtain ⟨k, rfl⟩ := Int.eq_ofNat_of_zero_le hk
    refine ⟨_, ?_, hK⟩
    show Bool.casesOn (motive := fun _ => Option AV) (shB n k) none (some (.agg (encL 32 (shV n k)))) = _
    have hb : shB n k = true := hb
    rw [hb]; rfl
  · cases h

/-! Of -/
def ofL (n : Int) : List AV := (List.range 8).map (fun i => AV.int .u8 (w8 (ushr n (8 * i)))) ++ encL 24 0
theorem rOf_wp (n : Int) (K : AV → Prop) : (∀ _ : AMem, K (.agg (ofL n))) = wpCall noEx (pEnv []) (fun _ => none) 1000 (.fn 16) [.int .u64 n] ⟨0, .nil⟩ (fun r _ => ∀ _ : AMem, K r) := by kernel_rfl
theorem enc_map : ∀ n V : Nat, encL n V = (List.range n).map fun i => AV.int .u8 (.ofNat (V / 256 ^ i % 256))
  | 0, _ => rfl
  | n + 1, V => by rw [enc_snoc, enc_map n V, List.range_succ, List.map_append]; rfl
theorem ofL_nat {n : Nat} (h : n < M64) : ofL (.ofNat n) = encL 32 n := by
  have h8 : n < 256 ^ 8 := h
  rw [enc_small 24 8 n h8, enc_map 8 n]
  unfold ofL
  congr 1
  apply List.map_congr_left
  intro i hi
  have hi : i < 8 := List.mem_range.1 hi
  rw [ushr_nat n (8 * i) (by omega)]
  unfold w8
  rw [wrap8, show (2 : Nat) ^ (8 * i) = 256 ^ i by rw [Nat.pow_mul]]
theorem rOf_c : PlainC Try.prog 16 ofS := by
  refine ⟨fun l r h => ?_, fun l r h => ?_⟩ <;> unfold ofS at h <;> split at h
  · next n =>
    cases hb : Nat.blt n M64 with
    | false => rw [hb] at h; cases h
    | true => rw [hb] at h; cases h; exact ⟨rfl, plain_enc n⟩
  · cases h
  · next n =>
    cases hb : Nat.blt n M64 with
    | false => rw [hb] at h; cases h
    | true =>
      rw [hb] at h; cases h
      rw [Nat.blt_eq] at hb
      obtain ⟨R, hR⟩ : ∃ R, R = AV.agg (encL 32 n) := ⟨_, rfl⟩
      have hk : ∀ _ : AMem, AV.agg (ofL (.ofNat n)) = R := fun _ => by rw [ofL_nat hb, hR]
      have g := @f1_some (fun _ => none) [] 16 [.int .u64 (.ofNat n)] (fun r => r = R) 1000 okE0 (fun _ _ => rfl) (fun _ _ h => by cases h)
      rw [← rOf_wp] at g
      obtain ⟨r, m', h1, rfl⟩ := g hk
      rw [← hR]
      exact ⟨_, _, m', okE0, h1⟩
  · cases h

/-! Neg, Inv, Odd, Same, Root -/
def specsR2 : List (Nat × (List AV → Option AV)) := [(12, numS1 restN), (20, numS2 subN), (24, numS2 mulN), (26, numS2 powM), (48, shS), (16, ofS)]
theorem specsR2_ok : ∀ p ∈ specsR2, FnOK Try.prog p.1 (orcS p.2) := by
  intro p hp
  simp only [specsR2, List.mem_cons, List.not_mem_nil, or_false] at hp
  rcases hp with rfl | rfl | rfl | rfl | rfl | rfl
  · exact plain_ok refRest_c
  · exact plain_ok rSub_c
  · exact plain_ok rMul_c
  · exact plain_ok rPow_c
  · exact plain_ok sh_c
  · exact plain_ok rOf_c
def waysR2 : List (Nat × (List AV → AMem → KP → Prop)) := [(12, numA1 restN), (20, numA2 subN), (24, numA2 mulN), (26, numA2 powM), (48, shA), (16, ofA)]
theorem pairedR2 : Paired specsR2 waysR2 := .cons (fun _ _ _ h => numA1_ok h) (.cons (fun _ _ _ h => numA2_ok h) (.cons (fun _ _ _ h => numA2_ok h) (.cons (fun _ _ _ h => numA2_ok h) (.cons (fun _ _ _ h => shA_ok h) (.cons (fun _ _ _ h => ofA_ok h) .nil)))))
def cfR2 : Wcfg := ⟨fun _ => false, pfT specsR2, fun _ => none⟩
theorem rNeg_wp (A : Nat) (K : AV → Prop) : (q2 subN (encL 32 0) (encL 32 A) fun r => ∀ _ : AMem, K (.agg r)) = wpCall cfR2 (pEnv specsR2) (owL waysR2) 1000 (.fn 22) [.agg (encL 32 A)] ⟨0, .nil⟩ (fun r _ => ∀ _ : AMem, K r) := by kernel_rfl
theorem rInv_wp (A : Nat) (K : AV → Prop) : (shQ 2 0 fun e => q2 powM (encL 32 A) e fun r => ∀ _ : AMem, K (.agg r)) = wpCall cfR2 (pEnv specsR2) (owL waysR2) 1000 (.fn 28) [.agg (encL 32 A)] ⟨0, .nil⟩ (fun r _ => ∀ _ : AMem, K r) := by kernel_rfl
theorem rOdd_wp (A : Nat) (K : AV → Prop) : (q1 restN (encL 32 A) fun r => ∀ _ : AMem, K (.bool (eqI (Int.tmod (nthI r 0) 2) 1))) = wpCall cfR2 (pEnv specsR2) (owL waysR2) 1000 (.fn 30) [.agg (encL 32 A)] ⟨0, .nil⟩ (fun r _ => ∀ _ : AMem, K r) := by kernel_rfl
theorem rSame_wp (A B : Nat) (K : AV → Prop) : (q1 restN (encL 32 A) fun x => q1 restN (encL 32 B) fun y => eqP (pEnv specsR2) 23 x y fun b => ∀ _ : AMem, K (.bool b)) = wpCall cfR2 (pEnv specsR2) (owL waysR2) 1000 (.fn 32) [.agg (encL 32 A), .agg (encL 32 B)] ⟨0, .nil⟩ (fun r _ => ∀ _ : AMem, K r) := by kernel_rfl
theorem rNeg_c : PlainC Try.prog 22 (numS1 negN) := num1_c fun A hA => by
  have hk : q2 subN (encL 32 0) (encL 32 A) fun r => ∀ _ : AMem, AV.agg r = .agg (encL 32 (negN A)) := q2_nat (by decide) hA fun _ => rfl
  obtain ⟨r, m, h, rfl⟩ := run_of pairedR2 specsR2_ok (cf := cfR2) (fun _ h => pfT_some h) (K := fun r => r = .agg (encL 32 (negN A))) (Eq.mp (rNeg_wp A _) hk)
  exact ⟨_, _, m, okE specsR2 specsR2_ok, h⟩
theorem shV_lt {n k : Nat} (h : shB n k = true) : shV n k < 256 ^ 32 := by
  rcases shB_cases h with ⟨rfl, rfl⟩ | ⟨rfl, rfl⟩ | ⟨rfl, rfl⟩ <;> decide
theorem shQ_nat {n k : Nat} (h : shB n k = true) {K : List AV → Prop} (hk : K (encL 32 (shV n k))) : shQ (.ofNat n) (.ofNat k) K := ⟨⟨h, Int.natCast_nonneg n, Int.natCast_nonneg k⟩, hk⟩
theorem sh_inv : shV 2 0 = 2 ^ 255 - 21 := by decide
theorem sh_root : shV 5 3 + 1 = 2 ^ 252 - 2 := by decide
theorem sh_two : shV 1 2 = 2 ^ 253 - 5 := by decide
theorem rInv_c : PlainC Try.prog 28 (numS1 invN) := num1_c fun A hA => by
  obtain ⟨R, hR⟩ : ∃ R, R = AV.agg (encL 32 (invN A)) := ⟨_, rfl⟩
  have hk : shQ 2 0 fun e => q2 powM (encL 32 A) e fun r => ∀ _ : AMem, AV.agg r = R := shQ_nat (n := 2) (k := 0) rfl (q2_nat hA (shV_lt rfl) fun _ => by rw [sh_inv, hR]; rfl)
  have g := @run_of _ _ pairedR2 specsR2_ok cfR2 (fun _ h => pfT_some h) 28 1000 [.agg (encL 32 A)] (fun r => r = R)
  rw [← rInv_wp] at g
  obtain ⟨r, m, h, rfl⟩ := g hk
  rw [← hR]
  exact ⟨_, _, m, okE specsR2 specsR2_ok, h⟩
theorem rOdd_c : PlainC Try.prog 30 (predS oddN) := pred_c fun A hA => by
  have hk : q1 restN (encL 32 A) fun r => ∀ _ : AMem, AV.bool (eqI (Int.tmod (nthI r 0) 2) 1) = .bool (oddN A) := q1_nat hA fun _ => by
    rw [nth_nat (by decide), Nat.pow_zero, Nat.div_one]
    show AV.bool (Nat.beq (restN A % 256 % 2) 1) = _
    unfold oddN restN
    congr 2
    omega
  obtain ⟨r, m, h, rfl⟩ := run_of pairedR2 specsR2_ok (cf := cfR2) (fun _ h => pfT_some h) (K := fun r => r = .bool (oddN A)) (Eq.mp (rOdd_wp A _) hk)
  exact ⟨_, _, m, okE specsR2 specsR2_ok, h⟩
theorem rSame_c : PlainC Try.prog 32 (predS2 sameN) := pred2_c fun A B hA hB => by
  have hk : q1 restN (encL 32 A) fun x => q1 restN (encL 32 B) fun y => eqP (pEnv specsR2) 23 x y fun b => ∀ _ : AMem, AV.bool b = .bool (sameN A B) := q1_nat hA (q1_nat hB ⟨_, eq_num (mod_lt32 A) (mod_lt32 B), fun _ => by
    congr 1
    unfold sameN restN
    cases hb : Nat.beq (A % pF) (B % pF) with
    | true => rw [decide_eq_true_iff]; exact Nat.eq_of_beq_eq_true hb
    | false => rw [decide_eq_false_iff_not]; exact Nat.ne_of_beq_eq_false hb⟩)
  obtain ⟨r, m, h, rfl⟩ := run_of pairedR2 specsR2_ok (cf := cfR2) (fun _ h => pfT_some h) (K := fun r => r = .bool (sameN A B)) (Eq.mp (rSame_wp A B _) hk)
  exact ⟨_, _, m, okE specsR2 specsR2_ok, h⟩
def specsR3 : List (Nat × (List AV → Option AV)) := [(32, predS2 sameN), (30, predS oddN), (22, numS1 negN), (24, numS2 mulN), (26, numS2 powM), (48, shS), (16, ofS)]
theorem specsR3_ok : ∀ p ∈ specsR3, FnOK Try.prog p.1 (orcS p.2) := by
  intro p hp
  simp only [specsR3, List.mem_cons, List.not_mem_nil, or_false] at hp
  rcases hp with rfl | rfl | rfl | rfl | rfl | rfl | rfl
  · exact plain_ok rSame_c
  · exact plain_ok rOdd_c
  · exact plain_ok rNeg_c
  · exact plain_ok rMul_c
  · exact plain_ok rPow_c
  · exact plain_ok sh_c
  · exact plain_ok rOf_c
def waysR3 : List (Nat × (List AV → AMem → KP → Prop)) := [(32, predA2 sameN), (30, predA oddN), (22, numA1 negN), (24, numA2 mulN), (26, numA2 powM), (48, shA), (16, ofA)]
theorem pairedR3 : Paired specsR3 waysR3 := .cons (fun _ _ _ h => predA2_ok h) (.cons (fun _ _ _ h => predA_ok h) (.cons (fun _ _ _ h => numA1_ok h) (.cons (fun _ _ _ h => numA2_ok h) (.cons (fun _ _ _ h => numA2_ok h) (.cons (fun _ _ _ h => shA_ok h) (.cons (fun _ _ _ h => ofA_ok h) .nil))))))
def cfR3 : Wcfg := ⟨fun _ => false, pfT specsR3, fun _ => none⟩
def rrEnd (a x : List AV) (K : List AV → Bool → Prop) : Prop := q2 mulN x x fun s => predQ2 sameN s a (endR x K) (K (encL 32 0) false)
def rrP (a : List AV) (N : (List AV → Prop) → Prop) (p : List AV) (K : List AV → Bool → Prop) : Prop :=
  q2 mulN p a fun x => q2 mulN x x fun s => predQ2 sameN s a (rrEnd a x K) (ofQ 2 fun t => N fun e => q2 powM t e fun w => q2 mulN x w fun y => rrEnd a y K)
theorem rRoot_wp (A : Nat) (K : AV → Prop) : (shQ 5 3 fun e => q2 powM (encL 32 A) e fun p => rrP (encL 32 A) (shQ 1 2) p fun r b => ∀ _ : AMem, K (.tup [.agg r, .bool b])) =
    wpCall cfR3 (pEnv specsR3) (owL waysR3) 1000 (.fn 10) [.agg (encL 32 A)] ⟨0, .nil⟩ (fun r _ => ∀ _ : AMem, K r) := by kernel_rfl
theorem rr_nat {A e0 f : Nat} (hA : A < 256 ^ 32) (hf : f < 256 ^ 32) {N : (List AV → Prop) → Prop} (hN : ∀ K, K (encL 32 f) → N K) {K : List AV → Bool → Prop} (hk : K (encL 32 (rootRG (e0 + 1) f A)) (rootBG (e0 + 1) f A)) : rrP (encL 32 A) N (encL 32 (powM A e0)) K := by
  have hx : mulN (powM A e0) A = root1G (e0 + 1) A := by
    unfold mulN powM root1G powM
    rw [Nat.mod_mul_mod, ← Nat.pow_succ]
  refine q2_nat (lt_pow' _ _) hA ?_
  rw [hx]
  have hxl : root1G (e0 + 1) A < 256 ^ 32 := lt_pow' _ _
  refine q2_nat hxl hxl (predQ2_of (lt_mul' _ _) hA (fun h => q2_nat hxl hxl (predQ2_of (lt_mul' _ _) hA (fun _ => endR_nat hxl ?_) fun h' => ?_)) fun h => ?_)
  · unfold rootRG rootBG at hk
    rw [h] at hk; exact hk
  · rw [h] at h'; cases h'
  · refine ofQ_nat (n := 2) (by decide) (hN _ (q2_nat (A := 2) (by decide) hf (q2_nat hxl (lt_pow' _ _) ?_)))
    show rrEnd (encL 32 A) (encL 32 (root2G (e0 + 1) f A)) K
    have hyl : root2G (e0 + 1) f A < 256 ^ 32 := lt_mul' _ _
    refine q2_nat hyl hyl (predQ2_of (lt_mul' _ _) hA (fun h2 => endR_nat hyl ?_) fun h2 => ?_)
    · unfold rootRG rootBG at hk
      rw [h, h2] at hk; exact hk
    · unfold rootRG rootBG at hk
      rw [h, h2] at hk; exact hk
theorem rRoot_c : PlainC Try.prog 10 rootS := by
  have main : ∀ l r, rootS l = some r → ∃ A, A < 256 ^ 32 ∧ l = [.agg (encL 32 A)] ∧ r = .tup [.agg (encL 32 (rootR A)), .bool (rootB A)] := by
    intro l r h
    unfold rootS at h
    split at h
    · next l =>
      cases hd : decN 32 l with
      | none => rw [hd] at h; cases h
      | some A =>
        rw [hd] at h; cases h
        obtain ⟨rfl, hA⟩ := enc_decN hd
        exact ⟨A, hA, rfl, rfl⟩
    · cases h
  refine ⟨fun l r hs => ?_, fun l r hs => ?_⟩ <;> obtain ⟨A, hA, rfl, rfl⟩ := main l r hs
  · refine ⟨?_, ?_⟩
    · show (AV.plain _ && true) = true
      rw [plain_enc]; rfl
    · simp [AV.plain, AV.plains, plains_enc]
  · obtain ⟨R, hR⟩ : ∃ R, R = AV.tup [.agg (encL 32 (rootR A)), .bool (rootB A)] := ⟨_, rfl⟩
    have hroot : ∀ e0 f, e0 + 1 = 2 ^ 252 - 2 → f = 2 ^ 253 - 5 → R = AV.tup [.agg (encL 32 (rootRG (e0 + 1) f A)), .bool (rootBG (e0 + 1) f A)] := by
      intro e0 f h1 h2
      rw [h1, h2, hR]; rfl
    have hk : shQ 5 3 fun e => q2 powM (encL 32 A) e fun p => rrP (encL 32 A) (shQ 1 2) p fun r b => ∀ _ : AMem, AV.tup [.agg r, .bool b] = R :=
      shQ_nat (n := 5) (k := 3) rfl (q2_nat hA (shV_lt rfl) (rr_nat (e0 := shV 5 3) (f := shV 1 2) hA (shV_lt rfl) (fun K h => shQ_nat (n := 1) (k := 2) rfl h) fun _ => (hroot _ _ sh_root sh_two).symm))
    have g := @run_of _ _ pairedR3 specsR3_ok cfR3 (fun _ h => pfT_some h) 10 1000 [.agg (encL 32 A)] (fun r => r = R)
    rw [← rRoot_wp] at g
    obtain ⟨r, m, h, rfl⟩ := g hk
    rw [← hR]
    exact ⟨_, _, m, okE specsR3 specsR3_ok, h⟩
end
end Ev
