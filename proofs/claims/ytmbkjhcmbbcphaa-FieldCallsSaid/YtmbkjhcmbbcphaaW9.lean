/-
  The reference's Close as an oracle; its Rest and Canon. Conditions: numbers of 32 bytes.
-/
import Derived.Test.YtmbkjhcmbbcphaaW8
import Derived.Test.YtmbkjhcmbbcphaaSs
namespace Ev
open Go Go.Proofs
noncomputable section

def n10B (n0 n1 n2 n3 n4 n5 n6 n7 n8 n9 : Nat) : Bool := Nat.blt n0 67109888 && (Nat.blt n1 33554432 && (Nat.blt n2 67108864 && (Nat.blt n3 33554432 && (Nat.blt n4 67108864 && (Nat.blt n5 33554432 && (Nat.blt n6 67108864 && (Nat.blt n7 33554432 && (Nat.blt n8 67108864 && (Nat.blt n9 33554432)))))))))
theorem n10B_iff (n0 n1 n2 n3 n4 n5 n6 n7 n8 n9 : Nat) : n10B n0 n1 n2 n3 n4 n5 n6 n7 n8 n9 = true ↔ N10 n0 n1 n2 n3 n4 n5 n6 n7 n8 n9 := by
  simp only [n10B, Bool.and_eq_true, Nat.blt_eq]
  exact ⟨fun ⟨h0, h1, h2, h3, h4, h5, h6, h7, h8, h9⟩ => ⟨h0, h1, h2, h3, h4, h5, h6, h7, h8, h9⟩, fun ⟨h0, h1, h2, h3, h4, h5, h6, h7, h8, h9⟩ => ⟨h0, h1, h2, h3, h4, h5, h6, h7, h8, h9⟩⟩
def clS : List AV → Option AV
  | [.agg [.int .i64 (.ofNat n0), .int .i64 (.ofNat n1), .int .i64 (.ofNat n2), .int .i64 (.ofNat n3), .int .i64 (.ofNat n4), .int .i64 (.ofNat n5), .int .i64 (.ofNat n6), .int .i64 (.ofNat n7), .int .i64 (.ofNat n8), .int .i64 (.ofNat n9)]] => Bool.casesOn (motive := fun _ => Option AV) (n10B n0 n1 n2 n3 n4 n5 n6 n7 n8 n9) none (some (.agg (encL 32 (val10 n0 n1 n2 n3 n4 n5 n6 n7 n8 n9 % pF))))
  | _ => none
theorem cl_c : PlainC Try.prog 51 clS := by
  refine ⟨fun l r h => ?_, fun l r h => ?_⟩ <;> unfold clS at h <;> split at h
  · next n0 n1 n2 n3 n4 n5 n6 n7 n8 n9 =>
    cases hb : n10B n0 n1 n2 n3 n4 n5 n6 n7 n8 n9 with
    | false => rw [hb] at h; cases h
    | true => rw [hb] at h; cases h; exact ⟨rfl, plain_enc _⟩
  · cases h
  · next n0 n1 n2 n3 n4 n5 n6 n7 n8 n9 =>
    cases hb : n10B n0 n1 n2 n3 n4 n5 n6 n7 n8 n9 with
    | false => rw [hb] at h; cases h
    | true =>
      rw [hb] at h
      obtain ⟨V, hV⟩ : ∃ V, V = AV.agg (encL 32 (val10 n0 n1 n2 n3 n4 n5 n6 n7 n8 n9 % pF)) := ⟨_, rfl⟩
      obtain ⟨r', m, h1, h2⟩ := WCl_ok (close51 ((n10B_iff n0 n1 n2 n3 n4 n5 n6 n7 n8 n9).1 hb) (K := fun r => r = V) hV.symm rfl)
      have hr : r = V := by rw [hV]; exact (Option.some.inj h).symm
      rw [hr]
      subst h2
      exact ⟨_, _, m, okE specsO specsO_ok, h1⟩
  · cases h
def clQ (v0 v1 v2 v3 v4 v5 v6 v7 v8 v9 : Int) (K : List AV → Prop) : Prop := ∃ n0 n1 n2 n3 n4 n5 n6 n7 n8 n9 : Nat, (v0 = .ofNat n0 ∧ v1 = .ofNat n1 ∧ v2 = .ofNat n2 ∧ v3 = .ofNat n3 ∧ v4 = .ofNat n4 ∧ v5 = .ofNat n5 ∧ v6 = .ofNat n6 ∧ v7 = .ofNat n7 ∧ v8 = .ofNat n8 ∧ v9 = .ofNat n9) ∧ N10 n0 n1 n2 n3 n4 n5 n6 n7 n8 n9 ∧ K (encL 32 (val10 n0 n1 n2 n3 n4 n5 n6 n7 n8 n9 % pF))
def clA : List AV → AMem → KP → Prop
  | [.agg [.int .i64 v0, .int .i64 v1, .int .i64 v2, .int .i64 v3, .int .i64 v4, .int .i64 v5, .int .i64 v6, .int .i64 v7, .int .i64 v8, .int .i64 v9]], m, K => clQ v0 v1 v2 v3 v4 v5 v6 v7 v8 v9 fun r => K (.agg r) m
  | _, _, _ => False
theorem clA_ok {args : List AV} {m : AMem} {K : KP} (h : clA args m K) : ∃ r, clS args = some r ∧ K r m := by
  unfold clA at h
  split at h
  · next v0 v1 v2 v3 v4 v5 v6 v7 v8 v9 =>
    obtain ⟨n0, n1, n2, n3, n4, n5, n6, n7, n8, n9, ⟨rfl, rfl, rfl, rfl, rfl, rfl, rfl, rfl, rfl, rfl⟩, hn, hk⟩ := h
    refine ⟨_, ?_, hk⟩
    show Bool.casesOn (motive := fun _ => Option AV) (n10B n0 n1 n2 n3 n4 n5 n6 n7 n8 n9) none (some (.agg (encL 32 (val10 n0 n1 n2 n3 n4 n5 n6 n7 n8 n9 % pF)))) = _
    rw [(n10B_iff n0 n1 n2 n3 n4 n5 n6 n7 n8 n9).2 hn]
  · cases h
def specsF : List (Nat × (List AV → Option AV)) := [(52, opS), (51, clS)]
theorem specsF_ok : ∀ p ∈ specsF, FnOK Try.prog p.1 (orcS p.2) := by
  intro p hp
  simp only [specsF, List.mem_cons, List.not_mem_nil, or_false] at hp
  rcases hp with rfl | rfl
  · exact plain_ok op_c
  · exact plain_ok cl_c
def waysF : List (Nat × (List AV → AMem → KP → Prop)) := [(52, opA), (51, clA)]
theorem pairedF : Paired specsF waysF := .cons (fun _ _ _ h => opA_ok h) (.cons (fun _ _ _ h => clA_ok h) .nil)
def pfF (f : Nat) : Bool := Nat.beq f 52 || Nat.beq f 51
theorem pfF_some (g : Nat) (h : pfF g = true) : ∃ s, lookS specsF g = some (orcS s) := by
  simp only [pfF, Bool.or_eq_true] at h
  rcases h with h | h
  all_goals (have := Nat.eq_of_beq_eq_true h; subst this; exact ⟨_, rfl⟩)
def cfF : Wcfg := ⟨fun _ => false, pfF, fun _ => none⟩
theorem refRest_wp (A : Nat) (K : AV → Prop) : (opQ (encL 32 A) fun v0 v1 v2 v3 v4 v5 v6 v7 v8 v9 => clQ v0 v1 v2 v3 v4 v5 v6 v7 v8 v9 fun r => ∀ _ : AMem, K (.agg r)) = wpCall cfF (pEnv specsF) (owL waysF) 1000 (.fn 12) [.agg (encL 32 A)] ⟨0, .nil⟩ (fun r _ => ∀ _ : AMem, K r) := by kernel_rfl
theorem opQ_nat {A : Nat} (hA : A < 256 ^ 32) {K : Int → Int → Int → Int → Int → Int → Int → Int → Int → Int → Prop} (hk : ∀ n0 n1 n2 n3 n4 n5 n6 n7 n8 n9 : Nat, N10 n0 n1 n2 n3 n4 n5 n6 n7 n8 n9 → val10 n0 n1 n2 n3 n4 n5 n6 n7 n8 n9 % pF = A % pF → K (.ofNat n0) (.ofNat n1) (.ofNat n2) (.ofNat n3) (.ofNat n4) (.ofNat n5) (.ofNat n6) (.ofNat n7) (.ofNat n8) (.ofNat n9)) : opQ (encL 32 A) K :=
  ⟨A, decN_enc hA, fun v0 v1 v2 v3 v4 v5 v6 v7 v8 v9 ⟨n0, n1, n2, n3, n4, n5, n6, n7, n8, n9, ⟨e0, e1, e2, e3, e4, e5, e6, e7, e8, e9⟩, h1, h2⟩ => by
    subst e0 e1 e2 e3 e4 e5 e6 e7 e8 e9
    exact hk _ _ _ _ _ _ _ _ _ _ h1 h2⟩
theorem clQ_nat {n0 n1 n2 n3 n4 n5 n6 n7 n8 n9 : Nat} (h : N10 n0 n1 n2 n3 n4 n5 n6 n7 n8 n9) {K : List AV → Prop} (hk : K (encL 32 (val10 n0 n1 n2 n3 n4 n5 n6 n7 n8 n9 % pF))) : clQ (.ofNat n0) (.ofNat n1) (.ofNat n2) (.ofNat n3) (.ofNat n4) (.ofNat n5) (.ofNat n6) (.ofNat n7) (.ofNat n8) (.ofNat n9) K := ⟨n0, n1, n2, n3, n4, n5, n6, n7, n8, n9, ⟨rfl, rfl, rfl, rfl, rfl, rfl, rfl, rfl, rfl, rfl⟩, h, hk⟩
theorem refRest_c : PlainC Try.prog 12 (numS1 restN) := num1_c fun A hA => by
  obtain ⟨R, hR⟩ : ∃ R, R = AV.agg (encL 32 (restN A)) := ⟨_, rfl⟩
  have hk : opQ (encL 32 A) fun v0 v1 v2 v3 v4 v5 v6 v7 v8 v9 => clQ v0 v1 v2 v3 v4 v5 v6 v7 v8 v9 fun r => ∀ _ : AMem, AV.agg r = R := opQ_nat hA fun n0 n1 n2 n3 n4 n5 n6 n7 n8 n9 h1 h2 => clQ_nat h1 fun _ => by rw [h2, hR]; rfl
  have g := @run_of _ _ pairedF specsF_ok cfF pfF_some 12 1000 [.agg (encL 32 A)] (fun r => r = R)
  rw [← refRest_wp] at g
  obtain ⟨r, m, h, rfl⟩ := g hk
  rw [← hR]
  exact ⟨_, _, m, okE specsF specsF_ok, h⟩
def specsG : List (Nat × (List AV → Option AV)) := [(12, numS1 restN)]
theorem specsG_ok : ∀ p ∈ specsG, FnOK Try.prog p.1 (orcS p.2) := by
  intro p hp
  simp only [specsG, List.mem_cons, List.not_mem_nil, or_false] at hp
  rcases hp with rfl
  exact plain_ok refRest_c
def waysG : List (Nat × (List AV → AMem → KP → Prop)) := [(12, numA1 restN)]
theorem pairedG : Paired specsG waysG := .cons (fun _ _ _ h => numA1_ok h) .nil
def cfG : Wcfg := ⟨fun _ => false, fun f => Nat.beq f 12, fun _ => none⟩
theorem pfG_some (g : Nat) (h : cfG.pf g = true) : ∃ s, lookS specsG g = some (orcS s) := by
  have := Nat.eq_of_beq_eq_true h; subst this; exact ⟨_, rfl⟩
theorem refCanon_wp (A : Nat) (K : AV → Prop) : (q1 restN (encL 32 A) fun r => eqP (pEnv specsG) 23 r (encL 32 A) fun b => ∀ _ : AMem, K (.bool b)) = wpCall cfG (pEnv specsG) (owL waysG) 1000 (.fn 14) [.agg (encL 32 A)] ⟨0, .nil⟩ (fun r _ => ∀ _ : AMem, K r) := by kernel_rfl
theorem canon_dec (A : Nat) : decide (restN A = A) = canonN A := by
  unfold restN canonN
  cases hb : Nat.blt A pF with
  | true => rw [Nat.blt_eq] at hb; exact decide_eq_true (Nat.mod_eq_of_lt hb)
  | false =>
    refine decide_eq_false fun h => ?_
    have : A % pF < pF := Nat.mod_lt _ (by decide)
    rw [h, ← Nat.blt_eq] at this
    rw [this] at hb; cases hb
theorem refCanon_c : PlainC Try.prog 14 (predS canonN) := pred_c fun A hA => by
  have hk : q1 restN (encL 32 A) fun r => eqP (pEnv specsG) 23 r (encL 32 A) fun b => ∀ _ : AMem, AV.bool b = .bool (canonN A) := q1_nat hA ⟨_, eq_num (mod_lt32 A) hA, fun _ => by rw [canon_dec]⟩
  obtain ⟨r, m, h, rfl⟩ := run_of pairedG specsG_ok (cf := cfG) pfG_some (K := fun r => r = .bool (canonN A)) (Eq.mp (refCanon_wp A _) hk)
  exact ⟨_, _, m, okE specsG specsG_ok, h⟩
end
end Ev
