/-
  (words).power to any exponent: its run. Conditions: words below 2^53, an exponent of 32 bytes.
-/
import Derived.Test.YtmbkjhcmbbcphaaUu
import Derived.Test.YtmbkjhcmbbcphaaG6
namespace Ev
open Go Go.Proofs
noncomputable section

theorem leave_teq {E : Env} {fn : Func} {s s' : St} (ht : TEq s.tm s'.tm) (hm : s.mem = s'.mem) : evLeave E fn s = evLeave E fn s' := by
  have hg : ∀ i, (s.tm.get i).getD .undef = (s'.tm.get i).getD .undef := fun i => teq_orV ht i
  have hr : ∀ l : List ResultVar, evResults E s l = evResults E s' l := by
    intro l
    induction l with
    | nil => rfl
    | cons r l ih =>
      have : evResult E s r = evResult E s' r := by
        cases r <;> simp only [evResult, hg, hm]
      simp only [evResults, this, ih]
  unfold evLeave
  rw [hr, hm]

/-- where n rounds are left -/
def RU (E w0 w1 w2 w3 w4 : Nat) (e : ABlk) (n : Nat) (i : Int) (m : AMem) : Prop :=
  ∃ (k : Nat) (L : ABlk) (l0 l1 l2 l3 o0 o1 o2 o3 o4 : Nat), i = .ofNat k ∧ m = memU e rowZ L (.ofNat w0) (.ofNat w1) (.ofNat w2) (.ofNat w3) (.ofNat w4) (.ofNat o0) (.ofNat o1) (.ofNat o2) (.ofNat o3) (.ofNat o4) ∧
    (L = rowF (.ofNat l0) (.ofNat l1) (.ofNat l2) (.ofNat l3) ∨ ∃ c, L = rowN c (.ofNat l0) (.ofNat l1) (.ofNat l2) (.ofNat l3)) ∧ k + n = 256 ∧ InvU E (val5 w0 w1 w2 w3 w4) n l0 l1 l2 l3 o0 o1 o2 o3 o4
def IU (E w0 w1 w2 w3 w4 : Nat) (e : ABlk) (n : Nat) (s : St) : Prop := ∃ i, AtU i s ∧ RU E w0 w1 w2 w3 w4 e n i s.mem

theorem stepU {E w0 w1 w2 w3 w4 : Nat} {e : ABlk} (hw : lt5 w0 w1 w2 w3 w4 = true) (n : Nat) (s : St) (h : IU E w0 w1 w2 w3 w4 e (n + 1) s) (Q : KX) (hQ : ∀ s', IU E w0 w1 w2 w3 w4 e n s' → Q .normal s') :
    wpCodeF cfU powLoop (pEnv specs3) (wpCall cfU (pEnv specs3) owU 999) 999 s Q := by
  obtain ⟨i, hat, k, L, l0, l1, l2, l3, o0, o1, o2, o3, o4, rfl, hm, hL, hk, hI⟩ := h
  have hK : KEq (lookX (lift (RU E w0 w1 w2 w3 w4 e n)) (lift fun _ _ => False)) Q := by
    intro x s1 s2 ht hmm hx
    cases x with
    | normal => exact hQ s2 (look_to ht hmm hx)
    | exit id => obtain ⟨_, hx⟩ := hx; obtain ⟨_, _, hf⟩ := look_to ht hmm hx; cases hf
    | ret => cases hx
  have hinc : inc64 (.ofNat k) = .ofNat (k + 1) := by
    show wrapI .i64 (.ofNat (k + 1)) = _
    show Bool.casesOn (motive := fun _ => Int) (Nat.blt (k + 1) 9223372036854775808) _ (.ofNat (k + 1)) = _
    have : Nat.blt (k + 1) 9223372036854775808 = true := by rw [Nat.blt_eq]; omega
    rw [this]
  rcases hL with rfl | ⟨c, rfl⟩
  · refine wpCodeF_teq (cwU 999) powLoop powLoop_ok (Eq.mp (roundF_wp (fun k => orV (s.tm.get k)) e rowZ (.ofNat k) (.ofNat l0) (.ofNat l1) (.ofNat l2) (.ofNat l3) (.ofNat w0) (.ofNat w1) (.ofNat w2) (.ofNat w3) (.ofNat w4) (.ofNat o0) (.ofNat o1) (.ofNat o2) (.ofNat o3) (.ofNat o4) (lift (RU E w0 w1 w2 w3 w4 e n)) (lift fun _ _ => False)) ?_) (at_canon hat) hm.symm hK
    refine roundU_nat hk hw hI fun k0 k1 k2 k3 c0 c1 c2 c3 c4 hn => ?_
    rw [hinc]
    exact seen_of ⟨k + 1, _, k0, k1, k2, k3, c0, c1, c2, c3, c4, rfl, rfl, .inr ⟨_, rfl⟩, by omega, hn⟩
  · refine wpCodeF_teq (cwU 999) powLoop powLoop_ok (Eq.mp (roundN_wp (fun k => orV (s.tm.get k)) c e rowZ (.ofNat k) (.ofNat l0) (.ofNat l1) (.ofNat l2) (.ofNat l3) (.ofNat w0) (.ofNat w1) (.ofNat w2) (.ofNat w3) (.ofNat w4) (.ofNat o0) (.ofNat o1) (.ofNat o2) (.ofNat o3) (.ofNat o4) (lift (RU E w0 w1 w2 w3 w4 e n)) (lift fun _ _ => False)) ?_) (at_canon hat) hm.symm hK
    refine roundU_nat hk hw hI fun k0 k1 k2 k3 c0 c1 c2 c3 c4 hn => ?_
    rw [hinc]
    exact seen_of ⟨k + 1, _, k0, k1, k2, k3, c0, c1, c2, c3, c4, rfl, rfl, .inr ⟨_, rfl⟩, by omega, hn⟩

theorem endU {E w0 w1 w2 w3 w4 : Nat} {e : ABlk} {K : KX} (hK : ∀ s', IU E w0 w1 w2 w3 w4 e 0 s' → K (.exit 0) s') (s : St) (h : IU E w0 w1 w2 w3 w4 e 0 s) (Q : KX) (hQ : ∀ x s', x ≠ .normal → K x s' → Q x s') :
    wpCodeF cfU powLoop (pEnv specs3) (wpCall cfU (pEnv specs3) owU 999) 999 s Q := by
  obtain ⟨i, hat, k, L, l0, l1, l2, l3, o0, o1, o2, o3, o4, rfl, hm, hL, hk, hI⟩ := h
  have hKE : KEq (lookX (lift fun _ _ => False) (lift (RU E w0 w1 w2 w3 w4 e 0))) Q := by
    intro x s1 s2 ht hmm hx
    cases x with
    | normal => obtain ⟨_, _, hf⟩ := look_to ht hmm hx; cases hf
    | exit id =>
      obtain ⟨h0, hx⟩ := hx
      have h0 : id = 0 := h0
      subst h0
      exact hQ _ _ (fun e => by cases e) (hK s2 (look_to ht hmm hx))
    | ret => cases hx
  have hk : k = 256 := by omega
  subst hk
  have hlt : ∀ T F : Prop, F → splitU (ltI (.ofNat 256) 256) T F := fun T F hF => ⟨fun h => (by cases h), fun _ => hF⟩
  rcases hL with rfl | ⟨c, rfl⟩
  · refine wpCodeF_teq (cwU 999) powLoop powLoop_ok (Eq.mp (roundF_wp (fun k => orV (s.tm.get k)) e rowZ (.ofNat 256) (.ofNat l0) (.ofNat l1) (.ofNat l2) (.ofNat l3) (.ofNat w0) (.ofNat w1) (.ofNat w2) (.ofNat w3) (.ofNat w4) (.ofNat o0) (.ofNat o1) (.ofNat o2) (.ofNat o3) (.ofNat o4) (lift fun _ _ => False) (lift (RU E w0 w1 w2 w3 w4 e 0))) ?_) (at_canon hat) hm.symm hKE
    exact hlt _ _ ⟨rfl, seen_of ⟨256, _, l0, l1, l2, l3, o0, o1, o2, o3, o4, rfl, rfl, .inl rfl, rfl, hI⟩⟩
  · refine wpCodeF_teq (cwU 999) powLoop powLoop_ok (Eq.mp (roundN_wp (fun k => orV (s.tm.get k)) c e rowZ (.ofNat 256) (.ofNat l0) (.ofNat l1) (.ofNat l2) (.ofNat l3) (.ofNat w0) (.ofNat w1) (.ofNat w2) (.ofNat w3) (.ofNat w4) (.ofNat o0) (.ofNat o1) (.ofNat o2) (.ofNat o3) (.ofNat o4) (lift fun _ _ => False) (lift (RU E w0 w1 w2 w3 w4 e 0))) ?_) (at_canon hat) hm.symm hKE
    exact hlt _ _ ⟨rfl, seen_of ⟨256, _, l0, l1, l2, l3, o0, o1, o2, o3, o4, rfl, rfl, .inr ⟨_, rfl⟩, rfl, hI⟩⟩

theorem wp_shape {E : Env} {cw : CallW} {cf : Wcfg} {a b c d x y : Code} {fuel : Nat} {s : St} {K : KX} (h : wpCodeF cf (.seq (.seq (.seq (.seq a b) c) d) (.seq x y)) E cw fuel s K) :
    wpCodeF cf (.seq a (.seq b (.seq c (.seq (.seq d x) y)))) E cw fuel s K := by
  have h1 := wp_assoc h
  refine wp_assoc (wp_assoc ?_)
  exact h
theorem f37_fn : (pEnv specs3).fn 58 = some Try.f58 := by kernel_rfl
theorem f37_body : Try.f58.body = some powBody := by kernel_rfl

theorem owU37 : owU 58 = none := rfl
theorem f37_len {a b : AV} : Nat.ble [a, b].length Try.f58.ntmps = true := by kernel_rfl

/-- a call of power, by its condition -/
def WC (n : Nat) (args : List AV) (K : KP) : Prop := wpCall cfU (pEnv specs3) owU n (.fn 58) args ⟨0, .nil⟩ K
theorem WC_of {n : Nat} {a b : AV} {K : KP} (h : wpCodeF cfU powBody (pEnv specs3) (wpCall cfU (pEnv specs3) owU n) n ⟨initTm [a, b] 0 .nil, ⟨0, .nil⟩⟩ (leaveU K)) : WC (n + 1) [a, b] K :=
  wpCall_of owU37 f37_fn f37_body (@f37_len a b) h
theorem WC_ok {n : Nat} {args : List AV} {K : AV → Prop} (h : WC n args fun r _ => ∀ _ : AMem, K r) : ∃ r m, evCall (pEnv specs3) n (.fn 58) args ⟨0, .nil⟩ = some (r, m) ∧ K r := by
  obtain ⟨r, m', h1, h2⟩ := wpCall_ok (cf := cfU) (okE specs3 specs3_ok).grows (fun g h => by cases h) owU_none owU_some n _ _ _ _ h
  exact ⟨r, m', h1, h2 m'⟩

theorem postU {E w0 w1 w2 w3 w4 : Nat} {e : ABlk} {Q : AV → Prop} (hQ : ∀ d0 d1 d2 d3 d4 : Nat, lt5 d0 d1 d2 d3 d4 = true → val5 d0 d1 d2 d3 d4 % pF = val5 w0 w1 w2 w3 w4 ^ E % pF → Q (wordsA (.ofNat d0) (.ofNat d1) (.ofNat d2) (.ofNat d3) (.ofNat d4)))
    (s2 : St) (hI2 : IU E w0 w1 w2 w3 w4 e 0 s2) : wpCodeF cfU powPost (pEnv specs3) (wpCall cfU (pEnv specs3) owU 999) 999 s2 (leaveU fun r _ => ∀ _ : AMem, Q r) := by
  obtain ⟨i, hat, k, L, l0, l1, l2, l3, o0, o1, o2, o3, o4, rfl, hm2, hL, hk, ⟨_, _, _, _, ho, H, R, hE, hR, _, hv⟩⟩ := hI2
  have hR0 : R = 0 := by rw [Nat.pow_zero] at hR; omega
  rw [hR0, Nat.pow_zero, Nat.mul_one, Nat.add_zero] at hE
  rw [← hE] at hv
  refine wpCodeF_teq (cwU 999) powPost powPost_ok (Eq.mp (powPost_wp (fun k => orV (s2.tm.get k)) e L (.ofNat k) (.ofNat w0) (.ofNat w1) (.ofNat w2) (.ofNat w3) (.ofNat w4) (.ofNat o0) (.ofNat o1) (.ofNat o2) (.ofNat o3) (.ofNat o4) Q) fun _ => hQ _ _ _ _ _ ho hv) (at_canon hat) hm2.symm ?_
  intro x s3 s4 ht hm hx
  have need : ∀ e : Ex, leaveU (fun r _ => ∀ _ : AMem, Q r) e s3 → leaveU (fun r _ => ∀ _ : AMem, Q r) e s4 := by
    intro e he
    unfold leaveU at he ⊢
    rw [leave_teq ht hm] at he
    exact he
  exact need x hx
theorem loopU {E w0 w1 w2 w3 w4 : Nat} {e : ABlk} (hw : lt5 w0 w1 w2 w3 w4 = true) {Q : AV → Prop} (hQ : ∀ d0 d1 d2 d3 d4 : Nat, lt5 d0 d1 d2 d3 d4 = true → val5 d0 d1 d2 d3 d4 % pF = val5 w0 w1 w2 w3 w4 ^ E % pF → Q (wordsA (.ofNat d0) (.ofNat d1) (.ofNat d2) (.ofNat d3) (.ofNat d4)))
    (s : St) (hI : IU E w0 w1 w2 w3 w4 e 256 s) : wpCodeF cfU (.seq (.block 0 (.loop powLoop)) powPost) (pEnv specs3) (wpCall cfU (pEnv specs3) owU 999) 999 s (leaveU fun r _ => ∀ _ : AMem, Q r) := by
  exact wp_loop (IU E w0 w1 w2 w3 w4 e) (fun n s h Q hQ => stepU hw n s h Q hQ) (fun s h Q hQ => endU (K := fun x s' => x = .exit 0 ∧ IU E w0 w1 w2 w3 w4 e 0 s') (fun s' h => ⟨rfl, h⟩) s h Q fun x s' _ hx => hx.1 ▸ hQ s' hx.2) (fun s h => postU hQ s h) (n := 256) (by decide) hI

theorem power_all {w0 w1 w2 w3 w4 b0 b1 b2 b3 b4 b5 b6 b7 b8 b9 b10 b11 b12 b13 b14 b15 b16 b17 b18 b19 b20 b21 b22 b23 b24 b25 b26 b27 b28 b29 b30 b31 : Nat} (hw : lt5 w0 w1 w2 w3 w4 = true) (h0 : b0 < 256) (h1 : b1 < 256) (h2 : b2 < 256) (h3 : b3 < 256) (h4 : b4 < 256) (h5 : b5 < 256) (h6 : b6 < 256) (h7 : b7 < 256) (h8 : b8 < 256) (h9 : b9 < 256) (h10 : b10 < 256) (h11 : b11 < 256) (h12 : b12 < 256) (h13 : b13 < 256) (h14 : b14 < 256) (h15 : b15 < 256) (h16 : b16 < 256) (h17 : b17 < 256) (h18 : b18 < 256) (h19 : b19 < 256) (h20 : b20 < 256) (h21 : b21 < 256) (h22 : b22 < 256) (h23 : b23 < 256) (h24 : b24 < 256) (h25 : b25 < 256) (h26 : b26 < 256) (h27 : b27 < 256) (h28 : b28 < 256) (h29 : b29 < 256) (h30 : b30 < 256) (h31 : b31 < 256) {X : List AV} (hX : X = bytesA (.ofNat b0) (.ofNat b1) (.ofNat b2) (.ofNat b3) (.ofNat b4) (.ofNat b5) (.ofNat b6) (.ofNat b7) (.ofNat b8) (.ofNat b9) (.ofNat b10) (.ofNat b11) (.ofNat b12) (.ofNat b13) (.ofNat b14) (.ofNat b15) (.ofNat b16) (.ofNat b17) (.ofNat b18) (.ofNat b19) (.ofNat b20) (.ofNat b21) (.ofNat b22) (.ofNat b23) (.ofNat b24) (.ofNat b25) (.ofNat b26) (.ofNat b27) (.ofNat b28) (.ofNat b29) (.ofNat b30) (.ofNat b31)) {Q : AV → Prop}
    (hQ : ∀ d0 d1 d2 d3 d4 : Nat, lt5 d0 d1 d2 d3 d4 = true → val5 d0 d1 d2 d3 d4 % pF = val5 w0 w1 w2 w3 w4 ^ L4 (eight b24 b25 b26 b27 b28 b29 b30 b31) (eight b16 b17 b18 b19 b20 b21 b22 b23) (eight b8 b9 b10 b11 b12 b13 b14 b15) (eight b0 b1 b2 b3 b4 b5 b6 b7) % pF → Q (wordsA (.ofNat d0) (.ofNat d1) (.ofNat d2) (.ofNat d3) (.ofNat d4))) :
    WC (999 + 1) [wordsA (.ofNat w0) (.ofNat w1) (.ofNat w2) (.ofNat w3) (.ofNat w4), .agg X] fun r _ => ∀ _ : AMem, Q r := by
  refine WC_of ?_
  rw [powBody_eq]
  refine wp_shape ?_
  have hstart : seen (lift (RU (L4 (eight b24 b25 b26 b27 b28 b29 b30 b31) (eight b16 b17 b18 b19 b20 b21 b22 b23) (eight b8 b9 b10 b11 b12 b13 b14 b15) (eight b0 b1 b2 b3 b4 b5 b6 b7)) w0 w1 w2 w3 w4 (.row 32 (bytesA (.ofNat b0) (.ofNat b1) (.ofNat b2) (.ofNat b3) (.ofNat b4) (.ofNat b5) (.ofNat b6) (.ofNat b7) (.ofNat b8) (.ofNat b9) (.ofNat b10) (.ofNat b11) (.ofNat b12) (.ofNat b13) (.ofNat b14) (.ofNat b15) (.ofNat b16) (.ofNat b17) (.ofNat b18) (.ofNat b19) (.ofNat b20) (.ofNat b21) (.ofNat b22) (.ofNat b23) (.ofNat b24) (.ofNat b25) (.ofNat b26) (.ofNat b27) (.ofNat b28) (.ofNat b29) (.ofNat b30) (.ofNat b31)) .nil true) 256)) (.int .i64 0) (memU (.row 32 (bytesA (.ofNat b0) (.ofNat b1) (.ofNat b2) (.ofNat b3) (.ofNat b4) (.ofNat b5) (.ofNat b6) (.ofNat b7) (.ofNat b8) (.ofNat b9) (.ofNat b10) (.ofNat b11) (.ofNat b12) (.ofNat b13) (.ofNat b14) (.ofNat b15) (.ofNat b16) (.ofNat b17) (.ofNat b18) (.ofNat b19) (.ofNat b20) (.ofNat b21) (.ofNat b22) (.ofNat b23) (.ofNat b24) (.ofNat b25) (.ofNat b26) (.ofNat b27) (.ofNat b28) (.ofNat b29) (.ofNat b30) (.ofNat b31)) .nil true) rowZ (rowF (load8 (.ofNat b24) (.ofNat b25) (.ofNat b26) (.ofNat b27) (.ofNat b28) (.ofNat b29) (.ofNat b30) (.ofNat b31)) (load8 (.ofNat b16) (.ofNat b17) (.ofNat b18) (.ofNat b19) (.ofNat b20) (.ofNat b21) (.ofNat b22) (.ofNat b23)) (load8 (.ofNat b8) (.ofNat b9) (.ofNat b10) (.ofNat b11) (.ofNat b12) (.ofNat b13) (.ofNat b14) (.ofNat b15)) (load8 (.ofNat b0) (.ofNat b1) (.ofNat b2) (.ofNat b3) (.ofNat b4) (.ofNat b5) (.ofNat b6) (.ofNat b7))) (.ofNat w0) (.ofNat w1) (.ofNat w2) (.ofNat w3) (.ofNat w4) 1 0 0 0 0) := by
    rw [load8_nat h0 h1 h2 h3 h4 h5 h6 h7, load8_nat h8 h9 h10 h11 h12 h13 h14 h15, load8_nat h16 h17 h18 h19 h20 h21 h22 h23, load8_nat h24 h25 h26 h27 h28 h29 h30 h31]
    have j0 := eight_lt h0 h1 h2 h3 h4 h5 h6 h7
    have j1 := eight_lt h8 h9 h10 h11 h12 h13 h14 h15
    have j2 := eight_lt h16 h17 h18 h19 h20 h21 h22 h23
    have j3 := eight_lt h24 h25 h26 h27 h28 h29 h30 h31
    refine seen_of ⟨0, _, _, _, _, _, 1, 0, 0, 0, 0, rfl, rfl, .inl rfl, rfl, j3, j2, j1, j0, rfl, 0, _, by rw [Nat.zero_mul, Nat.zero_add], ?_, by simp, rfl⟩
    unfold L4
    simp only [M64] at j0 j1 j2 j3
    rw [show (2 : Nat) ^ 256 = 115792089237316195423570985008687907853269984665640564039457584007913129639936 from rfl]
    omega
  refine wp_cut (cwU 999) powPre_ok (Eq.mp (powPre_at hX (.ofNat w0) (.ofNat w1) (.ofNat w2) (.ofNat w3) (.ofNat w4) _ (lift fun _ _ => False)) hstart) ?_
  intro x s s' ht hm hx
  cases x with
  | exit id => obtain ⟨_, hx⟩ := hx; obtain ⟨_, _, hf⟩ := look_to ht hm hx; cases hf
  | ret => cases hx
  | normal =>
    have hI : IU _ w0 w1 w2 w3 w4 (.row 32 (bytesA (.ofNat b0) (.ofNat b1) (.ofNat b2) (.ofNat b3) (.ofNat b4) (.ofNat b5) (.ofNat b6) (.ofNat b7) (.ofNat b8) (.ofNat b9) (.ofNat b10) (.ofNat b11) (.ofNat b12) (.ofNat b13) (.ofNat b14) (.ofNat b15) (.ofNat b16) (.ofNat b17) (.ofNat b18) (.ofNat b19) (.ofNat b20) (.ofNat b21) (.ofNat b22) (.ofNat b23) (.ofNat b24) (.ofNat b25) (.ofNat b26) (.ofNat b27) (.ofNat b28) (.ofNat b29) (.ofNat b30) (.ofNat b31)) .nil true) 256 s' := look_to ht hm hx
    exact loopU hw hQ s' hI
end
end Ev
