/-
  The reference's powers: their run. Conditions: words as they stand behind a carry, an exponent of 32 bytes.
-/
import Derived.Test.YtmbkjhcmbbcphaaY2
namespace Ev
open Go Go.Proofs
noncomputable section

def specsPw : List (Nat × (List AV → Option AV)) := [(57, tmS)]
theorem specsPw_ok : ∀ p ∈ specsPw, FnOK Try.prog p.1 (orcS p.2) := by
  intro p hp
  simp only [specsPw, List.mem_cons, List.not_mem_nil, or_false] at hp
  rcases hp with rfl
  exact plain_ok tm_c
def waysPw : List (Nat × (List AV → AMem → KP → Prop)) := [(57, tmA)]
theorem pairedPw : Paired specsPw waysPw := .cons (fun _ _ _ h => tmA_ok h) .nil
theorem tmA_meq : WayMeq tmA := by
  intro args m m' K K' hm hk h
  unfold tmA at h ⊢
  split at h
  · exact fun v0 v1 v2 v3 v4 v5 v6 v7 v8 v9 hv => hk _ _ _ hm (h v0 v1 v2 v3 v4 v5 v6 v7 v8 v9 hv)
  · cases h
theorem waysPw_meq : ∀ p ∈ waysPw, WayMeq p.2 := by
  intro p hp
  simp only [waysPw, List.mem_cons, List.not_mem_nil, or_false] at hp
  rcases hp with rfl
  exact tmA_meq
def pfPw (f : Nat) : Bool := Nat.beq f 57
theorem pfPw_some (g : Nat) (h : pfPw g = true) : ∃ s, lookS specsPw g = some (orcS s) := by
  have := Nat.eq_of_beq_eq_true h; subst this; exact ⟨_, rfl⟩
def exPw (o : Oper) : Bool := match o.op, o.dst with
  | .binOp .eql _ _ _ _, some d => Nat.beq d 24
  | _, _ => false
def cfPw : Wcfg := ⟨exPw, pfPw, fun _ => none⟩
def keepPw (f : Nat) : Bool := Nat.beq f 59
noncomputable abbrev cwPw : CallW := wpCall cfPw (pEnv specsPw) (owN waysPw keepPw) 999
noncomputable def pwBody : Code := Try.f59.body.getD .skip
noncomputable def pwRest : Code := qR (qR pwBody)
noncomputable def pwLoop : Code := qO (qB (qR (qL pwRest)))
noncomputable def pwPre : Code := .seq (.seq (qL pwBody) (qL (qR pwBody))) (qL (qL pwRest))
noncomputable def pwPost : Code := qR pwRest
theorem pwBody_eq : pwBody = .seq (qL pwBody) (.seq (qL (qR pwBody)) (.seq (.seq (qL (qL pwRest)) (.block 0 (.loop pwLoop))) pwPost)) := by kernel_rfl
theorem okLoop_p : okTM cfPw (pEnv specsPw) pwLoop = true := by kernel_rfl
theorem okPre_p : okTM cfPw (pEnv specsPw) pwPre = true := by kernel_rfl
theorem okPost_p : okTM cfPw (pEnv specsPw) pwPost = true := by kernel_rfl
theorem okBody_p : okTM cfPw (pEnv specsPw) pwBody = true := by kernel_rfl

abbrev SeenI := Option AV → AMem → Prop
def lookP (P : SeenI) (s : St) : Prop := under' 29 s.tm 1 0 = true ∧ (s.tm.get 2 = some (.ptr 0 0) ∧ s.tm.get 3 = some (.ptr 1 0) ∧ s.tm.get 4 = some (.ptr 2 0) ∧ s.tm.get 5 = some (.ptr 3 0)) ∧ P (s.tm.get 6) s.mem
def lookPX (P PX : SeenI) : KX := fun e s => Ex.casesOn (motive := fun _ => Prop) e (lookP P s) (fun id => id = 0 ∧ lookP PX s) False
def seenP (P : SeenI) (a : AV) (m : AMem) : Prop := true = true ∧ (some (AV.ptr 0 0) = some (.ptr 0 0) ∧ some (AV.ptr 1 0) = some (.ptr 1 0) ∧ some (AV.ptr 2 0) = some (.ptr 2 0) ∧ some (AV.ptr 3 0) = some (.ptr 3 0)) ∧ P (some a) m
def tmPw (j : Nat → AV) (i : Int) : Tr AV := tab [j 0, j 1, .ptr 0 0, .ptr 1 0, .ptr 2 0, .ptr 3 0, .int .i64 i, j 7, j 8, j 9, j 10, j 11, j 12, j 13, j 14, j 15, j 16, j 17, j 18, j 19, j 20, j 21, j 22, j 23, j 24, j 25, j 26, j 27, j 28]
def rowT (v0 v1 v2 v3 v4 v5 v6 v7 v8 v9 : Int) : ABlk := .row 10 [.int .i64 v0, .int .i64 v1, .int .i64 v2, .int .i64 v3, .int .i64 v4, .int .i64 v5, .int .i64 v6, .int .i64 v7, .int .i64 v8, .int .i64 v9] .nil true
def memW (E : Nat) (x0 x1 x2 x3 x4 x5 x6 x7 x8 x9 o0 o1 o2 o3 o4 o5 o6 o7 o8 o9 : Int) : AMem := ((((⟨0, .nil⟩ : AMem).add (rowT x0 x1 x2 x3 x4 x5 x6 x7 x8 x9)).add (.row 32 (encL 32 E) .nil true)).add (rowT 0 0 0 0 0 0 0 0 0 0)).add (rowT o0 o1 o2 o3 o4 o5 o6 o7 o8 o9)
def iV (n : Nat) : Int := Nat.casesOn (motive := fun _ => Int) n (.negSucc 0) fun k => .ofNat k
def pwM (E : Nat) (x0 x1 x2 x3 x4 x5 x6 x7 x8 x9 o0 o1 o2 o3 o4 o5 o6 o7 o8 o9 : Int) (P : SeenI) (k : Nat) : Prop :=
  tmQ o0 o1 o2 o3 o4 o5 o6 o7 o8 o9 o0 o1 o2 o3 o4 o5 o6 o7 o8 o9 fun v0 v1 v2 v3 v4 v5 v6 v7 v8 v9 => splitO (bitO E k) (tmQ v0 v1 v2 v3 v4 v5 v6 v7 v8 v9 x0 x1 x2 x3 x4 x5 x6 x7 x8 x9 fun w0 w1 w2 w3 w4 w5 w6 w7 w8 w9 => seenP P (.int .i64 (iV k)) (memW E x0 x1 x2 x3 x4 x5 x6 x7 x8 x9 w0 w1 w2 w3 w4 w5 w6 w7 w8 w9)) (seenP P (.int .i64 (iV k)) (memW E x0 x1 x2 x3 x4 x5 x6 x7 x8 x9 v0 v1 v2 v3 v4 v5 v6 v7 v8 v9))
theorem pw_all (j : Nat → AV) (E : Nat) (x0 x1 x2 x3 x4 x5 x6 x7 x8 x9 o0 o1 o2 o3 o4 o5 o6 o7 o8 o9 : Int) (P PX : SeenI) :
    (List.range 256).map (fun k => pwM E x0 x1 x2 x3 x4 x5 x6 x7 x8 x9 o0 o1 o2 o3 o4 o5 o6 o7 o8 o9 P k) =
    (List.range 256).map (fun k => wpCodeF cfPw pwLoop (pEnv specsPw) cwPw 999 ⟨tmPw j (iV (k + 1)), memW E x0 x1 x2 x3 x4 x5 x6 x7 x8 x9 o0 o1 o2 o3 o4 o5 o6 o7 o8 o9⟩ (lookPX P PX)) := by kernel_rfl
theorem pw_end (j : Nat → AV) (m : AMem) (P PX : SeenI) : (0 = 0 ∧ seenP PX (.int .i64 (iV 0)) m) = wpCodeF cfPw pwLoop (pEnv specsPw) cwPw 999 ⟨tmPw j (iV 0), m⟩ (lookPX P PX) := by kernel_rfl
theorem pwPre_wp (E : Nat) (x0 x1 x2 x3 x4 x5 x6 x7 x8 x9 : Int) (P PX : SeenI) : seenP P (.int .i64 (iV 256)) (memW E x0 x1 x2 x3 x4 x5 x6 x7 x8 x9 1 0 0 0 0 0 0 0 0 0) = wpCodeF cfPw pwPre (pEnv specsPw) cwPw 999 ⟨initTm [wideA x0 x1 x2 x3 x4 x5 x6 x7 x8 x9, .agg (encL 32 E)] 0 .nil, ⟨0, .nil⟩⟩ (lookPX P PX) := by kernel_rfl
def leavePw (K : KP) : KX := fun e s => Ex.casesOn (motive := fun _ => Prop) e (needR (evLeave (pEnv specsPw) Try.f59 s) K) (fun _ => False) (needR (evLeave (pEnv specsPw) Try.f59 s) K)
theorem pwPost_wp (j : Nat → AV) (E : Nat) (x0 x1 x2 x3 x4 x5 x6 x7 x8 x9 o0 o1 o2 o3 o4 o5 o6 o7 o8 o9 : Int) (K : AV → Prop) : (∀ _ : AMem, K (wideA o0 o1 o2 o3 o4 o5 o6 o7 o8 o9)) = wpCodeF cfPw pwPost (pEnv specsPw) cwPw 999 ⟨tmPw j (iV 0), memW E x0 x1 x2 x3 x4 x5 x6 x7 x8 x9 o0 o1 o2 o3 o4 o5 o6 o7 o8 o9⟩ (leavePw fun r _ => ∀ _ : AMem, K r) := by kernel_rfl

structure AtP (i : Int) (s : St) : Prop where
  hi : ∀ k, 29 ≤ k → orV (s.tm.get k) = .undef
  g2 : s.tm.get 2 = some (.ptr 0 0)
  g3 : s.tm.get 3 = some (.ptr 1 0)
  g4 : s.tm.get 4 = some (.ptr 2 0)
  g5 : s.tm.get 5 = some (.ptr 3 0)
  g6 : s.tm.get 6 = some (.int .i64 i)
def liftP (i : Int) (M : AMem → Prop) : SeenI := fun v m => v = some (.int .i64 i) ∧ M m
theorem lookP_to {i : Int} {M : AMem → Prop} {s s' : St} (ht : TEq s.tm s'.tm) (h : lookP (liftP i M) s) : AtP i s' ∧ M s.mem := by
  obtain ⟨hu, ⟨h2, h3, h4, h5⟩, h6, hM⟩ := h
  refine ⟨⟨fun k hk => ?_, teq_get ht h2 (fun e => by cases e), teq_get ht h3 (fun e => by cases e), teq_get ht h4 (fun e => by cases e), teq_get ht h5 (fun e => by cases e), teq_get ht h6 (fun e => by cases e)⟩, hM⟩
  rw [← teq_orV ht]
  cases hg : s.tm.get k with
  | none => rfl
  | some v =>
    have := under_get (under'_get hu) k v hg
    omega
theorem canonP {i : Int} {s : St} (h : AtP i s) : TEq (tmPw (fun k => orV (s.tm.get k)) i) s.tm := by
  have h1 := shape_teq h.hi
  have h2 : shape 29 s.tm = tmPw (fun k => orV (s.tm.get k)) i := by
    unfold shape tmPw
    rw [show List.range 29 = [0, 1, 2, 3, 4, 5, 6, 7, 8, 9, 10, 11, 12, 13, 14, 15, 16, 17, 18, 19, 20, 21, 22, 23, 24, 25, 26, 27, 28] from rfl]
    simp only [List.map, h.g2, h.g3, h.g4, h.g5, h.g6]
    rfl
  rw [h2] at h1
  exact fun k => (h1 k).symm
theorem seenP_of {i : Int} {M : AMem → Prop} {m : AMem} (h : M m) : seenP (liftP i M) (.int .i64 i) m := ⟨rfl, ⟨rfl, rfl, rfl, rfl⟩, rfl, h⟩
def noI : SeenI := fun _ _ => False
theorem noI_look {s : St} (h : lookP noI s) : False := h.2.2
theorem f59_fn : (pEnv specsPw).fn 59 = some Try.f59 := by kernel_rfl
theorem f59_body : Try.f59.body = some pwBody := by kernel_rfl
theorem f59_len {a b : AV} : Nat.ble [a, b].length Try.f59.ntmps = true := by kernel_rfl
theorem ow59 : owN waysPw keepPw 59 = none := rfl
theorem cwMp : CwMeq cwPw := by
  refine wpCall_meq (owN_meq waysPw_meq) (fun f fn c hw hf hb => ?_) 999
  have hk := (owN_none hw).2
  have := Nat.eq_of_beq_eq_true hk
  subst this
  rw [f59_fn] at hf
  cases hf
  rw [f59_body] at hb
  cases hb
  exact okBody_p

theorem sq_step {p n o W e : Nat} (h2 : n % p = o * o % p) (hv : o % p = W ^ e % p) : n % p = W ^ (2 * e) % p := by
  rw [h2, Nat.mul_mod, hv, ← Nat.mul_mod, ← Nat.pow_add]
  congr 2; omega
theorem mul_step {p m n W f : Nat} (h4 : m % p = n * W % p) (h : n % p = W ^ f % p) : m % p = W ^ (f + 1) % p := by
  rw [h4, Nat.mul_mod, h, ← Nat.mul_mod, ← Nat.pow_succ]
/-- words of the power, n bits to come -/
def MP (E : Nat) (x0 x1 x2 x3 x4 x5 x6 x7 x8 x9 : Nat) (n : Nat) (m : AMem) : Prop := ∃ o0 o1 o2 o3 o4 o5 o6 o7 o8 o9 : Nat, (N10 o0 o1 o2 o3 o4 o5 o6 o7 o8 o9 ∧ val10 o0 o1 o2 o3 o4 o5 o6 o7 o8 o9 % pF = val10 x0 x1 x2 x3 x4 x5 x6 x7 x8 x9 ^ (E / 2 ^ n) % pF) ∧ MEq (memW E (.ofNat x0) (.ofNat x1) (.ofNat x2) (.ofNat x3) (.ofNat x4) (.ofNat x5) (.ofNat x6) (.ofNat x7) (.ofNat x8) (.ofNat x9) (.ofNat o0) (.ofNat o1) (.ofNat o2) (.ofNat o3) (.ofNat o4) (.ofNat o5) (.ofNat o6) (.ofNat o7) (.ofNat o8) (.ofNat o9)) m
theorem stepP {E : Nat} {x0 x1 x2 x3 x4 x5 x6 x7 x8 x9 : Nat} (hx : N10 x0 x1 x2 x3 x4 x5 x6 x7 x8 x9) (k : Nat) (hk : k < 256) (s : St) (h : AtP (iV (k + 1)) s ∧ MP E x0 x1 x2 x3 x4 x5 x6 x7 x8 x9 (k + 1) s.mem) (Q : KX) (hQ : ∀ s', AtP (iV k) s' ∧ MP E x0 x1 x2 x3 x4 x5 x6 x7 x8 x9 k s'.mem → Q .normal s') :
    wpCodeF cfPw pwLoop (pEnv specsPw) cwPw 999 s Q := by
  obtain ⟨hat, o0, o1, o2, o3, o4, o5, o6, o7, o8, o9, ⟨hn, hv⟩, hm⟩ := h
  have e := map_at (pw_all (fun k => orV (s.tm.get k)) E (.ofNat x0) (.ofNat x1) (.ofNat x2) (.ofNat x3) (.ofNat x4) (.ofNat x5) (.ofNat x6) (.ofNat x7) (.ofNat x8) (.ofNat x9) (.ofNat o0) (.ofNat o1) (.ofNat o2) (.ofNat o3) (.ofNat o4) (.ofNat o5) (.ofNat o6) (.ofNat o7) (.ofNat o8) (.ofNat o9) (liftP (iV k) (MP E x0 x1 x2 x3 x4 x5 x6 x7 x8 x9 k)) noI) hk
  have hbit : E / 2 ^ k = 2 * (E / 2 ^ (k + 1)) + E / 2 ^ k % 2 := by
    rw [Nat.pow_succ, ← Nat.div_div_eq_div_mul]; omega
  refine wpCodeF_meq cwMp pwLoop okLoop_p (Eq.mp e ?_) (canonP hat) hm ?_
  · refine tm_nat hn hn fun n0 n1 n2 n3 n4 n5 n6 n7 n8 n9 h1 h2 => ⟨fun hb => tm_nat h1 hx fun p0 p1 p2 p3 p4 p5 p6 p7 p8 p9 h3 h4 => seenP_of ?_, fun hb => seenP_of ?_⟩ <;> rw [bitO_nat hk] at hb
    · have hb1 : E / 2 ^ k % 2 = 1 := of_decide_eq_true hb
      refine ⟨p0, p1, p2, p3, p4, p5, p6, p7, p8, p9, ⟨h3, ?_⟩, MEq.refl _⟩
      have := mul_step h4 (sq_step h2 hv)
      rw [hbit, hb1]; exact this
    · have hb0 : E / 2 ^ k % 2 = 0 := by
        have := of_decide_eq_false hb
        omega
      refine ⟨n0, n1, n2, n3, n4, n5, n6, n7, n8, n9, ⟨h1, ?_⟩, MEq.refl _⟩
      have := sq_step h2 hv
      rw [hbit, hb0]; exact this
  · intro x s1 s2 ht hm hx
    cases x with
    | normal =>
      obtain ⟨h1, p0, p1, p2, p3, p4, p5, p6, p7, p8, p9, h2, h3⟩ := lookP_to ht hx
      exact hQ s2 ⟨h1, p0, p1, p2, p3, p4, p5, p6, p7, p8, p9, h2, h3.trans hm⟩
    | exit id => exact (noI_look hx.2).elim
    | ret => cases hx
theorem endP {E : Nat} {x0 x1 x2 x3 x4 x5 x6 x7 x8 x9 : Nat} (s : St) (h : AtP (iV 0) s ∧ MP E x0 x1 x2 x3 x4 x5 x6 x7 x8 x9 0 s.mem) (Q : KX) (hQ : ∀ s', AtP (iV 0) s' ∧ MP E x0 x1 x2 x3 x4 x5 x6 x7 x8 x9 0 s'.mem → Q (.exit 0) s') : wpCodeF cfPw pwLoop (pEnv specsPw) cwPw 999 s Q := by
  refine wpCodeF_meq cwMp pwLoop okLoop_p (Eq.mp (pw_end (fun k => orV (s.tm.get k)) s.mem noI (liftP (iV 0) (MP E x0 x1 x2 x3 x4 x5 x6 x7 x8 x9 0))) ⟨rfl, seenP_of h.2⟩) (canonP h.1) (MEq.refl _) ?_
  intro x s1 s2 ht hm hx
  cases x with
  | normal => exact (noI_look hx).elim
  | exit id =>
    obtain ⟨h0, hx⟩ := hx
    have h0 : id = 0 := h0
    subst h0
    obtain ⟨h1, p0, p1, p2, p3, p4, p5, p6, p7, p8, p9, h2, h3⟩ := lookP_to ht hx
    exact hQ s2 ⟨h1, p0, p1, p2, p3, p4, p5, p6, p7, p8, p9, h2, h3.trans hm⟩
  | ret => cases hx
def WPw (n : Nat) (args : List AV) (K : KP) : Prop := wpCall cfPw (pEnv specsPw) (owN waysPw keepPw) n (.fn 59) args ⟨0, .nil⟩ K
theorem WPw_of {n : Nat} {a b : AV} {K : KP} (h : wpCodeF cfPw pwBody (pEnv specsPw) (wpCall cfPw (pEnv specsPw) (owN waysPw keepPw) n) n ⟨initTm [a, b] 0 .nil, ⟨0, .nil⟩⟩ (leavePw K)) : WPw (n + 1) [a, b] K :=
  wpCall_of ow59 f59_fn f59_body (@f59_len a b) h
theorem WPw_ok {n : Nat} {args : List AV} {K : AV → Prop} (h : WPw n args fun r _ => ∀ _ : AMem, K r) : ∃ r m, evCall (pEnv specsPw) n (.fn 59) args ⟨0, .nil⟩ = some (r, m) ∧ K r :=
  runN pairedPw specsPw_ok (cf := cfPw) pfPw_some h
theorem leavePw_meq {K : AV → Prop} : KEqM (leavePw fun r _ => ∀ _ : AMem, K r) (leavePw fun r _ => ∀ _ : AMem, K r) := by
  intro e s s' ht hm h
  have need : needR (evLeave (pEnv specsPw) Try.f59 s) (fun r _ => ∀ _ : AMem, K r) → needR (evLeave (pEnv specsPw) Try.f59 s') fun r _ => ∀ _ : AMem, K r := by
    intro h
    obtain ⟨v, m1, h1, h2⟩ := needR_some h
    obtain ⟨m1', h3, _⟩ := leave_meq ht hm h1
    rw [h3]
    exact h2
  cases e with
  | normal => exact need h
  | exit id => exact h
  | ret => exact need h
theorem power59 {E : Nat} (hE : E < 256 ^ 32) {x0 x1 x2 x3 x4 x5 x6 x7 x8 x9 : Nat} (hx : N10 x0 x1 x2 x3 x4 x5 x6 x7 x8 x9) {K : AV → Prop} (hk : ∀ o0 o1 o2 o3 o4 o5 o6 o7 o8 o9 : Nat, N10 o0 o1 o2 o3 o4 o5 o6 o7 o8 o9 → val10 o0 o1 o2 o3 o4 o5 o6 o7 o8 o9 % pF = val10 x0 x1 x2 x3 x4 x5 x6 x7 x8 x9 ^ E % pF → K (wideA (.ofNat o0) (.ofNat o1) (.ofNat o2) (.ofNat o3) (.ofNat o4) (.ofNat o5) (.ofNat o6) (.ofNat o7) (.ofNat o8) (.ofNat o9)))
    {A B : AV} (hA : A = wideA (.ofNat x0) (.ofNat x1) (.ofNat x2) (.ofNat x3) (.ofNat x4) (.ofNat x5) (.ofNat x6) (.ofNat x7) (.ofNat x8) (.ofNat x9)) (hB : B = .agg (encL 32 E)) : WPw (999 + 1) [A, B] fun r _ => ∀ _ : AMem, K r := by
  refine WPw_of ?_
  rw [pwBody_eq]
  refine wp_mid ?_
  have h0 : wpCodeF cfPw pwPre (pEnv specsPw) cwPw 999 ⟨initTm [A, B] 0 .nil, ⟨0, .nil⟩⟩ (lookPX (liftP (iV 256) (MP E x0 x1 x2 x3 x4 x5 x6 x7 x8 x9 256)) noI) := by
    rw [hA, hB]
    refine Eq.mp (pwPre_wp E (.ofNat x0) (.ofNat x1) (.ofNat x2) (.ofNat x3) (.ofNat x4) (.ofNat x5) (.ofNat x6) (.ofNat x7) (.ofNat x8) (.ofNat x9) _ noI) (seenP_of ⟨1, 0, 0, 0, 0, 0, 0, 0, 0, 0, ⟨⟨by decide, by decide, by decide, by decide, by decide, by decide, by decide, by decide, by decide, by decide⟩, ?_⟩, MEq.refl _⟩)
    have e32' : (256 : Nat) ^ 32 = 2 ^ 256 := rfl
    rw [Nat.div_eq_of_lt (by rw [← e32']; exact hE), Nat.pow_zero]; rfl
  refine wp_cutM cwMp okPre_p h0 (TEq.refl _) (MEq.refl _) ?_
  intro x s0 s1 ht hm hx'
  cases x with
  | exit id => exact (noI_look hx'.2).elim
  | ret => cases hx'
  | normal =>
    obtain ⟨h1, p0, p1, p2, p3, p4, p5, p6, p7, p8, p9, h2, h3⟩ := lookP_to ht hx'
    refine wp_loop (fun n s => n ≤ 256 ∧ AtP (iV n) s ∧ MP E x0 x1 x2 x3 x4 x5 x6 x7 x8 x9 n s.mem) (fun n s ⟨hn, h⟩ Q hQ => stepP hx n (by omega) s h Q fun s' h' => hQ s' ⟨by omega, h'⟩) (fun s ⟨_, h⟩ Q hQ => endP s h Q fun s' h' => hQ s' ⟨by omega, h'⟩) (fun s2 ⟨_, h4, h5⟩ => ?_) (n := 256) (by decide) ⟨by omega, h1, p0, p1, p2, p3, p4, p5, p6, p7, p8, p9, h2, h3.trans hm⟩
    obtain ⟨o0, o1, o2, o3, o4, o5, o6, o7, o8, o9, ⟨h6, h7⟩, h8⟩ := h5
    rw [Nat.pow_zero, Nat.div_one] at h7
    exact wpCodeF_meq cwMp _ okPost_p (Eq.mp (pwPost_wp (fun k => orV (s2.tm.get k)) E (.ofNat x0) (.ofNat x1) (.ofNat x2) (.ofNat x3) (.ofNat x4) (.ofNat x5) (.ofNat x6) (.ofNat x7) (.ofNat x8) (.ofNat x9) (.ofNat o0) (.ofNat o1) (.ofNat o2) (.ofNat o3) (.ofNat o4) (.ofNat o5) (.ofNat o6) (.ofNat o7) (.ofNat o8) (.ofNat o9) K) fun _ => hk _ _ _ _ _ _ _ _ _ _ h6 h7) (canonP h4) h8 leavePw_meq
end
end Ev
