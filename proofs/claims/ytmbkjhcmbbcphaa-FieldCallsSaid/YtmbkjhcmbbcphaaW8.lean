/-
  The reference's Close: its run. Conditions: words as they stand behind a carry.
-/
import Derived.Test.YtmbkjhcmbbcphaaW7
namespace Ev
open Go Go.Proofs
noncomputable section

structure AtC (s : St) : Prop where
  hi : ∀ k, 77 ≤ k → orV (s.tm.get k) = .undef
  g1 : s.tm.get 1 = some (.ptr 0 0)
  g2 : s.tm.get 2 = some (.ptr 1 0)
  g3 : s.tm.get 3 = some (.ptr 2 0)
theorem lookC_to {P : SeenO} {s s' : St} (ht : TEq s.tm s'.tm) (h : lookC P s) : AtC s' ∧ P (s.tm.get 4) (s.tm.get 5) (s.tm.get 6) none s.mem := by
  obtain ⟨hu, ⟨h1, h2, h3⟩, hP⟩ := h
  refine ⟨⟨fun k hk => ?_, teq_get ht h1 (fun e => by cases e), teq_get ht h2 (fun e => by cases e), teq_get ht h3 (fun e => by cases e)⟩, hP⟩
  rw [← teq_orV ht]
  cases hg : s.tm.get k with
  | none => rfl
  | some v =>
    have := under_get (under'_get hu) k v hg
    omega
structure C1 (a b : Nat) (s : St) : Prop where
  at' : AtC s
  g4 : s.tm.get 4 = some (i64N a)
  g5 : s.tm.get 5 = some (i64N b)
structure C2 (a b c : Nat) (s : St) : Prop where
  at' : AtC s
  g4 : s.tm.get 4 = some (i64N a)
  g5 : s.tm.get 5 = some (i64N b)
  g6 : s.tm.get 6 = some (i64N c)
def PC2 (a b c : Nat) (M : AMem → Prop) : SeenO := fun x y z _ m => x = some (i64N a) ∧ y = some (i64N b) ∧ z = some (i64N c) ∧ M m
theorem lookc1 {a b : Nat} {M : AMem → Prop} {s s' : St} (ht : TEq s.tm s'.tm) (h : lookC (PO1 a b M) s) : C1 a b s' ∧ M s.mem := by
  obtain ⟨h0, h4, h5, hM⟩ := lookC_to ht h
  exact ⟨⟨h0, teq_get ht h4 (i64N_ne _), teq_get ht h5 (i64N_ne _)⟩, hM⟩
theorem lookc2 {a b c : Nat} {M : AMem → Prop} {s s' : St} (ht : TEq s.tm s'.tm) (h : lookC (PC2 a b c M) s) : C2 a b c s' ∧ M s.mem := by
  obtain ⟨h0, h4, h5, h6, hM⟩ := lookC_to ht h
  exact ⟨⟨h0, teq_get ht h4 (i64N_ne _), teq_get ht h5 (i64N_ne _), teq_get ht h6 (i64N_ne _)⟩, hM⟩
theorem canonC1 {a b : Nat} {s : St} (h : C1 a b s) : TEq (tc1 (fun k => orV (s.tm.get k)) a b) s.tm := by
  have h1 := shape_teq h.at'.hi
  have h2 : shape 77 s.tm = tc1 (fun k => orV (s.tm.get k)) a b := by
    unfold shape tc1 junkC
    rw [show List.range 77 = [0, 1, 2, 3, 4, 5, 6, 7, 8, 9, 10, 11, 12, 13, 14, 15, 16, 17, 18, 19, 20, 21, 22, 23, 24, 25, 26, 27, 28, 29, 30, 31, 32, 33, 34, 35, 36, 37, 38, 39, 40, 41, 42, 43, 44, 45, 46, 47, 48, 49, 50, 51, 52, 53, 54, 55, 56, 57, 58, 59, 60, 61, 62, 63, 64, 65, 66, 67, 68, 69, 70, 71, 72, 73, 74, 75, 76] from rfl]
    simp only [List.map, h.at'.g1, h.at'.g2, h.at'.g3, h.g4, h.g5]
    rfl
  rw [h2] at h1
  exact fun k => (h1 k).symm
theorem canonC2 {a b c : Nat} {s : St} (h : C2 a b c s) : TEq (tc2 (fun k => orV (s.tm.get k)) a b c) s.tm := by
  have h1 := shape_teq h.at'.hi
  have h2 : shape 77 s.tm = tc2 (fun k => orV (s.tm.get k)) a b c := by
    unfold shape tc2 junkC
    rw [show List.range 77 = [0, 1, 2, 3, 4, 5, 6, 7, 8, 9, 10, 11, 12, 13, 14, 15, 16, 17, 18, 19, 20, 21, 22, 23, 24, 25, 26, 27, 28, 29, 30, 31, 32, 33, 34, 35, 36, 37, 38, 39, 40, 41, 42, 43, 44, 45, 46, 47, 48, 49, 50, 51, 52, 53, 54, 55, 56, 57, 58, 59, 60, 61, 62, 63, 64, 65, 66, 67, 68, 69, 70, 71, 72, 73, 74, 75, 76] from rfl]
    simp only [List.map, h.at'.g1, h.at'.g2, h.at'.g3, h.g4, h.g5, h.g6]
    rfl
  rw [h2] at h1
  exact fun k => (h1 k).symm
theorem seenc1 {a b : Nat} {c : AV} {M : AMem → Prop} {m : AMem} (h : M m) : seenC (PO1 a b M) (i64N a) (i64N b) c m := ⟨rfl, ⟨rfl, rfl, rfl⟩, rfl, rfl, h⟩
theorem seenc2 {a b c : Nat} {M : AMem → Prop} {m : AMem} (h : M m) : seenC (PC2 a b c M) (i64N a) (i64N b) (i64N c) m := ⟨rfl, ⟨rfl, rfl, rfl⟩, rfl, rfl, rfl, h⟩
theorem noC_look {s : St} (h : lookC noO s) : False := h.2.2

theorem memS_get (w : Nat → Int) (R : ABlk) (id : Nat) : (memS w R).get id = if id = 2 then some R else (((⟨0, .nil⟩ : AMem).add (.row 10 (wl w) .nil true)).add (.row 32 (encL 32 0) .nil true)).get id := by
  by_cases h : id = 2
  · rw [if_pos h, h]; exact AMem.get_add_new _ R
  · rw [if_neg h]; exact AMem.get_add_old _ R h
theorem memS_meq {w : Nat → Int} {R R' : ABlk} (h : BEq (some R) (some R')) : MEq (memS w R) (memS w R') := ⟨rfl, fun id => by
  rw [memS_get, memS_get]
  by_cases hid : id = 2
  · rw [if_pos hid, if_pos hid]; exact h
  · rw [if_neg hid, if_neg hid]; exact .refl _⟩
theorem encL_len : ∀ n X : Nat, (encL n X).length = n
  | 0, _ => rfl
  | n + 1, X => by show (encL n (X / 256)).length + 1 = _; rw [encL_len n]
theorem memQ_meq {w : Nat → Int} {X X' q : Nat} {v : Int} (h : (encL 32 X).set q (.int .u8 v) = encL 32 X') : MEq (memQ w X q v) (memT w X') :=
  memS_meq (.row (encL_len 32 X) (encL_len 32 X') (by rw [ovl_put, ovl_nil, ovl_nil]; exact h))

theorem f51_fn : (pEnv specsO).fn 51 = some Try.f51 := by kernel_rfl
theorem f51_body : Try.f51.body = some clBody := by kernel_rfl
theorem f51_len {a : AV} : Nat.ble [a].length Try.f51.ntmps = true := by kernel_rfl
theorem ow51 : owN waysO keepC 51 = none := rfl
theorem cwMc : CwMeq cwC := by
  refine wpCall_meq (owN_meq waysO_meq) (fun f fn c hw hf hb => ?_) 999
  have hk := (owN_none hw).2
  have := Nat.eq_of_beq_eq_true hk
  subst this
  rw [f51_fn] at hf
  cases hf
  rw [f51_body] at hb
  cases hb
  exact okBody_c
abbrev wpC (c : Code) (s : St) (K : KX) : Prop := wpCodeF cfC' c (pEnv specsO) cwC 999 s K
theorem at_next : ∀ i, i < 10 → atO i + nC i = atO (i + 1) := by decide
theorem at_le : ∀ i, i < 10 → atO i + nC i ≤ 255 := by decide

section
variable {n0 n1 n2 n3 n4 n5 n6 n7 n8 n9 : Nat} (hM : M10 n0 n1 n2 n3 n4 n5 n6 n7 n8 n9)
/-- words and bytes, k bits of word i on -/
def INC (n0 n1 n2 n3 n4 n5 n6 n7 n8 n9 : Nat) (i k : Nat) (s : St) : Prop := C2 (atO i) i k s ∧ MEq (memT (wOf (.ofNat n0) (.ofNat n1) (.ofNat n2) (.ofNat n3) (.ofNat n4) (.ofNat n5) (.ofNat n6) (.ofNat n7) (.ofNat n8) (.ofNat n9)) (val10 n0 n1 n2 n3 n4 n5 n6 n7 n8 n9 % 2 ^ (atO i + k))) s.mem
def OUTC (n0 n1 n2 n3 n4 n5 n6 n7 n8 n9 : Nat) (i : Nat) (s : St) : Prop := C1 (atO i) i s ∧ MEq (memT (wOf (.ofNat n0) (.ofNat n1) (.ofNat n2) (.ofNat n3) (.ofNat n4) (.ofNat n5) (.ofNat n6) (.ofNat n7) (.ofNat n8) (.ofNat n9)) (val10 n0 n1 n2 n3 n4 n5 n6 n7 n8 n9 % 2 ^ atO i)) s.mem
include hM
theorem stepInC {i k : Nat} (hi : i < 10) (hk : k < nC i) (s : St) (h : INC n0 n1 n2 n3 n4 n5 n6 n7 n8 n9 i k s) (Q : KX) (hQ : ∀ s', INC n0 n1 n2 n3 n4 n5 n6 n7 n8 n9 i (k + 1) s' → Q .normal s') : wpC clIn s Q := by
  have e := map_at (map_at (cIn_all (fun k => orV (s.tm.get k)) (val10 n0 n1 n2 n3 n4 n5 n6 n7 n8 n9 % 2 ^ (atO i + k)) (wOf (.ofNat n0) (.ofNat n1) (.ofNat n2) (.ofNat n3) (.ofNat n4) (.ofNat n5) (.ofNat n6) (.ofNat n7) (.ofNat n8) (.ofNat n9)) (PC2 (atO i) i (k + 1) fun m => MEq (memT (wOf (.ofNat n0) (.ofNat n1) (.ofNat n2) (.ofNat n3) (.ofNat n4) (.ofNat n5) (.ofNat n6) (.ofNat n7) (.ofNat n8) (.ofNat n9)) (val10 n0 n1 n2 n3 n4 n5 n6 n7 n8 n9 % 2 ^ (atO i + (k + 1)))) m) noO) hi) hk
  have hs : atO i + k < 256 := by
    have := at_le i hi
    omega
  refine wpCodeF_meq cwMc clIn okIn_c (Eq.mp e ?_) (canonC2 h.1) h.2 ?_
  · refine ⟨fun hb => seenc2 ?_, fun hb => seenc2 ?_⟩ <;> rw [bit_at hM hi hk] at hb
    · exact (memQ_meq (out_step hs rfl (of_decide_eq_true hb))).symm
    · have := out_keep (of_decide_eq_false hb)
      rw [← Nat.add_assoc, this]; exact MEq.refl _
  · intro x s1 s2 ht hm hx
    cases x with
    | normal =>
      obtain ⟨h1, h2⟩ := lookc2 ht hx
      exact hQ s2 ⟨h1, h2.trans hm⟩
    | exit id => exact (noC_look hx.2).elim
    | ret => cases hx
omit hM in
theorem endInC {i : Nat} (hi : i < 10) (s : St) (h : INC n0 n1 n2 n3 n4 n5 n6 n7 n8 n9 i (nC i) s) (Q : KX) (hQ : ∀ s', INC n0 n1 n2 n3 n4 n5 n6 n7 n8 n9 i (nC i) s' → Q (.exit 2) s') : wpC clIn s Q := by
  have e := map_at (cIn_end (fun k => orV (s.tm.get k)) s.mem noO (PC2 (atO i) i (nC i) fun m => MEq (memT (wOf (.ofNat n0) (.ofNat n1) (.ofNat n2) (.ofNat n3) (.ofNat n4) (.ofNat n5) (.ofNat n6) (.ofNat n7) (.ofNat n8) (.ofNat n9)) (val10 n0 n1 n2 n3 n4 n5 n6 n7 n8 n9 % 2 ^ (atO i + nC i))) m)) hi
  refine wpCodeF_meq cwMc clIn okIn_c (Eq.mp e ⟨rfl, seenc2 h.2⟩) (canonC2 h.1) (MEq.refl _) ?_
  intro x s1 s2 ht hm hx
  cases x with
  | normal => exact (noC_look hx).elim
  | exit id =>
    obtain ⟨h0, hx⟩ := hx
    have h0 : id = 2 := h0
    subst h0
    obtain ⟨h1, h2⟩ := lookc2 ht hx
    exact hQ s2 ⟨h1, h2.trans hm⟩
  | ret => cases hx
theorem loopInC {i : Nat} (hi : i < 10) {y : Code} {K : KX} (hy : ∀ s, INC n0 n1 n2 n3 n4 n5 n6 n7 n8 n9 i (nC i) s → wpC y s K) (s : St) (h : INC n0 n1 n2 n3 n4 n5 n6 n7 n8 n9 i 0 s) : wpC (.seq (.block 2 (.loop clIn)) y) s K := by
  refine wp_loop (fun n s => ∃ k, k + n = nC i ∧ INC n0 n1 n2 n3 n4 n5 n6 n7 n8 n9 i k s) (fun n s ⟨k, hk, hI⟩ Q hQ => stepInC hM hi (by omega) s hI Q fun s' hs' => hQ s' ⟨k + 1, by omega, hs'⟩) (fun s ⟨k, hk, hI⟩ Q hQ => ?_) (fun s ⟨k, hk, hI⟩ => ?_) (n := nC i) ?_ ⟨0, by omega, h⟩
  · have : k = nC i := by omega
    subst this
    exact endInC hi s hI Q fun s' hs' => hQ s' ⟨nC i, by omega, hs'⟩
  · have : k = nC i := by omega
    subst this
    exact hy s hI
  · have := nC_le i
    omega
theorem stepOutC {i : Nat} (hi : i < 10) (s : St) (h : OUTC n0 n1 n2 n3 n4 n5 n6 n7 n8 n9 i s) (Q : KX) (hQ : ∀ s', OUTC n0 n1 n2 n3 n4 n5 n6 n7 n8 n9 (i + 1) s' → Q .normal s') : wpC clOut s Q := by
  show wpCodeF cfC' clOut (pEnv specsO) cwC 999 s Q
  rw [clOut_eq]
  refine wp_cutM cwMc okA_c (Eq.mp (map_at (cA_all (fun k => orV (s.tm.get k)) s.mem (PO1 (atO i) i fun m => MEq (memT (wOf (.ofNat n0) (.ofNat n1) (.ofNat n2) (.ofNat n3) (.ofNat n4) (.ofNat n5) (.ofNat n6) (.ofNat n7) (.ofNat n8) (.ofNat n9)) (val10 n0 n1 n2 n3 n4 n5 n6 n7 n8 n9 % 2 ^ atO i)) m) noO) hi) (seenc1 h.2)) (canonC1 h.1) (MEq.refl _) ?_
  intro x s0 s1 ht hm hx
  cases x with
  | exit id => exact (noC_look hx.2).elim
  | ret => cases hx
  | normal =>
    obtain ⟨h1, h2⟩ := lookc1 ht hx
    have h2 := h2.trans hm
    refine wp_blk ?_
    rw [clMid_eq]
    refine wp_assoc' ?_
    refine wp_cutM cwMc okB_c (Eq.mp (map_at (cB_all (fun k => orV (s1.tm.get k)) s1.mem (PC2 (atO i) i 0 fun m => MEq (memT (wOf (.ofNat n0) (.ofNat n1) (.ofNat n2) (.ofNat n3) (.ofNat n4) (.ofNat n5) (.ofNat n6) (.ofNat n7) (.ofNat n8) (.ofNat n9)) (val10 n0 n1 n2 n3 n4 n5 n6 n7 n8 n9 % 2 ^ (atO i + 0))) m) noO) hi) (seenc2 h2)) (canonC1 h1) (MEq.refl _) ?_
    intro x s2 s3 ht hm hx
    cases x with
    | exit id => exact (noC_look hx.2).elim
    | ret => cases hx
    | normal =>
      obtain ⟨h3, h4⟩ := lookc2 ht hx
      have h4 := h4.trans hm
      refine loopInC hM hi (fun s4 h5 => ?_) s3 ⟨h3, h4⟩
      refine wpCodeF_meq cwMc _ okE_c (Eq.mp (map_at (cE_all (fun k => orV (s4.tm.get k)) s4.mem (PO1 (atO (i + 1)) i fun m => MEq (memT (wOf (.ofNat n0) (.ofNat n1) (.ofNat n2) (.ofNat n3) (.ofNat n4) (.ofNat n5) (.ofNat n6) (.ofNat n7) (.ofNat n8) (.ofNat n9)) (val10 n0 n1 n2 n3 n4 n5 n6 n7 n8 n9 % 2 ^ (atO i + nC i))) m) noO) hi) (seenc1 h5.2)) (canonC2 h5.1) (MEq.refl _) ?_
      intro x s5 s6 ht hm hx
      cases x with
      | exit id => exact (noC_look hx.2).elim
      | ret => cases hx
      | normal =>
        obtain ⟨h6, h7⟩ := lookc1 ht hx
        have h7 := h7.trans hm
        show wpCodeF cfC' (qR (qR clOut)) (pEnv specsO) cwC 999 s6 Q
        refine wpCodeF_meq cwMc _ okF_c (Eq.mp (map_at (cF_all (fun k => orV (s6.tm.get k)) s6.mem (PO1 (atO (i + 1)) (i + 1) fun m => MEq (memT (wOf (.ofNat n0) (.ofNat n1) (.ofNat n2) (.ofNat n3) (.ofNat n4) (.ofNat n5) (.ofNat n6) (.ofNat n7) (.ofNat n8) (.ofNat n9)) (val10 n0 n1 n2 n3 n4 n5 n6 n7 n8 n9 % 2 ^ (atO i + nC i))) m) noO) hi) (seenc1 h7)) (canonC1 h6) (MEq.refl _) ?_
        intro x s7 s8 ht hm hx
        cases x with
        | exit id => exact (noC_look hx.2).elim
        | ret => cases hx
        | normal =>
          obtain ⟨h8, h9⟩ := lookc1 ht hx
          have h9 := h9.trans hm
          rw [at_next i hi] at h9
          exact hQ s8 ⟨h8, h9⟩
omit hM in
theorem endOutC (s : St) (h : OUTC n0 n1 n2 n3 n4 n5 n6 n7 n8 n9 10 s) (Q : KX) (hQ : ∀ s', OUTC n0 n1 n2 n3 n4 n5 n6 n7 n8 n9 10 s' → Q (.exit 0) s') : wpC clOut s Q := by
  show wpCodeF cfC' clOut (pEnv specsO) cwC 999 s Q
  rw [clOut_eq]
  refine wp_cutM cwMc okA_c (Eq.mp (cA_end (fun k => orV (s.tm.get k)) s.mem noO (PO1 (atO 10) 10 fun m => MEq (memT (wOf (.ofNat n0) (.ofNat n1) (.ofNat n2) (.ofNat n3) (.ofNat n4) (.ofNat n5) (.ofNat n6) (.ofNat n7) (.ofNat n8) (.ofNat n9)) (val10 n0 n1 n2 n3 n4 n5 n6 n7 n8 n9 % 2 ^ atO 10)) m)) ⟨rfl, seenc1 h.2⟩) (canonC1 h.1) (MEq.refl _) ?_
  intro x s0 s1 ht hm hx
  cases x with
  | exit id =>
    obtain ⟨h0, hx⟩ := hx
    have h0 : id = 0 := h0
    subst h0
    obtain ⟨h1, h2⟩ := lookc1 ht hx
    exact hQ s1 ⟨h1, h2.trans hm⟩
  | ret => cases hx
  | normal => exact (noC_look hx).elim
theorem loopOutC {y : Code} {K : KX} (hy : ∀ s, OUTC n0 n1 n2 n3 n4 n5 n6 n7 n8 n9 10 s → wpC y s K) (s : St) (h : OUTC n0 n1 n2 n3 n4 n5 n6 n7 n8 n9 0 s) : wpC (.seq (.block 0 (.loop clOut)) y) s K := by
  refine wp_loop (fun n s => ∃ i, i + n = 10 ∧ OUTC n0 n1 n2 n3 n4 n5 n6 n7 n8 n9 i s) (fun n s ⟨i, hk, hI⟩ Q hQ => stepOutC hM (by omega) s hI Q fun s' hs' => hQ s' ⟨i + 1, by omega, hs'⟩) (fun s ⟨i, hk, hI⟩ Q hQ => ?_) (fun s ⟨i, hk, hI⟩ => ?_) (n := 10) (by decide) ⟨0, by omega, h⟩
  · have : i = 10 := by omega
    subst this
    exact endOutC s hI Q fun s' hs' => hQ s' ⟨10, by omega, hs'⟩
  · have : i = 10 := by omega
    subst this
    exact hy s hI
end

/-- a call of Close, by its condition -/
def WCl (n : Nat) (args : List AV) (K : KP) : Prop := wpCall cfC' (pEnv specsO) (owN waysO keepC) n (.fn 51) args ⟨0, .nil⟩ K
theorem WCl_of {n : Nat} {a : AV} {K : KP} (h : wpCodeF cfC' clBody (pEnv specsO) (wpCall cfC' (pEnv specsO) (owN waysO keepC) n) n ⟨initTm [a] 0 .nil, ⟨0, .nil⟩⟩ (leaveC K)) : WCl (n + 1) [a] K :=
  wpCall_of ow51 f51_fn f51_body (@f51_len a) h
theorem WCl_ok {n : Nat} {args : List AV} {K : AV → Prop} (h : WCl n args fun r _ => ∀ _ : AMem, K r) : ∃ r m, evCall (pEnv specsO) n (.fn 51) args ⟨0, .nil⟩ = some (r, m) ∧ K r :=
  runN pairedO specsO_ok (cf := cfC') pfO_some h
theorem leaveC_meq {K : AV → Prop} : KEqM (leaveC fun r _ => ∀ _ : AMem, K r) (leaveC fun r _ => ∀ _ : AMem, K r) := by
  intro e s s' ht hm h
  have need : needR (evLeave (pEnv specsO) Try.f51 s) (fun r _ => ∀ _ : AMem, K r) → needR (evLeave (pEnv specsO) Try.f51 s') fun r _ => ∀ _ : AMem, K r := by
    intro h
    obtain ⟨v, m1, h1, h2⟩ := needR_some h
    obtain ⟨m1', h3, _⟩ := leave_meq ht hm h1
    rw [h3]
    exact h2
  cases e with
  | normal => exact need h
  | exit id => exact h
  | ret => exact need h
/-- words behind a carry, carried again -/
theorem carQ_next {n0 n1 n2 n3 n4 n5 n6 n7 n8 n9 : Nat} {P' : Nat → Nat → Nat → Nat → Nat → Nat → Nat → Nat → Nat → Nat → Prop} (hb : n0 < 4611686018427387904 ∧ n1 < 4611686018427387904 ∧ n2 < 4611686018427387904 ∧ n3 < 4611686018427387904 ∧ n4 < 4611686018427387904 ∧ n5 < 4611686018427387904 ∧ n6 < 4611686018427387904 ∧ n7 < 4611686018427387904 ∧ n8 < 4611686018427387904 ∧ n9 < 4611686018427387904) (hP : ∀ u0 u1 u2 u3 u4 u5 u6 u7 u8 u9 c0 c1 c2 c3 c4 c5 c6 c7 c8 c9, Car n0 n1 n2 n3 n4 n5 n6 n7 n8 n9 u0 u1 u2 u3 u4 u5 u6 u7 u8 u9 c0 c1 c2 c3 c4 c5 c6 c7 c8 c9 → P' u0 u1 u2 u3 u4 u5 u6 u7 u8 u9)
    {K : Int → Int → Int → Int → Int → Int → Int → Int → Int → Int → Prop} (hk : ∀ u0 u1 u2 u3 u4 u5 u6 u7 u8 u9 : Nat, P' u0 u1 u2 u3 u4 u5 u6 u7 u8 u9 → K (.ofNat u0) (.ofNat u1) (.ofNat u2) (.ofNat u3) (.ofNat u4) (.ofNat u5) (.ofNat u6) (.ofNat u7) (.ofNat u8) (.ofNat u9)) : carQ (.ofNat n0) (.ofNat n1) (.ofNat n2) (.ofNat n3) (.ofNat n4) (.ofNat n5) (.ofNat n6) (.ofNat n7) (.ofNat n8) (.ofNat n9) K := by
  intro v0 v1 v2 v3 v4 v5 v6 v7 v8 v9 hv
  obtain ⟨l0, l1, l2, l3, l4, l5, l6, l7, l8, l9⟩ := hb
  have h := @carry10_nat n0 n1 n2 n3 n4 n5 n6 n7 n8 n9 l0 l1 l2 l3 l4 l5 l6 l7 l8 l9 (fun x0 x1 x2 x3 x4 x5 x6 x7 x8 x9 => wideA v0 v1 v2 v3 v4 v5 v6 v7 v8 v9 = wideA x0 x1 x2 x3 x4 x5 x6 x7 x8 x9 → K v0 v1 v2 v3 v4 v5 v6 v7 v8 v9) ?_
  · exact (carryM_map (Q := fun v => wideA v0 v1 v2 v3 v4 v5 v6 v7 v8 v9 = v → K v0 v1 v2 v3 v4 v5 v6 v7 v8 v9) (.ofNat n0) (.ofNat n1) (.ofNat n2) (.ofNat n3) (.ofNat n4) (.ofNat n5) (.ofNat n6) (.ofNat n7) (.ofNat n8) (.ofNat n9)).1 h hv
  · intro u0 u1 u2 u3 u4 u5 u6 u7 u8 u9 ⟨c0, c1, c2, c3, c4, c5, c6, c7, c8, c9, hc⟩ he
    obtain ⟨rfl, rfl, rfl, rfl, rfl, rfl, rfl, rfl, rfl, rfl⟩ := wideA_inj he
    exact hk _ _ _ _ _ _ _ _ _ _ (hP _ _ _ _ _ _ _ _ _ _ _ _ _ _ _ _ _ _ _ _ hc)
theorem N10.lt {n0 n1 n2 n3 n4 n5 n6 n7 n8 n9 : Nat} (h : N10 n0 n1 n2 n3 n4 n5 n6 n7 n8 n9) : n0 < 4611686018427387904 ∧ n1 < 4611686018427387904 ∧ n2 < 4611686018427387904 ∧ n3 < 4611686018427387904 ∧ n4 < 4611686018427387904 ∧ n5 < 4611686018427387904 ∧ n6 < 4611686018427387904 ∧ n7 < 4611686018427387904 ∧ n8 < 4611686018427387904 ∧ n9 < 4611686018427387904 := by
  obtain ⟨b0, b1, b2, b3, b4, b5, b6, b7, b8, b9⟩ := h
  refine ⟨?_, ?_, ?_, ?_, ?_, ?_, ?_, ?_, ?_, ?_⟩ <;> omega
theorem M10.lt {n0 n1 n2 n3 n4 n5 n6 n7 n8 n9 : Nat} (h : M10 n0 n1 n2 n3 n4 n5 n6 n7 n8 n9) : n0 < 4611686018427387904 ∧ n1 < 4611686018427387904 ∧ n2 < 4611686018427387904 ∧ n3 < 4611686018427387904 ∧ n4 < 4611686018427387904 ∧ n5 < 4611686018427387904 ∧ n6 < 4611686018427387904 ∧ n7 < 4611686018427387904 ∧ n8 < 4611686018427387904 ∧ n9 < 4611686018427387904 := by
  obtain ⟨b0, b1, b2, b3, b4, b5, b6, b7, b8, b9⟩ := h
  refine ⟨?_, ?_, ?_, ?_, ?_, ?_, ?_, ?_, ?_, ?_⟩ <;> omega
theorem car4_nat {n0 n1 n2 n3 n4 n5 n6 n7 n8 n9 : Nat} (h : N10 n0 n1 n2 n3 n4 n5 n6 n7 n8 n9) {K : Int → Int → Int → Int → Int → Int → Int → Int → Int → Int → Prop} (hk : ∀ u0 u1 u2 u3 u4 u5 u6 u7 u8 u9 : Nat, M10 u0 u1 u2 u3 u4 u5 u6 u7 u8 u9 → val10 u0 u1 u2 u3 u4 u5 u6 u7 u8 u9 % pF = val10 n0 n1 n2 n3 n4 n5 n6 n7 n8 n9 % pF → K (.ofNat u0) (.ofNat u1) (.ofNat u2) (.ofNat u3) (.ofNat u4) (.ofNat u5) (.ofNat u6) (.ofNat u7) (.ofNat u8) (.ofNat u9)) : car4 (.ofNat n0) (.ofNat n1) (.ofNat n2) (.ofNat n3) (.ofNat n4) (.ofNat n5) (.ofNat n6) (.ofNat n7) (.ofNat n8) (.ofNat n9) K := by
  have same : ∀ u0 u1 u2 u3 u4 u5 u6 u7 u8 u9 : Nat, M10 u0 u1 u2 u3 u4 u5 u6 u7 u8 u9 → ∀ {K : Int → Int → Int → Int → Int → Int → Int → Int → Int → Int → Prop}, K (.ofNat u0) (.ofNat u1) (.ofNat u2) (.ofNat u3) (.ofNat u4) (.ofNat u5) (.ofNat u6) (.ofNat u7) (.ofNat u8) (.ofNat u9) → carQ (.ofNat u0) (.ofNat u1) (.ofNat u2) (.ofNat u3) (.ofNat u4) (.ofNat u5) (.ofNat u6) (.ofNat u7) (.ofNat u8) (.ofNat u9) K := by
    intro u0 u1 u2 u3 u4 u5 u6 u7 u8 u9 hM K hK
    refine carQ_next (P' := fun v0 v1 v2 v3 v4 v5 v6 v7 v8 v9 => v0 = u0 ∧ v1 = u1 ∧ v2 = u2 ∧ v3 = u3 ∧ v4 = u4 ∧ v5 = u5 ∧ v6 = u6 ∧ v7 = u7 ∧ v8 = u8 ∧ v9 = u9) hM.lt (fun v0 v1 v2 v3 v4 v5 v6 v7 v8 v9 c0 c1 c2 c3 c4 c5 c6 c7 c8 c9 hc => car_same hM hc) fun v0 v1 v2 v3 v4 v5 v6 v7 v8 v9 he => ?_
    obtain ⟨rfl, rfl, rfl, rfl, rfl, rfl, rfl, rfl, rfl, rfl⟩ := he
    exact hK
  refine carQ_next (P' := fun v0 v1 v2 v3 v4 v5 v6 v7 v8 v9 => M10 v0 v1 v2 v3 v4 v5 v6 v7 v8 v9 ∧ val10 v0 v1 v2 v3 v4 v5 v6 v7 v8 v9 % pF = val10 n0 n1 n2 n3 n4 n5 n6 n7 n8 n9 % pF) h.lt (fun v0 v1 v2 v3 v4 v5 v6 v7 v8 v9 c0 c1 c2 c3 c4 c5 c6 c7 c8 c9 hc => ⟨car_mask h hc, ?_⟩) fun v0 v1 v2 v3 v4 v5 v6 v7 v8 v9 ⟨hM, hv⟩ => ?_
  · rw [← car_val hc, Nat.add_mul_mod_self_right]
  · exact same _ _ _ _ _ _ _ _ _ _ hM (same _ _ _ _ _ _ _ _ _ _ hM (same _ _ _ _ _ _ _ _ _ _ hM (hk _ _ _ _ _ _ _ _ _ _ hM hv)))
def clP (n0 n1 n2 n3 n4 n5 n6 n7 n8 n9 : Nat) : SeenO := fun x y _ _ m => ∃ u0 u1 u2 u3 u4 u5 u6 u7 u8 u9 : Nat, (M10 u0 u1 u2 u3 u4 u5 u6 u7 u8 u9 ∧ val10 u0 u1 u2 u3 u4 u5 u6 u7 u8 u9 % pF = val10 n0 n1 n2 n3 n4 n5 n6 n7 n8 n9 % pF) ∧ x = some (i64N 0) ∧ y = some (i64N 0) ∧ MEq (memT (wOf (.ofNat u0) (.ofNat u1) (.ofNat u2) (.ofNat u3) (.ofNat u4) (.ofNat u5) (.ofNat u6) (.ofNat u7) (.ofNat u8) (.ofNat u9)) 0) m
theorem close51 {n0 n1 n2 n3 n4 n5 n6 n7 n8 n9 : Nat} (h : N10 n0 n1 n2 n3 n4 n5 n6 n7 n8 n9) {K : AV → Prop} (hk : K (.agg (encL 32 (val10 n0 n1 n2 n3 n4 n5 n6 n7 n8 n9 % pF)))) {X : AV} (hX : X = wideA (.ofNat n0) (.ofNat n1) (.ofNat n2) (.ofNat n3) (.ofNat n4) (.ofNat n5) (.ofNat n6) (.ofNat n7) (.ofNat n8) (.ofNat n9)) : WCl (999 + 1) [X] fun r _ => ∀ _ : AMem, K r := by
  refine WCl_of ?_
  rw [clBody_eq]
  refine wp_shape4 ?_
  have h0 : wpCodeF cfC' clPre0 (pEnv specsO) cwC 999 ⟨initTm [X] 0 .nil, ⟨0, .nil⟩⟩ (lookCX 0 (clP n0 n1 n2 n3 n4 n5 n6 n7 n8 n9) noO) := by
    rw [hX]
    refine Eq.mp (cPre0_wp (.ofNat n0) (.ofNat n1) (.ofNat n2) (.ofNat n3) (.ofNat n4) (.ofNat n5) (.ofNat n6) (.ofNat n7) (.ofNat n8) (.ofNat n9) _ noO) (car4_nat h fun u0 u1 u2 u3 u4 u5 u6 u7 u8 u9 hM hv => ⟨rfl, ⟨rfl, rfl, rfl⟩, u0, u1, u2, u3, u4, u5, u6, u7, u8, u9, ⟨hM, hv⟩, rfl, rfl, MEq.refl _⟩)
  refine wp_cutM cwMc ok0_c h0 (TEq.refl _) (MEq.refl _) ?_
  intro x s0 s1 ht hm hx
  cases x with
  | exit id => exact (noC_look hx.2).elim
  | ret => cases hx
  | normal =>
    obtain ⟨h1, u0, u1, u2, u3, u4, u5, u6, u7, u8, u9, ⟨hM, hv⟩, h4, h5, h2⟩ := lookC_to (P := clP n0 n1 n2 n3 n4 n5 n6 n7 n8 n9) ht hx
    have h2 := h2.trans hm
    refine loopOutC hM (fun s2 h3 => ?_) s1 ⟨⟨h1, teq_get ht h4 (i64N_ne _), teq_get ht h5 (i64N_ne _)⟩, ?_⟩
    · have e := cEnd_wp (fun k => orV (s2.tm.get k)) (val10 u0 u1 u2 u3 u4 u5 u6 u7 u8 u9 % 2 ^ atO 10) (wOf (.ofNat u0) (.ofNat u1) (.ofNat u2) (.ofNat u3) (.ofNat u4) (.ofNat u5) (.ofNat u6) (.ofNat u7) (.ofNat u8) (.ofNat u9)) K
      refine wpCodeF_meq cwMc _ okEnd_c (Eq.mp e (endC_nat (Nat.mod_lt _ (by decide)) fun _ => ?_)) (canonC1 h3.1) h3.2 leaveC_meq
      have hlt := hM.val
      rw [Nat.mod_eq_of_lt hlt, hv]; exact hk
    · rw [show atO 0 = 0 from rfl, Nat.pow_zero, Nat.mod_one]; exact h2
end
end Ev
