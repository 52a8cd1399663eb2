/-
  Bytes and Read as functions of plain data. Conditions: 64 bytes, 32 bytes.
-/
import Derived.Test.YtmbkjhcmbbcphaaX1
import Derived.Test.YtmbkjhcmbbcphaaDd
namespace Ev
open Go Go.Proofs
noncomputable section

theorem top_eq : (2 : Nat) ^ 255 = 57896044618658097711785492504343953926634992332820282019728792003956564819968 := rfl
theorem e31 : (256 : Nat) ^ 31 = 452312848583266388373324160190187140051835877600158453279131187530910662656 := rfl
theorem e32 : (256 : Nat) ^ 32 = 115792089237316195423570985008687907853269984665640564039457584007913129639936 := rfl
theorem pF_top : pF < 2 ^ 255 := by decide
theorem lor128 : ∀ a, a < 128 → Nat.lor a 128 = a + 128 := by decide +kernel
theorem andn128 : ∀ a, a < 256 → Nat.land a (Nat.xor 128 255) = a % 128 := by decide +kernel
theorem and128 : ∀ a, a < 256 → Nat.beq (Nat.land a 128) 0 = Nat.blt a 128 := by decide +kernel
theorem xor128 : ∀ a, a < 256 → Nat.xor a 128 = (a + 128) % 256 := by decide +kernel
theorem restU8 {n : Nat} (h : n < 256) : restK .u8 n = .ofNat n := by
  show Bool.casesOn (motive := fun _ => Int) (Nat.blt n 256) _ (.ofNat n) = _
  have : Nat.blt n 256 = true := by rw [Nat.blt_eq]; exact h
  rw [this]
theorem toU8 {n : Nat} (h : n < 256) : toU .u8 (.ofNat n) = n := Nat.mod_eq_of_lt h
theorem set_last (n V : Nat) (v : AV) : (encL (n + 1) V).set n v = encL n V ++ [v] := by
  rw [enc_snoc, List.set_append_right _ _ (by rw [enc_len]; exact Nat.le_refl n), enc_len, Nat.sub_self]; rfl
theorem enc_low (n V W : Nat) : encL n (V + 256 ^ n * W) = encL n V := enc_mod n V W
/-- the highest byte turned -/
theorem set_top {V W a : Nat} (hW : W < 256 ^ 32) (hlow : V % 256 ^ 31 = W % 256 ^ 31) (ha : W / 256 ^ 31 = a) : (encL 32 V).set 31 (.int .u8 (.ofNat a)) = encL 32 W := by
  rw [set_last 31 V, enc_snoc 31 W]
  have h1 : encL 31 V = encL 31 W := by
    have e1 := Nat.mod_add_div V (256 ^ 31)
    have e2 := Nat.mod_add_div W (256 ^ 31)
    rw [← e1, ← e2, enc_low, enc_low, hlow]
  have h2 : W / 256 ^ 31 % 256 = a := by
    rw [ha]
    rw [e32] at hW
    rw [e31] at ha
    exact Nat.mod_eq_of_lt (by omega)
  rw [h1, h2]
theorem nth31 {V : Nat} (hV : V < 256 ^ 32) : nthI (encL 32 V) 31 = .ofNat (V / 256 ^ 31) ∧ V / 256 ^ 31 < 256 := by
  have h : V / 256 ^ 31 < 256 := by rw [e31]; rw [e32] at hV; omega
  refine ⟨?_, h⟩
  rw [nth_nat (by decide), Nat.mod_eq_of_lt h]

/-! Bytes -/
def bytesV (P : Pt) : Nat := Bool.casesOn (motive := fun _ => Nat) (chk P) 0 (Bool.casesOn (motive := fun _ => Nat) (oddN P.1) P.2 (P.2 + 2 ^ 255))
def bytesE (P : Pt) : Int := errI (chk P)
theorem bytesP_nat {x y : Nat} (hx : x < 256 ^ 32) (hy : y < 256 ^ 32) {K : List AV → Int → Prop} (hk : K (encL 32 (bytesV (x, y))) (bytesE (x, y))) : bytesP (encL 32 x) (encL 32 y) K := by
  have e : bytesV (x, y) = Bool.casesOn (motive := fun _ => Nat) (checkN x y) 0 (Bool.casesOn (motive := fun _ => Nat) (oddN x) y (y + 2 ^ 255)) := rfl
  have e2 : bytesE (x, y) = errI (checkN x y) := rfl
  rw [e, e2] at hk
  refine checkQ_nat hx hy (fun h => ⟨x, decN_enc hx, fun ho => ?_, fun ho => ?_⟩) fun h => ?_
  · rw [h, ho] at hk
    have hy2 := ((chk_on (x, y)).1 h).hy
    have hy3 : y < 2 ^ 255 := Nat.lt_trans hy2 pF_top
    obtain ⟨h1, h2⟩ := nth31 hy
    have h3 : y / 256 ^ 31 < 128 := by rw [e31]; rw [top_eq] at hy3; omega
    rw [h1]
    have h4 : uor8 (.ofNat (y / 256 ^ 31)) 128 = .ofNat (y / 256 ^ 31 + 128) := by
      unfold uor8
      rw [toU8 h2, show toU .u8 128 = 128 from rfl, lor128 _ h3, restU8 (by omega)]
    rw [h4, set_top (W := y + 2 ^ 255) (by rw [e32, top_eq]; rw [top_eq] at hy3; omega) (by rw [e31, top_eq]; omega) (by rw [e31, top_eq]; omega)]
    exact hk
  · rw [h, ho] at hk; exact hk
  · rw [h] at hk; exact hk
def bytesS' : List AV → Option AV
  | [.agg l] => Option.casesOn (motive := fun _ => Option AV) (two l) none fun P => some (.tup [.agg (encL 32 (bytesV P)), .int .i64 (bytesE P)])
  | _ => none
def bytesQ (l : List AV) (K : List AV → Int → Prop) : Prop := ∃ P, two l = some P ∧ K (encL 32 (bytesV P)) (bytesE P)
def bytesA' : List AV → AMem → KP → Prop
  | [.agg l], m, K => bytesQ l fun b e => K (.tup [.agg b, .int .i64 e]) m
  | _, _, _ => False
theorem bytesA'_ok {args : List AV} {m : AMem} {K : KP} (h : bytesA' args m K) : ∃ r, bytesS' args = some r ∧ K r m := by
  unfold bytesA' at h
  split at h
  · next l =>
    obtain ⟨P, hd, hk⟩ := h
    refine ⟨_, ?_, hk⟩
    show Option.casesOn (motive := fun _ => Option AV) (two l) none _ = _
    rw [hd]
  · cases h
theorem bytes_c : PlainC Try.prog 35 bytesS' := by
  have main : ∀ l r, bytesS' l = some r → ∃ x y, x < 256 ^ 32 ∧ y < 256 ^ 32 ∧ l = [.agg (pt x y)] ∧ r = .tup [.agg (encL 32 (bytesV (x, y))), .int .i64 (bytesE (x, y))] := by
    intro l r h
    unfold bytesS' at h
    split at h
    · next l =>
      cases hd : two l with
      | none => rw [hd] at h; cases h
      | some P =>
        obtain ⟨x, y⟩ := P
        rw [hd] at h
        obtain ⟨rfl, hx, hy⟩ := two_some hd
        exact ⟨x, y, hx, hy, rfl, (Option.some.inj h).symm⟩
    · cases h
  refine ⟨fun l r hs => ?_, fun l r hs => ?_⟩ <;> obtain ⟨x, y, hx, hy, rfl, rfl⟩ := main l r hs
  · refine ⟨?_, ?_⟩
    · show (AV.plain _ && true) = true
      rw [plain_pt]; rfl
    · simp [AV.plain, AV.plains, plains_enc]
  · obtain ⟨V, hV⟩ : ∃ V, V = AV.tup [.agg (encL 32 (bytesV (x, y))), .int .i64 (bytesE (x, y))] := ⟨_, rfl⟩
    have hk : bytesP (encL 32 x) (encL 32 y) fun l e => ∀ _ : AMem, AV.tup [.agg l, .int .i64 e] = V := bytesP_nat hx hy fun _ => hV.symm
    obtain ⟨r, m, h, rfl⟩ := run_of pairedBy specsBy_ok (cf := cfBy) (fun g h => pfS_some h) (K := fun r => r = V) (Eq.mp (bytes_wp x y _) hk)
    rw [← hV]
    exact ⟨_, _, m, okE specsBy specsBy_ok, h⟩

/-! Read -/
def rdY (B : Nat) : Nat := B % 2 ^ 255
def rdO (B : Nat) : Bool := !Nat.blt B (2 ^ 255)
def coreOK (y : Nat) (o : Bool) (X : Nat) (r : Bool) : Bool := canonN y && (r && !(o && decide (X = 0)))
def coreP (y : Nat) (o : Bool) (X : Nat) (r : Bool) : Pt := Bool.casesOn (motive := fun _ => Pt) (coreOK y o X r) (0, 0) (Bool.casesOn (motive := fun _ => Nat) o X (negN X), y)
def coreE (y : Nat) (o : Bool) (X : Nat) (r : Bool) : Int := Bool.casesOn (motive := fun _ => Int) (coreOK y o X r) 4 0
def readPt (B : Nat) : Pt := coreP (rdY B) (rdO B) (rootR (uyN curveD (rdY B))) (rootB (uyN curveD (rdY B)))
def readE (B : Nat) : Int := coreE (rdY B) (rdO B) (rootR (uyN curveD (rdY B))) (rootB (uyN curveD (rdY B)))
theorem rootR_lt (A : Nat) : rootR A < 256 ^ 32 := by
  have ev : ∀ x, x < 256 ^ 32 → evenN x < 256 ^ 32 := by
    intro x hx
    unfold evenN
    cases oddN x with
    | true => exact mod_lt32 _
    | false => exact hx
  have gen : ∀ e f, rootRG e f A < 256 ^ 32 := by
    intro e f
    unfold rootRG
    cases sameN (mulN (root1G e A) (root1G e A)) A with
    | true => exact ev _ (lt_pow' _ _)
    | false =>
      cases sameN (mulN (root2G e f A) (root2G e f A)) A with
      | true => exact ev _ (lt_mul _ _)
      | false => show 0 < 256 ^ 32; decide
  exact gen _ _
def midR (o : Bool) (y : List AV) (K : List AV → Int → Prop) (x : List AV) (is : Bool) : Prop :=
  splitO (!is) (K (pt 0 0) 4) (splitO o (eqP (pEnv specsRd) 23 x (encL 32 0) fun z => splitO z (K (pt 0 0) 4) (readEnd o x y K))
      (splitO false (K (pt 0 0) 4) (readEnd o x y K)))
theorem midR_nat {y X : Nat} {o r : Bool} (hX : X < 256 ^ 32) (hcan : canonN y = true) {K : List AV → Int → Prop} (hk : K (pt (coreP y o X r).1 (coreP y o X r).2) (coreE y o X r)) : midR o (encL 32 y) K (encL 32 X) r := by
  unfold coreP coreE coreOK at hk
  rw [hcan] at hk
  have good : r = true → (o && decide (X = 0)) = false → readEnd o (encL 32 X) (encL 32 y) K := by
    intro b c
    rw [b, c] at hk
    refine ⟨fun h => q1_nat hX ?_, fun h => ?_⟩
    · rw [h] at hk; exact hk
    · rw [h] at hk; exact hk
  refine ⟨fun hr => ?_, fun hr => ⟨fun hodd => ⟨_, eq_num hX (by decide), fun hz => ?_, fun hz => ?_⟩, fun hodd => ⟨fun h => (by cases h), fun _ => ?_⟩⟩⟩
  · have hr : r = false := by simpa using hr
    rw [hr] at hk; exact hk
  · have hr : r = true := by simpa using hr
    rw [hr, hodd, hz] at hk; exact hk
  · have hr : r = true := by simpa using hr
    exact good hr (by rw [hodd]; exact hz)
  · have hr : r = true := by simpa using hr
    exact good hr (by rw [hodd]; rfl)
theorem readP_nat {B : Nat} (hB : B < 256 ^ 32) {K : List AV → Int → Prop} (hk : K (pt (readPt B).1 (readPt B).2) (readE B)) : readP (encL 32 B) K := by
  obtain ⟨h1, h2⟩ := nth31 hB
  have hy : (encL 32 B).set 31 (.int .u8 (uandn8 (nthI (encL 32 B) 31) 128)) = encL 32 (rdY B) := by
    rw [h1]
    have h4 : uandn8 (.ofNat (B / 256 ^ 31)) 128 = .ofNat (B / 256 ^ 31 % 128) := by
      unfold uandn8
      rw [toU8 h2, show toU .u8 128 = 128 from rfl, andn128 _ h2, restU8 (by omega)]
    rw [h4]
    refine set_top (W := rdY B) ?_ ?_ ?_
    · unfold rdY; rw [top_eq, e32]; omega
    · unfold rdY; rw [top_eq, e31]; omega
    · unfold rdY; rw [top_eq, e31]; omega
  have ho : oddB (encL 32 B) = rdO B := by
    unfold oddB rdO
    rw [h1]
    have h4 : uand8 (.ofNat (B / 256 ^ 31)) 128 = .ofNat (Nat.land (B / 256 ^ 31) 128) := by
      unfold uand8
      have hl : Nat.land (B / 256 ^ 31) 128 < 256 := Nat.lt_of_le_of_lt (show (B / 256 ^ 31) &&& 128 ≤ B / 256 ^ 31 from Nat.and_le_left) h2
      rw [toU8 h2, show toU .u8 128 = 128 from rfl, restU8 hl]
    rw [h4]
    show (!Nat.beq (Nat.land (B / 256 ^ 31) 128) 0) = _
    rw [and128 _ h2]
    congr 1
    have hd : B / 256 ^ 31 < 128 ↔ B < 2 ^ 255 := by rw [e31, top_eq]; omega
    cases hb : Nat.blt B (2 ^ 255) with
    | true => rw [Nat.blt_eq] at hb ⊢; exact hd.2 hb
    | false =>
      cases hb2 : Nat.blt (B / 256 ^ 31) 128 with
      | false => rfl
      | true =>
        rw [Nat.blt_eq] at hb2
        have h3 : Nat.blt B (2 ^ 255) = true := by rw [Nat.blt_eq]; exact hd.1 hb2
        rw [h3] at hb; cases hb
  have hyl : rdY B < 256 ^ 32 := Nat.lt_of_le_of_lt (Nat.mod_le _ _) hB
  have hxl := rootR_lt (uyN curveD (rdY B))
  unfold readP
  rw [hy, ho]
  unfold readPt readE at hk
  generalize hXX : rootR (uyN curveD (rdY B)) = X at *
  generalize hRR : rootB (uyN curveD (rdY B)) = r at *
  refine ⟨rdY B, decN_enc hyl, fun hcan => ⟨curveD, rdY B, ⟨decN_enc dLt, decN_enc hyl⟩, ?_⟩, fun hcan => ?_⟩
  · show midR (rdO B) (encL 32 (rdY B)) K (encL 32 (rootR (uyN curveD (rdY B)))) (rootB (uyN curveD (rdY B)))
    rw [hXX, hRR]
    exact midR_nat hxl hcan hk
  · unfold coreP coreE coreOK at hk
    rw [hcan] at hk; exact hk
def readS : List AV → Option AV
  | [.agg l] => Option.casesOn (motive := fun _ => Option AV) (decN 32 l) none fun B => some (.tup [.agg (pt (readPt B).1 (readPt B).2), .int .i64 (readE B)])
  | _ => none
def readQ (l : List AV) (K : List AV → List AV → Int → Prop) : Prop := ∃ B, decN 32 l = some B ∧ K (encL 32 (readPt B).1) (encL 32 (readPt B).2) (readE B)
def readA : List AV → AMem → KP → Prop
  | [.agg l], m, K => readQ l fun a b e => K (.tup [.agg (a ++ b), .int .i64 e]) m
  | _, _, _ => False
theorem readA_ok {args : List AV} {m : AMem} {K : KP} (h : readA args m K) : ∃ r, readS args = some r ∧ K r m := by
  unfold readA at h
  split at h
  · next l =>
    obtain ⟨B, hd, hk⟩ := h
    refine ⟨_, ?_, hk⟩
    show Option.casesOn (motive := fun _ => Option AV) (decN 32 l) none _ = _
    rw [hd]; rfl
  · cases h
theorem read_c : PlainC Try.prog 34 readS := by
  have main : ∀ l r, readS l = some r → ∃ B, B < 256 ^ 32 ∧ l = [.agg (encL 32 B)] ∧ r = .tup [.agg (pt (readPt B).1 (readPt B).2), .int .i64 (readE B)] := by
    intro l r h
    unfold readS at h
    split at h
    · next l =>
      cases hd : decN 32 l with
      | none => rw [hd] at h; cases h
      | some B =>
        rw [hd] at h
        obtain ⟨rfl, hB⟩ := enc_decN hd
        exact ⟨B, hB, rfl, (Option.some.inj h).symm⟩
    · cases h
  refine ⟨fun l r hs => ?_, fun l r hs => ?_⟩ <;> obtain ⟨B, hB, rfl, rfl⟩ := main l r hs
  · refine ⟨?_, ?_⟩
    · show (AV.plain _ && true) = true
      rw [plain_enc]; rfl
    · have := plain_pt (readPt B).1 (readPt B).2
      simp only [AV.plain] at this
      simp [AV.plain, AV.plains, this]
  · obtain ⟨V, hV⟩ : ∃ V, V = AV.tup [.agg (pt (readPt B).1 (readPt B).2), .int .i64 (readE B)] := ⟨_, rfl⟩
    have hk : readP (encL 32 B) fun l e => ∀ _ : AMem, AV.tup [.agg l, .int .i64 e] = V := readP_nat hB fun _ => hV.symm
    obtain ⟨r, m, h, rfl⟩ := run_of pairedRd specsRd_ok (cf := cfRd) (fun g h => pfS_some h) (K := fun r => r = V) (Eq.mp (read_wp B _) hk)
    rw [← hV]
    exact ⟨_, _, m, okE specsRd specsRd_ok, h⟩
end
end Ev
