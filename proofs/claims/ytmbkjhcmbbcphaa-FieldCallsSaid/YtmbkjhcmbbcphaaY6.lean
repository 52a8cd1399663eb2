/-
  The law FieldCalls: it answers true. Conditions: numbers of 32 bytes, a number below 2^64.
-/
import Derived.Test.YtmbkjhcmbbcphaaY5
import Derived.Test.YtmbkjhcmbbcphaaL1
import Derived.Test.YtmbkjhcmbbcphaaR3
namespace Ev
open Go Go.Proofs
noncomputable section

def liveA : List AV → AMem → KP → Prop
  | [], m, K => K (.bool true) m
  | _, _, _ => False
theorem liveA_ok {args : List AV} {m : AMem} {K : KP} (h : liveA args m K) : ∃ r, liveS args = some r ∧ K r m := by
  unfold liveA at h
  split at h
  · exact ⟨_, rfl, h⟩
  · cases h
def specsFC : List (Nat × (List AV → Option AV)) := [(8, liveS), (9, rootS), (10, rootS), (11, numS1 restN), (12, numS1 restN), (13, predS canonN), (14, predS canonN), (15, ofS), (16, ofS), (17, numS2 addN), (18, numS2 addN), (19, numS2 subN), (20, numS2 subN), (23, numS2 mulN), (24, numS2 mulN), (25, numS2 powM), (26, numS2 powM), (21, numS1 negN), (22, numS1 negN), (27, numS1 invN), (28, numS1 invN), (29, predS oddN), (30, predS oddN), (31, predS2 sameN), (32, predS2 sameN)]
theorem specsFC_ok : ∀ p ∈ specsFC, FnOK Try.prog p.1 (orcS p.2) := by
  intro p hp
  simp only [specsFC, List.mem_cons, List.not_mem_nil, or_false] at hp
  rcases hp with rfl | rfl | rfl | rfl | rfl | rfl | rfl | rfl | rfl | rfl | rfl | rfl | rfl | rfl | rfl | rfl | rfl | rfl | rfl | rfl | rfl | rfl | rfl | rfl | rfl
  · exact plain_ok lives_c
  · exact plain_ok root_c
  · exact plain_ok rRoot_c
  · exact plain_ok rest_c
  · exact plain_ok refRest_c
  · exact plain_ok canon_c
  · exact plain_ok refCanon_c
  · exact plain_ok of_c
  · exact plain_ok rOf_c
  · exact plain_ok add_c
  · exact plain_ok rAdd_c
  · exact plain_ok sub_c
  · exact plain_ok rSub_c
  · exact plain_ok mul_c
  · exact plain_ok rMul_c
  · exact plain_ok pow_c
  · exact plain_ok rPow_c
  · exact plain_ok neg_c
  · exact plain_ok rNeg_c
  · exact plain_ok inv_c
  · exact plain_ok rInv_c
  · exact plain_ok odd_c
  · exact plain_ok rOdd_c
  · exact plain_ok same_c
  · exact plain_ok rSame_c
def waysFC : List (Nat × (List AV → AMem → KP → Prop)) := [(8, liveA), (9, rootA), (10, rootA), (11, numA1 restN), (12, numA1 restN), (13, predA canonN), (14, predA canonN), (15, ofA), (16, ofA), (17, numA2 addN), (18, numA2 addN), (19, numA2 subN), (20, numA2 subN), (23, numA2 mulN), (24, numA2 mulN), (25, numA2 powM), (26, numA2 powM), (21, numA1 negN), (22, numA1 negN), (27, numA1 invN), (28, numA1 invN), (29, predA oddN), (30, predA oddN), (31, predA2 sameN), (32, predA2 sameN)]
theorem pairedFC : Paired specsFC waysFC := .cons (fun _ _ _ h => liveA_ok h) (.cons (fun _ _ _ h => rootA_ok h) (.cons (fun _ _ _ h => rootA_ok h) (.cons (fun _ _ _ h => numA1_ok h) (.cons (fun _ _ _ h => numA1_ok h) (.cons (fun _ _ _ h => predA_ok h) (.cons (fun _ _ _ h => predA_ok h) (.cons (fun _ _ _ h => ofA_ok h) (.cons (fun _ _ _ h => ofA_ok h) (.cons (fun _ _ _ h => numA2_ok h) (.cons (fun _ _ _ h => numA2_ok h) (.cons (fun _ _ _ h => numA2_ok h) (.cons (fun _ _ _ h => numA2_ok h) (.cons (fun _ _ _ h => numA2_ok h) (.cons (fun _ _ _ h => numA2_ok h) (.cons (fun _ _ _ h => numA2_ok h) (.cons (fun _ _ _ h => numA2_ok h) (.cons (fun _ _ _ h => numA1_ok h) (.cons (fun _ _ _ h => numA1_ok h) (.cons (fun _ _ _ h => numA1_ok h) (.cons (fun _ _ _ h => numA1_ok h) (.cons (fun _ _ _ h => predA_ok h) (.cons (fun _ _ _ h => predA_ok h) (.cons (fun _ _ _ h => predA2_ok h) (.cons (fun _ _ _ h => predA2_ok h) .nil))))))))))))))))))))))))
theorem okFC : EnvOK (pEnv specsFC) Try.prog := okE specsFC specsFC_ok
def exFC (o : Oper) : Bool := match o.dst with
  | some d => Nat.beq d 33
  | none => false
def wantFC (o : Oper) : Option Bool := match o.dst with
  | some d => Bool.casesOn (motive := fun _ => Option Bool) (Nat.beq d 27 || (Nat.beq d 38 || (Nat.beq d 52 || (Nat.beq d 61 || (Nat.beq d 70 || (Nat.beq d 77 || (Nat.beq d 86 || (Nat.beq d 95 || (Nat.beq d 102))))))))) none (some true)
  | none => none
def cfFC : Wcfg := ⟨exFC, pfT specsFC, wantFC⟩
def eqF (X Y : List AV) (K : Prop) : Prop := eqAgg (pEnv specsFC) 23 X Y = some true ∧ K
def clC4 (a b : List AV) (K : Bool → Prop) : Prop := predQ2 sameN a b (predQ2 sameN a b (K true) (K false)) (predQ2 sameN a b (K false) (K true))
def clC3 (a b : List AV) (K : Bool → Prop) : Prop := predQ oddN a (predQ oddN a (clC4 a b K) (K false)) (predQ oddN a (K false) (clC4 a b K))
def clC2 (a b e : List AV) (n : Int) (K : Bool → Prop) : Prop := ofQ n fun u => ofQ n fun v => eqF u v (q2 addN a b fun u => q2 addN a b fun v => eqF u v (q2 subN a b fun u => q2 subN a b fun v => eqF u v (q1 negN a fun u => q1 negN a fun v => eqF u v (q2 mulN a b fun u => q2 mulN a b fun v => eqF u v (q2 powM a e fun u => q2 powM a e fun v => eqF u v (q1 invN a fun u => q1 invN a fun v => eqF u v (clC3 a b K)))))))
def clC1 (a b e : List AV) (n : Int) (K : Bool → Prop) : Prop :=
  q1 restN a fun u => q1 restN a fun v => eqF u v (predQ canonN a (predQ canonN a (clC2 a b e n K) (K false)) (predQ canonN a (K false) (clC2 a b e n K)))
def callsP (a b e : List AV) (n : Int) (K : Bool → Prop) : Prop :=
  rootQ a fun x ok => rootQ a fun y is => eqF x y (splitO (eqBool ok is) (clC1 a b e n K) (K false))
set_option maxRecDepth 1000000 in
theorem calls_wp (A B E : Nat) (n : Int) (K : AV → Prop) : (callsP (encL 32 A) (encL 32 B) (encL 32 E) n fun r => ∀ _ : AMem, K (.bool r)) =
    wpCall cfFC (pEnv specsFC) (owL waysFC) 1000 (.fn 3) [.agg (encL 32 A), .agg (encL 32 B), .agg (encL 32 E), .int .u64 n] ⟨0, .nil⟩ (fun r _ => ∀ _ : AMem, K r) := by kernel_rfl

theorem eqF_same {X : Nat} (hX : X < 256 ^ 32) {K : Prop} (hk : K) : eqF (encL 32 X) (encL 32 X) K := ⟨by rw [eq_num hX hX, decide_eq_true rfl], hk⟩
theorem pred_same {g : Nat → Bool} {A : Nat} (hA : A < 256 ^ 32) {T F : Prop} (hk : T) : predQ g (encL 32 A) (predQ g (encL 32 A) T F) (predQ g (encL 32 A) F T) :=
  ⟨A, decN_enc hA, fun h => ⟨A, decN_enc hA, fun _ => hk, fun h' => (by rw [h] at h'; cases h')⟩, fun h => ⟨A, decN_enc hA, fun h' => (by rw [h] at h'; cases h'), fun _ => hk⟩⟩
theorem pred2_same {g : Nat → Nat → Bool} {A B : Nat} (hA : A < 256 ^ 32) (hB : B < 256 ^ 32) {T F : Prop} (hk : T) : predQ2 g (encL 32 A) (encL 32 B) (predQ2 g (encL 32 A) (encL 32 B) T F) (predQ2 g (encL 32 A) (encL 32 B) F T) :=
  predQ2_of hA hB (fun h => predQ2_of hA hB (fun _ => hk) fun h' => by rw [h] at h'; cases h') fun h => predQ2_of hA hB (fun h' => (by rw [h] at h'; cases h')) fun _ => hk
theorem rootR_lt (A : Nat) : rootR A < 256 ^ 32 := by
  have ev : ∀ x, x < 256 ^ 32 → evenN x < 256 ^ 32 := by
    intro x hx
    unfold evenN
    cases oddN x with
    | true => exact mod_lt32 _
    | false => exact hx
  have gen : ∀ e f, rootRG e f A < 256 ^ 32 := by
    intro e f
    unfold rootRG
    cases sameN (mulN (root1G e A) (root1G e A)) A with
    | true => exact ev _ (lt_pow' _ _)
    | false =>
      cases sameN (mulN (root2G e f A) (root2G e f A)) A with
      | true => exact ev _ (lt_mul _ _)
      | false => show 0 < 256 ^ 32; decide
  exact gen _ _
theorem rootQ_nat {A : Nat} (hA : A < 256 ^ 32) {K : List AV → Bool → Prop} (hk : K (encL 32 (rootR A)) (rootB A)) : rootQ (encL 32 A) K := ⟨A, decN_enc hA, hk⟩
theorem fcalls_true {A B E n : Nat} (hA : A < 256 ^ 32) (hB : B < 256 ^ 32) (hE : E < 256 ^ 32) (hn : n < M64) {K : Bool → Prop} (hK : K true) : callsP (encL 32 A) (encL 32 B) (encL 32 E) (.ofNat n) K := by
  have n32 : n < 256 ^ 32 := Nat.lt_trans hn (by decide)
  refine rootQ_nat hA (rootQ_nat hA (eqF_same (rootR_lt A) ⟨fun _ => ?_, fun h => ?_⟩))
  · refine q1_nat hA (q1_nat hA (eqF_same (mod_lt32 _) (pred_same hA ?_)))
    refine ofQ_nat hn (ofQ_nat hn (eqF_same n32 ?_))
    refine q2_nat hA hB (q2_nat hA hB (eqF_same (lt_add _ _) ?_))
    refine q2_nat hA hB (q2_nat hA hB (eqF_same (lt_sub _ _) ?_))
    refine q1_nat hA (q1_nat hA (eqF_same (lt_neg _) ?_))
    refine q2_nat hA hB (q2_nat hA hB (eqF_same (lt_mul _ _) ?_))
    refine q2_nat hA hE (q2_nat hA hE (eqF_same (lt_pow' _ _) ?_))
    refine q1_nat hA (q1_nat hA (eqF_same (lt_pow' _ _) ?_))
    exact pred_same hA (pred2_same hA hB hK)
  · exfalso
    cases hb : rootB A <;> rw [hb] at h <;> cases h
theorem calls_run {A B E n : Nat} (hA : A < 256 ^ 32) (hB : B < 256 ^ 32) (hE : E < 256 ^ 32) (hn : n < M64) : ∃ m, evCall (pEnv specsFC) 1000 (.fn 3) [.agg (encL 32 A), .agg (encL 32 B), .agg (encL 32 E), .int .u64 (.ofNat n)] ⟨0, .nil⟩ = some (.bool true, m) := by
  have g := @run_of _ _ pairedFC specsFC_ok cfFC (fun _ h => pfT_some h) 3 1000 [.agg (encL 32 A), .agg (encL 32 B), .agg (encL 32 E), .int .u64 (.ofNat n)] (fun r => r = .bool true)
  rw [← calls_wp] at g
  obtain ⟨r, m, h, rfl⟩ := g (fcalls_true hA hB hE hn fun _ => rfl)
  exact ⟨m, h⟩
end
end Ev
