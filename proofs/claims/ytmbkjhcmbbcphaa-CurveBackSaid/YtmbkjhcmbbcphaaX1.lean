/-
  Points and their bytes: the curve's root, Bytes, Read, as functions of plain data. Conditions: 64 bytes, 32 bytes.
-/
import Derived.Test.YtmbkjhcmbbcphaaD5
import Derived.Test.YtmbkjhcmbbcphaaW9
namespace Ev
open Go Go.Proofs
noncomputable section

/-! root -/
def dnN (d y : Nat) : Nat := addN (mulN d (mulN y y)) 1
def uyN (d y : Nat) : Nat := mulN (subN (mulN y y) 1) (invN (dnN d y))
def specsRt : List (Nat × (List AV → Option AV)) := [(23, numS2 mulN), (15, ofS), (19, numS2 subN), (17, numS2 addN), (27, numS1 invN), (9, rootS)]
theorem specsRt_ok : ∀ p ∈ specsRt, FnOK Try.prog p.1 (orcS p.2) := by
  intro p hp
  simp only [specsRt, List.mem_cons, List.not_mem_nil, or_false] at hp
  rcases hp with rfl | rfl | rfl | rfl | rfl | rfl
  · exact plain_ok mul_c
  · exact plain_ok of_c
  · exact plain_ok sub_c
  · exact plain_ok add_c
  · exact plain_ok inv_c
  · exact plain_ok root_c
def waysRt : List (Nat × (List AV → AMem → KP → Prop)) := [(23, numA2 mulN), (15, ofA), (19, numA2 subN), (17, numA2 addN), (27, numA1 invN), (9, rootA)]
theorem pairedRt : Paired specsRt waysRt := .cons (fun _ _ _ h => numA2_ok h) (.cons (fun _ _ _ h => ofA_ok h) (.cons (fun _ _ _ h => numA2_ok h) (.cons (fun _ _ _ h => numA2_ok h) (.cons (fun _ _ _ h => numA1_ok h) (.cons (fun _ _ _ h => rootA_ok h) .nil)))))
def cfRtt : Wcfg := ⟨fun _ => false, pfS specsRt, fun _ => none⟩
def rootYP (d y : List AV) (K : List AV → Bool → Prop) : Prop :=
  q2 mulN y y fun y2 => ofQ 1 fun o => q2 subN y2 o fun up => q2 mulN d y2 fun m => ofQ 1 fun o => q2 addN m o fun dn => q1 invN dn fun i => q2 mulN up i fun a => rootQ a K
theorem rootY_wp (d y : Nat) (K : AV → Prop) : (rootYP (encL 32 d) (encL 32 y) fun r b => ∀ _ : AMem, K (.tup [.agg r, .bool b])) =
    wpCall cfRtt (pEnv specsRt) (owL waysRt) 1000 (.fn 60) [.agg (encL 32 d), .agg (encL 32 y)] ⟨0, .nil⟩ (fun r _ => ∀ _ : AMem, K r) := by kernel_rfl
theorem one32 : (1 : Nat) < 256 ^ 32 := by decide
theorem rootYP_nat {d y : Nat} (hd : d < 256 ^ 32) (hy : y < 256 ^ 32) {K : List AV → Bool → Prop} (hk : K (encL 32 (rootR (uyN d y))) (rootB (uyN d y))) : rootYP (encL 32 d) (encL 32 y) K :=
  q2_nat hy hy (ofQ_nat (n := 1) (by decide) (q2_nat (lt_mul _ _) one32 (q2_nat hd (lt_mul _ _) (ofQ_nat (n := 1) (by decide) (q2_nat (lt_mul _ _) one32 (q1_nat (lt_add _ _) (q2_nat (lt_sub _ _) (inv_lt _) ⟨_, decN_enc (lt_mul _ _), hk⟩)))))))
def rootYS : List AV → Option AV
  | [.agg l, .agg l'] => Option.casesOn (motive := fun _ => Option AV) (decN 32 l) none fun d => Option.casesOn (motive := fun _ => Option AV) (decN 32 l') none fun y => some (.tup [.agg (encL 32 (rootR (uyN d y))), .bool (rootB (uyN d y))])
  | _ => none
def rootYQ (l l' : List AV) (K : List AV → Bool → Prop) : Prop := ∃ d y, (decN 32 l = some d ∧ decN 32 l' = some y) ∧ K (encL 32 (rootR (uyN d y))) (rootB (uyN d y))
def rootYA : List AV → AMem → KP → Prop
  | [.agg l, .agg l'], m, K => rootYQ l l' fun r b => K (.tup [.agg r, .bool b]) m
  | _, _, _ => False
theorem rootYA_ok {args : List AV} {m : AMem} {K : KP} (h : rootYA args m K) : ∃ r, rootYS args = some r ∧ K r m := by
  unfold rootYA at h
  split at h
  · next l l' =>
    obtain ⟨d, y, ⟨hd, hy⟩, hk⟩ := h
    refine ⟨_, ?_, hk⟩
    show Option.casesOn (motive := fun _ => Option AV) (decN 32 l) none _ = _
    rw [hd]
    show Option.casesOn (motive := fun _ => Option AV) (decN 32 l') none _ = _
    rw [hy]
  · cases h
theorem rootY_c : PlainC Try.prog 60 rootYS := by
  have main : ∀ l r, rootYS l = some r → ∃ d y, d < 256 ^ 32 ∧ y < 256 ^ 32 ∧ l = [.agg (encL 32 d), .agg (encL 32 y)] ∧ r = .tup [.agg (encL 32 (rootR (uyN d y))), .bool (rootB (uyN d y))] := by
    intro l r h
    unfold rootYS at h
    split at h
    · next l l' =>
      cases hd : decN 32 l with
      | none => rw [hd] at h; cases h
      | some d =>
        rw [hd] at h
        cases hy : decN 32 l' with
        | none => rw [hy] at h; cases h
        | some y =>
          rw [hy] at h
          obtain ⟨rfl, hD⟩ := enc_decN hd
          obtain ⟨rfl, hY⟩ := enc_decN hy
          exact ⟨d, y, hD, hY, rfl, (Option.some.inj h).symm⟩
    · cases h
  refine ⟨fun l r hs => ?_, fun l r hs => ?_⟩ <;> obtain ⟨d, y, hd, hy, rfl, rfl⟩ := main l r hs
  · refine ⟨?_, ?_⟩
    · show (AV.plain _ && (AV.plain _ && true)) = true
      rw [plain_enc, plain_enc]; rfl
    · simp [AV.plain, AV.plains, plains_enc]
  · obtain ⟨V, hV⟩ : ∃ V, V = AV.tup [.agg (encL 32 (rootR (uyN d y))), .bool (rootB (uyN d y))] := ⟨_, rfl⟩
    have hk : rootYP (encL 32 d) (encL 32 y) fun r b => ∀ _ : AMem, AV.tup [.agg r, .bool b] = V := rootYP_nat hd hy fun _ => hV.symm
    obtain ⟨r, m, h, rfl⟩ := run_of pairedRt specsRt_ok (cf := cfRtt) (fun g h => pfS_some h) (K := fun r => r = V) (Eq.mp (rootY_wp d y _) hk)
    rw [← hV]
    exact ⟨_, _, m, okE specsRt specsRt_ok, h⟩

/-! Bytes -/
def uor8 (a b : Int) : Int := restK .u8 (Nat.lor (toU .u8 a) (toU .u8 b))
def uand8 (a b : Int) : Int := restK .u8 (Nat.land (toU .u8 a) (toU .u8 b))
def uandn8 (a b : Int) : Int := restK .u8 (Nat.land (toU .u8 a) (Nat.xor (toU .u8 b) 255))
def specsBy : List (Nat × (List AV → Option AV)) := [(36, checkS), (29, predS oddN)]
theorem specsBy_ok : ∀ p ∈ specsBy, FnOK Try.prog p.1 (orcS p.2) := by
  intro p hp
  simp only [specsBy, List.mem_cons, List.not_mem_nil, or_false] at hp
  rcases hp with rfl | rfl
  · exact plain_ok check_c
  · exact plain_ok odd_c
def waysBy : List (Nat × (List AV → AMem → KP → Prop)) := [(36, checkA), (29, predA oddN)]
theorem pairedBy : Paired specsBy waysBy := .cons (fun _ _ _ h => checkA_ok h) (.cons (fun _ _ _ h => predA_ok h) .nil)
def cfBy : Wcfg := ⟨fun _ => false, pfS specsBy, fun _ => none⟩
def bytesP (x y : List AV) (K : List AV → Int → Prop) : Prop :=
  checkQ (x ++ y) (predQ oddN x (K (y.set 31 (.int .u8 (uor8 (nthI y 31) 128))) 0) (K y 0)) (K (encL 32 0) 2)
theorem bytes_wp (x y : Nat) (K : AV → Prop) : (bytesP (encL 32 x) (encL 32 y) fun l e => ∀ _ : AMem, K (.tup [.agg l, .int .i64 e])) =
    wpCall cfBy (pEnv specsBy) (owL waysBy) 1000 (.fn 35) [.agg (pt x y)] ⟨0, .nil⟩ (fun r _ => ∀ _ : AMem, K r) := by kernel_rfl

/-! Read -/
def specsRd : List (Nat × (List AV → Option AV)) := [(13, predS canonN), (61, dS), (60, rootYS), (21, numS1 negN)]
theorem specsRd_ok : ∀ p ∈ specsRd, FnOK Try.prog p.1 (orcS p.2) := by
  intro p hp
  simp only [specsRd, List.mem_cons, List.not_mem_nil, or_false] at hp
  rcases hp with rfl | rfl | rfl | rfl
  · exact plain_ok canon_c
  · exact plain_ok d_c
  · exact plain_ok rootY_c
  · exact plain_ok neg_c
def waysRd : List (Nat × (List AV → AMem → KP → Prop)) := [(13, predA canonN), (61, dA), (60, rootYA), (21, numA1 negN)]
theorem pairedRd : Paired specsRd waysRd := .cons (fun _ _ _ h => predA_ok h) (.cons (fun _ _ _ h => dA_ok h) (.cons (fun _ _ _ h => rootYA_ok h) (.cons (fun _ _ _ h => numA1_ok h) .nil)))
def exRd (o : Oper) : Bool := match o.dst with
  | some d => Nat.beq d 30 || (Nat.beq d 34 || Nat.beq d 40)
  | none => false
def cfRd : Wcfg := ⟨exRd, pfS specsRd, fun _ => none⟩
def oddB (b : List AV) : Bool := !eqI (uand8 (nthI b 31) 128) 0
def readEnd (odd : Bool) (x y : List AV) (K : List AV → Int → Prop) : Prop :=
  splitO odd (q1 negN x fun n => K (n ++ y) 0) (K (x ++ y) 0)
def readP (b : List AV) (K : List AV → Int → Prop) : Prop :=
  (fun y => predQ canonN y (rootYQ (encL 32 curveD) y fun x is =>
    splitO (!is) (K (pt 0 0) 4) (splitO (oddB b) (eqP (pEnv specsRd) 23 x (encL 32 0) fun z => splitO z (K (pt 0 0) 4) (readEnd (oddB b) x y K))
      (splitO false (K (pt 0 0) 4) (readEnd (oddB b) x y K)))) (K (pt 0 0) 4)) (b.set 31 (.int .u8 (uandn8 (nthI b 31) 128)))
theorem read_wp (B : Nat) (K : AV → Prop) : (readP (encL 32 B) fun l e => ∀ _ : AMem, K (.tup [.agg l, .int .i64 e])) =
    wpCall cfRd (pEnv specsRd) (owL waysRd) 1000 (.fn 34) [.agg (encL 32 B)] ⟨0, .nil⟩ (fun r _ => ∀ _ : AMem, K r) := by kernel_rfl
end
end Ev
