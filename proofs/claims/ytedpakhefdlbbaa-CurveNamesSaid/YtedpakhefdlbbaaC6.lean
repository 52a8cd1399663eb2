/-
  The multiples of points that the law CurveNames takes, kept; its run. Conditions: none.
-/
import Derived.Test.YtedpakhefdlbbaaML
import Derived.Test.YtedpakhefdlbbaaME
import Derived.Test.YtedpakhefdlbbaaMZ
namespace Ev
open Go Go.Proofs
noncomputable section

/-- answers, kept: by a number and a point -/
def memo2 (es : List (Nat × Nat × AV)) (A B : Nat) : Option AV :=
  List.rec (motive := fun _ => Option AV) none (fun e _ ih => Bool.casesOn (motive := fun _ => Option AV) (Nat.beq A e.1 && Nat.beq B e.2.1) ih (some e.2.2)) es
def memo2S (es : List (Nat × Nat × AV)) : List AV → Option AV
  | [.agg l, .agg l'] => Option.casesOn (motive := fun _ => Option AV) (decN 32 l) none fun A => Option.casesOn (motive := fun _ => Option AV) (decN 64 l') none fun B => memo2 es A B
  | _ => none
theorem memo2_some {es : List (Nat × Nat × AV)} {A B : Nat} {r : AV} (h : memo2 es A B = some r) : (A, B, r) ∈ es := by
  induction es with
  | nil => cases h
  | cons e es ih =>
    have h : Bool.casesOn (motive := fun _ => Option AV) (Nat.beq A e.1 && Nat.beq B e.2.1) (memo2 es A B) (some e.2.2) = some r := h
    cases hb : (Nat.beq A e.1 && Nat.beq B e.2.1) with
    | false => rw [hb] at h; exact List.mem_cons_of_mem _ (ih h)
    | true =>
      rw [hb] at h
      rw [Bool.and_eq_true] at hb
      obtain ⟨a, b, v⟩ := e
      have h1 := Nat.eq_of_beq_eq_true hb.1
      have h2 := Nat.eq_of_beq_eq_true hb.2
      cases h
      simp only at h1 h2
      rw [h1, h2]
      exact List.mem_cons_self ..
theorem memo2_c {f : Nat} {es : List (Nat × Nat × AV)} (hes : ∀ e ∈ es, e.2.2.plain = true ∧ ∃ E n m, EnvOK E Try.prog ∧ evCall E n (.fn f) [.agg (encL 32 e.1), .agg (encL 64 e.2.1)] ⟨0, .nil⟩ = some (e.2.2, m)) : PlainC Try.prog f (memo2S es) := by
  have main : ∀ l r, memo2S es l = some r → ∃ A B, (A, B, r) ∈ es ∧ l = [.agg (encL 32 A), .agg (encL 64 B)] := by
    intro l r h
    unfold memo2S at h
    split at h
    · next l l' =>
      cases hd : decN 32 l with
      | none => rw [hd] at h; cases h
      | some A =>
        rw [hd] at h
        cases hd' : decN 64 l' with
        | none => simp only [hd'] at h; cases h
        | some B =>
          simp only [hd'] at h
          obtain ⟨rfl, _⟩ := enc_decN hd
          obtain ⟨rfl, _⟩ := enc_decN hd'
          exact ⟨A, B, memo2_some h, rfl⟩
    · cases h
  refine ⟨fun l r hs => ?_, fun l r hs => ?_⟩ <;> obtain ⟨A, B, he, rfl⟩ := main l r hs
  · refine ⟨?_, (hes _ he).1⟩
    show (AV.plain (.agg (encL 32 A)) && (AV.plain (.agg (encL 64 B)) && true)) = true
    rw [plain_enc, show AV.plain (.agg (encL 64 B)) = true from plains_enc 64 B]; rfl
  · exact (hes _ he).2

def kL : Nat := 7237005577332262213973186563042994240857116359379907606001950938285454250989
def pB : Nat := 5363123171977038839829609999282338450991746328236957351089424577488705612027766496857081901453434450043297225933018786575009370859816484882143460383380762
def pZ : Nat := 115792089237316195423570985008687907853269984665640564039457584007913129639936
def pE : AV := pointA 46706390780465557264338673484185971070529246228527338942042475661633188627656 15299170165656271974649334809062094114079726227711063015095704409550798436788
theorem encB : pointA baseX baseY = .agg (encL 64 pB) := by kernel_rfl
theorem encZ : pointA 0 1 = .agg (encL 64 pZ) := by kernel_rfl
def mulT : List (Nat × Nat × AV) := [(kL, pB, pointA 0 1), (8, pB, pE), (8, pZ, pointA 0 1)]
theorem mulT_c : PlainC Try.prog 28 (memo2S mulT) := memo2_c fun e he => by
  have go : ∀ (k P : Nat) (r : AV), r.plain = true → ansR (evCall2 wEnv (pfOf specsM) 100000 (.fn 28) [.agg (encL 32 k), .agg (encL 64 P)] ⟨0, .nil⟩) = some r →
      r.plain = true ∧ ∃ E n m, EnvOK E Try.prog ∧ evCall E n (.fn 28) [.agg (encL 32 k), .agg (encL 64 P)] ⟨0, .nil⟩ = some (r, m) := by
    intro k P r hr h
    obtain ⟨m, hm⟩ := runW h
    exact ⟨hr, _, _, m, okW, hm⟩
  simp only [mulT, List.mem_cons, List.not_mem_nil, or_false] at he
  rcases he with h | h | h
  · rw [h]; exact go kL pB _ (by kernel_rfl) (by rw [← encB]; exact mulL_run)
  · rw [h]; exact go 8 pB _ (by kernel_rfl) (by rw [← encB]; exact mulE_run)
  · rw [h]; exact go 8 pZ _ (by kernel_rfl) (by rw [← encZ]; exact mulZ_run)

def specsV : List (Nat × (List AV → Option AV)) := (28, memo2S mulT) :: specsM
theorem specsV_ok : ∀ p ∈ specsV, FnOK Try.prog p.1 (orcS p.2) := by
  intro p hp
  rcases List.mem_cons.1 hp with rfl | hp
  · exact plain_ok mulT_c
  · exact specsM_ok p hp
theorem curve_run : ansR (evCall2 (pEnv specsV) (pfOf specsV) 100000 (.fn 8) [] ⟨0, .nil⟩) = some (.bool true) := by kernel_rfl
theorem okV : EnvOK (pEnv specsV) Try.prog := okE specsV specsV_ok
theorem ranC : isTrue (evCall (pEnv specsV) 100000 (.fn 8) [] ⟨0, .nil⟩) = true := by
  obtain ⟨m, hm⟩ := run2 specsV_ok curve_run
  rw [hm]; rfl
end
end Ev
