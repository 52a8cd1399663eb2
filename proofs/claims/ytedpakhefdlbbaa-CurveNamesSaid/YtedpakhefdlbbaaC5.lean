/-
  A number's bits, the curve's constant: as functions of plain data. Conditions: those named.
-/
import Derived.Test.YtedpakhefdlbbaaC4
namespace Ev
open Go Go.Proofs
noncomputable section

def nthI (l : List AV) (j : Nat) : Int := match nthCell l j with
  | some (.int _ n) => n
  | _ => 0
def shr8 (a : Int) (n : Nat) : Int := Int.casesOn (motive := fun _ => Int) a (fun m => .ofNat (Nat.div m (Nat.pow 2 (cnt .u8 n)))) (fun m => .negSucc (Nat.div m (Nat.pow 2 (cnt .u8 n))))
def bitM (l : List AV) (i : Nat) : Bool := eqI (restK .u8 (Nat.land (toU .u8 (shr8 (nthI l (i / 8)) (i % 8))) (toU .u8 1))) 1
set_option maxRecDepth 1000000 in
theorem bit_all (A : Nat) : (List.range 256).map (fun i => ansR (evCall (pEnv []) 1000 (.fn 53) [.agg (encL 32 A), .int .i64 (.ofNat i)] ⟨0, .nil⟩)) = (List.range 256).map fun i => some (.bool (bitM (encL 32 A) i)) := by kernel_rfl
theorem bit_at (A i : Nat) (h : i < 256) : ansR (evCall (pEnv []) 1000 (.fn 53) [.agg (encL 32 A), .int .i64 (.ofNat i)] ⟨0, .nil⟩) = some (.bool (bitM (encL 32 A) i)) := by
  have h1 := congrArg (fun l => l[i]?) (bit_all A)
  simp only [List.getElem?_map, List.getElem?_range h, Option.map_some, Option.some.injEq] at h1
  exact h1
def bitS : List AV → Option AV
  | [.agg l, .int .i64 (.ofNat i)] => Option.casesOn (motive := fun _ => Option AV) (decN 32 l) none fun _ => Bool.casesOn (motive := fun _ => Option AV) (Nat.blt i 256) none (some (.bool (bitM l i)))
  | _ => none
theorem bit_c : PlainC Try.prog 53 bitS := by
  have main : ∀ l r, bitS l = some r → ∃ A i, i < 256 ∧ l = [.agg (encL 32 A), .int .i64 (.ofNat i)] ∧ r = .bool (bitM (encL 32 A) i) := by
    intro l r h
    unfold bitS at h
    split at h
    · next l i =>
      cases hd : decN 32 l with
      | none => rw [hd] at h; cases h
      | some A =>
        rw [hd] at h
        cases hb : Nat.blt i 256 with
        | false => simp only [hb] at h; cases h
        | true =>
          simp only [hb] at h
          obtain ⟨rfl, _⟩ := enc_decN hd
          rw [Nat.blt_eq] at hb
          exact ⟨A, i, hb, rfl, (Option.some.inj h).symm⟩
    · cases h
  refine ⟨fun l r hs => ?_, fun l r hs => ?_⟩ <;> obtain ⟨A, i, hi, rfl, rfl⟩ := main l r hs
  · exact ⟨by show (AV.plain _ && (AV.plain _ && true)) = true; rw [plain_enc]; rfl, rfl⟩
  · obtain ⟨m, hm⟩ := ansR_some (bit_at A i hi)
    exact ⟨_, _, m, okE0, hm⟩

theorem curveD_run : ansR (evCall (pEnv []) 1000 (.fn 32) [] ⟨0, .nil⟩) = some (.agg (encL 32 curveD)) := by kernel_rfl
def dS : List AV → Option AV
  | [] => some (.agg (encL 32 curveD))
  | _ => none
theorem d_c : PlainC Try.prog 32 dS := by
  refine ⟨fun l r h => ?_, fun l r h => ?_⟩ <;> unfold dS at h <;> split at h
  · cases h; exact ⟨rfl, plain_enc _⟩
  · cases h
  · cases h
    obtain ⟨m, hm⟩ := ansR_some curveD_run
    exact ⟨_, _, m, okE0, hm⟩
  · cases h
def specsM : List (Nat × (List AV → Option AV)) := [(20, numS2 mulN), (19, numS2 addN), (21, numS2 subN), (32, dS), (53, bitS), (11, numS1 restN), (12, predS canonN), (13, numS1 negN), (14, ofS), (17, predS oddN), (18, predS2 sameN), (16, powKS), (33, refDS)]
theorem specsM_ok : ∀ p ∈ specsM, FnOK Try.prog p.1 (orcS p.2) := by
  intro p hp
  simp only [specsM, List.mem_cons, List.not_mem_nil, or_false] at hp
  rcases hp with rfl | rfl | rfl | rfl | rfl | rfl | rfl | rfl | rfl | rfl | rfl | rfl | rfl
  · exact plain_ok mul_c
  · exact plain_ok add_c
  · exact plain_ok sub_c
  · exact plain_ok d_c
  · exact plain_ok bit_c
  · exact plain_ok rest_c
  · exact plain_ok canon_c
  · exact plain_ok neg_c
  · exact plain_ok of_c
  · exact plain_ok odd_c
  · exact plain_ok same_c
  · exact plain_ok powK_c
  · exact plain_ok refD_c
def baseX : Nat := 0x216936D3CD6E53FEC0A4E231FDD6DC5C692CC7609525A7B2C9562D608F25D51A
def baseY : Nat := 0x6666666666666666666666666666666666666666666666666666666666666658
def pointA (x y : Nat) : AV := .agg (encL 32 x ++ encL 32 y)
end
end Ev
