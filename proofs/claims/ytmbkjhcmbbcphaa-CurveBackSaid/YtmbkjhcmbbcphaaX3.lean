/-
  The law CurveBack: what its run needs. Conditions: none.
-/
import Derived.Test.YtmbkjhcmbbcphaaX2
namespace Ev
open Go Go.Proofs
noncomputable section

def specsBk : List (Nat × (List AV → Option AV)) := [(33, liveS), (34, readS), (35, bytesS'), (36, checkS), (14, predS canonN), (37, ptS1 negPt)]
theorem specsBk_ok : ∀ p ∈ specsBk, FnOK Try.prog p.1 (orcS p.2) := by
  intro p hp
  simp only [specsBk, List.mem_cons, List.not_mem_nil, or_false] at hp
  rcases hp with rfl | rfl | rfl | rfl | rfl | rfl
  · exact plain_ok lives_c
  · exact plain_ok read_c
  · exact plain_ok bytes_c
  · exact plain_ok check_c
  · exact plain_ok refCanon_c
  · exact plain_ok negPt_c
def waysBk : List (Nat × (List AV → AMem → KP → Prop)) := [(33, liveA), (34, readA), (35, bytesA'), (36, checkA), (14, predA canonN), (37, ptA1 negPt)]
theorem pairedBk : Paired specsBk waysBk := .cons (fun _ _ _ h => liveA_ok h) (.cons (fun _ _ _ h => readA_ok h) (.cons (fun _ _ _ h => bytesA'_ok h) (.cons (fun _ _ _ h => checkA_ok h) (.cons (fun _ _ _ h => predA_ok h) (.cons (fun _ _ _ h => ptA1_ok h) .nil)))))
theorem okBk : EnvOK (pEnv specsBk) Try.prog := okE specsBk specsBk_ok
def exBk (o : Oper) : Bool := match o.dst with
  | some d => Nat.beq d 22 || (Nat.beq d 30 || (Nat.beq d 52 || (Nat.beq d 57 || (Nat.beq d 78 || Nat.beq d 91))))
  | none => false
def wantBk (o : Oper) : Option Bool := match o.dst with
  | some d => Bool.casesOn (motive := fun _ => Option Bool) (Nat.beq d 33 || (Nat.beq d 60 || (Nat.beq d 81 || Nat.beq d 95))) none (some true)
  | none => none
def cfBk : Wcfg := ⟨exBk, pfS specsBk, wantBk⟩
def uxor8 (a b : Int) : Int := restK .u8 (Nat.xor (toU .u8 a) (toU .u8 b))
def eqB (t : TypeId) (X Y : List AV) (K : Prop) : Prop := eqAgg (pEnv specsBk) t X Y = some true ∧ K

def bk4 (p n : List AV) (x : List AV) (g : Int) (K : Bool → Prop) : Prop :=
  eqP (pEnv specsBk) 23 x (encL 32 0) fun z => Bool.casesOn (motive := fun _ => Prop) z
    (splitO (eqI g 0) (p1 negPt p fun m => eqB 35 n m (K true)) (K false)) (K (eqI g 4))
def bk3 (x y : List AV) (b : List AV) (K : Bool → Prop) : Prop :=
  readQ b fun a2 b2 f => readQ (b.set 31 (.int .u8 (uxor8 (nthI b 31) 128))) fun a3 b3 g =>
    splitO (!eqI f 0) (K false) (eqB 35 (a2 ++ b2) (x ++ y) (bk4 (x ++ y) (a3 ++ b3) x g K))
def bk2 (x y : List AV) (K : Bool → Prop) : Prop :=
  bytesQ (x ++ y) fun b e => splitO (!eqI e 0)
    (checkQ (x ++ y) (splitO (eqI 0 e) (eqB 22 b (encL 32 0) (K true)) (K false)) (splitO (eqI 2 e) (eqB 22 b (encL 32 0) (K true)) (K false)))
    (bk3 x y b K)
def bk1 (x y raw : List AV) (a1 b1 : List AV) (K : Bool → Prop) : Prop :=
  bytesQ (a1 ++ b1) fun b f => splitO (!eqI f 0) (K false) (eqB 22 b raw (checkQ (a1 ++ b1) (predQ canonN b1 (bk2 x y K) (K false)) (K false)))
def backP (x y raw : List AV) (K : Bool → Prop) : Prop :=
  readQ raw fun a1 b1 e => splitO (eqI e 0) (bk1 x y raw a1 b1 K) (bk2 x y K)
set_option maxRecDepth 1000000 in
theorem back_wp (x y B : Nat) (K : AV → Prop) : (backP (encL 32 x) (encL 32 y) (encL 32 B) fun r => ∀ _ : AMem, K (.bool r)) =
    wpCall cfBk (pEnv specsBk) (owL waysBk) 1000 (.fn 4) [.agg (pt x y), .agg (encL 32 B)] ⟨0, .nil⟩ (fun r _ => ∀ _ : AMem, K r) := by kernel_rfl
end
end Ev
