/-
  CurveBack's run is true. Conditions: a point of 64 bytes, 32 bytes.
-/
import Derived.Test.YtmbkjhcmbbcphaaX4
import Derived.Test.YtmbkjhcmbbcphaaDd
namespace Ev
open Go Go.Proofs
noncomputable section

theorem bk2_true {x y : Nat} (hx : x < 256 ^ 32) (hy : y < 256 ^ 32) {K : Bool → Prop} (hK : K true) : bk2 (encL 32 x) (encL 32 y) K := by
  refine ⟨(x, y), two_pt hx hy, ?_⟩
  cases hc : chk (x, y) with
  | false =>
    have he : bytesE (x, y) = 2 := by unfold bytesE; rw [hc]; rfl
    have hv : bytesV (x, y) = 0 := by unfold bytesV; rw [hc]
    rw [he, hv]
    refine ⟨fun _ => checkQ_nat hx hy (fun h => ?_) (fun _ => ?_), fun h => by cases h⟩
    · have h : chk (x, y) = true := h
      rw [hc] at h; cases h
    · exact ⟨fun _ => eqB22 (by decide) (by decide) rfl hK, fun h => by cases h⟩
  | true =>
    have hP := (chk_on (x, y)).1 hc
    have hxp : x < pF := hP.hx
    have hyp : y < pF := hP.hy
    rw [bytesE_on hP, bytesV_on hP]
    refine ⟨fun h => (by cases h), fun _ => ?_⟩
    show bk3 (encL 32 x) (encL 32 y) (encL 32 (wrap y (oddN x))) K
    unfold bk3
    rw [flip_bytes hyp]
    obtain ⟨r1, r2⟩ := read_back hP
    obtain ⟨f1, f2⟩ := read_flip hP
    refine ⟨_, decN_enc (wrap_lt hyp _), _, decN_enc (wrap_lt hyp _), ?_⟩
    rw [r1, r2]
    refine ⟨fun h => (by cases h), fun _ => eqB35 (P := (x, y)) (Q := (x, y)) ⟨hx, hy⟩ rfl ?_⟩
    refine ⟨_, eq_num hx (by decide), ?_⟩
    cases hz : decide (x = 0) with
    | true =>
      have h0 : x = 0 := of_decide_eq_true hz
      show K (eqI (readE (wrap y (!oddN x))) 4)
      rw [f1 h0]; exact hK
    | false =>
      have h0 : x ≠ 0 := of_decide_eq_false hz
      obtain ⟨g1, g2⟩ := f2 h0
      show splitO (eqI (readE (wrap y (!oddN x))) 0) (p1 negPt (pt x y) fun m => eqB 35 (pt (readPt (wrap y (!oddN x))).1 (readPt (wrap y (!oddN x))).2) m (K true)) (K false)
      rw [g1, g2]
      have hn := pt_lt (negPt_on hP)
      exact ⟨fun _ => ⟨(x, y), two_pt hx hy, eqB35 hn rfl hK⟩, fun h => by cases h⟩
theorem back_true {x y B : Nat} (hx : x < 256 ^ 32) (hy : y < 256 ^ 32) (hB : B < 256 ^ 32) {K : Bool → Prop} (hK : K true) : backP (encL 32 x) (encL 32 y) (encL 32 B) K := by
  have h2 := bk2_true hx hy hK
  refine ⟨B, decN_enc hB, fun he => ?_, fun _ => h2⟩
  have he0 : readE B = 0 := by
    have hE : readE B = coreE (rdY B) (rdO B) (rootR (uyN curveD (rdY B))) (rootB (uyN curveD (rdY B))) := rfl
    rw [hE] at he ⊢
    generalize coreOK (rdY B) (rdO B) (rootR (uyN curveD (rdY B))) (rootB (uyN curveD (rdY B))) = c at *
    unfold coreE at he ⊢
    cases hc : coreOK (rdY B) (rdO B) (rootR (uyN curveD (rdY B))) (rootB (uyN curveD (rdY B))) with
    | false => rw [hc] at he; cases he
    | true => rfl
  obtain ⟨hP, hb⟩ := read_on hB he0
  have hl := pt_lt hP
  generalize readPt B = P at *
  obtain ⟨a, b⟩ := P
  refine ⟨(a, b), two_pt hl.1 hl.2, ?_⟩
  rw [bytesE_on hP, hb]
  refine ⟨fun h => (by cases h), fun _ => eqB22 hB hB rfl ?_⟩
  refine checkQ_nat hl.1 hl.2 (fun _ => ⟨b, decN_enc hl.2, fun _ => h2, fun hc => ?_⟩) fun hc => ?_
  · rw [canon_lt.2 hP.hy] at hc; cases hc
  · have := (chk_on (a, b)).2 hP
    have hc : chk (a, b) = false := hc
    rw [this] at hc; cases hc
theorem back_run {x y B : Nat} (hx : x < 256 ^ 32) (hy : y < 256 ^ 32) (hB : B < 256 ^ 32) : ∃ m, evCall (pEnv specsBk) 1000 (.fn 4) [.agg (pt x y), .agg (encL 32 B)] ⟨0, .nil⟩ = some (.bool true, m) := by
  obtain ⟨r, m, h, rfl⟩ := run_of pairedBk specsBk_ok (cf := cfBk) (fun g h => pfS_some h) (K := fun r => r = .bool true) (Eq.mp (back_wp x y B _) (back_true hx hy hB fun _ => rfl))
  exact ⟨m, h⟩
theorem cells22 : Try.prog.cellsOf 22 = 32 := by kernel_rfl
theorem raw_trod {H : Type} {enc : TypeId × Value → H} {w : World} {base : Nat} {sp : Nat → Bool} {held : Bool} {v : Value} {d : DataW H} {ps : List MemPlace} (h : DataW.Trod enc Try.prog w base sp held 22 v d ps) :
    ps = [] ∧ Alone enc Try.prog 22 v d ∧ ∃ V, V < 256 ^ 32 ∧ VRel (fun _ => none) (.agg (encL 32 V)) v := by
  obtain ⟨h1, h2, cs, rfl, h3, h4⟩ := bytes_trod Try.underlying22 Try.underlying5 cells5 cells22 (by decide) h
  exact ⟨h1, h2, num_rel h3 h4⟩
end
end Ev
