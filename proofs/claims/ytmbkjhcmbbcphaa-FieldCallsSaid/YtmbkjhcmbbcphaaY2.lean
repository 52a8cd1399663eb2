/-
  The reference's product as an oracle; sums, differences. Conditions: words as they stand behind a carry.
-/
import Derived.Test.YtmbkjhcmbbcphaaY1
namespace Ev
open Go Go.Proofs
noncomputable section

def timesV (x0 x1 x2 x3 x4 x5 x6 x7 x8 x9 y0 y1 y2 y3 y4 y5 y6 y7 y8 y9 : Int) : AV := carryM (out0 x0 x1 x2 x3 x4 x5 x6 x7 x8 x9 y0 y1 y2 y3 y4 y5 y6 y7 y8 y9) (out1 x0 x1 x2 x3 x4 x5 x6 x7 x8 x9 y0 y1 y2 y3 y4 y5 y6 y7 y8 y9) (out2 x0 x1 x2 x3 x4 x5 x6 x7 x8 x9 y0 y1 y2 y3 y4 y5 y6 y7 y8 y9) (out3 x0 x1 x2 x3 x4 x5 x6 x7 x8 x9 y0 y1 y2 y3 y4 y5 y6 y7 y8 y9) (out4 x0 x1 x2 x3 x4 x5 x6 x7 x8 x9 y0 y1 y2 y3 y4 y5 y6 y7 y8 y9) (out5 x0 x1 x2 x3 x4 x5 x6 x7 x8 x9 y0 y1 y2 y3 y4 y5 y6 y7 y8 y9) (out6 x0 x1 x2 x3 x4 x5 x6 x7 x8 x9 y0 y1 y2 y3 y4 y5 y6 y7 y8 y9) (out7 x0 x1 x2 x3 x4 x5 x6 x7 x8 x9 y0 y1 y2 y3 y4 y5 y6 y7 y8 y9) (out8 x0 x1 x2 x3 x4 x5 x6 x7 x8 x9 y0 y1 y2 y3 y4 y5 y6 y7 y8 y9) (out9 x0 x1 x2 x3 x4 x5 x6 x7 x8 x9 y0 y1 y2 y3 y4 y5 y6 y7 y8 y9) fun p0 p1 p2 p3 p4 p5 p6 p7 p8 p9 => carryM p0 p1 p2 p3 p4 p5 p6 p7 p8 p9 wideA
theorem nest_map {Q : AV → Prop} (w0 w1 w2 w3 w4 w5 w6 w7 w8 w9 : Int) : (carryM w0 w1 w2 w3 w4 w5 w6 w7 w8 w9 fun p0 p1 p2 p3 p4 p5 p6 p7 p8 p9 => carryM p0 p1 p2 p3 p4 p5 p6 p7 p8 p9 fun n0 n1 n2 n3 n4 n5 n6 n7 n8 n9 => Q (wideA n0 n1 n2 n3 n4 n5 n6 n7 n8 n9)) ↔ Q (carryM w0 w1 w2 w3 w4 w5 w6 w7 w8 w9 fun p0 p1 p2 p3 p4 p5 p6 p7 p8 p9 => carryM p0 p1 p2 p3 p4 p5 p6 p7 p8 p9 wideA) := by
  rw [← carryF_eq, ← carryF_eq]
  simp only [carryF, forceI_eq]
  exact carryM_map _ _ _ _ _ _ _ _ _ _
def tmS : List AV → Option AV
  | [.agg [.int .i64 x0, .int .i64 x1, .int .i64 x2, .int .i64 x3, .int .i64 x4, .int .i64 x5, .int .i64 x6, .int .i64 x7, .int .i64 x8, .int .i64 x9], .agg [.int .i64 y0, .int .i64 y1, .int .i64 y2, .int .i64 y3, .int .i64 y4, .int .i64 y5, .int .i64 y6, .int .i64 y7, .int .i64 y8, .int .i64 y9]] => some (timesV x0 x1 x2 x3 x4 x5 x6 x7 x8 x9 y0 y1 y2 y3 y4 y5 y6 y7 y8 y9)
  | _ => none
theorem timesV_plain (x0 x1 x2 x3 x4 x5 x6 x7 x8 x9 y0 y1 y2 y3 y4 y5 y6 y7 y8 y9 : Int) : AV.plain (timesV x0 x1 x2 x3 x4 x5 x6 x7 x8 x9 y0 y1 y2 y3 y4 y5 y6 y7 y8 y9) = true :=
  (nest_map (Q := fun v => AV.plain v = true) (out0 x0 x1 x2 x3 x4 x5 x6 x7 x8 x9 y0 y1 y2 y3 y4 y5 y6 y7 y8 y9) (out1 x0 x1 x2 x3 x4 x5 x6 x7 x8 x9 y0 y1 y2 y3 y4 y5 y6 y7 y8 y9) (out2 x0 x1 x2 x3 x4 x5 x6 x7 x8 x9 y0 y1 y2 y3 y4 y5 y6 y7 y8 y9) (out3 x0 x1 x2 x3 x4 x5 x6 x7 x8 x9 y0 y1 y2 y3 y4 y5 y6 y7 y8 y9) (out4 x0 x1 x2 x3 x4 x5 x6 x7 x8 x9 y0 y1 y2 y3 y4 y5 y6 y7 y8 y9) (out5 x0 x1 x2 x3 x4 x5 x6 x7 x8 x9 y0 y1 y2 y3 y4 y5 y6 y7 y8 y9) (out6 x0 x1 x2 x3 x4 x5 x6 x7 x8 x9 y0 y1 y2 y3 y4 y5 y6 y7 y8 y9) (out7 x0 x1 x2 x3 x4 x5 x6 x7 x8 x9 y0 y1 y2 y3 y4 y5 y6 y7 y8 y9) (out8 x0 x1 x2 x3 x4 x5 x6 x7 x8 x9 y0 y1 y2 y3 y4 y5 y6 y7 y8 y9) (out9 x0 x1 x2 x3 x4 x5 x6 x7 x8 x9 y0 y1 y2 y3 y4 y5 y6 y7 y8 y9)).1 (carryM_ind (Q := fun h => h) (fun v0 v1 v2 v3 v4 v5 v6 v7 v8 v9 => carryM_ind (Q := fun h => h) (fun _ _ _ _ _ _ _ _ _ _ => rfl) v0 v1 v2 v3 v4 v5 v6 v7 v8 v9) (out0 x0 x1 x2 x3 x4 x5 x6 x7 x8 x9 y0 y1 y2 y3 y4 y5 y6 y7 y8 y9) (out1 x0 x1 x2 x3 x4 x5 x6 x7 x8 x9 y0 y1 y2 y3 y4 y5 y6 y7 y8 y9) (out2 x0 x1 x2 x3 x4 x5 x6 x7 x8 x9 y0 y1 y2 y3 y4 y5 y6 y7 y8 y9) (out3 x0 x1 x2 x3 x4 x5 x6 x7 x8 x9 y0 y1 y2 y3 y4 y5 y6 y7 y8 y9) (out4 x0 x1 x2 x3 x4 x5 x6 x7 x8 x9 y0 y1 y2 y3 y4 y5 y6 y7 y8 y9) (out5 x0 x1 x2 x3 x4 x5 x6 x7 x8 x9 y0 y1 y2 y3 y4 y5 y6 y7 y8 y9) (out6 x0 x1 x2 x3 x4 x5 x6 x7 x8 x9 y0 y1 y2 y3 y4 y5 y6 y7 y8 y9) (out7 x0 x1 x2 x3 x4 x5 x6 x7 x8 x9 y0 y1 y2 y3 y4 y5 y6 y7 y8 y9) (out8 x0 x1 x2 x3 x4 x5 x6 x7 x8 x9 y0 y1 y2 y3 y4 y5 y6 y7 y8 y9) (out9 x0 x1 x2 x3 x4 x5 x6 x7 x8 x9 y0 y1 y2 y3 y4 y5 y6 y7 y8 y9))
theorem tm_c : PlainC Try.prog 57 tmS := by
  refine ⟨fun l r h => ?_, fun l r h => ?_⟩ <;> unfold tmS at h <;> split at h
  · next x0 x1 x2 x3 x4 x5 x6 x7 x8 x9 y0 y1 y2 y3 y4 y5 y6 y7 y8 y9 => cases h; exact ⟨rfl, timesV_plain x0 x1 x2 x3 x4 x5 x6 x7 x8 x9 y0 y1 y2 y3 y4 y5 y6 y7 y8 y9⟩
  · cases h
  · next x0 x1 x2 x3 x4 x5 x6 x7 x8 x9 y0 y1 y2 y3 y4 y5 y6 y7 y8 y9 =>
    have h : timesV x0 x1 x2 x3 x4 x5 x6 x7 x8 x9 y0 y1 y2 y3 y4 y5 y6 y7 y8 y9 = r := Option.some.inj h
    have hk : carryM (out0 x0 x1 x2 x3 x4 x5 x6 x7 x8 x9 y0 y1 y2 y3 y4 y5 y6 y7 y8 y9) (out1 x0 x1 x2 x3 x4 x5 x6 x7 x8 x9 y0 y1 y2 y3 y4 y5 y6 y7 y8 y9) (out2 x0 x1 x2 x3 x4 x5 x6 x7 x8 x9 y0 y1 y2 y3 y4 y5 y6 y7 y8 y9) (out3 x0 x1 x2 x3 x4 x5 x6 x7 x8 x9 y0 y1 y2 y3 y4 y5 y6 y7 y8 y9) (out4 x0 x1 x2 x3 x4 x5 x6 x7 x8 x9 y0 y1 y2 y3 y4 y5 y6 y7 y8 y9) (out5 x0 x1 x2 x3 x4 x5 x6 x7 x8 x9 y0 y1 y2 y3 y4 y5 y6 y7 y8 y9) (out6 x0 x1 x2 x3 x4 x5 x6 x7 x8 x9 y0 y1 y2 y3 y4 y5 y6 y7 y8 y9) (out7 x0 x1 x2 x3 x4 x5 x6 x7 x8 x9 y0 y1 y2 y3 y4 y5 y6 y7 y8 y9) (out8 x0 x1 x2 x3 x4 x5 x6 x7 x8 x9 y0 y1 y2 y3 y4 y5 y6 y7 y8 y9) (out9 x0 x1 x2 x3 x4 x5 x6 x7 x8 x9 y0 y1 y2 y3 y4 y5 y6 y7 y8 y9) fun p0 p1 p2 p3 p4 p5 p6 p7 p8 p9 => carryM p0 p1 p2 p3 p4 p5 p6 p7 p8 p9 fun n0 n1 n2 n3 n4 n5 n6 n7 n8 n9 => ∀ _ : AMem, wideA n0 n1 n2 n3 n4 n5 n6 n7 n8 n9 = r := (nest_map (Q := fun v => ∀ _ : AMem, v = r) (out0 x0 x1 x2 x3 x4 x5 x6 x7 x8 x9 y0 y1 y2 y3 y4 y5 y6 y7 y8 y9) (out1 x0 x1 x2 x3 x4 x5 x6 x7 x8 x9 y0 y1 y2 y3 y4 y5 y6 y7 y8 y9) (out2 x0 x1 x2 x3 x4 x5 x6 x7 x8 x9 y0 y1 y2 y3 y4 y5 y6 y7 y8 y9) (out3 x0 x1 x2 x3 x4 x5 x6 x7 x8 x9 y0 y1 y2 y3 y4 y5 y6 y7 y8 y9) (out4 x0 x1 x2 x3 x4 x5 x6 x7 x8 x9 y0 y1 y2 y3 y4 y5 y6 y7 y8 y9) (out5 x0 x1 x2 x3 x4 x5 x6 x7 x8 x9 y0 y1 y2 y3 y4 y5 y6 y7 y8 y9) (out6 x0 x1 x2 x3 x4 x5 x6 x7 x8 x9 y0 y1 y2 y3 y4 y5 y6 y7 y8 y9) (out7 x0 x1 x2 x3 x4 x5 x6 x7 x8 x9 y0 y1 y2 y3 y4 y5 y6 y7 y8 y9) (out8 x0 x1 x2 x3 x4 x5 x6 x7 x8 x9 y0 y1 y2 y3 y4 y5 y6 y7 y8 y9) (out9 x0 x1 x2 x3 x4 x5 x6 x7 x8 x9 y0 y1 y2 y3 y4 y5 y6 y7 y8 y9)).2 fun _ => h
    have g := @run_of _ _ pairedBt specsBt_ok cfBt pfBt 57 1000 [wideA x0 x1 x2 x3 x4 x5 x6 x7 x8 x9, wideA y0 y1 y2 y3 y4 y5 y6 y7 y8 y9] (fun v => v = r)
    rw [← timesR_wp] at g
    obtain ⟨r', m, h1, rfl⟩ := g hk
    exact ⟨_, _, m, okE specsBt specsBt_ok, h1⟩
  · cases h
def tmQ (x0 x1 x2 x3 x4 x5 x6 x7 x8 x9 y0 y1 y2 y3 y4 y5 y6 y7 y8 y9 : Int) (K : Int → Int → Int → Int → Int → Int → Int → Int → Int → Int → Prop) : Prop := ∀ v0 v1 v2 v3 v4 v5 v6 v7 v8 v9 : Int, wideA v0 v1 v2 v3 v4 v5 v6 v7 v8 v9 = timesV x0 x1 x2 x3 x4 x5 x6 x7 x8 x9 y0 y1 y2 y3 y4 y5 y6 y7 y8 y9 → K v0 v1 v2 v3 v4 v5 v6 v7 v8 v9
def tmA : List AV → AMem → KP → Prop
  | [.agg [.int .i64 x0, .int .i64 x1, .int .i64 x2, .int .i64 x3, .int .i64 x4, .int .i64 x5, .int .i64 x6, .int .i64 x7, .int .i64 x8, .int .i64 x9], .agg [.int .i64 y0, .int .i64 y1, .int .i64 y2, .int .i64 y3, .int .i64 y4, .int .i64 y5, .int .i64 y6, .int .i64 y7, .int .i64 y8, .int .i64 y9]], m, K => tmQ x0 x1 x2 x3 x4 x5 x6 x7 x8 x9 y0 y1 y2 y3 y4 y5 y6 y7 y8 y9 fun v0 v1 v2 v3 v4 v5 v6 v7 v8 v9 => K (wideA v0 v1 v2 v3 v4 v5 v6 v7 v8 v9) m
  | _, _, _ => False
theorem timesV_ex (x0 x1 x2 x3 x4 x5 x6 x7 x8 x9 y0 y1 y2 y3 y4 y5 y6 y7 y8 y9 : Int) : ∃ v0 v1 v2 v3 v4 v5 v6 v7 v8 v9 : Int, wideA v0 v1 v2 v3 v4 v5 v6 v7 v8 v9 = timesV x0 x1 x2 x3 x4 x5 x6 x7 x8 x9 y0 y1 y2 y3 y4 y5 y6 y7 y8 y9 :=
  (nest_map (Q := fun v => ∃ v0 v1 v2 v3 v4 v5 v6 v7 v8 v9 : Int, wideA v0 v1 v2 v3 v4 v5 v6 v7 v8 v9 = v) (out0 x0 x1 x2 x3 x4 x5 x6 x7 x8 x9 y0 y1 y2 y3 y4 y5 y6 y7 y8 y9) (out1 x0 x1 x2 x3 x4 x5 x6 x7 x8 x9 y0 y1 y2 y3 y4 y5 y6 y7 y8 y9) (out2 x0 x1 x2 x3 x4 x5 x6 x7 x8 x9 y0 y1 y2 y3 y4 y5 y6 y7 y8 y9) (out3 x0 x1 x2 x3 x4 x5 x6 x7 x8 x9 y0 y1 y2 y3 y4 y5 y6 y7 y8 y9) (out4 x0 x1 x2 x3 x4 x5 x6 x7 x8 x9 y0 y1 y2 y3 y4 y5 y6 y7 y8 y9) (out5 x0 x1 x2 x3 x4 x5 x6 x7 x8 x9 y0 y1 y2 y3 y4 y5 y6 y7 y8 y9) (out6 x0 x1 x2 x3 x4 x5 x6 x7 x8 x9 y0 y1 y2 y3 y4 y5 y6 y7 y8 y9) (out7 x0 x1 x2 x3 x4 x5 x6 x7 x8 x9 y0 y1 y2 y3 y4 y5 y6 y7 y8 y9) (out8 x0 x1 x2 x3 x4 x5 x6 x7 x8 x9 y0 y1 y2 y3 y4 y5 y6 y7 y8 y9) (out9 x0 x1 x2 x3 x4 x5 x6 x7 x8 x9 y0 y1 y2 y3 y4 y5 y6 y7 y8 y9)).1 (carryM_ind (Q := fun h => h) (fun v0 v1 v2 v3 v4 v5 v6 v7 v8 v9 => carryM_ind (Q := fun h => h) (fun n0 n1 n2 n3 n4 n5 n6 n7 n8 n9 => ⟨n0, n1, n2, n3, n4, n5, n6, n7, n8, n9, rfl⟩) v0 v1 v2 v3 v4 v5 v6 v7 v8 v9) (out0 x0 x1 x2 x3 x4 x5 x6 x7 x8 x9 y0 y1 y2 y3 y4 y5 y6 y7 y8 y9) (out1 x0 x1 x2 x3 x4 x5 x6 x7 x8 x9 y0 y1 y2 y3 y4 y5 y6 y7 y8 y9) (out2 x0 x1 x2 x3 x4 x5 x6 x7 x8 x9 y0 y1 y2 y3 y4 y5 y6 y7 y8 y9) (out3 x0 x1 x2 x3 x4 x5 x6 x7 x8 x9 y0 y1 y2 y3 y4 y5 y6 y7 y8 y9) (out4 x0 x1 x2 x3 x4 x5 x6 x7 x8 x9 y0 y1 y2 y3 y4 y5 y6 y7 y8 y9) (out5 x0 x1 x2 x3 x4 x5 x6 x7 x8 x9 y0 y1 y2 y3 y4 y5 y6 y7 y8 y9) (out6 x0 x1 x2 x3 x4 x5 x6 x7 x8 x9 y0 y1 y2 y3 y4 y5 y6 y7 y8 y9) (out7 x0 x1 x2 x3 x4 x5 x6 x7 x8 x9 y0 y1 y2 y3 y4 y5 y6 y7 y8 y9) (out8 x0 x1 x2 x3 x4 x5 x6 x7 x8 x9 y0 y1 y2 y3 y4 y5 y6 y7 y8 y9) (out9 x0 x1 x2 x3 x4 x5 x6 x7 x8 x9 y0 y1 y2 y3 y4 y5 y6 y7 y8 y9))
theorem tmA_ok {args : List AV} {m : AMem} {K : KP} (h : tmA args m K) : ∃ r, tmS args = some r ∧ K r m := by
  unfold tmA at h
  split at h
  · next x0 x1 x2 x3 x4 x5 x6 x7 x8 x9 y0 y1 y2 y3 y4 y5 y6 y7 y8 y9 =>
    obtain ⟨v0, v1, v2, v3, v4, v5, v6, v7, v8, v9, hv⟩ := timesV_ex x0 x1 x2 x3 x4 x5 x6 x7 x8 x9 y0 y1 y2 y3 y4 y5 y6 y7 y8 y9
    have h2 : K (wideA v0 v1 v2 v3 v4 v5 v6 v7 v8 v9) m := h v0 v1 v2 v3 v4 v5 v6 v7 v8 v9 hv
    rw [hv] at h2
    exact ⟨_, rfl, h2⟩
  · cases h
theorem car2_nat {s0 s1 s2 s3 s4 s5 s6 s7 s8 s9 : Nat} (l0 : s0 < 4611686018427387904) (l1 : s1 < 4611686018427387904) (l2 : s2 < 4611686018427387904) (l3 : s3 < 4611686018427387904) (l4 : s4 < 4611686018427387904) (l5 : s5 < 4611686018427387904) (l6 : s6 < 4611686018427387904) (l7 : s7 < 4611686018427387904) (l8 : s8 < 4611686018427387904) (l9 : s9 < 4611686018427387904) {K : Int → Int → Int → Int → Int → Int → Int → Int → Int → Int → Prop}
    (hk : ∀ n0 n1 n2 n3 n4 n5 n6 n7 n8 n9 : Nat, N10 n0 n1 n2 n3 n4 n5 n6 n7 n8 n9 → val10 n0 n1 n2 n3 n4 n5 n6 n7 n8 n9 % pF = val10 s0 s1 s2 s3 s4 s5 s6 s7 s8 s9 % pF → K (.ofNat n0) (.ofNat n1) (.ofNat n2) (.ofNat n3) (.ofNat n4) (.ofNat n5) (.ofNat n6) (.ofNat n7) (.ofNat n8) (.ofNat n9)) : carryM (.ofNat s0) (.ofNat s1) (.ofNat s2) (.ofNat s3) (.ofNat s4) (.ofNat s5) (.ofNat s6) (.ofNat s7) (.ofNat s8) (.ofNat s9) fun p0 p1 p2 p3 p4 p5 p6 p7 p8 p9 => carryM p0 p1 p2 p3 p4 p5 p6 p7 p8 p9 K := by
  refine carry10_nat l0 l1 l2 l3 l4 l5 l6 l7 l8 l9 fun p0 p1 p2 p3 p4 p5 p6 p7 p8 p9 ⟨c0, c1, c2, c3, c4, c5, c6, c7, c8, c9, hc⟩ => ?_
  have hb := hc
  obtain ⟨⟨f0, g0, h0⟩, ⟨f1, g1⟩, ⟨f2, g2⟩, ⟨f3, g3⟩, ⟨f4, g4⟩, ⟨f5, g5⟩, ⟨f6, g6⟩, ⟨f7, g7⟩, ⟨f8, g8⟩, ⟨f9, g9⟩⟩ := hb
  have v1 := car_val hc
  refine carry10_nat (by omega) (by omega) (by omega) (by omega) (by omega) (by omega) (by omega) (by omega) (by omega) (by omega) fun n0 n1 n2 n3 n4 n5 n6 n7 n8 n9 ⟨d0, d1, d2, d3, d4, d5, d6, d7, d8, d9, hd⟩ => ?_
  have v2 := car_val hd
  refine hk _ _ _ _ _ _ _ _ _ _ (car_b hd ?_) ?_
  · obtain ⟨⟨k0, m0, o0⟩, ⟨k1, m1⟩, ⟨k2, m2⟩, ⟨k3, m3⟩, ⟨k4, m4⟩, ⟨k5, m5⟩, ⟨k6, m6⟩, ⟨k7, m7⟩, ⟨k8, m8⟩, ⟨k9, m9⟩⟩ := hd
    omega
  · rw [← v1, ← v2, Nat.add_mul_mod_self_right, Nat.add_mul_mod_self_right]
theorem tm_nat {x0 x1 x2 x3 x4 x5 x6 x7 x8 x9 y0 y1 y2 y3 y4 y5 y6 y7 y8 y9 : Nat} (hx : N10 x0 x1 x2 x3 x4 x5 x6 x7 x8 x9) (hy : N10 y0 y1 y2 y3 y4 y5 y6 y7 y8 y9) {K : Int → Int → Int → Int → Int → Int → Int → Int → Int → Int → Prop} (hk : ∀ n0 n1 n2 n3 n4 n5 n6 n7 n8 n9 : Nat, N10 n0 n1 n2 n3 n4 n5 n6 n7 n8 n9 → val10 n0 n1 n2 n3 n4 n5 n6 n7 n8 n9 % pF = val10 x0 x1 x2 x3 x4 x5 x6 x7 x8 x9 * val10 y0 y1 y2 y3 y4 y5 y6 y7 y8 y9 % pF → K (.ofNat n0) (.ofNat n1) (.ofNat n2) (.ofNat n3) (.ofNat n4) (.ofNat n5) (.ofNat n6) (.ofNat n7) (.ofNat n8) (.ofNat n9)) : tmQ (.ofNat x0) (.ofNat x1) (.ofNat x2) (.ofNat x3) (.ofNat x4) (.ofNat x5) (.ofNat x6) (.ofNat x7) (.ofNat x8) (.ofNat x9) (.ofNat y0) (.ofNat y1) (.ofNat y2) (.ofNat y3) (.ofNat y4) (.ofNat y5) (.ofNat y6) (.ofNat y7) (.ofNat y8) (.ofNat y9) K := by
  intro v0 v1 v2 v3 v4 v5 v6 v7 v8 v9 hv
  unfold timesV at hv
  rw [(out0_nat hx hy).1, (out1_nat hx hy).1, (out2_nat hx hy).1, (out3_nat hx hy).1, (out4_nat hx hy).1, (out5_nat hx hy).1, (out6_nat hx hy).1, (out7_nat hx hy).1, (out8_nat hx hy).1, (out9_nat hx hy).1] at hv
  refine (nest_map (Q := fun v => wideA v0 v1 v2 v3 v4 v5 v6 v7 v8 v9 = v → K v0 v1 v2 v3 v4 v5 v6 v7 v8 v9) _ _ _ _ _ _ _ _ _ _).1 (car2_nat (out0_nat hx hy).2 (out1_nat hx hy).2 (out2_nat hx hy).2 (out3_nat hx hy).2 (out4_nat hx hy).2 (out5_nat hx hy).2 (out6_nat hx hy).2 (out7_nat hx hy).2 (out8_nat hx hy).2 (out9_nat hx hy).2 fun n0 n1 n2 n3 n4 n5 n6 n7 n8 n9 h1 h2 he => ?_) hv
  obtain ⟨rfl, rfl, rfl, rfl, rfl, rfl, rfl, rfl, rfl, rfl⟩ := wideA_inj he
  refine hk _ _ _ _ _ _ _ _ _ _ h1 ?_
  rw [h2, prod_val x0 x1 x2 x3 x4 x5 x6 x7 x8 x9 y0 y1 y2 y3 y4 y5 y6 y7 y8 y9, Nat.add_mul_mod_self_left]

/-! sums, differences -/
def cfP' : Wcfg := ⟨fun _ => false, pfO, fun _ => none⟩
theorem plus_wp' (x0 x1 x2 x3 x4 x5 x6 x7 x8 x9 y0 y1 y2 y3 y4 y5 y6 y7 y8 y9 : Int) (K : AV → Prop) : (carQ (iadd x0 y0) (iadd x1 y1) (iadd x2 y2) (iadd x3 y3) (iadd x4 y4) (iadd x5 y5) (iadd x6 y6) (iadd x7 y7) (iadd x8 y8) (iadd x9 y9) fun v0 v1 v2 v3 v4 v5 v6 v7 v8 v9 => ∀ _ : AMem, K (wideA v0 v1 v2 v3 v4 v5 v6 v7 v8 v9)) =
    wpCall cfP' (pEnv specsO) (owL waysO) 1000 (.fn 53) [wideA x0 x1 x2 x3 x4 x5 x6 x7 x8 x9, wideA y0 y1 y2 y3 y4 y5 y6 y7 y8 y9] ⟨0, .nil⟩ (fun r _ => ∀ _ : AMem, K r) := by kernel_rfl
def pM (i : Nat) : Int := .ofNat (4 * (2 ^ (26 - i % 2) - 1 - Bool.casesOn (motive := fun _ => Nat) (Nat.beq i 0) 0 18))
theorem minus_wp (x0 x1 x2 x3 x4 x5 x6 x7 x8 x9 y0 y1 y2 y3 y4 y5 y6 y7 y8 y9 : Int) (K : AV → Prop) : (carQ (isub (iadd x0 (pM 0)) y0) (isub (iadd x1 (pM 1)) y1) (isub (iadd x2 (pM 2)) y2) (isub (iadd x3 (pM 3)) y3) (isub (iadd x4 (pM 4)) y4) (isub (iadd x5 (pM 5)) y5) (isub (iadd x6 (pM 6)) y6) (isub (iadd x7 (pM 7)) y7) (isub (iadd x8 (pM 8)) y8) (isub (iadd x9 (pM 9)) y9) fun v0 v1 v2 v3 v4 v5 v6 v7 v8 v9 => ∀ _ : AMem, K (wideA v0 v1 v2 v3 v4 v5 v6 v7 v8 v9)) =
    wpCall cfP' (pEnv specsO) (owL waysO) 1000 (.fn 55) [wideA x0 x1 x2 x3 x4 x5 x6 x7 x8 x9, wideA y0 y1 y2 y3 y4 y5 y6 y7 y8 y9] ⟨0, .nil⟩ (fun r _ => ∀ _ : AMem, K r) := by kernel_rfl
end
end Ev
