/-
  The reference's product of numbers of ten words: what the code computes, as an oracle. Conditions: none.
-/
import Derived.Test.YtmbkjhcmbbcphaaG8
namespace Ev
open Go Go.Proofs
noncomputable section

def iadd (a b : Int) : Int := wrapI .i64 (addI a b)
def isub (a b : Int) : Int := wrapI .i64 (addI a (negI b))
def imul (a b : Int) : Int := wrapI .i64 (a * b)
def ishr (a : Int) (n : Nat) : Int := Int.casesOn (motive := fun _ => Int) a (fun m => .ofNat (Nat.div m (Nat.pow 2 (cnt .i64 n)))) (fun m => .negSucc (Nat.div m (Nat.pow 2 (cnt .i64 n))))
def ishl (a : Int) (n : Nat) : Int := wrapI .i64 (Int.casesOn (motive := fun _ => Int) a (fun m => .ofNat (Nat.mul m (Nat.pow 2 (cnt .i64 n)))) (fun m => .negSucc (Nat.sub (Nat.mul (Nat.succ m) (Nat.pow 2 (cnt .i64 n))) 1)))
def forceI {α : Sort _} (n : Int) (k : Int → α) : α := Int.casesOn (motive := fun _ => α) n (fun m => forceN m fun m => k (.ofNat m)) (fun m => forceN m fun m => k (.negSucc m))
theorem forceI_eq {α : Sort _} (n : Int) (k : Int → α) : forceI n k = k n := by cases n <;> simp only [forceI, forceN_eq]

def wideA (w0 w1 w2 w3 w4 w5 w6 w7 w8 w9 : Int) : AV := .agg [.int .i64 w0, .int .i64 w1, .int .i64 w2, .int .i64 w3, .int .i64 w4, .int .i64 w5, .int .i64 w6, .int .i64 w7, .int .i64 w8, .int .i64 w9]
def carryM {α : Sort _} (w0 w1 w2 w3 w4 w5 w6 w7 w8 w9 : Int) (K : Int → Int → Int → Int → Int → Int → Int → Int → Int → Int → α) : α :=
  (fun c0 => (fun v0 =>
  (fun u1 =>
  (fun c1 => (fun v1 =>
  (fun u2 =>
  (fun c2 => (fun v2 =>
  (fun u3 =>
  (fun c3 => (fun v3 =>
  (fun u4 =>
  (fun c4 => (fun v4 =>
  (fun u5 =>
  (fun c5 => (fun v5 =>
  (fun u6 =>
  (fun c6 => (fun v6 =>
  (fun u7 =>
  (fun c7 => (fun v7 =>
  (fun u8 =>
  (fun c8 => (fun v8 =>
  (fun u9 =>
  (fun c9 => (fun v9 =>
  (fun z =>
  K z v1 v2 v3 v4 v5 v6 v7 v8 v9) (iadd v0 (imul 19 c9))) (isub u9 (ishl c9 25))) (ishr u9 25)) (iadd w9 c8)) (isub u8 (ishl c8 26))) (ishr u8 26)) (iadd w8 c7)) (isub u7 (ishl c7 25))) (ishr u7 25)) (iadd w7 c6)) (isub u6 (ishl c6 26))) (ishr u6 26)) (iadd w6 c5)) (isub u5 (ishl c5 25))) (ishr u5 25)) (iadd w5 c4)) (isub u4 (ishl c4 26))) (ishr u4 26)) (iadd w4 c3)) (isub u3 (ishl c3 25))) (ishr u3 25)) (iadd w3 c2)) (isub u2 (ishl c2 26))) (ishr u2 26)) (iadd w2 c1)) (isub u1 (ishl c1 25))) (ishr u1 25)) (iadd w1 c0)) (isub w0 (ishl c0 26))) (ishr w0 26)
def carryF {α : Sort _} (w0 w1 w2 w3 w4 w5 w6 w7 w8 w9 : Int) (K : Int → Int → Int → Int → Int → Int → Int → Int → Int → Int → α) : α :=
  forceI (ishr w0 26) fun c0 => forceI (isub w0 (ishl c0 26)) fun v0 =>
  forceI (iadd w1 c0) fun u1 =>
  forceI (ishr u1 25) fun c1 => forceI (isub u1 (ishl c1 25)) fun v1 =>
  forceI (iadd w2 c1) fun u2 =>
  forceI (ishr u2 26) fun c2 => forceI (isub u2 (ishl c2 26)) fun v2 =>
  forceI (iadd w3 c2) fun u3 =>
  forceI (ishr u3 25) fun c3 => forceI (isub u3 (ishl c3 25)) fun v3 =>
  forceI (iadd w4 c3) fun u4 =>
  forceI (ishr u4 26) fun c4 => forceI (isub u4 (ishl c4 26)) fun v4 =>
  forceI (iadd w5 c4) fun u5 =>
  forceI (ishr u5 25) fun c5 => forceI (isub u5 (ishl c5 25)) fun v5 =>
  forceI (iadd w6 c5) fun u6 =>
  forceI (ishr u6 26) fun c6 => forceI (isub u6 (ishl c6 26)) fun v6 =>
  forceI (iadd w7 c6) fun u7 =>
  forceI (ishr u7 25) fun c7 => forceI (isub u7 (ishl c7 25)) fun v7 =>
  forceI (iadd w8 c7) fun u8 =>
  forceI (ishr u8 26) fun c8 => forceI (isub u8 (ishl c8 26)) fun v8 =>
  forceI (iadd w9 c8) fun u9 =>
  forceI (ishr u9 25) fun c9 => forceI (isub u9 (ishl c9 25)) fun v9 =>
  forceI (iadd v0 (imul 19 c9)) fun z =>
  K z v1 v2 v3 v4 v5 v6 v7 v8 v9
theorem carryF_eq {α : Sort _} (w0 w1 w2 w3 w4 w5 w6 w7 w8 w9 : Int) (K : Int → Int → Int → Int → Int → Int → Int → Int → Int → Int → α) : carryF w0 w1 w2 w3 w4 w5 w6 w7 w8 w9 K = carryM w0 w1 w2 w3 w4 w5 w6 w7 w8 w9 K := by
  simp only [carryF, forceI_eq]
  rfl

def out0 (x0 x1 x2 x3 x4 x5 x6 x7 x8 x9 y0 y1 y2 y3 y4 y5 y6 y7 y8 y9 : Int) : Int := (iadd (iadd (iadd (iadd (iadd (iadd (iadd (iadd (iadd (iadd 0 (imul x0 y0)) (imul 19 (imul 2 (imul x1 y9)))) (imul 19 (imul x2 y8))) (imul 19 (imul 2 (imul x3 y7)))) (imul 19 (imul x4 y6))) (imul 19 (imul 2 (imul x5 y5)))) (imul 19 (imul x6 y4))) (imul 19 (imul 2 (imul x7 y3)))) (imul 19 (imul x8 y2))) (imul 19 (imul 2 (imul x9 y1))))
def out1 (x0 x1 x2 x3 x4 x5 x6 x7 x8 x9 y0 y1 y2 y3 y4 y5 y6 y7 y8 y9 : Int) : Int := (iadd (iadd (iadd (iadd (iadd (iadd (iadd (iadd (iadd (iadd 0 (imul x0 y1)) (imul x1 y0)) (imul 19 (imul x2 y9))) (imul 19 (imul x3 y8))) (imul 19 (imul x4 y7))) (imul 19 (imul x5 y6))) (imul 19 (imul x6 y5))) (imul 19 (imul x7 y4))) (imul 19 (imul x8 y3))) (imul 19 (imul x9 y2)))
def out2 (x0 x1 x2 x3 x4 x5 x6 x7 x8 x9 y0 y1 y2 y3 y4 y5 y6 y7 y8 y9 : Int) : Int := (iadd (iadd (iadd (iadd (iadd (iadd (iadd (iadd (iadd (iadd 0 (imul x0 y2)) (imul 2 (imul x1 y1))) (imul x2 y0)) (imul 19 (imul 2 (imul x3 y9)))) (imul 19 (imul x4 y8))) (imul 19 (imul 2 (imul x5 y7)))) (imul 19 (imul x6 y6))) (imul 19 (imul 2 (imul x7 y5)))) (imul 19 (imul x8 y4))) (imul 19 (imul 2 (imul x9 y3))))
def out3 (x0 x1 x2 x3 x4 x5 x6 x7 x8 x9 y0 y1 y2 y3 y4 y5 y6 y7 y8 y9 : Int) : Int := (iadd (iadd (iadd (iadd (iadd (iadd (iadd (iadd (iadd (iadd 0 (imul x0 y3)) (imul x1 y2)) (imul x2 y1)) (imul x3 y0)) (imul 19 (imul x4 y9))) (imul 19 (imul x5 y8))) (imul 19 (imul x6 y7))) (imul 19 (imul x7 y6))) (imul 19 (imul x8 y5))) (imul 19 (imul x9 y4)))
def out4 (x0 x1 x2 x3 x4 x5 x6 x7 x8 x9 y0 y1 y2 y3 y4 y5 y6 y7 y8 y9 : Int) : Int := (iadd (iadd (iadd (iadd (iadd (iadd (iadd (iadd (iadd (iadd 0 (imul x0 y4)) (imul 2 (imul x1 y3))) (imul x2 y2)) (imul 2 (imul x3 y1))) (imul x4 y0)) (imul 19 (imul 2 (imul x5 y9)))) (imul 19 (imul x6 y8))) (imul 19 (imul 2 (imul x7 y7)))) (imul 19 (imul x8 y6))) (imul 19 (imul 2 (imul x9 y5))))
def out5 (x0 x1 x2 x3 x4 x5 x6 x7 x8 x9 y0 y1 y2 y3 y4 y5 y6 y7 y8 y9 : Int) : Int := (iadd (iadd (iadd (iadd (iadd (iadd (iadd (iadd (iadd (iadd 0 (imul x0 y5)) (imul x1 y4)) (imul x2 y3)) (imul x3 y2)) (imul x4 y1)) (imul x5 y0)) (imul 19 (imul x6 y9))) (imul 19 (imul x7 y8))) (imul 19 (imul x8 y7))) (imul 19 (imul x9 y6)))
def out6 (x0 x1 x2 x3 x4 x5 x6 x7 x8 x9 y0 y1 y2 y3 y4 y5 y6 y7 y8 y9 : Int) : Int := (iadd (iadd (iadd (iadd (iadd (iadd (iadd (iadd (iadd (iadd 0 (imul x0 y6)) (imul 2 (imul x1 y5))) (imul x2 y4)) (imul 2 (imul x3 y3))) (imul x4 y2)) (imul 2 (imul x5 y1))) (imul x6 y0)) (imul 19 (imul 2 (imul x7 y9)))) (imul 19 (imul x8 y8))) (imul 19 (imul 2 (imul x9 y7))))
def out7 (x0 x1 x2 x3 x4 x5 x6 x7 x8 x9 y0 y1 y2 y3 y4 y5 y6 y7 y8 y9 : Int) : Int := (iadd (iadd (iadd (iadd (iadd (iadd (iadd (iadd (iadd (iadd 0 (imul x0 y7)) (imul x1 y6)) (imul x2 y5)) (imul x3 y4)) (imul x4 y3)) (imul x5 y2)) (imul x6 y1)) (imul x7 y0)) (imul 19 (imul x8 y9))) (imul 19 (imul x9 y8)))
def out8 (x0 x1 x2 x3 x4 x5 x6 x7 x8 x9 y0 y1 y2 y3 y4 y5 y6 y7 y8 y9 : Int) : Int := (iadd (iadd (iadd (iadd (iadd (iadd (iadd (iadd (iadd (iadd 0 (imul x0 y8)) (imul 2 (imul x1 y7))) (imul x2 y6)) (imul 2 (imul x3 y5))) (imul x4 y4)) (imul 2 (imul x5 y3))) (imul x6 y2)) (imul 2 (imul x7 y1))) (imul x8 y0)) (imul 19 (imul 2 (imul x9 y9))))
def out9 (x0 x1 x2 x3 x4 x5 x6 x7 x8 x9 y0 y1 y2 y3 y4 y5 y6 y7 y8 y9 : Int) : Int := (iadd (iadd (iadd (iadd (iadd (iadd (iadd (iadd (iadd (iadd 0 (imul x0 y9)) (imul x1 y8)) (imul x2 y7)) (imul x3 y6)) (imul x4 y5)) (imul x5 y4)) (imul x6 y3)) (imul x7 y2)) (imul x8 y1)) (imul x9 y0))
def timesRM (x0 x1 x2 x3 x4 x5 x6 x7 x8 x9 y0 y1 y2 y3 y4 y5 y6 y7 y8 y9 : Int) : Option AV :=
  carryM (out0 x0 x1 x2 x3 x4 x5 x6 x7 x8 x9 y0 y1 y2 y3 y4 y5 y6 y7 y8 y9) (out1 x0 x1 x2 x3 x4 x5 x6 x7 x8 x9 y0 y1 y2 y3 y4 y5 y6 y7 y8 y9) (out2 x0 x1 x2 x3 x4 x5 x6 x7 x8 x9 y0 y1 y2 y3 y4 y5 y6 y7 y8 y9) (out3 x0 x1 x2 x3 x4 x5 x6 x7 x8 x9 y0 y1 y2 y3 y4 y5 y6 y7 y8 y9) (out4 x0 x1 x2 x3 x4 x5 x6 x7 x8 x9 y0 y1 y2 y3 y4 y5 y6 y7 y8 y9) (out5 x0 x1 x2 x3 x4 x5 x6 x7 x8 x9 y0 y1 y2 y3 y4 y5 y6 y7 y8 y9) (out6 x0 x1 x2 x3 x4 x5 x6 x7 x8 x9 y0 y1 y2 y3 y4 y5 y6 y7 y8 y9) (out7 x0 x1 x2 x3 x4 x5 x6 x7 x8 x9 y0 y1 y2 y3 y4 y5 y6 y7 y8 y9) (out8 x0 x1 x2 x3 x4 x5 x6 x7 x8 x9 y0 y1 y2 y3 y4 y5 y6 y7 y8 y9) (out9 x0 x1 x2 x3 x4 x5 x6 x7 x8 x9 y0 y1 y2 y3 y4 y5 y6 y7 y8 y9) fun p0 p1 p2 p3 p4 p5 p6 p7 p8 p9 => carryM p0 p1 p2 p3 p4 p5 p6 p7 p8 p9 fun q0 q1 q2 q3 q4 q5 q6 q7 q8 q9 => some (wideA q0 q1 q2 q3 q4 q5 q6 q7 q8 q9)
def timesRF (x0 x1 x2 x3 x4 x5 x6 x7 x8 x9 y0 y1 y2 y3 y4 y5 y6 y7 y8 y9 : Int) : Option AV :=
  forceI (out0 x0 x1 x2 x3 x4 x5 x6 x7 x8 x9 y0 y1 y2 y3 y4 y5 y6 y7 y8 y9) fun o0 => forceI (out1 x0 x1 x2 x3 x4 x5 x6 x7 x8 x9 y0 y1 y2 y3 y4 y5 y6 y7 y8 y9) fun o1 => forceI (out2 x0 x1 x2 x3 x4 x5 x6 x7 x8 x9 y0 y1 y2 y3 y4 y5 y6 y7 y8 y9) fun o2 => forceI (out3 x0 x1 x2 x3 x4 x5 x6 x7 x8 x9 y0 y1 y2 y3 y4 y5 y6 y7 y8 y9) fun o3 => forceI (out4 x0 x1 x2 x3 x4 x5 x6 x7 x8 x9 y0 y1 y2 y3 y4 y5 y6 y7 y8 y9) fun o4 => forceI (out5 x0 x1 x2 x3 x4 x5 x6 x7 x8 x9 y0 y1 y2 y3 y4 y5 y6 y7 y8 y9) fun o5 => forceI (out6 x0 x1 x2 x3 x4 x5 x6 x7 x8 x9 y0 y1 y2 y3 y4 y5 y6 y7 y8 y9) fun o6 => forceI (out7 x0 x1 x2 x3 x4 x5 x6 x7 x8 x9 y0 y1 y2 y3 y4 y5 y6 y7 y8 y9) fun o7 => forceI (out8 x0 x1 x2 x3 x4 x5 x6 x7 x8 x9 y0 y1 y2 y3 y4 y5 y6 y7 y8 y9) fun o8 => forceI (out9 x0 x1 x2 x3 x4 x5 x6 x7 x8 x9 y0 y1 y2 y3 y4 y5 y6 y7 y8 y9) fun o9 => carryF o0 o1 o2 o3 o4 o5 o6 o7 o8 o9 fun p0 p1 p2 p3 p4 p5 p6 p7 p8 p9 => carryF p0 p1 p2 p3 p4 p5 p6 p7 p8 p9 fun q0 q1 q2 q3 q4 q5 q6 q7 q8 q9 => some (wideA q0 q1 q2 q3 q4 q5 q6 q7 q8 q9)
theorem timesRF_eq (x0 x1 x2 x3 x4 x5 x6 x7 x8 x9 y0 y1 y2 y3 y4 y5 y6 y7 y8 y9 : Int) : timesRF x0 x1 x2 x3 x4 x5 x6 x7 x8 x9 y0 y1 y2 y3 y4 y5 y6 y7 y8 y9 = timesRM x0 x1 x2 x3 x4 x5 x6 x7 x8 x9 y0 y1 y2 y3 y4 y5 y6 y7 y8 y9 := by
  simp only [timesRF, forceI_eq, carryF_eq]
  rfl

/-! how many bits a word has -/
def bitsS : List AV → Option AV
  | [.int .i64 (.ofNat i)] => Bool.casesOn (motive := fun _ => Option AV) (Nat.blt i 10) none (some (.int .u64 (.ofNat (26 - i % 2))))
  | _ => none
theorem bits_0 : ansR (evCall (pEnv []) 1000 (.fn 70) [.int .i64 (.ofNat 0)] ⟨0, .nil⟩) = some (.int .u64 (.ofNat (26 - 0 % 2))) := by kernel_rfl
theorem bits_1 : ansR (evCall (pEnv []) 1000 (.fn 70) [.int .i64 (.ofNat 1)] ⟨0, .nil⟩) = some (.int .u64 (.ofNat (26 - 1 % 2))) := by kernel_rfl
theorem bits_2 : ansR (evCall (pEnv []) 1000 (.fn 70) [.int .i64 (.ofNat 2)] ⟨0, .nil⟩) = some (.int .u64 (.ofNat (26 - 2 % 2))) := by kernel_rfl
theorem bits_3 : ansR (evCall (pEnv []) 1000 (.fn 70) [.int .i64 (.ofNat 3)] ⟨0, .nil⟩) = some (.int .u64 (.ofNat (26 - 3 % 2))) := by kernel_rfl
theorem bits_4 : ansR (evCall (pEnv []) 1000 (.fn 70) [.int .i64 (.ofNat 4)] ⟨0, .nil⟩) = some (.int .u64 (.ofNat (26 - 4 % 2))) := by kernel_rfl
theorem bits_5 : ansR (evCall (pEnv []) 1000 (.fn 70) [.int .i64 (.ofNat 5)] ⟨0, .nil⟩) = some (.int .u64 (.ofNat (26 - 5 % 2))) := by kernel_rfl
theorem bits_6 : ansR (evCall (pEnv []) 1000 (.fn 70) [.int .i64 (.ofNat 6)] ⟨0, .nil⟩) = some (.int .u64 (.ofNat (26 - 6 % 2))) := by kernel_rfl
theorem bits_7 : ansR (evCall (pEnv []) 1000 (.fn 70) [.int .i64 (.ofNat 7)] ⟨0, .nil⟩) = some (.int .u64 (.ofNat (26 - 7 % 2))) := by kernel_rfl
theorem bits_8 : ansR (evCall (pEnv []) 1000 (.fn 70) [.int .i64 (.ofNat 8)] ⟨0, .nil⟩) = some (.int .u64 (.ofNat (26 - 8 % 2))) := by kernel_rfl
theorem bits_9 : ansR (evCall (pEnv []) 1000 (.fn 70) [.int .i64 (.ofNat 9)] ⟨0, .nil⟩) = some (.int .u64 (.ofNat (26 - 9 % 2))) := by kernel_rfl
theorem bits_at (i : Nat) (h : i < 10) : ansR (evCall (pEnv []) 1000 (.fn 70) [.int .i64 (.ofNat i)] ⟨0, .nil⟩) = some (.int .u64 (.ofNat (26 - i % 2))) := by
  have : i = 0 ∨ i = 1 ∨ i = 2 ∨ i = 3 ∨ i = 4 ∨ i = 5 ∨ i = 6 ∨ i = 7 ∨ i = 8 ∨ i = 9 := by omega
  rcases this with rfl | rfl | rfl | rfl | rfl | rfl | rfl | rfl | rfl | rfl
  · exact bits_0
  · exact bits_1
  · exact bits_2
  · exact bits_3
  · exact bits_4
  · exact bits_5
  · exact bits_6
  · exact bits_7
  · exact bits_8
  · exact bits_9
theorem bits_c : PlainC Try.prog 70 bitsS := by
  refine ⟨fun l r h => ?_, fun l r h => ?_⟩ <;> unfold bitsS at h <;> split at h
  · next i =>
    cases hb : Nat.blt i 10 with
    | false => rw [hb] at h; cases h
    | true => rw [hb] at h; cases h; exact ⟨rfl, rfl⟩
  · cases h
  · next i =>
    cases hb : Nat.blt i 10 with
    | false => rw [hb] at h; cases h
    | true =>
      rw [hb] at h; cases h
      rw [Nat.blt_eq] at hb
      obtain ⟨m, hm⟩ := ansR_some (bits_at i hb)
      exact ⟨_, _, m, okE0, hm⟩
  · cases h
def bitsA (args : List AV) (m : AMem) (K : KP) : Prop := Option.casesOn (motive := fun _ => Prop) (bitsS args) False fun r => K r m
theorem bitsA_ok {args : List AV} {m : AMem} {K : KP} (h : bitsA args m K) : ∃ r, bitsS args = some r ∧ K r m := by
  unfold bitsA at h
  cases hr : bitsS args with
  | none => rw [hr] at h; cases h
  | some r => rw [hr] at h; exact ⟨r, rfl, h⟩
def specsBt : List (Nat × (List AV → Option AV)) := [(70, bitsS)]
theorem specsBt_ok : ∀ p ∈ specsBt, FnOK Try.prog p.1 (orcS p.2) := by
  intro p hp
  simp only [specsBt, List.mem_cons, List.not_mem_nil, or_false] at hp
  rcases hp with rfl
  exact plain_ok bits_c
def waysBt : List (Nat × (List AV → AMem → KP → Prop)) := [(70, bitsA)]
theorem pairedBt : Paired specsBt waysBt := .cons (fun _ _ _ h => bitsA_ok h) .nil
def bP (f : Nat) : Bool := Nat.beq f 70
def cfBt : Wcfg := ⟨fun _ => false, bP, fun _ => none⟩
theorem pfBt (g : Nat) (h : bP g = true) : ∃ s, lookS specsBt g = some (orcS s) := by
  have := Nat.eq_of_beq_eq_true h; subst this; exact ⟨_, rfl⟩

set_option maxRecDepth 1000000 in
theorem timesR_wp (x0 x1 x2 x3 x4 x5 x6 x7 x8 x9 y0 y1 y2 y3 y4 y5 y6 y7 y8 y9 : Int) (K : AV → Prop) : (carryM (out0 x0 x1 x2 x3 x4 x5 x6 x7 x8 x9 y0 y1 y2 y3 y4 y5 y6 y7 y8 y9) (out1 x0 x1 x2 x3 x4 x5 x6 x7 x8 x9 y0 y1 y2 y3 y4 y5 y6 y7 y8 y9) (out2 x0 x1 x2 x3 x4 x5 x6 x7 x8 x9 y0 y1 y2 y3 y4 y5 y6 y7 y8 y9) (out3 x0 x1 x2 x3 x4 x5 x6 x7 x8 x9 y0 y1 y2 y3 y4 y5 y6 y7 y8 y9) (out4 x0 x1 x2 x3 x4 x5 x6 x7 x8 x9 y0 y1 y2 y3 y4 y5 y6 y7 y8 y9) (out5 x0 x1 x2 x3 x4 x5 x6 x7 x8 x9 y0 y1 y2 y3 y4 y5 y6 y7 y8 y9) (out6 x0 x1 x2 x3 x4 x5 x6 x7 x8 x9 y0 y1 y2 y3 y4 y5 y6 y7 y8 y9) (out7 x0 x1 x2 x3 x4 x5 x6 x7 x8 x9 y0 y1 y2 y3 y4 y5 y6 y7 y8 y9) (out8 x0 x1 x2 x3 x4 x5 x6 x7 x8 x9 y0 y1 y2 y3 y4 y5 y6 y7 y8 y9) (out9 x0 x1 x2 x3 x4 x5 x6 x7 x8 x9 y0 y1 y2 y3 y4 y5 y6 y7 y8 y9) fun p0 p1 p2 p3 p4 p5 p6 p7 p8 p9 => carryM p0 p1 p2 p3 p4 p5 p6 p7 p8 p9 fun q0 q1 q2 q3 q4 q5 q6 q7 q8 q9 => ∀ _ : AMem, K (wideA q0 q1 q2 q3 q4 q5 q6 q7 q8 q9)) =
    wpCall cfBt (pEnv specsBt) (owL waysBt) 1000 (.fn 57) [wideA x0 x1 x2 x3 x4 x5 x6 x7 x8 x9, wideA y0 y1 y2 y3 y4 y5 y6 y7 y8 y9] ⟨0, .nil⟩ (fun r _ => ∀ _ : AMem, K r) := by kernel_rfl
end
end Ev
