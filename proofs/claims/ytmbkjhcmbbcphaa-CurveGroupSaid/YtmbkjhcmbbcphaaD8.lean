/-
  Values that are points, as two numbers each. Conditions: those named.
-/
import Derived.Test.YtmbkjhcmbbcphaaD7
import Derived.Test.YtmbkjhcmbbcphaaR3
import Derived.ChangeSame
namespace Ev
open Go Go.Proofs Go.ChangeShapes
noncomputable section

theorem cells35 : Try.prog.cellsOf 35 = 64 := by kernel_rfl
theorem vsRel_app {μ : Mu} : ∀ {l l' : List AV} {a b : List Value}, VsRel μ l a → VsRel μ l' b → VsRel μ (l ++ l') (a ++ b)
  | [], _, a, b, h, h' => by
    have : a = [] := h
    subst this; exact h'
  | x :: l, _, a, b, h, h' => by
    obtain ⟨v, r, rfl, h1, h2⟩ := h
    exact ⟨v, r ++ b, rfl, h1, vsRel_app h2 h'⟩
theorem scalar_app (l l' : List AV) : (l ++ l').all AV.scalar = (l.all AV.scalar && l'.all AV.scalar) := List.all_append
theorem point_trod {H : Type} {enc : TypeId × Value → H} {w : World} {base : Nat} {sp : Nat → Bool} {held : Bool} {v : Value} {d : DataW H} {ps : List MemPlace} (h : DataW.Trod enc Try.prog w base sp held 35 v d ps) :
    ps = [] ∧ Alone enc Try.prog 35 v d ∧ ∃ x y, x < 256 ^ 32 ∧ y < 256 ^ 32 ∧ VRel (fun _ => none) (.agg (pt x y)) v := by
  obtain ⟨fuel, h⟩ := h
  obtain ⟨y0, y1, n, he, hlen, h0, h1⟩ := trod_struct2 Try.underlying35 h
  rw [cells35] at hlen
  have t0 : DataW.Trod enc Try.prog w base sp held 23 (.agg ⟨(v.cells.toList.drop 0).take 32⟩) y0.1 y0.2 := ⟨n, by rw [cells23] at h0; exact h0⟩
  have t1 : DataW.Trod enc Try.prog w base sp held 23 (.agg ⟨(v.cells.toList.drop 32).take 32⟩) y1.1 y1.2 := ⟨n, by rw [cells23] at h1; exact h1⟩
  obtain ⟨e0, a0, x, hx, r0⟩ := num_trod t0
  obtain ⟨e1, a1, y, hy, r1⟩ := num_trod t1
  cases he
  refine ⟨by rw [e0, e1]; rfl, ?_, x, y, hx, hy, ?_⟩
  · intro w' base' sp' held'
    obtain ⟨n0, k0⟩ := a0 w' base' sp' held'
    obtain ⟨n1, k1⟩ := a1 w' base' sp' held'
    have k0 := DataW.trod_le (Nat.le_max_left n0 n1) k0
    have k1 := DataW.trod_le (Nat.le_max_right n0 n1) k1
    refine ⟨max n0 n1 + 1, ?_⟩
    have := trod_struct2_mk (enc := enc) (w := w') (base := base') (spare := sp') (held := held') Try.underlying35 (by rw [cells35]; exact hlen) (by rw [cells23]; exact k0) (by rw [cells23]; exact k1)
    simpa using this
  · have hv : ∃ cs : List Value, v = .agg ⟨cs⟩ := by
      cases v <;> first | (next cs => obtain ⟨cs⟩ := cs; exact ⟨cs, rfl⟩) | (simp [Value.cells] at hlen)
    obtain ⟨cs, rfl⟩ := hv
    have hcl : cs.length = 64 := by simpa [Value.cells] using hlen
    obtain ⟨l0, q0, s0, _⟩ := r0
    obtain ⟨l1, q1, s1, _⟩ := r1
    have q0 : (cs.drop 0).take 32 = l0 := by simpa [Value.cells] using q0
    have q1 : (cs.drop 32).take 32 = l1 := by simpa [Value.cells] using q1
    have hc : cs = l0 ++ l1 := by
      rw [← q0, ← q1, List.drop_zero, List.take_of_length_le (l := cs.drop 32) (by rw [List.length_drop, hcl]; decide), List.take_append_drop]
    refine ⟨cs, rfl, ?_, ?_⟩
    · rw [hc]; exact vsRel_app s0 s1
    · unfold pt; rw [scalar_app, scalar_enc, scalar_enc]; rfl
end
end Ev
