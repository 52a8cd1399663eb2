/-
  slices.Min of the program: what its loop computes, as an oracle of the evaluator. Conditions: none.
-/
import Derived.Test.YtfbcfmgmcldogaaGreatProg
import Derived.KernelRfl
import Derived.Test.YtfbcfmgmcldogaaGreatEv33
open Go Go.Proofs
namespace Ev
def seqR : Code → Code | .seq _ b => b | c => c
def seqL : Code → Code | .seq a _ => a | c => c
def blockB : Code → Code | .block _ c => c | c => c
def loopB : Code → Code | .loop c => c | c => c
noncomputable def minL : Code := match Tryz.f33.body with
  | some c => loopB (blockB (seqR (seqL (seqR (seqR (seqR c))))))
  | none => .skip

section
variable {E : Env} {call : CallF} {tm : Tr AV} {m : AMem}
theorem minRound {i22 i3 : TyI} {fuel id off n i : Nat} {X : AV} {a b : Int} {k j : IntKind} (t22 : E.ty 22 = some i22) (u22 : i22.u = .slice 3) (t3 : E.ty 3 = some i3) (u3 : i3.u = .int .i64) (s3 : i3.size = 1)
    (h0 : tm.get 0 = some X) (hX : X.asSl = some (id, off, n)) (hL : evLen E 22 X m = some (.int .i64 (Int.ofNat n), m))
    (h3 : tm.get 3 = some (.int k a)) (h4 : tm.get 4 = some (.int .i64 (.ofNat i))) (hi : i < n) (hn : n < 2 ^ 62) (hc : oneCell m id (off + i) = some (.int j b)) :
    ∃ tm', evCodeF minL E call fuel ⟨tm, m⟩ = some (.normal, ⟨tm', m⟩) ∧ tm'.get 0 = some X ∧ tm'.get 3 = some (.int k (if ltI b a then b else a)) ∧ tm'.get 4 = some (.int .i64 (.ofNat (i + 1))) := by
  have e1 : evInt .lss .i64 (.ofNat i) (.ofNat n) = some (.bool true) := by
    show mkBool (Nat.blt i n) = some (.bool true)
    have : Nat.blt i n = true := by simpa using hi
    rw [this]; rfl
  have e2 : vm m (minInt [.int k a, .int j b]) = some (.int k (if ltI b a then b else a), m) := by
    simp only [minInt, mmInt]
    cases ltI b a <;> rfl
  have e3 : evInt .add .i64 (.ofNat i) (.ofNat 1) = some (.int .i64 (.ofNat (i + 1))) := by
    show mkInt .i64 (Bool.casesOn (motive := fun _ => Int) (Nat.blt (i + 1) 9223372036854775808) _ (.ofNat (i + 1))) = _
    have : Nat.blt (i + 1) 9223372036854775808 = true := by simp; omega
    rw [this]; rfl
  apply Exists.intro
  refine And.intro ?_ (And.intro ?_ (And.intro ?_ ?_))
  · apply step_seq
    · apply step_seq
      · apply step_region
        apply step_op rfl (op_move (rd_tmp h4))
        apply step_op rfl (op_move (v := X) (rd_tmp (by simp [Tr.get_put, setDst, h0])))
        apply step_op rfl (op_call (args := [X]) (b := .len) (r := some (.int .i64 (.ofNat n), m)) rfl (rds_cons (rd_tmp (by simp [Tr.get_put, setDst])) rfl) (by exact hL))
        apply step_op rfl (op_bin (a := .int .i64 (.ofNat i)) (b := .int .i64 (.ofNat n)) (v := .bool true) (rd_tmp (by simp [Tr.get_put, setDst])) (rd_tmp (by simp [Tr.get_put, setDst])) ((evIntBin rfl).trans e1))
        exact step_end
      · apply step_cond (b := true) (rd_tmp (by simp [Tr.get_put, setDst]))
        rfl
    · apply step_seq
      · apply step_block
        apply step_region
        apply step_op rfl (op_move (v := .int k a) (rd_tmp (by simp [Tr.get_put, setDst, h3])))
        apply step_op rfl (op_move (v := X) (rd_tmp (by simp [Tr.get_put, setDst, h0])))
        apply step_op rfl (op_move (v := .int .i64 (.ofNat i)) (rd_tmp (by simp [Tr.get_put, setDst, h4])))
        apply step_op rfl (op_indexAddr (n := i) (k := .i64) (a := X) (rd_tmp (by simp [Tr.get_put, setDst])) (rd_tmp (by simp [Tr.get_put, setDst])) (evIndex_slice (idxT_slice t22 u22 t3) hX hi))
        apply step_op rfl (op_load (a := .ptr id (off + i * i3.size)) (r := some (.int j b, m)) (rd_tmp (by simp [Tr.get_put, setDst])) (evLoad_cell t3 (by rw [u3]; rfl) (by rw [s3, Nat.mul_one]; exact hc)))
        apply step_op rfl (op_call (args := [.int k a, .int j b]) (b := .min) (r := some (.int k (if ltI b a then b else a), m)) rfl (rds_cons (rd_tmp (by simp [Tr.get_put, setDst])) (rds_cons (rd_tmp (by simp [Tr.get_put, setDst])) rfl)) e2)
        apply step_op rfl (op_assign (v := .int k (if ltI b a then b else a)) (rd_tmp (by simp [Tr.get_put, setDst])))
        exact step_end
      · apply step_region
        apply step_op rfl (op_move (v := .int .i64 (.ofNat i)) (rd_tmp (by simp [Tr.get_put, setDst, h4])))
        apply step_op rfl (op_bin (a := .int .i64 (.ofNat i)) (b := .int .i64 (.ofNat 1)) (v := .int .i64 (.ofNat (i + 1))) (rd_tmp (by simp [Tr.get_put, setDst])) rfl ((evIntBin rfl).trans e3))
        apply step_op rfl (op_assign (v := .int .i64 (.ofNat (i + 1))) (rd_tmp (by simp [Tr.get_put, setDst])))
        exact step_end
  · simp [Tr.get_put, setDst, h0]
  · simp [Tr.get_put, setDst]
  · simp [Tr.get_put, setDst]

theorem minOut {fuel n : Nat} {X x3 : AV} (h0 : tm.get 0 = some X) (hL : evLen E 22 X m = some (.int .i64 (Int.ofNat n), m)) (h3 : tm.get 3 = some x3) (h4 : tm.get 4 = some (.int .i64 (.ofNat n))) :
    ∃ tm', evCodeF minL E call fuel ⟨tm, m⟩ = some (.exit 0, ⟨tm', m⟩) ∧ tm'.get 3 = some x3 := by
  have e1 : evInt .lss .i64 (.ofNat n) (.ofNat n) = some (.bool false) := by
    show mkBool (Nat.blt n n) = some (.bool false)
    have : Nat.blt n n = false := Bool.eq_false_iff.2 fun h => absurd (Nat.blt_eq.mp h) (Nat.lt_irrefl n)
    rw [this]; rfl
  apply Exists.intro
  refine And.intro ?_ ?_
  · apply step_out
    · apply step_seq
      · apply step_region
        apply step_op rfl (op_move (rd_tmp h4))
        apply step_op rfl (op_move (v := X) (rd_tmp (by simp [Tr.get_put, setDst, h0])))
        apply step_op rfl (op_call (args := [X]) (b := .len) (r := some (.int .i64 (.ofNat n), m)) rfl (rds_cons (rd_tmp (by simp [Tr.get_put, setDst])) rfl) (by exact hL))
        apply step_op rfl (op_bin (a := .int .i64 (.ofNat n)) (b := .int .i64 (.ofNat n)) (v := .bool false) (rd_tmp (by simp [Tr.get_put, setDst])) (rd_tmp (by simp [Tr.get_put, setDst])) ((evIntBin rfl).trans e1))
        exact step_end
      · apply step_cond (b := false) (rd_tmp (by simp [Tr.get_put, setDst]))
        rfl
    · exact fun h => by cases h
  · simp [Tr.get_put, setDst, h3]

theorem minLoop {i22 i3 : TyI} {fuel id off n : Nat} {X : AV} {k : IntKind} (t22 : E.ty 22 = some i22) (u22 : i22.u = .slice 3) (t3 : E.ty 3 = some i3) (u3 : i3.u = .int .i64) (s3 : i3.size = 1)
    (hX : X.asSl = some (id, off, n)) (hL : evLen E 22 X m = some (.int .i64 (Int.ofNat n), m)) (hn : n < 2 ^ 62) :
    ∀ (cs : List AV) (i : Nat) (a : Int) (r : AV) (tm : Tr AV) (it : Nat), i + cs.length = n → cs.length < it → tm.get 0 = some X → tm.get 3 = some (.int k a) → tm.get 4 = some (.int .i64 (.ofNat i)) →
      (∀ j c, cs[j]? = some c → oneCell m id (off + (i + j)) = some c) → mmInt (fun a b => ltI b a) k a cs = some r →
      ∃ tm', loopF it (evCodeF minL E call fuel) ⟨tm, m⟩ = some (.exit 0, ⟨tm', m⟩) ∧ tm'.get 3 = some r
  | [], i, a, r, tm, 0, _, hit, _, _, _, _, _ => absurd hit (by simp)
  | [], i, a, r, tm, it + 1, hlen, _, h0, h3, h4, _, hr => by
    have : i = n := by simpa using hlen
    subst this
    obtain ⟨tm', h, h3'⟩ := minOut (E := E) (call := call) (fuel := fuel) h0 hL h3 h4
    simp only [mmInt, Option.some.injEq] at hr
    subst hr
    exact ⟨tm', loopF_out h (fun h => by cases h), h3'⟩
  | c :: cs, i, a, r, tm, 0, _, hit, _, _, _, _, _ => absurd hit (by simp)
  | c :: cs, i, a, r, tm, it + 1, hlen, hit, h0, h3, h4, hc, hr => by
    have hlen' : i + (cs.length + 1) = n := by simpa using hlen
    have hit' : cs.length < it := by simpa using hit
    have hc0 := hc 0 c rfl
    cases c with
    | int j b =>
      have hr' : mmInt (fun a b => ltI b a) k (if ltI b a then b else a) cs = some r := by
        simp only [mmInt] at hr
        cases hb : ltI b a <;> rw [hb] at hr <;> simpa using hr
      obtain ⟨tm1, h1, g0, g3, g4⟩ := minRound (E := E) (call := call) (fuel := fuel) t22 u22 t3 u3 s3 h0 hX hL h3 h4 (by omega) hn hc0
      obtain ⟨tm', h, h3'⟩ := minLoop t22 u22 t3 u3 s3 hX hL hn cs (i + 1) _ r tm1 it (by omega) hit' g0 g3 g4 (fun j c h => by
        have := hc (j + 1) c (by simpa using h)
        rwa [show i + (j + 1) = i + 1 + j by omega] at this) hr'
      exact ⟨tm', loopF_step h1 h, h3'⟩
    | _ => simp [mmInt] at hr

noncomputable def minOf (x : AV) (m : AMem) : R := match x.asSl with
  | some (id, off, n) => if Nat.blt n (2 ^ 62) then (match takeCells m id off n with
    | some cs => if Nat.beq cs.length n then vm m (minInt cs) else none
    | none => none) else none
  | none => none
noncomputable def minOrc (args : List AV) (m : AMem) : R := match args with
  | [x] => minOf x m
  | _ => none


noncomputable def minB : Code := Tryz.f33.body.getD .skip
theorem minCall {i22 i3 : TyI} {args : List AV} {r : AV} {m' : AMem} (t22 : E.ty 22 = some i22) (u22 : i22.u = .slice 3) (t3 : E.ty 3 = some i3) (u3 : i3.u = .int .i64) (s3 : i3.size = 1) (ho : E.orc 33 = none) (hf : E.fn 33 = some Tryz.f33)
    (h : minOrc args m = some (r, m')) : ∃ n, evCall E n (.fn 33) args m = some (r, m') := by
  match args, h with
  | [X], h =>
    have h : minOf X m = some (r, m') := h
    unfold minOf at h
    split at h
    next id off n hX =>
      split at h
      next hn =>
        split at h
        next cs hcs =>
          split at h
          next hlen =>
            have hlen : cs.length = n := by simpa using hlen
            have hn : n < 2 ^ 62 := by simpa using hn
            cases cs with
            | nil => cases h
            | cons c cs =>
              cases c with
              | int k a =>
                cases hr : minInt (.int k a :: cs) with
                | none => rw [hr] at h; cases h
                | some v =>
                  rw [hr] at h
                  obtain ⟨rfl, rfl⟩ : v = r ∧ m = m' := by simpa [vm] using h
                  have hr : mmInt (fun a b => ltI b a) k a cs = some v := hr
                  have hL : evLen E 22 X m = some (.int .i64 (Int.ofNat n), m) := by
                    cases X with
                    | slice i o l c =>
                      obtain ⟨rfl, rfl, rfl⟩ : i = id ∧ o = off ∧ l = n := by simpa [AV.asSl] using hX
                      exact evLen_slice t22 u22
                    | oslice i o l c =>
                      obtain ⟨rfl, rfl, rfl⟩ : i = id ∧ o = off ∧ l = n := by simpa [AV.asSl] using hX
                      exact evLen_oslice t22 u22
                    | _ => cases hX
                  have e1 : evInt .lss .i64 (.ofNat n) (.ofNat 1) = some (.bool false) := by
                    show mkBool (Nat.blt n 1) = some (.bool false)
                    have : Nat.blt n 1 = false := Bool.eq_false_iff.2 fun h => absurd (Nat.blt_eq.mp h) (by simp at hlen; omega)
                    rw [this]; rfl
                  have hc0 : oneCell m id off = some (.int k a) := take_one (j := 0) hcs rfl
                  have hlen' : cs.length + 1 = n := by simpa using hlen
                  have hcs' : ∀ j c, cs[j]? = some c → oneCell m id (off + (1 + j)) = some c := fun j c h => take_one (j := 1 + j) hcs (by rw [Nat.add_comm 1 j]; simpa using h)
                  have hloop : ∀ tm : Tr AV, tm.get 0 = some X → tm.get 3 = some (.int k a) → tm.get 4 = some (.int .i64 (.ofNat 1)) →
                      Wp (.block 0 (.loop minL)) E (evCall E (n + 1)) (n + 1) ⟨tm, m⟩ fun e s => e = .normal ∧ s.mem = m ∧ s.tm.get 3 = some v := fun tm h0 h3 h4 => by
                    obtain ⟨tm', h, h3'⟩ := minLoop (E := E) (m := m) (call := evCall E (n + 1)) (fuel := n + 1) t22 u22 t3 u3 s3 hX hL hn cs 1 a v tm (n + 1) (by omega) (by omega) h0 h3 h4 hcs' hr
                    exact ⟨.normal, _, step_blockX (s' := ⟨tm', m⟩) h, rfl, rfl, h3'⟩
                  have hrun : Wp minB E (evCall E (n + 1)) (n + 1) ⟨initTm [X] 0 .nil, m⟩ fun e s => e = .ret ∧ s.mem = m ∧ s.tm.get 2 = some v := by
                    apply wp_seq
                    · apply step_region
                      apply step_op rfl (op_assign (v := .int .i64 0) rfl)
                      exact step_end
                    · apply wp_seq
                      · apply step_seq
                        · apply step_region
                          apply step_op rfl (op_move (v := X) (rd_tmp (by simp [Tr.get_put, setDst, initTm])))
                          apply step_op rfl (op_call (args := [X]) (b := .len) (r := some (.int .i64 (.ofNat n), m)) rfl (rds_cons (rd_tmp (by simp [Tr.get_put, setDst])) rfl) (by exact hL))
                          apply step_op rfl (op_bin (a := .int .i64 (.ofNat n)) (b := .int .i64 (.ofNat 1)) (v := .bool false) (rd_tmp (by simp [Tr.get_put, setDst])) rfl ((evIntBin rfl).trans e1))
                          exact step_end
                        · apply step_cond (b := false) (rd_tmp (by simp [Tr.get_put, setDst]))
                          rfl
                      · apply wp_seq
                        · apply step_region
                          apply step_op rfl (op_move (v := X) (rd_tmp (by simp [Tr.get_put, setDst, initTm])))
                          apply step_op rfl (op_indexAddr (n := 0) (k := .i64) (a := X) (rd_tmp (by simp [Tr.get_put, setDst])) rfl (evIndex_slice (idxT_slice t22 u22 t3) hX (by omega)))
                          apply step_op rfl (op_load (a := .ptr id (off + 0 * i3.size)) (r := some (.int k a, m)) (rd_tmp (by simp [Tr.get_put, setDst])) (evLoad_cell t3 (by rw [u3]; rfl) (by rw [Nat.zero_mul]; exact hc0)))
                          apply step_op rfl (op_assign (v := .int k a) (rd_tmp (by simp [Tr.get_put, setDst])))
                          exact step_end
                        · refine wp_seqQ (Q' := fun s => s.mem = m ∧ s.tm.get 3 = some v) ?_ ?_
                          · apply wp_seq
                            · apply step_region
                              apply step_op rfl (op_assign (v := .int .i64 (.ofNat 1)) rfl)
                              exact step_end
                            · apply hloop
                              · simp [Tr.get_put, setDst, initTm]
                              · simp [Tr.get_put, setDst, initTm]
                              · simp [Tr.get_put, setDst, initTm]
                          · intro s ⟨hm, h3⟩
                            obtain ⟨tm, m1⟩ := s
                            subst hm
                            apply wp_seq
                            · apply step_region
                              apply step_op rfl (op_move (rd_tmp h3))
                              apply step_op rfl (op_assign (v := v) (rd_tmp (by simp [Tr.get_put, setDst])))
                              exact step_end
                            · exact ⟨.ret, _, rfl, rfl, rfl, by simp [Tr.get_put, setDst]⟩
                  obtain ⟨e, s, hs, he, hm, h2⟩ := hrun
                  subst he
                  refine ⟨n + 2, ?_⟩
                  have hle : Nat.ble [X].length Tryz.f33.ntmps = true := rfl
                  have hb : Tryz.f33.body = some minB := rfl
                  have hl : evLeave E Tryz.f33 s = some (v, s.mem) := by
                    simp [evLeave, evResults, evResult, h2]
                  rw [evCall]
                  simp only [ho, hf, hb, hle]
                  have hs' : evCode E (evCall E (n + 1)) (n + 1) minB ⟨initTm [X] 0 .nil, m⟩ = some (.ret, s) := hs
                  rw [hs']
                  simp only [hl, hm]
              | _ => cases h
          next => cases h
        next => cases h
      next => cases h
    next => cases h
end
end Ev
