/-
  From what is seen of a state to the state in one known shape; conditions in a row. Conditions: none.
-/
import Derived.Test.YtmbkjhcmbbcphaaU2
namespace Ev
open Go Go.Proofs
noncomputable section

theorem under_get {N : Nat} : ∀ {t : Tr AV} {a b : Nat}, under N t a b = true → ∀ k v, t.get k = some v → a * k + b < N
  | .nil, a, b, _, k, v, h => by cases h
  | .node l v r, a, b, hu, k, u, h => by
    have hu : (Option.casesOn (motive := fun _ => Bool) v true (fun _ => Nat.blt b N) && (under N l (Nat.mul 2 a) (Nat.add a b) && under N r (Nat.mul 2 a) (Nat.add (Nat.mul 2 a) b))) = true := hu
    simp only [Bool.and_eq_true] at hu
    obtain ⟨h0, h1, h2⟩ := hu
    cases k with
    | zero =>
      rw [Tr.get_zero] at h
      subst h
      have h0 : Nat.blt b N = true := h0
      rw [Nat.blt_eq] at h0
      rw [Nat.mul_zero, Nat.zero_add]; exact h0
    | succ k =>
      rw [Tr.get_succ] at h
      split at h
      · next he =>
        have := under_get h1 _ _ h
        have e : Nat.mul 2 a * (k / 2) + Nat.add a b = a * (2 * (k / 2) + 1) + b := by
          show 2 * a * (k / 2) + (a + b) = _
          rw [Nat.mul_add, Nat.mul_comm 2 a, Nat.mul_assoc, Nat.mul_one, Nat.add_assoc]
        rw [e] at this
        have e2 : k + 1 = 2 * (k / 2) + 1 := by omega
        rw [← e2] at this; exact this
      · next he =>
        have := under_get h2 _ _ h
        have e : Nat.mul 2 a * (k / 2) + Nat.add (Nat.mul 2 a) b = a * (2 * (k / 2) + 2) + b := by
          show 2 * a * (k / 2) + (2 * a + b) = _
          rw [Nat.mul_add, Nat.mul_comm 2 a, Nat.mul_assoc, Nat.add_assoc]
        rw [e] at this
        have e2 : k + 1 = 2 * (k / 2) + 2 := by omega
        rw [← e2] at this; exact this

structure AtU (i : Int) (s : St) : Prop where
  hi : ∀ k, 49 ≤ k → orV (s.tm.get k) = .undef
  g2 : s.tm.get 2 = some (.ptr 0 0)
  g4 : s.tm.get 4 = some (.ptr 2 0)
  g5 : s.tm.get 5 = some (.ptr 3 0)
  g6 : s.tm.get 6 = some (.ptr 4 0)
  g14 : s.tm.get 14 = some (.int .i64 i)

theorem teq_get {t t' : Tr AV} (h : TEq t t') {k : Nat} {v : AV} (hv : t.get k = some v) (hn : v ≠ .undef) : t'.get k = some v := by
  have := h k
  rw [hv] at this
  cases hg : t'.get k with
  | none =>
    rw [hg] at this
    exact absurd (Option.some.inj this) hn
  | some u =>
    rw [hg] at this
    rw [← Option.some.inj this]
theorem teq_orV {t t' : Tr AV} (h : TEq t t') (k : Nat) : orV (t.get k) = orV (t'.get k) := by
  have := h k
  cases h1 : t.get k <;> cases h2 : t'.get k <;> rw [h1, h2] at this <;> first | rfl | exact Option.some.inj this

def lift (R : Int → AMem → Prop) : Seen := fun v m => ∃ i : Int, v = some (.int .i64 i) ∧ R i m
theorem seen_of {R : Int → AMem → Prop} {i : Int} {m : AMem} (h : R i m) : seen (lift R) (.int .i64 i) m := ⟨rfl, ⟨rfl, rfl, rfl, rfl⟩, i, rfl, h⟩
theorem look_to {R : Int → AMem → Prop} {s s' : St} (ht : TEq s.tm s'.tm) (hm : s.mem = s'.mem) (h : look (lift R) s) : ∃ i, AtU i s' ∧ R i s'.mem := by
  obtain ⟨hu, ⟨h2, h4, h5, h6⟩, i, h14, hR⟩ := h
  refine ⟨i, ⟨fun k hk => ?_, teq_get ht h2 (fun e => by cases e), teq_get ht h4 (fun e => by cases e), teq_get ht h5 (fun e => by cases e), teq_get ht h6 (fun e => by cases e), teq_get ht h14 (fun e => by cases e)⟩, hm ▸ hR⟩
  rw [← teq_orV ht]
  cases hg : s.tm.get k with
  | none => rfl
  | some v =>
    have := under_get hu k v hg
    omega
theorem at_canon {i : Int} {s : St} (h : AtU i s) : TEq (tmU (fun k => orV (s.tm.get k)) i) s.tm := by
  have h1 := shape_teq h.hi
  have h2 : shape 49 s.tm = tmU (fun k => orV (s.tm.get k)) i := by
    unfold shape tmU
    rw [show List.range 49 = [0, 1, 2, 3, 4, 5, 6, 7, 8, 9, 10, 11, 12, 13, 14, 15, 16, 17, 18, 19, 20, 21, 22, 23, 24, 25, 26, 27, 28, 29, 30, 31, 32, 33, 34, 35, 36, 37, 38, 39, 40, 41, 42, 43, 44, 45, 46, 47, 48] from rfl]
    simp only [List.map, h.g2, h.g4, h.g5, h.g6, h.g14]
    rfl
  rw [h2] at h1
  exact fun k => (h1 k).symm

section
variable {E : Env} {cw : CallW}
/-- one part, then the rest -/
theorem wp_cut {cf : Wcfg} (hcw : CwMono cw) {x y : Code} (hx : okT cf E x = true) {fuel : Nat} {s : St} {K' K : KX} (h : wpCodeF cf x E cw fuel s K')
    (hk : ∀ e s s', TEq s.tm s'.tm → s.mem = s'.mem → K' e s → Ex.casesOn (motive := fun _ => Prop) e (wpCodeF cf y E cw fuel s' K) (fun id => K (.exit id) s') (K .ret s')) : wpCodeF cf (.seq x y) E cw fuel s K :=
  show wpCodeF cf x E cw fuel s (fun e s => Ex.casesOn (motive := fun _ => Prop) e (wpCodeF cf y E cw fuel s K) (fun id => K (.exit id) s) (K .ret s)) from
  wpCodeF_teq hcw x hx h (TEq.refl _) rfl hk
theorem wp_assoc {cf : Wcfg} {x y z : Code} {fuel : Nat} {s : St} {K : KX} (h : wpCodeF cf (.seq (.seq x y) z) E cw fuel s K) : wpCodeF cf (.seq x (.seq y z)) E cw fuel s K := by
  have h : wpCodeF cf x E cw fuel s (fun e s => Ex.casesOn (motive := fun _ => Prop) e (wpCodeF cf y E cw fuel s fun e s => Ex.casesOn (motive := fun _ => Prop) e (wpCodeF cf z E cw fuel s K) (fun id => K (.exit id) s) (K .ret s)) (fun id => K (.exit id) s) (K .ret s)) := h
  exact h
/-- a loop in its block by an invariant, then the rest -/
theorem wp_loop {cf : Wcfg} {id : Nat} {c y : Code} {fuel : Nat} {K : KX} (I : Nat → St → Prop) (hstep : ∀ i s, I (i + 1) s → ∀ Q : KX, (∀ s', I i s' → Q .normal s') → wpCodeF cf c E cw fuel s Q)
    (hend : ∀ s, I 0 s → ∀ Q : KX, (∀ s', I 0 s' → Q (.exit id) s') → wpCodeF cf c E cw fuel s Q) (hy : ∀ s, I 0 s → wpCodeF cf y E cw fuel s K) {n : Nat} (hn : n < fuel) {s : St} (hI : I n s) :
    wpCodeF cf (.seq (.block id (.loop c)) y) E cw fuel s K := by
  have h : wpLoopF fuel (wpCodeF cf c E cw fuel) s (fun e s => Ex.casesOn (motive := fun _ => Prop) e (wpCodeF cf y E cw fuel s K) (fun j => Bool.casesOn (motive := fun _ => Prop) (Nat.beq j id) (K (.exit j) s) (wpCodeF cf y E cw fuel s K)) (K .ret s)) := by
    refine wpLoop_inv I hstep (fun s h Q hQ => hend s h Q fun s' hs' => hQ _ _ (fun e => by cases e) ?_) n fuel s hn hI
    show Bool.casesOn (motive := fun _ => Prop) (Nat.beq id id) (K (.exit id) s') (wpCodeF cf y E cw fuel s' K)
    rw [Nat.beq_refl]
    exact hy s' hs'
  show wpLoopF fuel (wpCodeF cf c E cw fuel) s (fun e s => Ex.casesOn (motive := fun _ => Prop) e (wpCodeF cf y E cw fuel s K) (fun j => Bool.casesOn (motive := fun _ => Prop) (Nat.beq j id) (K (.exit j) s) (wpCodeF cf y E cw fuel s K)) (K .ret s))
  exact h
theorem wpCall_of {cf : Wcfg} {ow : Nat → Option (List AV → AMem → KP → Prop)} {n f : Nat} {args : List AV} {m : AMem} {K : KP} {fn : Func} {body : Code} (hw : ow f = none) (hf : E.fn f = some fn) (hb : fn.body = some body) (hl : Nat.ble args.length fn.ntmps = true)
    (h : wpCodeF cf body E (wpCall cf E ow n) n ⟨initTm args 0 .nil, m⟩ fun e s => Ex.casesOn (motive := fun _ => Prop) e (needR (evLeave E fn s) K) (fun _ => False) (needR (evLeave E fn s) K)) : wpCall cf E ow (n + 1) (.fn f) args m K := by
  show Option.casesOn (motive := fun _ => Prop) (ow f) (wpFn cf E (wpCall cf E ow n) n f args m K) (fun o => o args m K)
  rw [hw]
  show wpFn cf E (wpCall cf E ow n) n f args m K
  unfold wpFn
  rw [hf]
  simp only [hb]
  show wpBody cf E (wpCall cf E ow n) n fn body args m K
  unfold wpBody
  rw [hl]
  exact h
end

/-! the functions that power calls -/
theorem owU_cases {f : Nat} {w : List AV → AMem → KP → Prop} (h : owU f = some w) : (f = 56 ∧ w = timesW) ∨ w = noW := by
  unfold owU at h
  cases h0 : Nat.beq f 56 with
  | true => rw [h0] at h; cases h; exact .inl ⟨Nat.eq_of_beq_eq_true h0, rfl⟩
  | false =>
    rw [h0] at h
    have h : Bool.casesOn (motive := fun _ => Option (List AV → AMem → KP → Prop)) (Nat.beq f 58 || Nat.beq f 68) (some noW) none = some w := h
    cases h1 : (Nat.beq f 58 || Nat.beq f 68) with
    | true => rw [h1] at h; cases h
    | false => rw [h1] at h; cases h; exact .inr rfl
theorem owU_none' {f : Nat} (h : owU f = none) : f = 58 ∨ f = 68 := by
  unfold owU at h
  cases h0 : Nat.beq f 56 with
  | true => rw [h0] at h; cases h
  | false =>
    rw [h0] at h
    have h : Bool.casesOn (motive := fun _ => Option (List AV → AMem → KP → Prop)) (Nat.beq f 58 || Nat.beq f 68) (some noW) none = none := h
    cases h1 : (Nat.beq f 58 || Nat.beq f 68) with
    | true =>
      rw [Bool.or_eq_true] at h1
      exact h1.imp Nat.eq_of_beq_eq_true Nat.eq_of_beq_eq_true
    | false => rw [h1] at h; cases h
theorem owU_mono : ∀ f w, owU f = some w → ∀ args m K K', (∀ v m, K v m → K' v m) → w args m K → w args m K' := by
  intro f w hf args m K K' hk h
  rcases owU_cases hf with ⟨_, rfl⟩ | rfl
  · unfold timesW at h ⊢
    split at h
    · exact ⟨h.1, fun c0 c1 c2 c3 c4 hc => hk _ _ (h.2 c0 c1 c2 c3 c4 hc)⟩
    · cases h
  · cases h
theorem owU_none : ∀ f, owU f = none → (pEnv specs3).orc f = none := by
  intro f h
  rcases owU_none' h with rfl | rfl
  · rfl
  · rfl
theorem owU_some : ∀ f w, owU f = some w → ∀ args m K, w args m K → ∃ o r m', (pEnv specs3).orc f = some o ∧ o args m = some (r, m') ∧ K r m' := by
  intro f w h args m K hw
  rcases owU_cases h with ⟨rfl, rfl⟩ | rfl
  · obtain ⟨r, h2, h3⟩ := timesW_ok hw
    exact ⟨orcS timesS, r, m, rfl, orcS_of h2 m, h3⟩
  · cases hw
def okF (f : Nat) : Bool := match (pEnv specs3).fn f with
  | some fn => match fn.body with
    | some c => okT cfU (pEnv specs3) c
    | none => true
  | none => true
theorem okF37 : okF 58 = true := by kernel_rfl
theorem okF49 : okF 68 = true := by kernel_rfl
theorem cwU (n : Nat) : CwMono (wpCall cfU (pEnv specs3) owU n) := by
  refine wpCall_mono owU_mono (fun f fn c hw hf hb => ?_) n
  have h2 : okF f = true := by
    rcases owU_none' hw with rfl | rfl
    · exact okF37
    · exact okF49
  unfold okF at h2
  rw [hf] at h2
  simp only [hb] at h2
  exact h2
end
end Ev
