/-
  The reference's Open: the words of a number. Conditions: numbers of 32 bytes.
-/
import Derived.Test.YtmbkjhcmbbcphaaWw
import Derived.Test.YtmbkjhcmbbcphaaUu
namespace Ev
open Go Go.Proofs
noncomputable section

section
variable {E : Env} {cw : CallW}
/-- one part, then the rest, rows turned -/
theorem wp_cutM {cf : Wcfg} (hcw : CwMeq cw) {x y : Code} (hx : okTM cf E x = true) {fuel : Nat} {sc s : St} {K' K : KX} (h : wpCodeF cf x E cw fuel sc K') (ht : TEq sc.tm s.tm) (hm : MEq sc.mem s.mem)
    (hk : ∀ e s s', TEq s.tm s'.tm → MEq s.mem s'.mem → K' e s → Ex.casesOn (motive := fun _ => Prop) e (wpCodeF cf y E cw fuel s' K) (fun id => K (.exit id) s') (K .ret s')) : wpCodeF cf (.seq x y) E cw fuel s K :=
  show wpCodeF cf x E cw fuel s (fun e s => Ex.casesOn (motive := fun _ => Prop) e (wpCodeF cf y E cw fuel s K) (fun id => K (.exit id) s) (K .ret s)) from
  wpCodeF_meq hcw x hx h ht hm hk
theorem wp_blk {cf : Wcfg} {id : Nat} {c y : Code} {fuel : Nat} {s : St} {K : KX} (h : wpCodeF cf c E cw fuel s fun e s => Ex.casesOn (motive := fun _ => Prop) e (wpCodeF cf y E cw fuel s K) (fun j => Bool.casesOn (motive := fun _ => Prop) (Nat.beq j id) (K (.exit j) s) (wpCodeF cf y E cw fuel s K)) (K .ret s)) :
    wpCodeF cf (.seq (.block id c) y) E cw fuel s K := h
theorem wp_shape3 {cf : Wcfg} {a b c d x y : Code} {fuel : Nat} {s : St} {K : KX} (h : wpCodeF cf (.seq (.seq (.seq (.seq a b) c) d) (.seq x y)) E cw fuel s K) :
    wpCodeF cf (.seq a (.seq b (.seq c (.seq (.seq d x) y)))) E cw fuel s K := by
  have h1 := wp_assoc h
  refine wp_assoc (wp_assoc ?_)
  exact h
theorem wp_assoc' {cf : Wcfg} {x y z : Code} {fuel : Nat} {s : St} {K : KX} (h : wpCodeF cf (.seq x (.seq y z)) E cw fuel s K) : wpCodeF cf (.seq (.seq x y) z) E cw fuel s K := by
  have h : wpCodeF cf x E cw fuel s (fun e s => Ex.casesOn (motive := fun _ => Prop) e (wpCodeF cf y E cw fuel s fun e s => Ex.casesOn (motive := fun _ => Prop) e (wpCodeF cf z E cw fuel s K) (fun id => K (.exit id) s) (K .ret s)) (fun id => K (.exit id) s) (K .ret s)) := h
  show wpCodeF cf x E cw fuel s fun e s => Ex.casesOn (motive := fun _ => Prop) e (wpCodeF cf y E cw fuel s fun e s => Ex.casesOn (motive := fun _ => Prop) e (wpCodeF cf z E cw fuel s K) (fun id => K (.exit id) s) (K .ret s)) (fun id => Ex.casesOn (motive := fun _ => Prop) (.exit id) (wpCodeF cf z E cw fuel s K) (fun id => K (.exit id) s) (K .ret s)) (Ex.casesOn (motive := fun _ => Prop) .ret (wpCodeF cf z E cw fuel s K) (fun id => K (.exit id) s) (K .ret s))
  exact h
theorem wp_shape4 {cf : Wcfg} {a b c d e x y : Code} {fuel : Nat} {s : St} {K : KX} (h : wpCodeF cf (.seq (.seq (.seq (.seq (.seq a b) c) d) e) (.seq x y)) E cw fuel s K) :
    wpCodeF cf (.seq a (.seq b (.seq c (.seq d (.seq (.seq e x) y))))) E cw fuel s K := by
  have h1 := wp_assoc h
  refine wp_assoc (wp_assoc (wp_assoc ?_))
  exact h
theorem wp_mid {cf : Wcfg} {b c d x y : Code} {fuel : Nat} {s : St} {K : KX} (h : wpCodeF cf (.seq (.seq (.seq b c) d) (.seq x y)) E cw fuel s K) : wpCodeF cf (.seq b (.seq c (.seq (.seq d x) y))) E cw fuel s K := by
  have h1 := wp_assoc h
  refine wp_assoc ?_
  exact h
end
theorem map_at {β : Type} {f g : Nat → β} {n i : Nat} (h : (List.range n).map f = (List.range n).map g) (hi : i < n) : f i = g i := by
  have := congrArg (fun l => l[i]?) h
  simpa [List.getElem?_range hi] using this

/-! states -/
structure AtO (s : St) : Prop where
  hi : ∀ k, 58 ≤ k → orV (s.tm.get k) = .undef
  g1 : s.tm.get 1 = some (.ptr 0 0)
  g2 : s.tm.get 2 = some (.ptr 1 0)
  g3 : s.tm.get 3 = some (.ptr 2 0)
theorem under'_get {N : Nat} : ∀ {t : Tr AV} {a b : Nat}, under' N t a b = true → under N t a b = true
  | .nil, _, _, _ => rfl
  | .node l v r, a, b, h => by
    have h : (Option.casesOn (motive := fun _ => Bool) v true (fun _ => Nat.blt b N) && (under' N l (Nat.mul 2 a) (Nat.add a b) && under' N r (Nat.mul 2 a) (Nat.add (Nat.mul 2 a) b))) = true := h
    simp only [Bool.and_eq_true] at h
    show (Option.casesOn (motive := fun _ => Bool) v true (fun _ => Nat.blt b N) && (under N l (Nat.mul 2 a) (Nat.add a b) && under N r (Nat.mul 2 a) (Nat.add (Nat.mul 2 a) b))) = true
    simp only [Bool.and_eq_true]
    exact ⟨h.1, under'_get h.2.1, under'_get h.2.2⟩
theorem lookO_to {P : SeenO} {s s' : St} (ht : TEq s.tm s'.tm) (h : lookO P s) : AtO s' ∧ P (s.tm.get 4) (s.tm.get 5) (s.tm.get 6) (s.tm.get 7) s.mem := by
  obtain ⟨hu, ⟨h1, h2, h3⟩, hP⟩ := h
  refine ⟨⟨fun k hk => ?_, teq_get ht h1 (fun e => by cases e), teq_get ht h2 (fun e => by cases e), teq_get ht h3 (fun e => by cases e)⟩, hP⟩
  rw [← teq_orV ht]
  cases hg : s.tm.get k with
  | none => rfl
  | some v =>
    have := under_get (under'_get hu) k v hg
    omega
theorem i64N_ne (n : Nat) : i64N n ≠ .undef := fun h => by cases h
def PO1 (a b : Nat) (M : AMem → Prop) : SeenO := fun x y _ _ m => x = some (i64N a) ∧ y = some (i64N b) ∧ M m
def PO2 (a b c d : Nat) (M : AMem → Prop) : SeenO := fun x y z w m => x = some (i64N a) ∧ y = some (i64N b) ∧ z = some (i64N c) ∧ w = some (i64N d) ∧ M m
structure T1 (a b : Nat) (s : St) : Prop where
  at' : AtO s
  g4 : s.tm.get 4 = some (i64N a)
  g5 : s.tm.get 5 = some (i64N b)
structure T2 (a b c d : Nat) (s : St) : Prop where
  at' : AtO s
  g4 : s.tm.get 4 = some (i64N a)
  g5 : s.tm.get 5 = some (i64N b)
  g6 : s.tm.get 6 = some (i64N c)
  g7 : s.tm.get 7 = some (i64N d)
theorem T2.to1 {a b c d : Nat} {s : St} (h : T2 a b c d s) : T1 a b s := ⟨h.at', h.g4, h.g5⟩
theorem look1 {a b : Nat} {M : AMem → Prop} {s s' : St} (ht : TEq s.tm s'.tm) (h : lookO (PO1 a b M) s) : T1 a b s' ∧ M s.mem := by
  obtain ⟨h0, h4, h5, hM⟩ := lookO_to ht h
  exact ⟨⟨h0, teq_get ht h4 (i64N_ne _), teq_get ht h5 (i64N_ne _)⟩, hM⟩
theorem look2 {a b c d : Nat} {M : AMem → Prop} {s s' : St} (ht : TEq s.tm s'.tm) (h : lookO (PO2 a b c d M) s) : T2 a b c d s' ∧ M s.mem := by
  obtain ⟨h0, h4, h5, h6, h7, hM⟩ := lookO_to ht h
  exact ⟨⟨h0, teq_get ht h4 (i64N_ne _), teq_get ht h5 (i64N_ne _), teq_get ht h6 (i64N_ne _), teq_get ht h7 (i64N_ne _)⟩, hM⟩
theorem canon1 {a b : Nat} {s : St} (h : T1 a b s) : TEq (tm1 (fun k => orV (s.tm.get k)) a b) s.tm := by
  have h1 := shape_teq h.at'.hi
  have h2 : shape 58 s.tm = tm1 (fun k => orV (s.tm.get k)) a b := by
    unfold shape tm1 junkO
    rw [show List.range 58 = [0, 1, 2, 3, 4, 5, 6, 7, 8, 9, 10, 11, 12, 13, 14, 15, 16, 17, 18, 19, 20, 21, 22, 23, 24, 25, 26, 27, 28, 29, 30, 31, 32, 33, 34, 35, 36, 37, 38, 39, 40, 41, 42, 43, 44, 45, 46, 47, 48, 49, 50, 51, 52, 53, 54, 55, 56, 57] from rfl]
    simp only [List.map, h.at'.g1, h.at'.g2, h.at'.g3, h.g4, h.g5]
    rfl
  rw [h2] at h1
  exact fun k => (h1 k).symm
theorem canon2 {a b c d : Nat} {s : St} (h : T2 a b c d s) : TEq (tm2 (fun k => orV (s.tm.get k)) a b c d) s.tm := by
  have h1 := shape_teq h.at'.hi
  have h2 : shape 58 s.tm = tm2 (fun k => orV (s.tm.get k)) a b c d := by
    unfold shape tm2 junkO
    rw [show List.range 58 = [0, 1, 2, 3, 4, 5, 6, 7, 8, 9, 10, 11, 12, 13, 14, 15, 16, 17, 18, 19, 20, 21, 22, 23, 24, 25, 26, 27, 28, 29, 30, 31, 32, 33, 34, 35, 36, 37, 38, 39, 40, 41, 42, 43, 44, 45, 46, 47, 48, 49, 50, 51, 52, 53, 54, 55, 56, 57] from rfl]
    simp only [List.map, h.at'.g1, h.at'.g2, h.at'.g3, h.g4, h.g5, h.g6, h.g7]
    rfl
  rw [h2] at h1
  exact fun k => (h1 k).symm
theorem seen1 {a b : Nat} {c d : AV} {M : AMem → Prop} {m : AMem} (h : M m) : seenO (PO1 a b M) (i64N a) (i64N b) c d m := ⟨rfl, ⟨rfl, rfl, rfl⟩, rfl, rfl, h⟩
theorem seen2 {a b c d : Nat} {M : AMem → Prop} {m : AMem} (h : M m) : seenO (PO2 a b c d M) (i64N a) (i64N b) (i64N c) (i64N d) m := ⟨rfl, ⟨rfl, rfl, rfl⟩, rfl, rfl, rfl, rfl, h⟩
def noO : SeenO := fun _ _ _ _ _ => False
theorem noO_look {s : St} (h : lookO noO s) : False := h.2.2

/-! the words -/
def cO (i k j : Nat) : Nat := if j < i then nO j else if j = i then k else 0
def wordA (A i k j : Nat) : Nat := A / 2 ^ atO j % 2 ^ cO i k j
def wN (A i k : Nat) : Nat → Int := fun j => .ofNat (wordA A i k j)
theorem wN_next (A i : Nat) : wN A i (nO i) = wN A (i + 1) 0 := by
  funext j
  unfold wN wordA cO
  rcases Nat.lt_trichotomy j i with h | h | h
  · rw [if_pos h, if_pos (by omega)]
  · subst h
    rw [if_neg (by omega), if_pos rfl, if_pos (by omega)]
  · rw [if_neg (by omega), if_neg (by omega), if_neg (by omega)]
    split <;> rfl
theorem MEq.symm {m m' : AMem} (h : MEq m m') : MEq m' m := ⟨h.next.symm, fun id => by
  have := h.blk id
  generalize m.get id = b at *
  generalize m'.get id = b' at *
  cases this with
  | refl => exact .refl _
  | row h1 h2 h3 => exact .row h2 h1 h3.symm⟩
theorem MEq.trans {m m' m'' : AMem} (h : MEq m m') (h' : MEq m' m'') : MEq m m'' := ⟨h.next.trans h'.next, fun id => by
  have h1 := h.blk id
  have h2 := h'.blk id
  generalize m.get id = b at *
  generalize m'.get id = b' at *
  generalize m''.get id = b'' at *
  cases h1 with
  | refl => exact h2
  | row h1 h3 h4 => cases h2 with
    | refl => exact .row h1 h3 h4
    | row h5 h6 h7 => exact .row h1 h6 (h4.trans h7)⟩
theorem wl_len (w : Nat → Int) : (wl w).length = 10 := by simp [wl]
theorem wl_set (w w' : Nat → Int) (i : Nat) (hi : i < 10) (v : Int) (h1 : w' i = v) (h2 : ∀ j, j ≠ i → w' j = w j) : (wl w).set i (.int .i64 v) = wl w' := by
  apply List.ext_getElem?
  intro j
  rw [List.getElem?_set]
  unfold wl
  simp only [List.length_map, List.length_range, List.getElem?_map]
  by_cases hj : j < 10
  · rw [List.getElem?_range hj]
    by_cases hji : i = j
    · subst hji
      simp [hi, h1]
    · simp [hji, h2 j (fun e => hji e.symm)]
  · have : (List.range 10)[j]? = none := List.getElem?_eq_none (by simp; omega)
    rw [this]
    by_cases hji : i = j
    · omega
    · simp [hji]
theorem memR_get (A : Nat) (R : ABlk) (id : Nat) : (memR A R).get id = if id = 2 then some R else (memR A (.row 10 [] .nil true)).get id := by
  have e : ∀ R : ABlk, (memR A R).get id = if id = 2 then some R else (((⟨0, .nil⟩ : AMem).add (.row 32 (encL 32 A) .nil true)).add (.row 10 (wl fun _ => 0) .nil true)).get id := by
    intro R
    by_cases h : id = 2
    · rw [if_pos h, h]; exact AMem.get_add_new _ R
    · rw [if_neg h]; exact AMem.get_add_old _ R h
  rw [e, e]
  by_cases h : id = 2
  · rw [if_pos h, if_pos h]
  · rw [if_neg h, if_neg h, if_neg h]
theorem memR_meq {A : Nat} {R R' : ABlk} (h : BEq (some R) (some R')) : MEq (memR A R) (memR A R') := ⟨rfl, fun id => by
  rw [memR_get A R, memR_get A R']
  by_cases hid : id = 2
  · rw [if_pos hid, if_pos hid]; exact h
  · rw [if_neg hid, if_neg hid]; exact .refl _⟩
theorem memP_meq {A i : Nat} {w w' : Nat → Int} {v : Int} (hi : i < 10) (h1 : w' i = v) (h2 : ∀ j, j ≠ i → w' j = w j) : MEq (memP A w i v) (memF A w') :=
  memR_meq (.row (wl_len w) (wl_len w') (by rw [ovl_put, ovl_nil, ovl_nil]; exact wl_set w w' i hi v h1 h2))

/-! a number's bits -/
theorem enc_nth : ∀ (n V j : Nat), j < n → nthCell (encL n V) j = some (.int .u8 (.ofNat (V / 256 ^ j % 256)))
  | 0, _, _, h => absurd h (Nat.not_lt_zero _)
  | n + 1, V, 0, _ => by rw [Nat.pow_zero, Nat.div_one]; rfl
  | n + 1, V, j + 1, h => by
    show nthCell (encL n (V / 256)) j = _
    rw [enc_nth n (V / 256) j (by omega), Nat.div_div_eq_div_mul, Nat.pow_succ, Nat.mul_comm 256]
theorem bit_div (x n k : Nat) (h : k < n) : x % 2 ^ n / 2 ^ k % 2 = x / 2 ^ k % 2 := by
  have h1 := Nat.testBit_mod_two_pow x n k
  rw [decide_eq_true h, Bool.true_and] at h1
  rw [Nat.testBit_eq_decide_div_mod_eq, Nat.testBit_eq_decide_div_mod_eq, decide_eq_decide] at h1
  omega
theorem bitO_nat {A s : Nat} (hs : s < 256) : bitO A s = decide (A / 2 ^ s % 2 = 1) := by
  unfold bitO nthI
  rw [enc_nth 32 A (s / 8) (by omega)]
  have hc : cnt .u8 (s % 8) = s % 8 := by
    show Bool.casesOn (motive := fun _ => Nat) (Nat.ble (s % 8) 8) 8 (s % 8) = s % 8
    have : Nat.ble (s % 8) 8 = true := by rw [Nat.ble_eq]; omega
    rw [this]
  show eqI (Int.tmod (.ofNat (Nat.div (A / 256 ^ (s / 8) % 256) (Nat.pow 2 (cnt .u8 (s % 8))))) 2) 1 = _
  rw [hc]
  show Nat.beq (A / 256 ^ (s / 8) % 256 / 2 ^ (s % 8) % 2) 1 = _
  have e1 : A / 256 ^ (s / 8) % 256 / 2 ^ (s % 8) % 2 = A / 2 ^ s % 2 := by
    rw [show (256 : Nat) = 2 ^ 8 from rfl, bit_div _ 8 (s % 8) (by omega), ← Nat.pow_mul, Nat.div_div_eq_div_mul, ← Nat.pow_add, Nat.div_add_mod]
  rw [e1]
  cases hb : Nat.beq (A / 2 ^ s % 2) 1 with
  | true => exact (decide_eq_true (Nat.eq_of_beq_eq_true hb)).symm
  | false => exact (decide_eq_false (Nat.ne_of_beq_eq_false hb)).symm
theorem atO_all : ∀ i, i < 10 → atO i + nO i ≤ 256 := by decide
theorem atO_lt {i k : Nat} (hi : i < 10) (hk : k < nO i) : atO i + k < 256 := by
  have := atO_all i hi
  omega
theorem nO_le (i : Nat) : nO i ≤ 26 := by
  unfold nO
  cases Nat.beq i 9 with
  | true => exact Nat.le_refl _
  | false => show 26 - i % 2 ≤ 26; omega
theorem word_step (x k : Nat) : x % 2 ^ (k + 1) = x % 2 ^ k + 2 ^ k * (x / 2 ^ k % 2) := by
  rw [Nat.pow_succ, Nat.mod_mul]
theorem wN_other {A i k j : Nat} (h : j ≠ i) : wN A i (k + 1) j = wN A i k j := by
  unfold wN wordA cO
  by_cases hj : j < i
  · rw [if_pos hj, if_pos hj]
  · rw [if_neg hj, if_neg hj, if_neg h, if_neg h]
theorem wN_at (A i k : Nat) : wN A i k i = .ofNat (A / 2 ^ atO i % 2 ^ k) := by
  unfold wN wordA cO
  rw [if_neg (Nat.lt_irrefl _), if_pos rfl]
theorem wN_set {A i k : Nat} (hi : i < 10) (hk : k < nO i) (hb : bitO A (atO i + k) = true) : wN A i (k + 1) i = iadd (wN A i k i) (ishl 1 k) := by
  rw [bitO_nat (atO_lt hi hk), decide_eq_true_iff] at hb
  have hk26 : k < 26 := Nat.lt_of_lt_of_le hk (nO_le i)
  rw [wN_at, wN_at, word_step, Nat.div_div_eq_div_mul, ← Nat.pow_add, hb, Nat.mul_one]
  have h2 : 2 ^ k ≤ 2 ^ 26 := Nat.pow_le_pow_right (by decide) (by omega)
  have hm : A / 2 ^ atO i % 2 ^ k < 2 ^ k := Nat.mod_lt _ (Nat.two_pow_pos k)
  rw [show (2 : Nat) ^ 26 = 67108864 from rfl] at h2
  rw [show (1 : Int) = .ofNat 1 from rfl, ishl_nat (by omega) (by omega), Nat.one_mul, iadd_nat (by omega)]
theorem wN_keep {A i k : Nat} (hi : i < 10) (hk : k < nO i) (hb : bitO A (atO i + k) = false) : wN A i (k + 1) = wN A i k := by
  rw [bitO_nat (atO_lt hi hk), decide_eq_false_iff_not] at hb
  funext j
  by_cases hj : j = i
  · subst hj
    rw [wN_at, wN_at, word_step, Nat.div_div_eq_div_mul, ← Nat.pow_add, show A / 2 ^ (atO j + k) % 2 = 0 by omega, Nat.mul_zero, Nat.add_zero]
  · exact wN_other hj
end
end Ev

/-
  The reference's Open: its run. Conditions: numbers of 32 bytes.
-/
namespace Ev
open Go Go.Proofs
noncomputable section

theorem f52_fn : (pEnv specsO).fn 52 = some Try.f52 := by kernel_rfl
theorem f52_body : Try.f52.body = some opBody := by kernel_rfl
theorem f52_len {a : AV} : Nat.ble [a].length Try.f52.ntmps = true := by kernel_rfl
theorem ow52 : owN waysO keepO 52 = none := rfl
theorem cwM : CwMeq cwO := by
  refine wpCall_meq (owN_meq waysO_meq) (fun f fn c hw hf hb => ?_) 999
  have hk := (owN_none hw).2
  have := Nat.eq_of_beq_eq_true hk
  subst this
  rw [f52_fn] at hf
  cases hf
  rw [f52_body] at hb
  cases hb
  exact okBody

def INI (A i k : Nat) (s : St) : Prop := T2 (atO i) i (nO i) k s ∧ MEq (memF A (wN A i k)) s.mem
def OUTI (A i : Nat) (s : St) : Prop := T1 (atO i) i s ∧ MEq (memF A (wN A i 0)) s.mem
abbrev wpO (c : Code) (s : St) (K : KX) : Prop := wpCodeF cfO c (pEnv specsO) cwO 999 s K

theorem stepIn {A i k : Nat} (hi : i < 10) (hk : k < nO i) (s : St) (h : INI A i k s) (Q : KX) (hQ : ∀ s', INI A i (k + 1) s' → Q .normal s') : wpO opIn s Q := by
  have e := map_at (map_at (in_all (fun k => orV (s.tm.get k)) A (wN A i k) (PO2 (atO i) i (nO i) (k + 1) fun m => MEq (memF A (wN A i (k + 1))) m) noO) hi) hk
  refine wpCodeF_meq cwM opIn okIn (Eq.mp e ?_) (canon2 h.1) h.2 ?_
  · refine ⟨fun hb => seen2 ?_, fun hb => seen2 ?_⟩
    · exact (memP_meq hi (wN_set hi hk hb) fun j hj => wN_other hj).symm
    · rw [wN_keep hi hk hb]; exact MEq.refl _
  · intro x s1 s2 ht hm hx
    cases x with
    | normal =>
      obtain ⟨h1, h2⟩ := look2 ht hx
      exact hQ s2 ⟨h1, h2.trans hm⟩
    | exit id => exact (noO_look hx.2).elim
    | ret => cases hx
theorem endIn {A i : Nat} (hi : i < 10) (s : St) (h : INI A i (nO i) s) (Q : KX) (hQ : ∀ s', INI A i (nO i) s' → Q (.exit 2) s') : wpO opIn s Q := by
  have e := map_at (in_end (fun k => orV (s.tm.get k)) s.mem noO (PO2 (atO i) i (nO i) (nO i) fun m => MEq (memF A (wN A i (nO i))) m)) hi
  refine wpCodeF_meq cwM opIn okIn (Eq.mp e ⟨rfl, seen2 h.2⟩) (canon2 h.1) (MEq.refl _) ?_
  intro x s1 s2 ht hm hx
  cases x with
  | normal => exact (noO_look hx).elim
  | exit id =>
    obtain ⟨h0, hx⟩ := hx
    have h0 : id = 2 := h0
    subst h0
    obtain ⟨h1, h2⟩ := look2 ht hx
    exact hQ s2 ⟨h1, h2.trans hm⟩
  | ret => cases hx
theorem loopIn {A i : Nat} (hi : i < 10) {y : Code} {K : KX} (hy : ∀ s, INI A i (nO i) s → wpO y s K) (s : St) (h : INI A i 0 s) : wpO (.seq (.block 2 (.loop opIn)) y) s K := by
  refine wp_loop (fun n s => ∃ k, k + n = nO i ∧ INI A i k s) (fun n s ⟨k, hk, hI⟩ Q hQ => stepIn hi (by omega) s hI Q fun s' hs' => hQ s' ⟨k + 1, by omega, hs'⟩) (fun s ⟨k, hk, hI⟩ Q hQ => ?_) (fun s ⟨k, hk, hI⟩ => ?_) (n := nO i) ?_ ⟨0, by omega, h⟩
  · have : k = nO i := by omega
    subst this
    exact endIn hi s hI Q fun s' hs' => hQ s' ⟨nO i, by omega, hs'⟩
  · have : k = nO i := by omega
    subst this
    exact hy s hI
  · have := nO_le i
    omega

theorem stepOut {A i : Nat} (hi : i < 10) (s : St) (h : OUTI A i s) (Q : KX) (hQ : ∀ s', OUTI A (i + 1) s' → Q .normal s') : wpO opOut s Q := by
  show wpCodeF cfO opOut (pEnv specsO) cwO 999 s Q
  rw [opOut_eq]
  refine wp_cutM cwM okA (Eq.mp (map_at (preA_all (fun k => orV (s.tm.get k)) s.mem (PO1 (atO i) i fun m => MEq (memF A (wN A i 0)) m) noO) hi) (seen1 h.2)) (canon1 h.1) (MEq.refl _) ?_
  intro x s0 s1 ht hm hx
  cases x with
  | exit id => exact (noO_look hx.2).elim
  | ret => cases hx
  | normal =>
    obtain ⟨h1, h2⟩ := look1 ht hx
    have h2 := h2.trans hm
    refine wp_blk ?_
    rw [opMid_eq]
    refine wp_mid ?_
    refine wp_cutM cwM okB' (Eq.mp (map_at (preB_all (fun k => orV (s1.tm.get k)) s1.mem (PO2 (atO i) i (nO i) 0 fun m => MEq (memF A (wN A i 0)) m) noO) hi) (seen2 h2)) (canon1 h1) (MEq.refl _) ?_
    intro x s2 s3 ht hm hx
    cases x with
    | exit id => exact (noO_look hx.2).elim
    | ret => cases hx
    | normal =>
      obtain ⟨h3, h4⟩ := look2 ht hx
      have h4 := h4.trans hm
      refine loopIn hi (fun s4 h5 => ?_) s3 ⟨h3, h4⟩
      refine wpCodeF_meq cwM _ okE' (Eq.mp (map_at (postE_all (fun k => orV (s4.tm.get k)) s4.mem (PO1 (atO (i + 1)) i fun m => MEq (memF A (wN A i (nO i))) m) noO) hi) (seen1 h5.2)) (canon2 h5.1) (MEq.refl _) ?_
      intro x s5 s6 ht hm hx
      cases x with
      | exit id => exact (noO_look hx.2).elim
      | ret => cases hx
      | normal =>
        obtain ⟨h6, h7⟩ := look1 ht hx
        have h7 := h7.trans hm
        show wpCodeF cfO (qR (qR opOut)) (pEnv specsO) cwO 999 s6 Q
        refine wpCodeF_meq cwM _ okF' (Eq.mp (map_at (postF_all (fun k => orV (s6.tm.get k)) s6.mem (PO1 (atO (i + 1)) (i + 1) fun m => MEq (memF A (wN A i (nO i))) m) noO) hi) (seen1 h7)) (canon1 h6) (MEq.refl _) ?_
        intro x s7 s8 ht hm hx
        cases x with
        | exit id => exact (noO_look hx.2).elim
        | ret => cases hx
        | normal =>
          obtain ⟨h8, h9⟩ := look1 ht hx
          have h9 := h9.trans hm
          rw [wN_next] at h9
          exact hQ s8 ⟨h8, h9⟩
theorem endOut {A : Nat} (s : St) (h : OUTI A 10 s) (Q : KX) (hQ : ∀ s', OUTI A 10 s' → Q (.exit 0) s') : wpO opOut s Q := by
  show wpCodeF cfO opOut (pEnv specsO) cwO 999 s Q
  rw [opOut_eq]
  refine wp_cutM cwM okA (Eq.mp (preA_end (fun k => orV (s.tm.get k)) s.mem noO (PO1 (atO 10) 10 fun m => MEq (memF A (wN A 10 0)) m)) ⟨rfl, seen1 h.2⟩) (canon1 h.1) (MEq.refl _) ?_
  intro x s0 s1 ht hm hx
  cases x with
  | exit id =>
    obtain ⟨h0, hx⟩ := hx
    have h0 : id = 0 := h0
    subst h0
    obtain ⟨h1, h2⟩ := look1 ht hx
    exact hQ s1 ⟨h1, h2.trans hm⟩
  | ret => cases hx
  | normal => exact (noO_look hx).elim
theorem loopOut {A : Nat} {y : Code} {K : KX} (hy : ∀ s, OUTI A 10 s → wpO y s K) (s : St) (h : OUTI A 0 s) : wpO (.seq (.block 0 (.loop opOut)) y) s K := by
  refine wp_loop (fun n s => ∃ i, i + n = 10 ∧ OUTI A i s) (fun n s ⟨i, hk, hI⟩ Q hQ => stepOut (by omega) s hI Q fun s' hs' => hQ s' ⟨i + 1, by omega, hs'⟩) (fun s ⟨i, hk, hI⟩ Q hQ => ?_) (fun s ⟨i, hk, hI⟩ => ?_) (n := 10) (by decide) ⟨0, by omega, h⟩
  · have : i = 10 := by omega
    subst this
    exact endOut s hI Q fun s' hs' => hQ s' ⟨10, by omega, hs'⟩
  · have : i = 10 := by omega
    subst this
    exact hy s hI

def leaveO (K : KP) : KX := fun e s => Ex.casesOn (motive := fun _ => Prop) e (needR (evLeave (pEnv specsO) Try.f52 s) K) (fun _ => False) (needR (evLeave (pEnv specsO) Try.f52 s) K)
theorem end_wp (j : Nat → AV) (A : Nat) (w : Nat → Int) (K : AV → Prop) : (carQ (w 0) (w 1) (w 2) (w 3) (w 4) (w 5) (w 6) (w 7) (w 8) (w 9) fun v0 v1 v2 v3 v4 v5 v6 v7 v8 v9 => ∀ _ : AMem, K (wideA v0 v1 v2 v3 v4 v5 v6 v7 v8 v9)) =
    wpCodeF cfO opEnd (pEnv specsO) cwO 999 ⟨tm1 j (atO 10) 10, memF A w⟩ (leaveO fun r _ => ∀ _ : AMem, K r) := by kernel_rfl
/-- a call of Open, by its condition -/
def WO (n : Nat) (args : List AV) (K : KP) : Prop := wpCall cfO (pEnv specsO) (owN waysO keepO) n (.fn 52) args ⟨0, .nil⟩ K
theorem WO_of {n : Nat} {a : AV} {K : KP} (h : wpCodeF cfO opBody (pEnv specsO) (wpCall cfO (pEnv specsO) (owN waysO keepO) n) n ⟨initTm [a] 0 .nil, ⟨0, .nil⟩⟩ (leaveO K)) : WO (n + 1) [a] K :=
  wpCall_of ow52 f52_fn f52_body (@f52_len a) h
theorem WO_ok {n : Nat} {args : List AV} {K : AV → Prop} (h : WO n args fun r _ => ∀ _ : AMem, K r) : ∃ r m, evCall (pEnv specsO) n (.fn 52) args ⟨0, .nil⟩ = some (r, m) ∧ K r :=
  runN pairedO specsO_ok (cf := cfO) pfO_some h
theorem leaveO_meq {K : AV → Prop} : KEqM (leaveO fun r _ => ∀ _ : AMem, K r) (leaveO fun r _ => ∀ _ : AMem, K r) := by
  intro e s s' ht hm h
  have need : needR (evLeave (pEnv specsO) Try.f52 s) (fun r _ => ∀ _ : AMem, K r) → needR (evLeave (pEnv specsO) Try.f52 s') fun r _ => ∀ _ : AMem, K r := by
    intro h
    obtain ⟨v, m1, h1, h2⟩ := needR_some h
    obtain ⟨m1', h3, _⟩ := leave_meq ht hm h1
    rw [h3]
    exact h2
  cases e with
  | normal => exact need h
  | exit id => exact h
  | ret => exact need h
theorem open52 {A : Nat} {K : AV → Prop} (hk : carQ (wN A 10 0 0) (wN A 10 0 1) (wN A 10 0 2) (wN A 10 0 3) (wN A 10 0 4) (wN A 10 0 5) (wN A 10 0 6) (wN A 10 0 7) (wN A 10 0 8) (wN A 10 0 9) fun v0 v1 v2 v3 v4 v5 v6 v7 v8 v9 => ∀ _ : AMem, K (wideA v0 v1 v2 v3 v4 v5 v6 v7 v8 v9))
    {X : List AV} (hX : X = encL 32 A) : WO (999 + 1) [.agg X] fun r _ => ∀ _ : AMem, K r := by
  refine WO_of ?_
  rw [opBody_eq]
  refine wp_shape3 ?_
  have h0 : wpCodeF cfO opPre0 (pEnv specsO) cwO 999 ⟨initTm [.agg X] 0 .nil, ⟨0, .nil⟩⟩ (lookOX 0 (PO1 0 0 fun m => MEq (memF A (wN A 0 0)) m) noO) := by
    rw [hX]
    refine Eq.mp (pre0_wp A _ noO) ⟨rfl, ⟨rfl, rfl, rfl⟩, rfl, rfl, ?_⟩
    have : wN A 0 0 = fun _ => 0 := by
      funext j
      unfold wN wordA cO
      rw [if_neg (Nat.not_lt_zero _)]
      split <;> (rw [Nat.pow_zero, Nat.mod_one]; rfl)
    rw [this]; exact MEq.refl _
  refine wp_cutM cwM ok0 h0 (TEq.refl _) (MEq.refl _) ?_
  intro x s0 s1 ht hm hx
  cases x with
  | exit id => exact (noO_look hx.2).elim
  | ret => cases hx
  | normal =>
    obtain ⟨h1, h2⟩ := look1 ht hx
    refine loopOut (fun s2 h3 => ?_) s1 ⟨h1, h2.trans hm⟩
    exact wpCodeF_meq cwM _ okEnd (Eq.mp (end_wp (fun k => orV (s2.tm.get k)) A (wN A 10 0) K) hk) (canon1 h3.1) h3.2 leaveO_meq
end
end Ev
