/-
  Fermat's little theorem, in plain numbers. Conditions: a prime number.
-/
namespace Ev

def isPrime (r : Nat) : Prop := 1 < r ∧ ∀ d, d ∣ r → d = 1 ∨ d = r

theorem prime_coprime {r a : Nat} (hr : isPrime r) (h : ¬ r ∣ a) : Nat.Coprime r a := by
  rcases hr.2 (Nat.gcd r a) (Nat.gcd_dvd_left r a) with h1 | h1
  · exact h1
  · exact absurd (h1 ▸ Nat.gcd_dvd_right r a) h

def prodL : List Nat → Nat
  | [] => 1
  | a :: l => a * prodL l
theorem prodL_perm {l l' : List Nat} (h : l.Perm l') : prodL l = prodL l' := by
  induction h with
  | nil => rfl
  | cons x _ ih => simp only [prodL, ih]
  | swap x y l => simp only [prodL, Nat.mul_left_comm]
  | trans _ _ h1 h2 => exact h1.trans h2
theorem perm_of {l l' : List Nat} (hn : l.Nodup) (hs : ∀ x ∈ l, x ∈ l') (hl : l'.length ≤ l.length) : l.Perm l' := by
  induction l generalizing l' with
  | nil =>
    have : l' = [] := List.length_eq_zero_iff.1 (by simpa using hl)
    subst this; exact .nil
  | cons a l ih =>
    have ha : a ∈ l' := hs a (List.mem_cons_self ..)
    rw [List.nodup_cons] at hn
    refine (List.Perm.cons a (ih hn.2 (fun x hx => ?_) ?_)).trans (List.perm_cons_erase ha).symm
    · have hne : x ≠ a := fun e => hn.1 (e ▸ hx)
      exact (List.mem_erase_of_ne hne).2 (hs x (List.mem_cons_of_mem _ hx))
    · rw [List.length_erase_of_mem ha]
      simp at hl
      omega

theorem prod_map {r a : Nat} : ∀ l : List Nat, prodL (l.map fun x => a * x % r) % r = a ^ l.length * prodL l % r
  | [] => rfl
  | x :: l => by
    simp only [List.map_cons, prodL, List.length_cons]
    rw [Nat.mul_mod, Nat.mod_mod, prod_map l, ← Nat.mul_mod]
    congr 1
    rw [Nat.pow_succ, Nat.mul_assoc, Nat.mul_assoc]
    rw [Nat.mul_left_comm x, Nat.mul_left_comm a, ← Nat.mul_assoc a x]
theorem coprime_prod {r : Nat} : ∀ l : List Nat, (∀ x ∈ l, Nat.Coprime r x) → Nat.Coprime r (prodL l)
  | [], _ => Nat.coprime_one_right r
  | x :: l, h => Nat.Coprime.mul_right (h x (List.mem_cons_self ..)) (coprime_prod l fun y hy => h y (List.mem_cons_of_mem _ hy))

theorem mod_dvd {n c d : Nat} (h : c ≤ d) : c % n = d % n ↔ n ∣ d - c := by
  constructor
  · intro e
    exact Nat.dvd_of_mod_eq_zero (Nat.sub_mod_eq_zero_of_mod_eq e.symm)
  · rintro ⟨k, hk⟩
    have : d = c + n * k := by omega
    rw [this, Nat.add_mul_mod_self_left]
theorem fermat {r a : Nat} (hr : isPrime r) (ha : ¬ r ∣ a) : a ^ (r - 1) % r = 1 := by
  have h1 := hr.1
  have hL : ∀ x, x ∈ List.range' 1 (r - 1) ↔ 1 ≤ x ∧ x < r := by
    intro x
    rw [List.mem_range'_1]
    omega
  have hco : Nat.Coprime r a := prime_coprime hr ha
  have hnd : ∀ x, 1 ≤ x ∧ x < r → ¬ r ∣ x := fun x hx hd => by
    have := Nat.le_of_dvd (by omega) hd
    omega
  have hperm : ((List.range' 1 (r - 1)).map fun x => a * x % r).Perm (List.range' 1 (r - 1)) := by
    refine perm_of ?_ (fun y hy => ?_) (by simp)
    · rw [List.nodup_iff_pairwise_ne, List.pairwise_map]
      refine List.Pairwise.imp_of_mem ?_ (List.nodup_iff_pairwise_ne.1 (List.nodup_range' ..))
      intro x y hx hy hne he
      rw [hL] at hx hy
      have key : ∀ x y : Nat, 1 ≤ x ∧ x < r → 1 ≤ y ∧ y < r → x < y → a * x % r = a * y % r → False := by
        intro x y hx hy hlt he
        have : r ∣ a * y - a * x := (mod_dvd (Nat.mul_le_mul_left a (Nat.le_of_lt hlt))).1 he
        rw [← Nat.mul_sub] at this
        exact hnd (y - x) (by omega) (hco.dvd_of_dvd_mul_left this)
      rcases Nat.lt_or_gt_of_ne hne with h | h
      · exact key x y hx hy h he
      · exact key y x hy hx h he.symm
    · rw [List.mem_map] at hy
      obtain ⟨x, hx, rfl⟩ := hy
      rw [hL] at hx ⊢
      refine ⟨?_, Nat.mod_lt _ (by omega)⟩
      rcases Nat.eq_zero_or_pos (a * x % r) with h | h
      · exact absurd (hco.dvd_of_dvd_mul_left (Nat.dvd_of_mod_eq_zero h)) (hnd x hx)
      · exact h
  have hp := prod_map (r := r) (a := a) (List.range' 1 (r - 1))
  rw [prodL_perm hperm, List.length_range'] at hp
  have hcp : Nat.Coprime r (prodL (List.range' 1 (r - 1))) := coprime_prod _ fun x hx => prime_coprime hr (hnd x ((hL x).1 hx))
  generalize prodL (List.range' 1 (r - 1)) = P at hp hcp
  have hpos : 1 ≤ a ^ (r - 1) := Nat.pow_pos (by
    rcases Nat.eq_zero_or_pos a with h | h
    · exact absurd (h ▸ Nat.dvd_zero r) ha
    · exact h)
  have hle : 1 * P ≤ a ^ (r - 1) * P := Nat.mul_le_mul_right P hpos
  have hd : r ∣ a ^ (r - 1) * P - 1 * P := (mod_dvd hle).1 (by rw [Nat.one_mul]; exact hp)
  rw [← Nat.sub_mul, Nat.mul_comm] at hd
  have hd2 := hcp.dvd_of_dvd_mul_left hd
  have h4 : 1 % r = a ^ (r - 1) % r := (mod_dvd hpos).2 hd2
  rw [← h4, Nat.mod_eq_of_lt h1]
end Ev

/-
  A test for prime numbers: powers that show the order. Conditions: the parts of n - 1 are prime.
-/
namespace Ev

theorem has_prime : ∀ n : Nat, 1 < n → ∃ r, isPrime r ∧ r ∣ n := by
  intro n
  induction n using Nat.strongRecOn with
  | ind n ih =>
    intro hn
    by_cases h : ∀ d, d ∣ n → d = 1 ∨ d = n
    · exact ⟨n, ⟨hn, h⟩, Nat.dvd_refl n⟩
    · simp only [Classical.not_forall, not_or] at h
      obtain ⟨d, hd, h1, h2⟩ := h
      have hpos : 0 < d := Nat.pos_of_dvd_of_pos hd (by omega)
      have hle := Nat.le_of_dvd (by omega) hd
      obtain ⟨r, hr, hrd⟩ := ih d (by omega) (by omega)
      exact ⟨r, hr, Nat.dvd_trans hrd hd⟩
theorem pow_one_mul {r a m : Nat} (h : a ^ m % r = 1 % r) (k : Nat) : a ^ (m * k) % r = 1 % r := by
  rw [Nat.pow_mul, Nat.pow_mod, h, ← Nat.pow_mod, Nat.one_pow]
theorem pow_gcd {r a : Nat} (m k : Nat) (hm : a ^ m % r = 1 % r) (hk : a ^ k % r = 1 % r) : a ^ Nat.gcd m k % r = 1 % r := by
  induction m, k using Nat.gcd.induction with
  | H0 k => rw [Nat.gcd_zero_left]; exact hk
  | H1 m k hpos ih =>
    rw [Nat.gcd_rec]
    refine ih ?_ hm
    have h1 : a ^ k = a ^ (m * (k / m)) * a ^ (k % m) := by rw [← Nat.pow_add, Nat.div_add_mod]
    have h2 : a ^ k % r = a ^ (k % m) % r := by
      rw [h1, Nat.mul_mod, pow_one_mul hm, ← Nat.mul_mod, Nat.one_mul]
    rw [← h2]; exact hk
theorem prime_in : ∀ (qs : List Nat) (p : Nat), (∀ q ∈ qs, isPrime q) → isPrime p → p ∣ prodL qs → p ∈ qs
  | [], p, _, hp, h => by
    have : p = 1 := Nat.dvd_one.1 h
    have := hp.1
    omega
  | q :: qs, p, hq, hp, h => by
    by_cases hd : p ∣ q
    · rcases (hq q (List.mem_cons_self ..)).2 p hd with h1 | h1
      · have := hp.1; omega
      · rw [h1]; exact List.mem_cons_self ..
    · exact List.mem_cons_of_mem _ (prime_in qs p (fun x hx => hq x (List.mem_cons_of_mem _ hx)) hp ((prime_coprime hp hd).dvd_of_dvd_mul_left h))

theorem lucas {n a : Nat} (qs : List Nat) (hn : 1 < n) (hq : ∀ q ∈ qs, isPrime q) (hN : prodL qs = n - 1) (h1 : a ^ (n - 1) % n = 1) (hg : ∀ q ∈ qs, Nat.gcd (a ^ ((n - 1) / q) % n + (n - 1)) n = 1) : isPrime n := by
  obtain ⟨r, hr, hrn⟩ := has_prime n hn
  have hr1 := hr.1
  have hle := Nat.le_of_dvd (by omega) hrn
  have ha : ¬ r ∣ a := by
    intro h
    have h2 : r ∣ a ^ (n - 1) := Nat.dvd_trans h (by
      rw [show n - 1 = (n - 2) + 1 by omega, Nat.pow_succ]
      exact Nat.dvd_mul_left _ _)
    have h3 : a ^ (n - 1) % r = 1 % r := by
      rw [← Nat.mod_mod_of_dvd _ hrn, h1]
    rw [Nat.mod_eq_zero_of_dvd h2, Nat.mod_eq_of_lt hr1] at h3
    omega
  have hA : a ^ (n - 1) % r = 1 % r := by rw [← Nat.mod_mod_of_dvd _ hrn, h1]
  have hB : a ^ (r - 1) % r = 1 % r := by rw [fermat hr ha, Nat.mod_eq_of_lt hr1]
  have hG := pow_gcd (n - 1) (r - 1) hA hB
  by_cases hd : Nat.gcd (n - 1) (r - 1) = n - 1
  · have h2 : n - 1 ∣ r - 1 := hd ▸ Nat.gcd_dvd_right (n - 1) (r - 1)
    have h3 := Nat.le_of_dvd (by omega) h2
    have : r = n := by omega
    exact this ▸ hr
  · exfalso
    obtain ⟨c, hc⟩ := Nat.gcd_dvd_left (n - 1) (r - 1)
    have hc1 : 1 < c := by
      rcases Nat.lt_or_ge 1 c with h | h
      · exact h
      · have : c = 0 ∨ c = 1 := by omega
        rcases this with rfl | rfl
        · simp at hc; omega
        · rw [Nat.mul_one] at hc; exact absurd hc.symm hd
    obtain ⟨p, hp, hpc⟩ := has_prime c hc1
    have hpn : p ∣ n - 1 := Nat.dvd_trans hpc ⟨_, by rw [Nat.mul_comm]; exact hc⟩
    have hpq := prime_in qs p hq hp (hN ▸ hpn)
    obtain ⟨e, he⟩ := hpc
    have hdiv : (n - 1) / p = Nat.gcd (n - 1) (r - 1) * e := by
      have hp0 : 0 < p := by have := hp.1; omega
      refine Nat.div_eq_of_eq_mul_right hp0 ?_
      rw [Nat.mul_left_comm, ← he]; exact hc
    have h4 : a ^ ((n - 1) / p) % r = 1 % r := by rw [hdiv]; exact pow_one_mul hG e
    have h5 : (a ^ ((n - 1) / p) % n + (n - 1)) % r = 0 := by
      rw [Nat.add_mod, Nat.mod_mod_of_dvd _ hrn, h4, ← Nat.add_mod, show 1 + (n - 1) = n by omega]
      exact Nat.mod_eq_zero_of_dvd hrn
    have h6 : r ∣ Nat.gcd (a ^ ((n - 1) / p) % n + (n - 1)) n := Nat.dvd_gcd (Nat.dvd_of_mod_eq_zero h5) hrn
    rw [hg p hpq] at h6
    have := Nat.dvd_one.1 h6
    omega
end Ev

/-
  2^255 - 19 is a prime. Conditions: none.
-/
namespace Ev
/-- powers by squaring -/
def powm (n a : Nat) : Nat → Nat → Nat
  | 0, _ => 1 % n
  | k + 1, e => let h := powm n a k (e / 2); if e % 2 = 1 then h * h % n * a % n else h * h % n
theorem powm_eq (n a : Nat) : ∀ k e : Nat, e < 2 ^ k → powm n a k e = a ^ e % n
  | 0, e, h => by
    have : e = 0 := by simpa using h
    subst this; rfl
  | k + 1, e, h => by
    have h1 : e / 2 < 2 ^ k := by rw [Nat.pow_succ] at h; omega
    have h2 := Nat.div_add_mod e 2
    unfold powm
    simp only [powm_eq n a k (e / 2) h1]
    have h3 : a ^ (e / 2) % n * (a ^ (e / 2) % n) % n = a ^ (2 * (e / 2)) % n := by
      rw [← Nat.mul_mod, ← Nat.pow_add]; congr 2; omega
    split
    · next h4 =>
      rw [h3, Nat.mul_mod, Nat.mod_mod, ← Nat.mul_mod]
      conv => rhs; rw [← h2, h4, Nat.pow_succ]
    · next h4 =>
      rw [h3]
      conv => rhs; rw [← h2, show e % 2 = 0 by omega, Nat.add_zero]
theorem lucasm {n : Nat} (a : Nat) (qs : List Nat) (hn : 1 < n) (hlt : n - 1 < 2 ^ 256) (hq : ∀ q ∈ qs, isPrime q) (hN : prodL qs = n - 1) (h1 : powm n a 256 (n - 1) = 1) (hg : ∀ q ∈ qs, Nat.gcd (powm n a 256 ((n - 1) / q) + (n - 1)) n = 1) : isPrime n :=
  lucas qs hn hq hN (by rw [← powm_eq n a 256 _ hlt]; exact h1) fun q hq' => by
    rw [← powm_eq n a 256 _ (Nat.lt_of_le_of_lt (Nat.div_le_self _ _) hlt)]; exact hg q hq'
theorem prime_2 : isPrime 2 := ⟨by decide, fun d hd => by
  have := Nat.le_of_dvd (by decide) hd
  have : d ≠ 0 := fun h => by rw [h] at hd; exact absurd (Nat.zero_dvd.1 hd) (by decide)
  omega⟩
theorem prime_3 : isPrime 3 := lucasm 2 [2] (by decide +kernel) (by decide +kernel)
  (fun q hq => by
    simp only [List.mem_cons, List.not_mem_nil, or_false] at hq
    rcases hq with rfl
    · exact prime_2
    ) (by decide +kernel) (by decide +kernel) (by decide +kernel)
theorem prime_5 : isPrime 5 := lucasm 2 [2, 2] (by decide +kernel) (by decide +kernel)
  (fun q hq => by
    simp only [List.mem_cons, List.not_mem_nil, or_false] at hq
    rcases hq with rfl | rfl
    · exact prime_2
    · exact prime_2
    ) (by decide +kernel) (by decide +kernel) (by decide +kernel)
theorem prime_11 : isPrime 11 := lucasm 2 [2, 5] (by decide +kernel) (by decide +kernel)
  (fun q hq => by
    simp only [List.mem_cons, List.not_mem_nil, or_false] at hq
    rcases hq with rfl | rfl
    · exact prime_2
    · exact prime_5
    ) (by decide +kernel) (by decide +kernel) (by decide +kernel)
theorem prime_353 : isPrime 353 := lucasm 3 [2, 2, 2, 2, 2, 11] (by decide +kernel) (by decide +kernel)
  (fun q hq => by
    simp only [List.mem_cons, List.not_mem_nil, or_false] at hq
    rcases hq with rfl | rfl | rfl | rfl | rfl | rfl
    · exact prime_2
    · exact prime_2
    · exact prime_2
    · exact prime_2
    · exact prime_2
    · exact prime_11
    ) (by decide +kernel) (by decide +kernel) (by decide +kernel)
theorem prime_13 : isPrime 13 := lucasm 2 [2, 2, 3] (by decide +kernel) (by decide +kernel)
  (fun q hq => by
    simp only [List.mem_cons, List.not_mem_nil, or_false] at hq
    rcases hq with rfl | rfl | rfl
    · exact prime_2
    · exact prime_2
    · exact prime_3
    ) (by decide +kernel) (by decide +kernel) (by decide +kernel)
theorem prime_97 : isPrime 97 := lucasm 5 [2, 2, 2, 2, 2, 3] (by decide +kernel) (by decide +kernel)
  (fun q hq => by
    simp only [List.mem_cons, List.not_mem_nil, or_false] at hq
    rcases hq with rfl | rfl | rfl | rfl | rfl | rfl
    · exact prime_2
    · exact prime_2
    · exact prime_2
    · exact prime_2
    · exact prime_2
    · exact prime_3
    ) (by decide +kernel) (by decide +kernel) (by decide +kernel)
theorem prime_19 : isPrime 19 := lucasm 2 [2, 3, 3] (by decide +kernel) (by decide +kernel)
  (fun q hq => by
    simp only [List.mem_cons, List.not_mem_nil, or_false] at hq
    rcases hq with rfl | rfl | rfl
    · exact prime_2
    · exact prime_3
    · exact prime_3
    ) (by decide +kernel) (by decide +kernel) (by decide +kernel)
theorem prime_419 : isPrime 419 := lucasm 2 [2, 11, 19] (by decide +kernel) (by decide +kernel)
  (fun q hq => by
    simp only [List.mem_cons, List.not_mem_nil, or_false] at hq
    rcases hq with rfl | rfl | rfl
    · exact prime_2
    · exact prime_11
    · exact prime_19
    ) (by decide +kernel) (by decide +kernel) (by decide +kernel)
theorem prime_7 : isPrime 7 := lucasm 3 [2, 3] (by decide +kernel) (by decide +kernel)
  (fun q hq => by
    simp only [List.mem_cons, List.not_mem_nil, or_false] at hq
    rcases hq with rfl | rfl
    · exact prime_2
    · exact prime_3
    ) (by decide +kernel) (by decide +kernel) (by decide +kernel)
theorem prime_569003 : isPrime 569003 := lucasm 2 [2, 7, 97, 419] (by decide +kernel) (by decide +kernel)
  (fun q hq => by
    simp only [List.mem_cons, List.not_mem_nil, or_false] at hq
    rcases hq with rfl | rfl | rfl | rfl
    · exact prime_2
    · exact prime_7
    · exact prime_97
    · exact prime_419
    ) (by decide +kernel) (by decide +kernel) (by decide +kernel)
theorem prime_29 : isPrime 29 := lucasm 2 [2, 2, 7] (by decide +kernel) (by decide +kernel)
  (fun q hq => by
    simp only [List.mem_cons, List.not_mem_nil, or_false] at hq
    rcases hq with rfl | rfl | rfl
    · exact prime_2
    · exact prime_2
    · exact prime_7
    ) (by decide +kernel) (by decide +kernel) (by decide +kernel)
theorem prime_2437 : isPrime 2437 := lucasm 2 [2, 2, 3, 7, 29] (by decide +kernel) (by decide +kernel)
  (fun q hq => by
    simp only [List.mem_cons, List.not_mem_nil, or_false] at hq
    rcases hq with rfl | rfl | rfl | rfl | rfl
    · exact prime_2
    · exact prime_2
    · exact prime_3
    · exact prime_7
    · exact prime_29
    ) (by decide +kernel) (by decide +kernel) (by decide +kernel)
theorem prime_2773320623 : isPrime 2773320623 := lucasm 5 [2, 2437, 569003] (by decide +kernel) (by decide +kernel)
  (fun q hq => by
    simp only [List.mem_cons, List.not_mem_nil, or_false] at hq
    rcases hq with rfl | rfl | rfl
    · exact prime_2
    · exact prime_2437
    · exact prime_569003
    ) (by decide +kernel) (by decide +kernel) (by decide +kernel)
theorem prime_72106336199 : isPrime 72106336199 := lucasm 7 [2, 13, 2773320623] (by decide +kernel) (by decide +kernel)
  (fun q hq => by
    simp only [List.mem_cons, List.not_mem_nil, or_false] at hq
    rcases hq with rfl | rfl | rfl
    · exact prime_2
    · exact prime_13
    · exact prime_2773320623
    ) (by decide +kernel) (by decide +kernel) (by decide +kernel)
theorem prime_23 : isPrime 23 := lucasm 5 [2, 11] (by decide +kernel) (by decide +kernel)
  (fun q hq => by
    simp only [List.mem_cons, List.not_mem_nil, or_false] at hq
    rcases hq with rfl | rfl
    · exact prime_2
    · exact prime_11
    ) (by decide +kernel) (by decide +kernel) (by decide +kernel)
theorem prime_47 : isPrime 47 := lucasm 5 [2, 23] (by decide +kernel) (by decide +kernel)
  (fun q hq => by
    simp only [List.mem_cons, List.not_mem_nil, or_false] at hq
    rcases hq with rfl | rfl
    · exact prime_2
    · exact prime_23
    ) (by decide +kernel) (by decide +kernel) (by decide +kernel)
theorem prime_17 : isPrime 17 := lucasm 3 [2, 2, 2, 2] (by decide +kernel) (by decide +kernel)
  (fun q hq => by
    simp only [List.mem_cons, List.not_mem_nil, or_false] at hq
    rcases hq with rfl | rfl | rfl | rfl
    · exact prime_2
    · exact prime_2
    · exact prime_2
    · exact prime_2
    ) (by decide +kernel) (by decide +kernel) (by decide +kernel)
theorem prime_103 : isPrime 103 := lucasm 5 [2, 3, 17] (by decide +kernel) (by decide +kernel)
  (fun q hq => by
    simp only [List.mem_cons, List.not_mem_nil, or_false] at hq
    rcases hq with rfl | rfl | rfl
    · exact prime_2
    · exact prime_3
    · exact prime_17
    ) (by decide +kernel) (by decide +kernel) (by decide +kernel)
theorem prime_991 : isPrime 991 := lucasm 6 [2, 3, 3, 5, 11] (by decide +kernel) (by decide +kernel)
  (fun q hq => by
    simp only [List.mem_cons, List.not_mem_nil, or_false] at hq
    rcases hq with rfl | rfl | rfl | rfl | rfl
    · exact prime_2
    · exact prime_3
    · exact prime_3
    · exact prime_5
    · exact prime_11
    ) (by decide +kernel) (by decide +kernel) (by decide +kernel)
theorem prime_8574133 : isPrime 8574133 := lucasm 2 [2, 2, 3, 7, 103, 991] (by decide +kernel) (by decide +kernel)
  (fun q hq => by
    simp only [List.mem_cons, List.not_mem_nil, or_false] at hq
    rcases hq with rfl | rfl | rfl | rfl | rfl | rfl
    · exact prime_2
    · exact prime_2
    · exact prime_3
    · exact prime_7
    · exact prime_103
    · exact prime_991
    ) (by decide +kernel) (by decide +kernel) (by decide +kernel)
theorem prime_127 : isPrime 127 := lucasm 3 [2, 3, 3, 7] (by decide +kernel) (by decide +kernel)
  (fun q hq => by
    simp only [List.mem_cons, List.not_mem_nil, or_false] at hq
    rcases hq with rfl | rfl | rfl | rfl
    · exact prime_2
    · exact prime_3
    · exact prime_3
    · exact prime_7
    ) (by decide +kernel) (by decide +kernel) (by decide +kernel)
theorem prime_1919519569386763 : isPrime 1919519569386763 := lucasm 2 [2, 3, 7, 19, 47, 47, 127, 8574133] (by decide +kernel) (by decide +kernel)
  (fun q hq => by
    simp only [List.mem_cons, List.not_mem_nil, or_false] at hq
    rcases hq with rfl | rfl | rfl | rfl | rfl | rfl | rfl | rfl
    · exact prime_2
    · exact prime_3
    · exact prime_7
    · exact prime_19
    · exact prime_47
    · exact prime_47
    · exact prime_127
    · exact prime_8574133
    ) (by decide +kernel) (by decide +kernel) (by decide +kernel)
theorem prime_41 : isPrime 41 := lucasm 6 [2, 2, 2, 5] (by decide +kernel) (by decide +kernel)
  (fun q hq => by
    simp only [List.mem_cons, List.not_mem_nil, or_false] at hq
    rcases hq with rfl | rfl | rfl | rfl
    · exact prime_2
    · exact prime_2
    · exact prime_2
    · exact prime_5
    ) (by decide +kernel) (by decide +kernel) (by decide +kernel)
theorem prime_83 : isPrime 83 := lucasm 2 [2, 41] (by decide +kernel) (by decide +kernel)
  (fun q hq => by
    simp only [List.mem_cons, List.not_mem_nil, or_false] at hq
    rcases hq with rfl | rfl
    · exact prime_2
    · exact prime_41
    ) (by decide +kernel) (by decide +kernel) (by decide +kernel)
theorem prime_9463 : isPrime 9463 := lucasm 3 [2, 3, 19, 83] (by decide +kernel) (by decide +kernel)
  (fun q hq => by
    simp only [List.mem_cons, List.not_mem_nil, or_false] at hq
    rcases hq with rfl | rfl | rfl | rfl
    · exact prime_2
    · exact prime_3
    · exact prime_19
    · exact prime_83
    ) (by decide +kernel) (by decide +kernel) (by decide +kernel)
theorem prime_37853 : isPrime 37853 := lucasm 2 [2, 2, 9463] (by decide +kernel) (by decide +kernel)
  (fun q hq => by
    simp only [List.mem_cons, List.not_mem_nil, or_false] at hq
    rcases hq with rfl | rfl | rfl
    · exact prime_2
    · exact prime_2
    · exact prime_9463
    ) (by decide +kernel) (by decide +kernel) (by decide +kernel)
theorem prime_75707 : isPrime 75707 := lucasm 2 [2, 37853] (by decide +kernel) (by decide +kernel)
  (fun q hq => by
    simp only [List.mem_cons, List.not_mem_nil, or_false] at hq
    rcases hq with rfl | rfl
    · exact prime_2
    · exact prime_37853
    ) (by decide +kernel) (by decide +kernel) (by decide +kernel)
theorem prime_75445702479781427272750846543864801 : isPrime 75445702479781427272750846543864801 := lucasm 7 [2, 2, 2, 2, 2, 3, 3, 5, 5, 75707, 72106336199, 1919519569386763] (by decide +kernel) (by decide +kernel)
  (fun q hq => by
    simp only [List.mem_cons, List.not_mem_nil, or_false] at hq
    rcases hq with rfl | rfl | rfl | rfl | rfl | rfl | rfl | rfl | rfl | rfl | rfl | rfl
    · exact prime_2
    · exact prime_2
    · exact prime_2
    · exact prime_2
    · exact prime_2
    · exact prime_3
    · exact prime_3
    · exact prime_5
    · exact prime_5
    · exact prime_75707
    · exact prime_72106336199
    · exact prime_1919519569386763
    ) (by decide +kernel) (by decide +kernel) (by decide +kernel)
theorem prime_131 : isPrime 131 := lucasm 2 [2, 5, 13] (by decide +kernel) (by decide +kernel)
  (fun q hq => by
    simp only [List.mem_cons, List.not_mem_nil, or_false] at hq
    rcases hq with rfl | rfl | rfl
    · exact prime_2
    · exact prime_5
    · exact prime_13
    ) (by decide +kernel) (by decide +kernel) (by decide +kernel)
theorem prime_132049 : isPrime 132049 := lucasm 26 [2, 2, 2, 2, 3, 3, 7, 131] (by decide +kernel) (by decide +kernel)
  (fun q hq => by
    simp only [List.mem_cons, List.not_mem_nil, or_false] at hq
    rcases hq with rfl | rfl | rfl | rfl | rfl | rfl | rfl | rfl
    · exact prime_2
    · exact prime_2
    · exact prime_2
    · exact prime_2
    · exact prime_3
    · exact prime_3
    · exact prime_7
    · exact prime_131
    ) (by decide +kernel) (by decide +kernel) (by decide +kernel)
theorem prime_53 : isPrime 53 := lucasm 2 [2, 2, 13] (by decide +kernel) (by decide +kernel)
  (fun q hq => by
    simp only [List.mem_cons, List.not_mem_nil, or_false] at hq
    rcases hq with rfl | rfl | rfl
    · exact prime_2
    · exact prime_2
    · exact prime_13
    ) (by decide +kernel) (by decide +kernel) (by decide +kernel)
theorem prime_107 : isPrime 107 := lucasm 2 [2, 53] (by decide +kernel) (by decide +kernel)
  (fun q hq => by
    simp only [List.mem_cons, List.not_mem_nil, or_false] at hq
    rcases hq with rfl | rfl
    · exact prime_2
    · exact prime_53
    ) (by decide +kernel) (by decide +kernel) (by decide +kernel)
theorem prime_1723 : isPrime 1723 := lucasm 3 [2, 3, 7, 41] (by decide +kernel) (by decide +kernel)
  (fun q hq => by
    simp only [List.mem_cons, List.not_mem_nil, or_false] at hq
    rcases hq with rfl | rfl | rfl | rfl
    · exact prime_2
    · exact prime_3
    · exact prime_7
    · exact prime_41
    ) (by decide +kernel) (by decide +kernel) (by decide +kernel)
theorem prime_430751 : isPrime 430751 := lucasm 17 [2, 5, 5, 5, 1723] (by decide +kernel) (by decide +kernel)
  (fun q hq => by
    simp only [List.mem_cons, List.not_mem_nil, or_false] at hq
    rcases hq with rfl | rfl | rfl | rfl | rfl
    · exact prime_2
    · exact prime_5
    · exact prime_5
    · exact prime_5
    · exact prime_1723
    ) (by decide +kernel) (by decide +kernel) (by decide +kernel)
theorem prime_43 : isPrime 43 := lucasm 3 [2, 3, 7] (by decide +kernel) (by decide +kernel)
  (fun q hq => by
    simp only [List.mem_cons, List.not_mem_nil, or_false] at hq
    rcases hq with rfl | rfl | rfl
    · exact prime_2
    · exact prime_3
    · exact prime_7
    ) (by decide +kernel) (by decide +kernel) (by decide +kernel)
theorem prime_173 : isPrime 173 := lucasm 2 [2, 2, 43] (by decide +kernel) (by decide +kernel)
  (fun q hq => by
    simp only [List.mem_cons, List.not_mem_nil, or_false] at hq
    rcases hq with rfl | rfl | rfl
    · exact prime_2
    · exact prime_2
    · exact prime_43
    ) (by decide +kernel) (by decide +kernel) (by decide +kernel)
theorem prime_4153 : isPrime 4153 := lucasm 5 [2, 2, 2, 3, 173] (by decide +kernel) (by decide +kernel)
  (fun q hq => by
    simp only [List.mem_cons, List.not_mem_nil, or_false] at hq
    rcases hq with rfl | rfl | rfl | rfl | rfl
    · exact prime_2
    · exact prime_2
    · exact prime_2
    · exact prime_3
    · exact prime_173
    ) (by decide +kernel) (by decide +kernel) (by decide +kernel)
theorem prime_31 : isPrime 31 := lucasm 3 [2, 3, 5] (by decide +kernel) (by decide +kernel)
  (fun q hq => by
    simp only [List.mem_cons, List.not_mem_nil, or_false] at hq
    rcases hq with rfl | rfl | rfl
    · exact prime_2
    · exact prime_3
    · exact prime_5
    ) (by decide +kernel) (by decide +kernel) (by decide +kernel)
theorem prime_37 : isPrime 37 := lucasm 2 [2, 2, 3, 3] (by decide +kernel) (by decide +kernel)
  (fun q hq => by
    simp only [List.mem_cons, List.not_mem_nil, or_false] at hq
    rcases hq with rfl | rfl | rfl | rfl
    · exact prime_2
    · exact prime_2
    · exact prime_3
    · exact prime_3
    ) (by decide +kernel) (by decide +kernel) (by decide +kernel)
theorem prime_223 : isPrime 223 := lucasm 3 [2, 3, 37] (by decide +kernel) (by decide +kernel)
  (fun q hq => by
    simp only [List.mem_cons, List.not_mem_nil, or_false] at hq
    rcases hq with rfl | rfl | rfl
    · exact prime_2
    · exact prime_3
    · exact prime_37
    ) (by decide +kernel) (by decide +kernel) (by decide +kernel)
theorem prime_31757755568855353 : isPrime 31757755568855353 := lucasm 10 [2, 2, 2, 3, 31, 107, 223, 4153, 430751] (by decide +kernel) (by decide +kernel)
  (fun q hq => by
    simp only [List.mem_cons, List.not_mem_nil, or_false] at hq
    rcases hq with rfl | rfl | rfl | rfl | rfl | rfl | rfl | rfl | rfl
    · exact prime_2
    · exact prime_2
    · exact prime_2
    · exact prime_3
    · exact prime_31
    · exact prime_107
    · exact prime_223
    · exact prime_4153
    · exact prime_430751
    ) (by decide +kernel) (by decide +kernel) (by decide +kernel)
theorem prime_59 : isPrime 59 := lucasm 2 [2, 29] (by decide +kernel) (by decide +kernel)
  (fun q hq => by
    simp only [List.mem_cons, List.not_mem_nil, or_false] at hq
    rcases hq with rfl | rfl
    · exact prime_2
    · exact prime_29
    ) (by decide +kernel) (by decide +kernel) (by decide +kernel)
theorem prime_487 : isPrime 487 := lucasm 3 [2, 3, 3, 3, 3, 3] (by decide +kernel) (by decide +kernel)
  (fun q hq => by
    simp only [List.mem_cons, List.not_mem_nil, or_false] at hq
    rcases hq with rfl | rfl | rfl | rfl | rfl | rfl
    · exact prime_2
    · exact prime_3
    · exact prime_3
    · exact prime_3
    · exact prime_3
    · exact prime_3
    ) (by decide +kernel) (by decide +kernel) (by decide +kernel)
theorem prime_57467 : isPrime 57467 := lucasm 2 [2, 59, 487] (by decide +kernel) (by decide +kernel)
  (fun q hq => by
    simp only [List.mem_cons, List.not_mem_nil, or_false] at hq
    rcases hq with rfl | rfl | rfl
    · exact prime_2
    · exact prime_59
    · exact prime_487
    ) (by decide +kernel) (by decide +kernel) (by decide +kernel)
theorem prime_3727 : isPrime 3727 := lucasm 3 [2, 3, 3, 3, 3, 23] (by decide +kernel) (by decide +kernel)
  (fun q hq => by
    simp only [List.mem_cons, List.not_mem_nil, or_false] at hq
    rcases hq with rfl | rfl | rfl | rfl | rfl | rfl
    · exact prime_2
    · exact prime_3
    · exact prime_3
    · exact prime_3
    · exact prime_3
    · exact prime_23
    ) (by decide +kernel) (by decide +kernel) (by decide +kernel)
theorem prime_1923133 : isPrime 1923133 := lucasm 2 [2, 2, 3, 43, 3727] (by decide +kernel) (by decide +kernel)
  (fun q hq => by
    simp only [List.mem_cons, List.not_mem_nil, or_false] at hq
    rcases hq with rfl | rfl | rfl | rfl | rfl
    · exact prime_2
    · exact prime_2
    · exact prime_3
    · exact prime_43
    · exact prime_3727
    ) (by decide +kernel) (by decide +kernel) (by decide +kernel)
theorem prime_74058212732561358302231226437062788676166966415465897661863160754340907 : isPrime 74058212732561358302231226437062788676166966415465897661863160754340907 := lucasm 2 [2, 3, 353, 57467, 132049, 1923133, 31757755568855353, 75445702479781427272750846543864801] (by decide +kernel) (by decide +kernel)
  (fun q hq => by
    simp only [List.mem_cons, List.not_mem_nil, or_false] at hq
    rcases hq with rfl | rfl | rfl | rfl | rfl | rfl | rfl | rfl
    · exact prime_2
    · exact prime_3
    · exact prime_353
    · exact prime_57467
    · exact prime_132049
    · exact prime_1923133
    · exact prime_31757755568855353
    · exact prime_75445702479781427272750846543864801
    ) (by decide +kernel) (by decide +kernel) (by decide +kernel)
theorem prime_239 : isPrime 239 := lucasm 7 [2, 7, 17] (by decide +kernel) (by decide +kernel)
  (fun q hq => by
    simp only [List.mem_cons, List.not_mem_nil, or_false] at hq
    rcases hq with rfl | rfl | rfl
    · exact prime_2
    · exact prime_7
    · exact prime_17
    ) (by decide +kernel) (by decide +kernel) (by decide +kernel)
theorem prime_479 : isPrime 479 := lucasm 13 [2, 239] (by decide +kernel) (by decide +kernel)
  (fun q hq => by
    simp only [List.mem_cons, List.not_mem_nil, or_false] at hq
    rcases hq with rfl | rfl
    · exact prime_2
    · exact prime_239
    ) (by decide +kernel) (by decide +kernel) (by decide +kernel)
theorem prime_32573 : isPrime 32573 := lucasm 2 [2, 2, 17, 479] (by decide +kernel) (by decide +kernel)
  (fun q hq => by
    simp only [List.mem_cons, List.not_mem_nil, or_false] at hq
    rcases hq with rfl | rfl | rfl | rfl
    · exact prime_2
    · exact prime_2
    · exact prime_17
    · exact prime_479
    ) (by decide +kernel) (by decide +kernel) (by decide +kernel)
theorem prime_65147 : isPrime 65147 := lucasm 2 [2, 32573] (by decide +kernel) (by decide +kernel)
  (fun q hq => by
    simp only [List.mem_cons, List.not_mem_nil, or_false] at hq
    rcases hq with rfl | rfl
    · exact prime_2
    · exact prime_32573
    ) (by decide +kernel) (by decide +kernel) (by decide +kernel)
theorem prime_57896044618658097711785492504343953926634992332820282019728792003956564819949 : isPrime 57896044618658097711785492504343953926634992332820282019728792003956564819949 := lucasm 2 [2, 2, 3, 65147, 74058212732561358302231226437062788676166966415465897661863160754340907] (by decide +kernel) (by decide +kernel)
  (fun q hq => by
    simp only [List.mem_cons, List.not_mem_nil, or_false] at hq
    rcases hq with rfl | rfl | rfl | rfl | rfl
    · exact prime_2
    · exact prime_2
    · exact prime_3
    · exact prime_65147
    · exact prime_74058212732561358302231226437062788676166966415465897661863160754340907
    ) (by decide +kernel) (by decide +kernel) (by decide +kernel)
end Ev
