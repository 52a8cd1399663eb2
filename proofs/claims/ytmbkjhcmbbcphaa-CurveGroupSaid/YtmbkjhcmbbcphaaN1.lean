/-
  Fermat's little theorem, in plain numbers. Conditions: a prime number.
-/
namespace Ev

def isPrime (r : Nat) : Prop := 1 < r ∧ ∀ d, d ∣ r → d = 1 ∨ d = r

theorem prime_coprime {r a : Nat} (hr : isPrime r) (h : ¬ r ∣ a) : Nat.Coprime r a := by
  rcases hr.2 (Nat.gcd r a) (Nat.gcd_dvd_left r a) with h1 | h1
  · exact h1
  · exact absurd (h1 ▸ Nat.gcd_dvd_right r a) h

def prodL : List Nat → Nat
  | [] => 1
  | a :: l => a * prodL l
theorem prodL_perm {l l' : List Nat} (h : l.Perm l') : prodL l = prodL l' := by
  induction h with
  | nil => rfl
  | cons x _ ih => simp only [prodL, ih]
  | swap x y l => simp only [prodL, Nat.mul_left_comm]
  | trans _ _ h1 h2 => exact h1.trans h2
theorem perm_of {l l' : List Nat} (hn : l.Nodup) (hs : ∀ x ∈ l, x ∈ l') (hl : l'.length ≤ l.length) : l.Perm l' := by
  induction l generalizing l' with
  | nil =>
    have : l' = [] := List.length_eq_zero_iff.1 (by simpa using hl)
    subst this; exact .nil
  | cons a l ih =>
    have ha : a ∈ l' := hs a (List.mem_cons_self ..)
    rw [List.nodup_cons] at hn
    refine (List.Perm.cons a (ih hn.2 (fun x hx => ?_) ?_)).trans (List.perm_cons_erase ha).symm
    · have hne : x ≠ a := fun e => hn.1 (e ▸ hx)
      exact (List.mem_erase_of_ne hne).2 (hs x (List.mem_cons_of_mem _ hx))
    · rw [List.length_erase_of_mem ha]
      simp at hl
      omega

theorem prod_map {r a : Nat} : ∀ l : List Nat, prodL (l.map fun x => a * x % r) % r = a ^ l.length * prodL l % r
  | [] => rfl
  | x :: l => by
    simp only [List.map_cons, prodL, List.length_cons]
    rw [Nat.mul_mod, Nat.mod_mod, prod_map l, ← Nat.mul_mod]
    congr 1
    rw [Nat.pow_succ, Nat.mul_assoc, Nat.mul_assoc]
    rw [Nat.mul_left_comm x, Nat.mul_left_comm a, ← Nat.mul_assoc a x]
theorem coprime_prod {r : Nat} : ∀ l : List Nat, (∀ x ∈ l, Nat.Coprime r x) → Nat.Coprime r (prodL l)
  | [], _ => Nat.coprime_one_right r
  | x :: l, h => Nat.Coprime.mul_right (h x (List.mem_cons_self ..)) (coprime_prod l fun y hy => h y (List.mem_cons_of_mem _ hy))

theorem mod_dvd {n c d : Nat} (h : c ≤ d) : c % n = d % n ↔ n ∣ d - c := by
  constructor
  · intro e
    exact Nat.dvd_of_mod_eq_zero (Nat.sub_mod_eq_zero_of_mod_eq e.symm)
  · rintro ⟨k, hk⟩
    have : d = c + n * k := by omega
    rw [this, Nat.add_mul_mod_self_left]
theorem fermat {r a : Nat} (hr : isPrime r) (ha : ¬ r ∣ a) : a ^ (r - 1) % r = 1 := by
  have h1 := hr.1
  have hL : ∀ x, x ∈ List.range' 1 (r - 1) ↔ 1 ≤ x ∧ x < r := by
    intro x
    rw [List.mem_range'_1]
    omega
  have hco : Nat.Coprime r a := prime_coprime hr ha
  have hnd : ∀ x, 1 ≤ x ∧ x < r → ¬ r ∣ x := fun x hx hd => by
    have := Nat.le_of_dvd (by omega) hd
    omega
  have hperm : ((List.range' 1 (r - 1)).map fun x => a * x % r).Perm (List.range' 1 (r - 1)) := by
    refine perm_of ?_ (fun y hy => ?_) (by simp)
    · rw [List.nodup_iff_pairwise_ne, List.pairwise_map]
      refine List.Pairwise.imp_of_mem ?_ (List.nodup_iff_pairwise_ne.1 (List.nodup_range' ..))
      intro x y hx hy hne he
      rw [hL] at hx hy
      have key : ∀ x y : Nat, 1 ≤ x ∧ x < r → 1 ≤ y ∧ y < r → x < y → a * x % r = a * y % r → False := by
        intro x y hx hy hlt he
        have : r ∣ a * y - a * x := (mod_dvd (Nat.mul_le_mul_left a (Nat.le_of_lt hlt))).1 he
        rw [← Nat.mul_sub] at this
        exact hnd (y - x) (by omega) (hco.dvd_of_dvd_mul_left this)
      rcases Nat.lt_or_gt_of_ne hne with h | h
      · exact key x y hx hy h he
      · exact key y x hy hx h he.symm
    · rw [List.mem_map] at hy
      obtain ⟨x, hx, rfl⟩ := hy
      rw [hL] at hx ⊢
      refine ⟨?_, Nat.mod_lt _ (by omega)⟩
      rcases Nat.eq_zero_or_pos (a * x % r) with h | h
      · exact absurd (hco.dvd_of_dvd_mul_left (Nat.dvd_of_mod_eq_zero h)) (hnd x hx)
      · exact h
  have hp := prod_map (r := r) (a := a) (List.range' 1 (r - 1))
  rw [prodL_perm hperm, List.length_range'] at hp
  have hcp : Nat.Coprime r (prodL (List.range' 1 (r - 1))) := coprime_prod _ fun x hx => prime_coprime hr (hnd x ((hL x).1 hx))
  generalize prodL (List.range' 1 (r - 1)) = P at hp hcp
  have hpos : 1 ≤ a ^ (r - 1) := Nat.pow_pos (by
    rcases Nat.eq_zero_or_pos a with h | h
    · exact absurd (h ▸ Nat.dvd_zero r) ha
    · exact h)
  have hle : 1 * P ≤ a ^ (r - 1) * P := Nat.mul_le_mul_right P hpos
  have hd : r ∣ a ^ (r - 1) * P - 1 * P := (mod_dvd hle).1 (by rw [Nat.one_mul]; exact hp)
  rw [← Nat.sub_mul, Nat.mul_comm] at hd
  have hd2 := hcp.dvd_of_dvd_mul_left hd
  have h4 : 1 % r = a ^ (r - 1) % r := (mod_dvd hpos).2 hd2
  rw [← h4, Nat.mod_eq_of_lt h1]
end Ev
