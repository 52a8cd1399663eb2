/-
  2^255 - 19 is a prime. Conditions: none.
-/
import Derived.Test.YtmbkjhcmbbcphaaN2
namespace Ev
/-- powers by squaring -/
def powm (n a : Nat) : Nat → Nat → Nat
  | 0, _ => 1 % n
  | k + 1, e => let h := powm n a k (e / 2); if e % 2 = 1 then h * h % n * a % n else h * h % n
theorem powm_eq (n a : Nat) : ∀ k e : Nat, e < 2 ^ k → powm n a k e = a ^ e % n
  | 0, e, h => by
    have : e = 0 := by simpa using h
    subst this; rfl
  | k + 1, e, h => by
    have h1 : e / 2 < 2 ^ k := by rw [Nat.pow_succ] at h; omega
    have h2 := Nat.div_add_mod e 2
    unfold powm
    simp only [powm_eq n a k (e / 2) h1]
    have h3 : a ^ (e / 2) % n * (a ^ (e / 2) % n) % n = a ^ (2 * (e / 2)) % n := by
      rw [← Nat.mul_mod, ← Nat.pow_add]; congr 2; omega
    split
    · next h4 =>
      rw [h3, Nat.mul_mod, Nat.mod_mod, ← Nat.mul_mod]
      conv => rhs; rw [← h2, h4, Nat.pow_succ]
    · next h4 =>
      rw [h3]
      conv => rhs; rw [← h2, show e % 2 = 0 by omega, Nat.add_zero]
theorem lucasm {n : Nat} (a : Nat) (qs : List Nat) (hn : 1 < n) (hlt : n - 1 < 2 ^ 256) (hq : ∀ q ∈ qs, isPrime q) (hN : prodL qs = n - 1) (h1 : powm n a 256 (n - 1) = 1) (hg : ∀ q ∈ qs, Nat.gcd (powm n a 256 ((n - 1) / q) + (n - 1)) n = 1) : isPrime n :=
  lucas qs hn hq hN (by rw [← powm_eq n a 256 _ hlt]; exact h1) fun q hq' => by
    rw [← powm_eq n a 256 _ (Nat.lt_of_le_of_lt (Nat.div_le_self _ _) hlt)]; exact hg q hq'
theorem prime_2 : isPrime 2 := ⟨by decide, fun d hd => by
  have := Nat.le_of_dvd (by decide) hd
  have : d ≠ 0 := fun h => by rw [h] at hd; exact absurd (Nat.zero_dvd.1 hd) (by decide)
  omega⟩
theorem prime_3 : isPrime 3 := lucasm 2 [2] (by decide +kernel) (by decide +kernel)
  (fun q hq => by
    simp only [List.mem_cons, List.not_mem_nil, or_false] at hq
    rcases hq with rfl
    · exact prime_2
    ) (by decide +kernel) (by decide +kernel) (by decide +kernel)
theorem prime_5 : isPrime 5 := lucasm 2 [2, 2] (by decide +kernel) (by decide +kernel)
  (fun q hq => by
    simp only [List.mem_cons, List.not_mem_nil, or_false] at hq
    rcases hq with rfl | rfl
    · exact prime_2
    · exact prime_2
    ) (by decide +kernel) (by decide +kernel) (by decide +kernel)
theorem prime_11 : isPrime 11 := lucasm 2 [2, 5] (by decide +kernel) (by decide +kernel)
  (fun q hq => by
    simp only [List.mem_cons, List.not_mem_nil, or_false] at hq
    rcases hq with rfl | rfl
    · exact prime_2
    · exact prime_5
    ) (by decide +kernel) (by decide +kernel) (by decide +kernel)
theorem prime_353 : isPrime 353 := lucasm 3 [2, 2, 2, 2, 2, 11] (by decide +kernel) (by decide +kernel)
  (fun q hq => by
    simp only [List.mem_cons, List.not_mem_nil, or_false] at hq
    rcases hq with rfl | rfl | rfl | rfl | rfl | rfl
    · exact prime_2
    · exact prime_2
    · exact prime_2
    · exact prime_2
    · exact prime_2
    · exact prime_11
    ) (by decide +kernel) (by decide +kernel) (by decide +kernel)
theorem prime_13 : isPrime 13 := lucasm 2 [2, 2, 3] (by decide +kernel) (by decide +kernel)
  (fun q hq => by
    simp only [List.mem_cons, List.not_mem_nil, or_false] at hq
    rcases hq with rfl | rfl | rfl
    · exact prime_2
    · exact prime_2
    · exact prime_3
    ) (by decide +kernel) (by decide +kernel) (by decide +kernel)
theorem prime_97 : isPrime 97 := lucasm 5 [2, 2, 2, 2, 2, 3] (by decide +kernel) (by decide +kernel)
  (fun q hq => by
    simp only [List.mem_cons, List.not_mem_nil, or_false] at hq
    rcases hq with rfl | rfl | rfl | rfl | rfl | rfl
    · exact prime_2
    · exact prime_2
    · exact prime_2
    · exact prime_2
    · exact prime_2
    · exact prime_3
    ) (by decide +kernel) (by decide +kernel) (by decide +kernel)
theorem prime_19 : isPrime 19 := lucasm 2 [2, 3, 3] (by decide +kernel) (by decide +kernel)
  (fun q hq => by
    simp only [List.mem_cons, List.not_mem_nil, or_false] at hq
    rcases hq with rfl | rfl | rfl
    · exact prime_2
    · exact prime_3
    · exact prime_3
    ) (by decide +kernel) (by decide +kernel) (by decide +kernel)
theorem prime_419 : isPrime 419 := lucasm 2 [2, 11, 19] (by decide +kernel) (by decide +kernel)
  (fun q hq => by
    simp only [List.mem_cons, List.not_mem_nil, or_false] at hq
    rcases hq with rfl | rfl | rfl
    · exact prime_2
    · exact prime_11
    · exact prime_19
    ) (by decide +kernel) (by decide +kernel) (by decide +kernel)
theorem prime_7 : isPrime 7 := lucasm 3 [2, 3] (by decide +kernel) (by decide +kernel)
  (fun q hq => by
    simp only [List.mem_cons, List.not_mem_nil, or_false] at hq
    rcases hq with rfl | rfl
    · exact prime_2
    · exact prime_3
    ) (by decide +kernel) (by decide +kernel) (by decide +kernel)
theorem prime_569003 : isPrime 569003 := lucasm 2 [2, 7, 97, 419] (by decide +kernel) (by decide +kernel)
  (fun q hq => by
    simp only [List.mem_cons, List.not_mem_nil, or_false] at hq
    rcases hq with rfl | rfl | rfl | rfl
    · exact prime_2
    · exact prime_7
    · exact prime_97
    · exact prime_419
    ) (by decide +kernel) (by decide +kernel) (by decide +kernel)
theorem prime_29 : isPrime 29 := lucasm 2 [2, 2, 7] (by decide +kernel) (by decide +kernel)
  (fun q hq => by
    simp only [List.mem_cons, List.not_mem_nil, or_false] at hq
    rcases hq with rfl | rfl | rfl
    · exact prime_2
    · exact prime_2
    · exact prime_7
    ) (by decide +kernel) (by decide +kernel) (by decide +kernel)
theorem prime_2437 : isPrime 2437 := lucasm 2 [2, 2, 3, 7, 29] (by decide +kernel) (by decide +kernel)
  (fun q hq => by
    simp only [List.mem_cons, List.not_mem_nil, or_false] at hq
    rcases hq with rfl | rfl | rfl | rfl | rfl
    · exact prime_2
    · exact prime_2
    · exact prime_3
    · exact prime_7
    · exact prime_29
    ) (by decide +kernel) (by decide +kernel) (by decide +kernel)
theorem prime_2773320623 : isPrime 2773320623 := lucasm 5 [2, 2437, 569003] (by decide +kernel) (by decide +kernel)
  (fun q hq => by
    simp only [List.mem_cons, List.not_mem_nil, or_false] at hq
    rcases hq with rfl | rfl | rfl
    · exact prime_2
    · exact prime_2437
    · exact prime_569003
    ) (by decide +kernel) (by decide +kernel) (by decide +kernel)
theorem prime_72106336199 : isPrime 72106336199 := lucasm 7 [2, 13, 2773320623] (by decide +kernel) (by decide +kernel)
  (fun q hq => by
    simp only [List.mem_cons, List.not_mem_nil, or_false] at hq
    rcases hq with rfl | rfl | rfl
    · exact prime_2
    · exact prime_13
    · exact prime_2773320623
    ) (by decide +kernel) (by decide +kernel) (by decide +kernel)
theorem prime_23 : isPrime 23 := lucasm 5 [2, 11] (by decide +kernel) (by decide +kernel)
  (fun q hq => by
    simp only [List.mem_cons, List.not_mem_nil, or_false] at hq
    rcases hq with rfl | rfl
    · exact prime_2
    · exact prime_11
    ) (by decide +kernel) (by decide +kernel) (by decide +kernel)
theorem prime_47 : isPrime 47 := lucasm 5 [2, 23] (by decide +kernel) (by decide +kernel)
  (fun q hq => by
    simp only [List.mem_cons, List.not_mem_nil, or_false] at hq
    rcases hq with rfl | rfl
    · exact prime_2
    · exact prime_23
    ) (by decide +kernel) (by decide +kernel) (by decide +kernel)
theorem prime_17 : isPrime 17 := lucasm 3 [2, 2, 2, 2] (by decide +kernel) (by decide +kernel)
  (fun q hq => by
    simp only [List.mem_cons, List.not_mem_nil, or_false] at hq
    rcases hq with rfl | rfl | rfl | rfl
    · exact prime_2
    · exact prime_2
    · exact prime_2
    · exact prime_2
    ) (by decide +kernel) (by decide +kernel) (by decide +kernel)
theorem prime_103 : isPrime 103 := lucasm 5 [2, 3, 17] (by decide +kernel) (by decide +kernel)
  (fun q hq => by
    simp only [List.mem_cons, List.not_mem_nil, or_false] at hq
    rcases hq with rfl | rfl | rfl
    · exact prime_2
    · exact prime_3
    · exact prime_17
    ) (by decide +kernel) (by decide +kernel) (by decide +kernel)
theorem prime_991 : isPrime 991 := lucasm 6 [2, 3, 3, 5, 11] (by decide +kernel) (by decide +kernel)
  (fun q hq => by
    simp only [List.mem_cons, List.not_mem_nil, or_false] at hq
    rcases hq with rfl | rfl | rfl | rfl | rfl
    · exact prime_2
    · exact prime_3
    · exact prime_3
    · exact prime_5
    · exact prime_11
    ) (by decide +kernel) (by decide +kernel) (by decide +kernel)
theorem prime_8574133 : isPrime 8574133 := lucasm 2 [2, 2, 3, 7, 103, 991] (by decide +kernel) (by decide +kernel)
  (fun q hq => by
    simp only [List.mem_cons, List.not_mem_nil, or_false] at hq
    rcases hq with rfl | rfl | rfl | rfl | rfl | rfl
    · exact prime_2
    · exact prime_2
    · exact prime_3
    · exact prime_7
    · exact prime_103
    · exact prime_991
    ) (by decide +kernel) (by decide +kernel) (by decide +kernel)
theorem prime_127 : isPrime 127 := lucasm 3 [2, 3, 3, 7] (by decide +kernel) (by decide +kernel)
  (fun q hq => by
    simp only [List.mem_cons, List.not_mem_nil, or_false] at hq
    rcases hq with rfl | rfl | rfl | rfl
    · exact prime_2
    · exact prime_3
    · exact prime_3
    · exact prime_7
    ) (by decide +kernel) (by decide +kernel) (by decide +kernel)
theorem prime_1919519569386763 : isPrime 1919519569386763 := lucasm 2 [2, 3, 7, 19, 47, 47, 127, 8574133] (by decide +kernel) (by decide +kernel)
  (fun q hq => by
    simp only [List.mem_cons, List.not_mem_nil, or_false] at hq
    rcases hq with rfl | rfl | rfl | rfl | rfl | rfl | rfl | rfl
    · exact prime_2
    · exact prime_3
    · exact prime_7
    · exact prime_19
    · exact prime_47
    · exact prime_47
    · exact prime_127
    · exact prime_8574133
    ) (by decide +kernel) (by decide +kernel) (by decide +kernel)
theorem prime_41 : isPrime 41 := lucasm 6 [2, 2, 2, 5] (by decide +kernel) (by decide +kernel)
  (fun q hq => by
    simp only [List.mem_cons, List.not_mem_nil, or_false] at hq
    rcases hq with rfl | rfl | rfl | rfl
    · exact prime_2
    · exact prime_2
    · exact prime_2
    · exact prime_5
    ) (by decide +kernel) (by decide +kernel) (by decide +kernel)
theorem prime_83 : isPrime 83 := lucasm 2 [2, 41] (by decide +kernel) (by decide +kernel)
  (fun q hq => by
    simp only [List.mem_cons, List.not_mem_nil, or_false] at hq
    rcases hq with rfl | rfl
    · exact prime_2
    · exact prime_41
    ) (by decide +kernel) (by decide +kernel) (by decide +kernel)
theorem prime_9463 : isPrime 9463 := lucasm 3 [2, 3, 19, 83] (by decide +kernel) (by decide +kernel)
  (fun q hq => by
    simp only [List.mem_cons, List.not_mem_nil, or_false] at hq
    rcases hq with rfl | rfl | rfl | rfl
    · exact prime_2
    · exact prime_3
    · exact prime_19
    · exact prime_83
    ) (by decide +kernel) (by decide +kernel) (by decide +kernel)
theorem prime_37853 : isPrime 37853 := lucasm 2 [2, 2, 9463] (by decide +kernel) (by decide +kernel)
  (fun q hq => by
    simp only [List.mem_cons, List.not_mem_nil, or_false] at hq
    rcases hq with rfl | rfl | rfl
    · exact prime_2
    · exact prime_2
    · exact prime_9463
    ) (by decide +kernel) (by decide +kernel) (by decide +kernel)
theorem prime_75707 : isPrime 75707 := lucasm 2 [2, 37853] (by decide +kernel) (by decide +kernel)
  (fun q hq => by
    simp only [List.mem_cons, List.not_mem_nil, or_false] at hq
    rcases hq with rfl | rfl
    · exact prime_2
    · exact prime_37853
    ) (by decide +kernel) (by decide +kernel) (by decide +kernel)
theorem prime_75445702479781427272750846543864801 : isPrime 75445702479781427272750846543864801 := lucasm 7 [2, 2, 2, 2, 2, 3, 3, 5, 5, 75707, 72106336199, 1919519569386763] (by decide +kernel) (by decide +kernel)
  (fun q hq => by
    simp only [List.mem_cons, List.not_mem_nil, or_false] at hq
    rcases hq with rfl | rfl | rfl | rfl | rfl | rfl | rfl | rfl | rfl | rfl | rfl | rfl
    · exact prime_2
    · exact prime_2
    · exact prime_2
    · exact prime_2
    · exact prime_2
    · exact prime_3
    · exact prime_3
    · exact prime_5
    · exact prime_5
    · exact prime_75707
    · exact prime_72106336199
    · exact prime_1919519569386763
    ) (by decide +kernel) (by decide +kernel) (by decide +kernel)
theorem prime_131 : isPrime 131 := lucasm 2 [2, 5, 13] (by decide +kernel) (by decide +kernel)
  (fun q hq => by
    simp only [List.mem_cons, List.not_mem_nil, or_false] at hq
    rcases hq with rfl | rfl | rfl
    · exact prime_2
    · exact prime_5
    · exact prime_13
    ) (by decide +kernel) (by decide +kernel) (by decide +kernel)
theorem prime_132049 : isPrime 132049 := lucasm 26 [2, 2, 2, 2, 3, 3, 7, 131] (by decide +kernel) (by decide +kernel)
  (fun q hq => by
    simp only [List.mem_cons, List.not_mem_nil, or_false] at hq
    rcases hq with rfl | rfl | rfl | rfl | rfl | rfl | rfl | rfl
    · exact prime_2
    · exact prime_2
    · exact prime_2
    · exact prime_2
    · exact prime_3
    · exact prime_3
    · exact prime_7
    · exact prime_131
    ) (by decide +kernel) (by decide +kernel) (by decide +kernel)
theorem prime_53 : isPrime 53 := lucasm 2 [2, 2, 13] (by decide +kernel) (by decide +kernel)
  (fun q hq => by
    simp only [List.mem_cons, List.not_mem_nil, or_false] at hq
    rcases hq with rfl | rfl | rfl
    · exact prime_2
    · exact prime_2
    · exact prime_13
    ) (by decide +kernel) (by decide +kernel) (by decide +kernel)
theorem prime_107 : isPrime 107 := lucasm 2 [2, 53] (by decide +kernel) (by decide +kernel)
  (fun q hq => by
    simp only [List.mem_cons, List.not_mem_nil, or_false] at hq
    rcases hq with rfl | rfl
    · exact prime_2
    · exact prime_53
    ) (by decide +kernel) (by decide +kernel) (by decide +kernel)
theorem prime_1723 : isPrime 1723 := lucasm 3 [2, 3, 7, 41] (by decide +kernel) (by decide +kernel)
  (fun q hq => by
    simp only [List.mem_cons, List.not_mem_nil, or_false] at hq
    rcases hq with rfl | rfl | rfl | rfl
    · exact prime_2
    · exact prime_3
    · exact prime_7
    · exact prime_41
    ) (by decide +kernel) (by decide +kernel) (by decide +kernel)
theorem prime_430751 : isPrime 430751 := lucasm 17 [2, 5, 5, 5, 1723] (by decide +kernel) (by decide +kernel)
  (fun q hq => by
    simp only [List.mem_cons, List.not_mem_nil, or_false] at hq
    rcases hq with rfl | rfl | rfl | rfl | rfl
    · exact prime_2
    · exact prime_5
    · exact prime_5
    · exact prime_5
    · exact prime_1723
    ) (by decide +kernel) (by decide +kernel) (by decide +kernel)
theorem prime_43 : isPrime 43 := lucasm 3 [2, 3, 7] (by decide +kernel) (by decide +kernel)
  (fun q hq => by
    simp only [List.mem_cons, List.not_mem_nil, or_false] at hq
    rcases hq with rfl | rfl | rfl
    · exact prime_2
    · exact prime_3
    · exact prime_7
    ) (by decide +kernel) (by decide +kernel) (by decide +kernel)
theorem prime_173 : isPrime 173 := lucasm 2 [2, 2, 43] (by decide +kernel) (by decide +kernel)
  (fun q hq => by
    simp only [List.mem_cons, List.not_mem_nil, or_false] at hq
    rcases hq with rfl | rfl | rfl
    · exact prime_2
    · exact prime_2
    · exact prime_43
    ) (by decide +kernel) (by decide +kernel) (by decide +kernel)
theorem prime_4153 : isPrime 4153 := lucasm 5 [2, 2, 2, 3, 173] (by decide +kernel) (by decide +kernel)
  (fun q hq => by
    simp only [List.mem_cons, List.not_mem_nil, or_false] at hq
    rcases hq with rfl | rfl | rfl | rfl | rfl
    · exact prime_2
    · exact prime_2
    · exact prime_2
    · exact prime_3
    · exact prime_173
    ) (by decide +kernel) (by decide +kernel) (by decide +kernel)
theorem prime_31 : isPrime 31 := lucasm 3 [2, 3, 5] (by decide +kernel) (by decide +kernel)
  (fun q hq => by
    simp only [List.mem_cons, List.not_mem_nil, or_false] at hq
    rcases hq with rfl | rfl | rfl
    · exact prime_2
    · exact prime_3
    · exact prime_5
    ) (by decide +kernel) (by decide +kernel) (by decide +kernel)
theorem prime_37 : isPrime 37 := lucasm 2 [2, 2, 3, 3] (by decide +kernel) (by decide +kernel)
  (fun q hq => by
    simp only [List.mem_cons, List.not_mem_nil, or_false] at hq
    rcases hq with rfl | rfl | rfl | rfl
    · exact prime_2
    · exact prime_2
    · exact prime_3
    · exact prime_3
    ) (by decide +kernel) (by decide +kernel) (by decide +kernel)
theorem prime_223 : isPrime 223 := lucasm 3 [2, 3, 37] (by decide +kernel) (by decide +kernel)
  (fun q hq => by
    simp only [List.mem_cons, List.not_mem_nil, or_false] at hq
    rcases hq with rfl | rfl | rfl
    · exact prime_2
    · exact prime_3
    · exact prime_37
    ) (by decide +kernel) (by decide +kernel) (by decide +kernel)
theorem prime_31757755568855353 : isPrime 31757755568855353 := lucasm 10 [2, 2, 2, 3, 31, 107, 223, 4153, 430751] (by decide +kernel) (by decide +kernel)
  (fun q hq => by
    simp only [List.mem_cons, List.not_mem_nil, or_false] at hq
    rcases hq with rfl | rfl | rfl | rfl | rfl | rfl | rfl | rfl | rfl
    · exact prime_2
    · exact prime_2
    · exact prime_2
    · exact prime_3
    · exact prime_31
    · exact prime_107
    · exact prime_223
    · exact prime_4153
    · exact prime_430751
    ) (by decide +kernel) (by decide +kernel) (by decide +kernel)
theorem prime_59 : isPrime 59 := lucasm 2 [2, 29] (by decide +kernel) (by decide +kernel)
  (fun q hq => by
    simp only [List.mem_cons, List.not_mem_nil, or_false] at hq
    rcases hq with rfl | rfl
    · exact prime_2
    · exact prime_29
    ) (by decide +kernel) (by decide +kernel) (by decide +kernel)
theorem prime_487 : isPrime 487 := lucasm 3 [2, 3, 3, 3, 3, 3] (by decide +kernel) (by decide +kernel)
  (fun q hq => by
    simp only [List.mem_cons, List.not_mem_nil, or_false] at hq
    rcases hq with rfl | rfl | rfl | rfl | rfl | rfl
    · exact prime_2
    · exact prime_3
    · exact prime_3
    · exact prime_3
    · exact prime_3
    · exact prime_3
    ) (by decide +kernel) (by decide +kernel) (by decide +kernel)
theorem prime_57467 : isPrime 57467 := lucasm 2 [2, 59, 487] (by decide +kernel) (by decide +kernel)
  (fun q hq => by
    simp only [List.mem_cons, List.not_mem_nil, or_false] at hq
    rcases hq with rfl | rfl | rfl
    · exact prime_2
    · exact prime_59
    · exact prime_487
    ) (by decide +kernel) (by decide +kernel) (by decide +kernel)
theorem prime_3727 : isPrime 3727 := lucasm 3 [2, 3, 3, 3, 3, 23] (by decide +kernel) (by decide +kernel)
  (fun q hq => by
    simp only [List.mem_cons, List.not_mem_nil, or_false] at hq
    rcases hq with rfl | rfl | rfl | rfl | rfl | rfl
    · exact prime_2
    · exact prime_3
    · exact prime_3
    · exact prime_3
    · exact prime_3
    · exact prime_23
    ) (by decide +kernel) (by decide +kernel) (by decide +kernel)
theorem prime_1923133 : isPrime 1923133 := lucasm 2 [2, 2, 3, 43, 3727] (by decide +kernel) (by decide +kernel)
  (fun q hq => by
    simp only [List.mem_cons, List.not_mem_nil, or_false] at hq
    rcases hq with rfl | rfl | rfl | rfl | rfl
    · exact prime_2
    · exact prime_2
    · exact prime_3
    · exact prime_43
    · exact prime_3727
    ) (by decide +kernel) (by decide +kernel) (by decide +kernel)
theorem prime_74058212732561358302231226437062788676166966415465897661863160754340907 : isPrime 74058212732561358302231226437062788676166966415465897661863160754340907 := lucasm 2 [2, 3, 353, 57467, 132049, 1923133, 31757755568855353, 75445702479781427272750846543864801] (by decide +kernel) (by decide +kernel)
  (fun q hq => by
    simp only [List.mem_cons, List.not_mem_nil, or_false] at hq
    rcases hq with rfl | rfl | rfl | rfl | rfl | rfl | rfl | rfl
    · exact prime_2
    · exact prime_3
    · exact prime_353
    · exact prime_57467
    · exact prime_132049
    · exact prime_1923133
    · exact prime_31757755568855353
    · exact prime_75445702479781427272750846543864801
    ) (by decide +kernel) (by decide +kernel) (by decide +kernel)
theorem prime_239 : isPrime 239 := lucasm 7 [2, 7, 17] (by decide +kernel) (by decide +kernel)
  (fun q hq => by
    simp only [List.mem_cons, List.not_mem_nil, or_false] at hq
    rcases hq with rfl | rfl | rfl
    · exact prime_2
    · exact prime_7
    · exact prime_17
    ) (by decide +kernel) (by decide +kernel) (by decide +kernel)
theorem prime_479 : isPrime 479 := lucasm 13 [2, 239] (by decide +kernel) (by decide +kernel)
  (fun q hq => by
    simp only [List.mem_cons, List.not_mem_nil, or_false] at hq
    rcases hq with rfl | rfl
    · exact prime_2
    · exact prime_239
    ) (by decide +kernel) (by decide +kernel) (by decide +kernel)
theorem prime_32573 : isPrime 32573 := lucasm 2 [2, 2, 17, 479] (by decide +kernel) (by decide +kernel)
  (fun q hq => by
    simp only [List.mem_cons, List.not_mem_nil, or_false] at hq
    rcases hq with rfl | rfl | rfl | rfl
    · exact prime_2
    · exact prime_2
    · exact prime_17
    · exact prime_479
    ) (by decide +kernel) (by decide +kernel) (by decide +kernel)
theorem prime_65147 : isPrime 65147 := lucasm 2 [2, 32573] (by decide +kernel) (by decide +kernel)
  (fun q hq => by
    simp only [List.mem_cons, List.not_mem_nil, or_false] at hq
    rcases hq with rfl | rfl
    · exact prime_2
    · exact prime_32573
    ) (by decide +kernel) (by decide +kernel) (by decide +kernel)
theorem prime_57896044618658097711785492504343953926634992332820282019728792003956564819949 : isPrime 57896044618658097711785492504343953926634992332820282019728792003956564819949 := lucasm 2 [2, 2, 3, 65147, 74058212732561358302231226437062788676166966415465897661863160754340907] (by decide +kernel) (by decide +kernel)
  (fun q hq => by
    simp only [List.mem_cons, List.not_mem_nil, or_false] at hq
    rcases hq with rfl | rfl | rfl | rfl | rfl
    · exact prime_2
    · exact prime_2
    · exact prime_3
    · exact prime_65147
    · exact prime_74058212732561358302231226437062788676166966415465897661863160754340907
    ) (by decide +kernel) (by decide +kernel) (by decide +kernel)
end Ev
