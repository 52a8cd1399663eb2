/-
  math/bits.Mul64 and the field's sum of products: what they answer. Conditions: those named.
-/
import Derived.Test.YtmbkjhcmbbcphaaF0
namespace Ev
open Go Go.Proofs
noncomputable section

theorem fn_add64 : FnOK Try.prog 72 (orcS add64S) :=
  add64_fn (fn := Try.f72) (by kernel_rfl) (by kernel_rfl) (by kernel_rfl) (by kernel_rfl) (by kernel_rfl)

theorem okE (l : List (Nat × (List AV → Option AV))) (h : ∀ p ∈ l, FnOK Try.prog p.1 (orcS p.2)) : EnvOK (pEnv l) Try.prog := env_ok okP mixP (orc_list h)
theorem okE0 : EnvOK (pEnv []) Try.prog := okE [] (fun _ h => by cases h)

/-! math/bits.Mul64 -/
def m32 : Int := 4294967295
def mulHi (x y : Int) : Int :=
  uadd (uadd (umul (ushr x 32) (ushr y 32)) (ushr (uadd (umul (ushr x 32) (uand y m32)) (ushr (umul (uand x m32) (uand y m32)) 32)) 32))
    (ushr (uadd (uand (uadd (umul (ushr x 32) (uand y m32)) (ushr (umul (uand x m32) (uand y m32)) 32)) m32) (umul (uand x m32) (ushr y 32))) 32)

theorem mul64_run (x y : Int) : ansR (evCall (pEnv []) 100 (.fn 73) [.int .u64 x, .int .u64 y] ⟨0, .nil⟩) = some (.tup [.int .u64 (mulHi x y), .int .u64 (umul x y)]) := by kernel_rfl

theorem mod32 (x : Nat) : ((x % M64) &&& (4294967295 % M64)) = x % 4294967296 := by
  have h : (4294967295 % M64) = 2 ^ 32 - 1 := by decide
  rw [h, Nat.and_two_pow_sub_one_eq_mod]
  simp only [M64]
  omega
theorem mulHi_nat {x y : Nat} (hx : x < M64) (hy : y < M64) : mulHi (.ofNat x) (.ofNat y) = .ofNat (x * y / M64) := by
  have e : m32 = .ofNat 4294967295 := rfl
  unfold mulHi
  rw [e]
  simp only [uand_nat, mod32, ushr_nat _ 32 (by decide), umul_nat, uadd_nat]
  congr 1
  obtain ⟨x1, x0, rx, hx0, hx1⟩ : ∃ x1 x0, x = x1 * 4294967296 + x0 ∧ x0 < 4294967296 ∧ x1 < 4294967296 := ⟨x / 4294967296, x % 4294967296, by omega, by omega, by simp only [M64] at hx; omega⟩
  obtain ⟨y1, y0, ry, hy0, hy1⟩ : ∃ y1 y0, y = y1 * 4294967296 + y0 ∧ y0 < 4294967296 ∧ y1 < 4294967296 := ⟨y / 4294967296, y % 4294967296, by omega, by omega, by simp only [M64] at hy; omega⟩
  have ex1 : x / 2 ^ 32 = x1 := by rw [rx]; omega
  have ey1 : y / 2 ^ 32 = y1 := by rw [ry]; omega
  have ex0 : x % 4294967296 = x0 := by rw [rx]; omega
  have ey0 : y % 4294967296 = y0 := by rw [ry]; omega
  rw [ex1, ey1, ex0, ey0]
  have b00 : x0 * y0 ≤ 4294967295 * 4294967295 := Nat.mul_le_mul (by omega) (by omega)
  have b10 : x1 * y0 ≤ 4294967295 * 4294967295 := Nat.mul_le_mul (by omega) (by omega)
  have b01 : x0 * y1 ≤ 4294967295 * 4294967295 := Nat.mul_le_mul (by omega) (by omega)
  have b11 : x1 * y1 ≤ 4294967295 * 4294967295 := Nat.mul_le_mul (by omega) (by omega)
  have hp : x * y = x1 * y1 * 18446744073709551616 + (x1 * y0 + x0 * y1) * 4294967296 + x0 * y0 := by
    rw [rx, ry, Nat.add_mul, Nat.mul_add, Nat.mul_add]
    have h1 : x1 * 4294967296 * (y1 * 4294967296) = x1 * y1 * 18446744073709551616 := by
      rw [Nat.mul_assoc, ← Nat.mul_assoc 4294967296 y1, Nat.mul_comm 4294967296 y1, Nat.mul_assoc y1, ← Nat.mul_assoc]
    have h2 : x1 * 4294967296 * y0 = x1 * y0 * 4294967296 := by rw [Nat.mul_assoc, Nat.mul_comm 4294967296, ← Nat.mul_assoc]
    have h3 : x0 * (y1 * 4294967296) = x0 * y1 * 4294967296 := by rw [← Nat.mul_assoc]
    rw [h1, h2, h3]
    omega
  rw [hp]
  generalize x0 * y0 = p00 at *
  generalize x1 * y0 = p10 at *
  generalize x0 * y1 = p01 at *
  generalize x1 * y1 = p11 at *
  simp only [M64]
  omega

def mul64S : List AV → Option AV
  | [.int .u64 (.ofNat x), .int .u64 (.ofNat y)] =>
    Bool.casesOn (motive := fun _ => Option AV) (Nat.blt x M64 && Nat.blt y M64) none (some (.tup [.int .u64 (.ofNat (x * y / M64)), .int .u64 (.ofNat (x * y % M64))]))
  | _ => none
def inU (x : Int) : Prop := 0 ≤ x ∧ x < 18446744073709551616
def mul64P (x y : Int) (K : Int → Int → Prop) : Prop :=
  (inU x ∧ inU y) ∧ ∀ s d : Int, s = .ofNat (x.toNat * y.toNat / M64) → d = .ofNat (x.toNat * y.toNat % M64) → K s d
def mul64W : List AV → AMem → KP → Prop
  | [.int .u64 x, .int .u64 y], m, K => mul64P x y fun s d => K (.tup [.int .u64 s, .int .u64 d]) m
  | _, _, _ => False
theorem inU_nat {x : Int} (h : inU x) : ∃ n : Nat, x = .ofNat n ∧ n < M64 := by
  obtain ⟨X, rfl⟩ := Int.eq_ofNat_of_zero_le h.1
  exact ⟨X, rfl, by have := h.2; simp only [M64]; omega⟩
theorem mul64W_ok {args : List AV} {m : AMem} {K : KP} (h : mul64W args m K) : ∃ r, mul64S args = some r ∧ K r m := by
  unfold mul64W at h
  split at h
  · next x y =>
    obtain ⟨⟨hx, hy⟩, hk⟩ := h
    obtain ⟨X, rfl, hX⟩ := inU_nat hx
    obtain ⟨Y, rfl, hY⟩ := inU_nat hy
    refine ⟨_, ?_, hk _ _ rfl rfl⟩
    show Bool.casesOn (motive := fun _ => Option AV) (Nat.blt X M64 && Nat.blt Y M64) none (some _) = _
    have : (Nat.blt X M64 && Nat.blt Y M64) = true := by rw [Bool.and_eq_true, Nat.blt_eq, Nat.blt_eq]; exact ⟨hX, hY⟩
    rw [this]; rfl
  · cases h
theorem mul64_c : PlainC Try.prog 73 mul64S := by
  refine ⟨fun args r h => ?_, fun args r h => ?_⟩ <;> unfold mul64S at h <;> split at h
  · next x y =>
    cases hb : (Nat.blt x M64 && Nat.blt y M64) with
    | false => rw [hb] at h; cases h
    | true => rw [hb] at h; cases h; exact ⟨rfl, rfl⟩
  · cases h
  · next x y =>
    cases hb : (Nat.blt x M64 && Nat.blt y M64) with
    | false => rw [hb] at h; cases h
    | true =>
      rw [hb] at h; cases h
      rw [Bool.and_eq_true, Nat.blt_eq, Nat.blt_eq] at hb
      have h1 := mul64_run (.ofNat x) (.ofNat y)
      rw [mulHi_nat hb.1 hb.2, umul_nat] at h1
      obtain ⟨m, hm⟩ := ansR_some h1
      exact ⟨_, _, m, okE0, hm⟩
  · cases h

/-! the sum of products -/
def specs1 : List (Nat × (List AV → Option AV)) := [(72, add64S), (73, mul64S)]
theorem specs1_ok : ∀ p ∈ specs1, FnOK Try.prog p.1 (orcS p.2) := by
  intro p hp
  simp only [specs1, List.mem_cons, List.not_mem_nil, or_false] at hp
  rcases hp with rfl | rfl
  · exact fn_add64
  · exact plain_ok mul64_c
def ow1 (f : Nat) : Option (List AV → AMem → KP → Prop) :=
  Bool.casesOn (motive := fun _ => Option (List AV → AMem → KP → Prop)) (Nat.beq f 72) (Bool.casesOn (motive := fun _ => Option (List AV → AMem → KP → Prop)) (Nat.beq f 73) none (some mul64W)) (some add64W)

def plusP (hi lo a b : Int) (K : Int → Int → Prop) : Prop :=
  mul64P a b fun h l => add64P lo l 0 fun l c => add64P hi h c fun h _ => K h l
def longA (h l : Int) : AV := .agg [.int .u64 h, .int .u64 l]
theorem plus_wp (hi lo a b : Int) (K : KP) : (plusP hi lo a b fun h l => ∀ m, K (longA h l) m) = wpCall noEx (pEnv specs1) ow1 100 (.fn 71) [longA hi lo, .int .u64 a, .int .u64 b] ⟨0, .nil⟩ (fun r _ => ∀ m, K r m) := by kernel_rfl
end
end Ev
