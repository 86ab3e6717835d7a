/- Plain facts on the decimal digits of numbers. No program in sight. -/
import Derived.Test.YtfjdhclpcbgdbaaNatV
import Derived.Lib.ItoaMem
namespace Nt
open Go

/-- The k lowest digits, the highest first. -/
def lowd (n : Nat) : Nat → List Int
  | 0 => []
  | k + 1 => (48 + (n / 10 ^ k % 10 : Nat) : Int) :: lowd n k
theorem lowd_len (n k : Nat) : (lowd n k).length = k := by
  induction k with
  | zero => rfl
  | succ k ih => simp [lowd, ih]
theorem lowd_bd (n k : Nat) : ∀ x ∈ lowd n k, 48 ≤ x ∧ x ≤ 57 := by
  induction k with
  | zero => intro x hx; simp [lowd] at hx
  | succ k ih =>
    intro x hx
    rcases List.mem_cons.1 hx with rfl | hx
    · have := Nat.mod_lt (n / 10 ^ k) (show 0 < 10 by omega)
      omega
    · exact ih x hx
theorem lowd_snoc (n k : Nat) : lowd n (k + 1) = lowd (n / 10) k ++ [(48 + (n % 10 : Nat) : Int)] := by
  induction k with
  | zero => simp [lowd]
  | succ k ih =>
    have e : n / 10 / 10 ^ k = n / 10 ^ (k + 1) := by rw [Nat.div_div_eq_div_mul, Nat.pow_succ, Nat.mul_comm]
    rw [lowd, ih]
    show _ = (48 + (n / 10 / 10 ^ k % 10 : Nat) : Int) :: lowd (n / 10) k ++ _
    rw [e]
    rfl
/-- The bytes of digits. -/
def bytes (l : List Int) : List UInt8 := l.map fun x => UInt8.ofNat x.toNat
theorem dec_step {u : Nat} (h : 10 ≤ u) : Lib.decDigits u = Lib.decDigits (u / 10) ++ [UInt8.ofNat (48 + u % 10)] := by
  rw [Lib.decDigits, dif_neg (by omega)]
/-- Digits without zeros ahead are the number's text. -/
theorem lowd_dec (k : Nat) : ∀ n : Nat, 10 ^ k ≤ n → n < 10 ^ (k + 1) → bytes (lowd n (k + 1)) = Lib.decDigits n := by
  induction k with
  | zero =>
    intro n h1 h2
    rw [Lib.decDigits_one (by simpa using h2)]
    have : n % 10 = n := Nat.mod_eq_of_lt (by simpa using h2)
    have e : (48 + ((n / 10 ^ 0 % 10 : Nat) : Int)).toNat = 48 + n := by rw [Nat.pow_zero, Nat.div_one, this]; omega
    show [UInt8.ofNat (48 + ((n / 10 ^ 0 % 10 : Nat) : Int)).toNat] = _
    rw [e]
  | succ k ih =>
    intro n h1 h2
    rw [Nat.pow_succ] at h1 h2
    have hp : 0 < 10 ^ k := Nat.pow_pos (by omega)
    have h10 : 10 ≤ n := by
      have : 1 * 10 ≤ 10 ^ k * 10 := Nat.mul_le_mul_right 10 hp
      rw [Nat.pow_succ] at h2
      omega
    rw [lowd_snoc, dec_step h10, ← ih (n / 10) (by omega) (by omega)]
    unfold bytes
    rw [List.map_append]
    congr 1
/-- The first digit that is no zero tells how many there are. -/
theorem lowd_top {n k : Nat} (hd : Ls.nth (lowd n (k + 1)) 0 ≠ 48) : 10 ^ k ≤ n := by
  have e : Ls.nth (lowd n (k + 1)) 0 = (48 + (n / 10 ^ k % 10 : Nat) : Int) := rfl
  rw [e] at hd
  rcases Nat.lt_or_ge n (10 ^ k) with h | h
  · rw [Nat.div_eq_of_lt h] at hd; simp at hd
  · exact h
theorem lowd_skip {n k : Nat} (hlt : n < 10 ^ (k + 1)) (hd : Ls.nth (lowd n (k + 1)) 0 = 48) : n < 10 ^ k := by
  have e : Ls.nth (lowd n (k + 1)) 0 = (48 + (n / 10 ^ k % 10 : Nat) : Int) := rfl
  rw [e] at hd
  rw [Nat.pow_succ] at hlt
  have h1 : n / 10 ^ k < 10 := by
    rw [Nat.div_lt_iff_lt_mul (Nat.pow_pos (by omega))]
    omega
  rw [Nat.mod_eq_of_lt h1] at hd
  have h2 : n / 10 ^ k = 0 := by omega
  exact (Nat.div_eq_zero_iff_lt (Nat.pow_pos (by omega))).1 h2
/-- The digit that a chunk of nine gives. -/
theorem chunk_digit (x c t : Nat) (ht : t < 9) : x / 10 ^ (9 * c) % 1000000000 / 10 ^ t % 10 = x / 10 ^ (9 * c + t) % 10 := by
  rw [Nat.pow_add, ← Nat.div_div_eq_div_mul]
  generalize x / 10 ^ (9 * c) = y
  have e : 1000000000 = 10 ^ t * 10 ^ (9 - t) := by rw [← Nat.pow_add, show t + (9 - t) = 9 from by omega]
  rw [e, Nat.mod_mul_right_div_self]
  rw [show 9 - t = (8 - t) + 1 from by omega, Nat.pow_succ, Nat.mul_comm]
  exact Nat.mod_mul_right_mod _ _ _
theorem pow9 (c : Nat) : 10 ^ (9 * (c + 1)) = 10 ^ (9 * c) * 1000000000 := by rw [Nat.mul_add, Nat.pow_add]
theorem big_text (a b k : Nat) (ha : a = 93 * k + 32) (hb : 28 * k + 10 ≤ b) : (2 : Nat) ^ a < 10 ^ b := by
  subst ha
  have h1 : (2 : Nat) ^ 93 ≤ 10 ^ 28 := by decide
  have h2 := Nat.pow_le_pow_left h1 k
  have h3 : (2 : Nat) ^ 32 < 10 ^ 10 := by decide
  rw [← Nat.pow_mul, ← Nat.pow_mul] at h2
  have h4 : (10 : Nat) ^ (28 * k + 10) ≤ 10 ^ b := Nat.pow_le_pow_right (by omega) hb
  rw [Nat.pow_add] at h4 ⊢
  have hp : 0 < (10 : Nat) ^ (28 * k) := Nat.pow_pos (by omega)
  exact Nat.lt_of_lt_of_le (Nat.mul_lt_mul_of_le_of_lt h2 h3 hp) h4
theorem P_pow (k : Nat) : P k = ((2 ^ (32 * k) : Nat) : Int) := by
  induction k with
  | zero => rfl
  | succ k ih =>
    rw [P_succ, ih, Nat.mul_add, Nat.pow_add, Int.natCast_mul, Int.mul_comm]
    rfl
theorem fits_text {x m b : Nat} (h : (limbs x).length ≤ m) (k : Nat) (hk : 32 * m = 93 * k + 32) (hb : 28 * k + 10 ≤ b) : x < 10 ^ b := by
  have h1 := (len_le_iff x m).1 h
  rw [P_pow] at h1
  have h2 : x < 2 ^ (32 * m) := Int.ofNat_lt.1 h1
  exact Nat.lt_trans h2 (big_text _ _ k hk hb)
end Nt
