/- Plain facts on the digits of numbers and on the texts of dates and times. No program in sight. -/
import Derived.Lib.ItoaMem
import Derived.Lib.ItoaLen
import Derived.Test.YtjfgfchnpghpfaaDoorCivB
namespace Cv
open Go
theorem bapp (a b : List UInt8) : (⟨a.toArray⟩ : ByteArray) ++ ⟨b.toArray⟩ = ⟨(a ++ b).toArray⟩ := by
  apply ByteArray.ext
  simp
/-- The lowest k digits of a number, the highest one first. -/
def dgs : Nat → Nat → List UInt8
  | 0, _ => []
  | k + 1, n => dgs k (n / 10) ++ [UInt8.ofNat (48 + n % 10)]
theorem dgs_len (k n : Nat) : (dgs k n).length = k := by
  induction k generalizing n with
  | zero => rfl
  | succ k ih => rw [dgs, List.length_append, ih]; rfl
theorem dgs_zero (k : Nat) : dgs k 0 = List.replicate k 48 := by
  induction k with
  | zero => rfl
  | succ k ih => rw [dgs, Nat.zero_div, ih, List.replicate_succ']; rfl
theorem dec_step {u : Nat} (h : 10 ≤ u) : Lib.decDigits u = Lib.decDigits (u / 10) ++ [UInt8.ofNat (48 + u % 10)] := by
  rw [Lib.decDigits, dif_neg (by omega)]
theorem dec_pos (u : Nat) : 0 < (Lib.decDigits u).length := by
  by_cases h : u < 10
  · rw [Lib.decDigits_one h]; simp
  · rw [dec_step (by omega)]; simp
/-- A number's text with zeros ahead, up to a width that holds it. -/
theorem pad_eq (k : Nat) : ∀ n : Nat, n < 10 ^ k → 0 < k → (Lib.decDigits n).length ≤ k ∧ List.replicate (k - (Lib.decDigits n).length) 48 ++ Lib.decDigits n = dgs k n := by
  induction k with
  | zero => intro n _ h; omega
  | succ k ih =>
    intro n hn _
    by_cases h : n < 10
    · rw [Lib.decDigits_one h, dgs, Nat.div_eq_of_lt h, Nat.mod_eq_of_lt h, dgs_zero]
      exact ⟨by simp, by simp⟩
    · have hk : 0 < k := by
        rcases Nat.eq_zero_or_pos k with h0 | h0
        · subst h0; simp at hn; omega
        · exact h0
      rw [Nat.pow_succ] at hn
      have ⟨h1, h2⟩ := ih (n / 10) (by omega) hk
      rw [dec_step (by omega), List.length_append, List.length_singleton, dgs, ← h2]
      refine ⟨by omega, ?_⟩
      rw [show k + 1 - ((Lib.decDigits (n / 10)).length + 1) = k - (Lib.decDigits (n / 10)).length from by omega, List.append_assoc]
theorem pad_mono {n k : Nat} (h : n < 10 ^ k) (hk : 0 < k) (j : Nat) (hl : j + (Lib.decDigits n).length = k) : List.replicate j 48 ++ Lib.decDigits n = dgs k n := by
  have ⟨_, h2⟩ := pad_eq k n h hk
  rwa [show k - (Lib.decDigits n).length = j from by omega] at h2

def isDig (c : UInt8) : Bool := decide (48 ≤ c.toNat ∧ c.toNat ≤ 57)
/-- The value of digits. -/
def dv (l : List UInt8) : Int := l.foldl (fun n c => 10 * n + ((c.toNat : Int) - 48)) 0
/-- What the program makes of a text of digits: -1 if it has other bytes. -/
def dval (l : List UInt8) : Int := if l.all isDig then dv l else -1
theorem dv_snoc (l : List UInt8) (c : UInt8) : dv (l ++ [c]) = 10 * dv l + ((c.toNat : Int) - 48) := by unfold dv; rw [List.foldl_append]; rfl
theorem dig_ofNat (i : Nat) (h : i < 10) : (UInt8.ofNat (48 + i)).toNat = 48 + i := by rw [UInt8.toNat_ofNat']; omega
theorem dgs_dig (k : Nat) : ∀ n, (dgs k n).all isDig = true := by
  induction k with
  | zero => intro n; rfl
  | succ k ih =>
    intro n
    rw [dgs, List.all_append, ih]
    simp only [List.all_cons, List.all_nil, Bool.and_true, Bool.true_and, isDig, dig_ofNat _ (Nat.mod_lt n (by omega : 0 < 10)), decide_eq_true_eq]
    omega
theorem dgs_dv (k : Nat) : ∀ n, n < 10 ^ k → dv (dgs k n) = (n : Int) := by
  induction k with
  | zero => intro n h; have : n = 0 := by simpa using h
            subst this; rfl
  | succ k ih =>
    intro n h
    rw [Nat.pow_succ] at h
    rw [dgs, dv_snoc, ih (n / 10) (by omega), dig_ofNat _ (Nat.mod_lt n (by omega))]
    omega
theorem dgs_dval (k n : Nat) (h : n < 10 ^ k) : dval (dgs k n) = (n : Int) := by unfold dval; rw [dgs_dig, if_pos rfl, dgs_dv k n h]
theorem dv_bd (l : List UInt8) (h : l.all isDig = true) : 0 ≤ dv l ∧ dv l < 10 ^ l.length := by
  have key : ∀ (l : List UInt8) (a : Int), l.all isDig = true → 0 ≤ a → 0 ≤ l.foldl (fun n c => 10 * n + ((c.toNat : Int) - 48)) a ∧ l.foldl (fun n c => 10 * n + ((c.toNat : Int) - 48)) a < (a + 1) * 10 ^ l.length := by
    intro l
    induction l with
    | nil => intro a _ h; simp; omega
    | cons c l ih =>
      intro a hl ha
      simp only [List.all_cons, Bool.and_eq_true] at hl
      have hc := hl.1
      simp only [isDig, decide_eq_true_eq] at hc
      have ⟨h1, h2⟩ := ih (10 * a + ((c.toNat : Int) - 48)) hl.2 (by omega)
      refine ⟨h1, Int.lt_of_lt_of_le h2 ?_⟩
      rw [List.length_cons, Int.pow_succ, Int.mul_comm (10 ^ l.length) 10, ← Int.mul_assoc]
      exact Int.mul_le_mul_of_nonneg_right (by omega) (Int.pow_nonneg (by omega))
  have := key l 0 h (Int.le_refl 0)
  simpa [dv] using this

/-- The text of a date; that of a time. -/
def dateL (y : Nat) (m : Nat) (k : Nat) : List UInt8 := dgs 4 y ++ 45 :: (dgs 2 m ++ 45 :: dgs 2 k)
def timeL (y m k h n : Nat) : List UInt8 := dateL y m k ++ 32 :: (dgs 2 h ++ 58 :: dgs 2 n)
theorem dateL_len (y m k : Nat) : (dateL y m k).length = 10 := by simp [dateL, dgs_len]
theorem timeL_len (y m k h n : Nat) : (timeL y m k h n).length = 16 := by simp [timeL, dateL_len, dgs_len]
end Cv
