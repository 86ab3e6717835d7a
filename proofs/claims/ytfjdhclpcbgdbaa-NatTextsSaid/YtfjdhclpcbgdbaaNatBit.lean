/- Plain facts on bits of words of 32: what Sub32 borrows. No program in sight. -/
import Derived.Test.YtfjdhclpcbgdbaaNatV
import Derived.Laws.BitsAllLaws
namespace Nt
open Go

theorem tb31 (v : Nat) (h : v < 4294967296) : v.testBit 31 = decide (2147483648 ≤ v) := by
  rw [Nat.testBit_eq_decide_div_mod_eq, show (2 : Nat) ^ 31 = 2147483648 from by decide]
  rw [Bool.eq_iff_iff]
  simp only [decide_eq_true_eq]
  omega
theorem top_of (v : Nat) (h : v < 4294967296) : v / 2147483648 = if v.testBit 31 then 1 else 0 := by
  rw [tb31 v h]
  by_cases hx : 2147483648 ≤ v
  · rw [if_pos (by simpa using hx)]; omega
  · rw [if_neg (by simpa using hx)]; omega
theorem tb_all : (4294967295 : Nat).testBit 31 = true := by decide
theorem sub_nat (a b c d : Nat) (ha : a < 4294967296) (hb : b < 4294967296) (hc : c ≤ 1) (hd : (d : Int) = ((a : Int) - b - c) % 4294967296) :
    (((((4294967295 ^^^ a) &&& b) ||| ((4294967295 ^^^ (a ^^^ b)) &&& d)) / 2147483648 : Nat) : Int) = -(((a : Int) - b - c) / 4294967296) := by
  have hd2 : d < 4294967296 := by omega
  have h1 : ((4294967295 ^^^ a) &&& b) < 2 ^ 32 := Nat.and_lt_two_pow _ (by omega)
  have h2 : ((4294967295 ^^^ (a ^^^ b)) &&& d) < 2 ^ 32 := Nat.and_lt_two_pow _ (by omega)
  have h3 : (((4294967295 ^^^ a) &&& b) ||| ((4294967295 ^^^ (a ^^^ b)) &&& d)) < 2 ^ 32 := Nat.or_lt_two_pow h1 h2
  rw [top_of _ (by omega)]
  simp only [Nat.testBit_or, Nat.testBit_and, Nat.testBit_xor, tb_all, tb31 a ha, tb31 b hb, tb31 d hd2]
  by_cases e1 : 2147483648 ≤ a <;> by_cases e2 : 2147483648 ≤ b <;> by_cases e3 : 2147483648 ≤ d <;> simp [e1, e2, e3] <;> omega
theorem sub_bit (x y c : Int) (hx0 : 0 ≤ x) (hx1 : x ≤ 4294967295) (hy0 : 0 ≤ y) (hy1 : y ≤ 4294967295) (hc0 : 0 ≤ c) (hc1 : c ≤ 1) (D : Int) (hD : D = (x - y - c) % 4294967296) :
    bits .or .u32 (bits .and .u32 (bits .xor .u32 4294967295 x) y) (bits .and .u32 (bits .xor .u32 4294967295 (bits .xor .u32 x y)) D) / 2147483648 = -((x - y - c) / 4294967296) := by
  obtain ⟨a, rfl⟩ := Int.eq_ofNat_of_zero_le hx0
  obtain ⟨b, rfl⟩ := Int.eq_ofNat_of_zero_le hy0
  obtain ⟨k, rfl⟩ := Int.eq_ofNat_of_zero_le hc0
  obtain ⟨d, hd⟩ := Int.eq_ofNat_of_zero_le (a := D) (by omega)
  have ha : a < 4294967296 := by omega
  have hb : b < 4294967296 := by omega
  have hd2 : d < 4294967296 := by omega
  have g1 : (4294967295 ^^^ a) < 2 ^ 32 := Nat.xor_lt_two_pow (by decide) (by omega)
  have g2 : (a ^^^ b) < 2 ^ 32 := Nat.xor_lt_two_pow (by omega) (by omega)
  have g3 : (4294967295 ^^^ (a ^^^ b)) < 2 ^ 32 := Nat.xor_lt_two_pow (by decide) g2
  have h1 : ((4294967295 ^^^ a) &&& b) < 2 ^ 32 := Nat.and_lt_two_pow _ (by omega)
  have h2 : ((4294967295 ^^^ (a ^^^ b)) &&& d) < 2 ^ 32 := Nat.and_lt_two_pow _ (by omega)
  have e0 : ((4294967295 : Nat) : Int) = 4294967295 := rfl
  rw [hd, ← e0, u32_xor_nat _ _ (by decide) ha, u32_and_nat _ _ (by omega) hb, u32_xor_nat _ _ ha hb, u32_xor_nat _ _ (by decide) (by omega), u32_and_nat _ _ (by omega) hd2, u32_or_nat _ _ (by omega) (by omega)]
  rw [← sub_nat a b k d ha hb (by omega) (by omega)]
  omega
end Nt
