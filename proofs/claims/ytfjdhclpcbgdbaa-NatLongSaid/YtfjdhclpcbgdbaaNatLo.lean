/- Plain facts on numbers of one limb behind zeros. No program in sight. -/
import Derived.Test.YtfjdhclpcbgdbaaNatM
namespace Nt
open Go
theorem nth_long {i j : Nat} {t : List Int} (h : j < i) : Ls.nth (Ls.zeros i ++ t) j = 0 := by
  rw [Ls.nth_append_left _ _ _ (by rw [Ls.zeros_len]; exact h)]
  exact nth_zeros _ _
theorem long_R {i : Nat} {t : List Int} (ho : Ok t) (hn : t ≠ []) (hl : Ls.nth t (t.length - 1) ≠ 0) : R (Ls.zeros i ++ t) := by
  refine ⟨(Ok.zeros i).append ho, .inr ?_⟩
  have h1 : 0 < t.length := List.length_pos_iff.2 hn
  rw [List.length_append, Ls.zeros_len, nth_append_right _ _ _ (by rw [Ls.zeros_len]; omega), Ls.zeros_len, show i + t.length - 1 - i = t.length - 1 from by omega]
  exact hl
theorem long_limbs {i : Nat} {t : List Int} (n : Nat) (ho : Ok t) (hn : t ≠ []) (hl : Ls.nth t (t.length - 1) ≠ 0) (hv : P i * V t = (n : Int)) : limbs n = Ls.zeros i ++ t :=
  limbs_of (long_R ho hn hl) (by rw [V_append, V_zeros, Ls.zeros_len, Int.zero_add, hv])
theorem long_num (i : Nat) (X : Int) (h0 : 1 ≤ X) (h1 : X ≤ 4294967295) : ∃ n : Nat, limbs n = Ls.zeros i ++ [X] ∧ (n : Int) = P i * X := by
  have hp := P_pos i
  have h2 : 0 ≤ P i * X := Int.mul_nonneg (Int.le_of_lt hp) (by omega)
  obtain ⟨n, hn⟩ := Int.eq_ofNat_of_zero_le h2
  refine ⟨n, long_limbs n (Ok.one (by omega) h1) (by simp) (by show X ≠ 0; omega) ?_, hn.symm⟩
  rw [← hn]; simp [V]
/-- The product of two such numbers. -/
theorem long_mul {i k a b : Nat} {X Y : Int} (ha : (a : Int) = P i * X) (hb : (b : Int) = P k * Y) (h0 : 1 ≤ X) (h1 : X ≤ 4294967295) (g0 : 1 ≤ Y) (g1 : Y ≤ 4294967295) :
    limbs (a * b) = Ls.zeros (i + k) ++ (if 4294967296 ≤ X * Y then [X * Y % 4294967296, X * Y / 4294967296] else [X * Y]) := by
  have e : P i * X * (P k * Y) = P (i + k) * (X * Y) := by
    rw [P_add, Int.mul_assoc, Int.mul_assoc, Int.mul_left_comm X]
  obtain ⟨m0, m1⟩ := mul_bd (x := X) (y := Y) (by omega) h1 (by omega) g1
  have p1 : 1 ≤ X * Y := by
    have : 1 * 1 ≤ X * Y := Int.mul_le_mul h0 g0 (by omega) (by omega)
    omega
  have hc : ((a * b : Nat) : Int) = P i * X * (P k * Y) := by rw [Int.natCast_mul, ha, hb]
  split
  · refine long_limbs (a * b) (Ok.cons (by omega) (by omega) (Ok.one (by omega) (by omega))) (by simp) ?_ ?_
    · show X * Y / 4294967296 ≠ 0; omega
    · rw [hc, e]; congr 1; simp only [V]; omega
  · refine long_limbs (a * b) (Ok.one (by omega) (by omega)) (by simp) (by show X * Y ≠ 0; omega) ?_
    rw [hc, e]; congr 1; simp only [V]; omega
end Nt
