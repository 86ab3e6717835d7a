/- Plain facts on the long division: guesses, what is taken away, shifts. No program in sight. -/
import Derived.Test.YtfjdhclpcbgdbaaNatF
namespace Nt
open Go

/-! ### Taking away a multiple, limb by limb -/
theorem take_step {s : List Int} {i : Nat} {bo ca x y f wide t A : Int} (hs : s.length = i) (h : V s - P i * (bo + ca) = A) (hw : wide = y * f + ca) (ht : t = x - wide % 4294967296 - bo) :
    V (s ++ [t % 4294967296]) - P (i + 1) * (-(t / 4294967296) + wide / 4294967296) = A + P i * (x - y * f) := by
  rw [V_snoc, hs, P_succ]
  have e1 : P i * t = P i * (t % 4294967296) + 4294967296 * P i * (t / 4294967296) := by
    rw [Int.mul_comm 4294967296 (P i), Int.mul_assoc, ← Int.mul_add]
    congr 1
    omega
  have e2 : P i * wide = P i * (wide % 4294967296) + 4294967296 * P i * (wide / 4294967296) := by
    rw [Int.mul_comm 4294967296 (P i), Int.mul_assoc, ← Int.mul_add]
    congr 1
    omega
  have e3 : P i * t = P i * x - P i * (wide % 4294967296) - P i * bo := by rw [ht, Int.mul_sub, Int.mul_sub]
  have e4 : P i * wide = P i * (y * f) + P i * ca := by rw [hw, Int.mul_add]
  rw [Int.mul_add, Int.mul_neg, Int.mul_sub]
  rw [Int.mul_add] at h
  omega
theorem take_last {s : List Int} {i : Nat} {bo ca x t A : Int} (hs : s.length = i) (h : V s - P i * (bo + ca) = A) (ht : t = x - ca - bo) :
    V (s ++ [t % 4294967296]) - P (i + 1) * (-(t / 4294967296)) = A + P i * x := by
  rw [V_snoc, hs, P_succ]
  have e1 : P i * t = P i * (t % 4294967296) + 4294967296 * P i * (t / 4294967296) := by
    rw [Int.mul_comm 4294967296 (P i), Int.mul_assoc, ← Int.mul_add]
    congr 1
    omega
  have e3 : P i * t = P i * x - P i * ca - P i * bo := by rw [ht, Int.mul_sub, Int.mul_sub]
  rw [Int.mul_neg]
  rw [Int.mul_add] at h
  omega

/-! ### The guess of a limb -/
/-- The relation of the guess's loop: d is at least q, and what is left of the two limbs is r. -/
theorem guess_first {u1 u0 um v1 v2 q : Int} (hv : 2147483648 ≤ v1) (hu1 : u1 ≤ v1) (h0 : 0 ≤ u0) (h01 : u0 ≤ 4294967295) (hm : um ≤ 4294967295) (hv2 : 0 ≤ v2) (hq0 : 0 ≤ q)
    (hq : q * (v1 * 4294967296 + v2) ≤ u1 * 18446744073709551616 + u0 * 4294967296 + um) :
    q ≤ (u1 * 4294967296 + u0) / v1 ∧ (u1 * 4294967296 + u0) / v1 ≤ 4294967297 := by
  constructor
  · rw [Int.le_ediv_iff_mul_le (by omega)]
    have h1 : 0 ≤ q * v2 := Int.mul_nonneg hq0 hv2
    rw [Int.mul_add, ← Int.mul_assoc] at hq
    omega
  · have : (u1 * 4294967296 + u0) / v1 < 4294967298 := Int.ediv_lt_of_lt_mul (by omega) (by omega)
    omega
/-- Where the test says yes, d is more than q. -/
theorem guess_more {u1 u0 um v1 v2 q d r : Int} (hw : u1 * 4294967296 + u0 = d * v1 + r) (hq1 : q ≤ 4294967295) (hD : 0 < v1 * 4294967296 + v2)
    (hq : q * (v1 * 4294967296 + v2) ≤ u1 * 18446744073709551616 + u0 * 4294967296 + um) (hc : 4294967296 ≤ d ∨ r * 4294967296 + um < d * v2) : q ≤ d - 1 := by
  rcases hc with hc | hc
  · omega
  · have h1 : d * (v1 * 4294967296 + v2) = (d * v1) * 4294967296 + d * v2 := by rw [Int.mul_add, Int.mul_assoc]
    have h2 : q * (v1 * 4294967296 + v2) < d * (v1 * 4294967296 + v2) := by rw [h1]; omega
    have := Int.lt_of_mul_lt_mul_right h2 (by omega)
    omega
/-- Where it says no, d times the two limbs is not too much. -/
theorem guess_end {u1 u0 um v1 v2 d r : Int} (hw : u1 * 4294967296 + u0 = d * v1 + r) (hc : d * v2 ≤ r * 4294967296 + um) :
    d * (v1 * 4294967296 + v2) ≤ u1 * 18446744073709551616 + u0 * 4294967296 + um := by
  have h1 : d * (v1 * 4294967296 + v2) = (d * v1) * 4294967296 + d * v2 := by rw [Int.mul_add, Int.mul_assoc]
  rw [h1]
  omega
/-- Where what is left has more than one limb, the one less is small enough. -/
theorem guess_break {u1 u0 um v1 v2 d r : Int} (hw : u1 * 4294967296 + u0 = d * v1 + r) (hu1 : u1 ≤ v1) (h01 : u0 ≤ 4294967295) (hm0 : 0 ≤ um) (hv2 : 0 ≤ v2) (hv21 : v2 ≤ 4294967295) (hv : 0 < v1) (hd : 1 ≤ d) (hr : 4294967296 ≤ r + v1) :
    d - 1 ≤ 4294967295 ∧ (d - 1) * (v1 * 4294967296 + v2) ≤ u1 * 18446744073709551616 + u0 * 4294967296 + um := by
  have h1 : d ≤ 4294967296 := by
    rcases Int.lt_or_le 4294967296 d with h | h
    · have : 4294967297 * v1 ≤ d * v1 := Int.mul_le_mul_of_nonneg_right (by omega) (by omega)
      omega
    · exact h
  refine ⟨by omega, ?_⟩
  refine guess_end (r := r + v1) (by rw [Int.sub_mul, Int.one_mul]; omega) ?_
  have h2 : (d - 1) * v2 ≤ 4294967295 * 4294967295 := Int.mul_le_mul (by omega) hv21 hv2 (by omega)
  omega

/-! ### What a guess is worth -/
/-- The two highest limbs of n limbs, the three highest of n + 1. -/
theorem V_top2 (l : List Int) (m : Nat) (hl : l.length = m + 2) : V l = V (l.take m) + P m * (Ls.nth l m + Ls.nth l (m + 1) * 4294967296) := by
  rw [V_split l m (by omega), V_drop l m (by omega), V_drop l (m + 1) (by omega), List.drop_of_length_le (by omega), V, Int.mul_zero, Int.add_zero, Int.mul_comm 4294967296]
theorem V_top3 (l : List Int) (m : Nat) (hl : l.length = m + 3) : V l = V (l.take m) + P m * (Ls.nth l m + Ls.nth l (m + 1) * 4294967296 + Ls.nth l (m + 2) * 18446744073709551616) := by
  rw [V_split l m (by omega), V_drop l m (by omega), V_drop l (m + 1) (by omega), V_drop l (m + 2) (by omega), List.drop_of_length_le (by omega), V]
  congr 2
  omega
/-- The true limb is one of which the guess speaks. -/
theorem q_small {U D D2 U3 q : Int} {m : Nat} {lu ld : Int} (hU : U = lu + P m * U3) (hD : D = ld + P m * D2) (hlu : lu < P m) (hld : 0 ≤ ld) (hq0 : 0 ≤ q) (hq : q * D ≤ U) : q * D2 ≤ U3 := by
  have hp := P_pos m
  have h1 : q * (P m * D2) ≤ q * D := Int.mul_le_mul_of_nonneg_left (by omega) hq0
  have h2 : P m * (q * D2) < P m * (U3 + 1) := by
    rw [Int.mul_add, Int.mul_one]
    rw [Int.mul_left_comm] at h1
    omega
  have := Int.lt_of_mul_lt_mul_left h2 (Int.le_of_lt hp)
  omega
/-- A guess that is small enough is one too much at most. -/
theorem q_big {U D D2 U3 d : Int} {m : Nat} {lu ld : Int} (hU : U = lu + P m * U3) (hD : D = ld + P m * D2) (hlu : 0 ≤ lu) (hld : ld < P m) (hd0 : 0 ≤ d) (hd1 : d ≤ 4294967295) (hdd : d * D2 ≤ U3) (hD1 : P m * 4294967296 ≤ D) : (d - 1) * D ≤ U := by
  have hp := P_pos m
  have h1 : P m * (d * D2) ≤ P m * U3 := Int.mul_le_mul_of_nonneg_left hdd (Int.le_of_lt hp)
  have h2 : d * ld ≤ d * P m := Int.mul_le_mul_of_nonneg_left (Int.le_of_lt hld) hd0
  have h3 : d * P m ≤ 4294967295 * P m := Int.mul_le_mul_of_nonneg_right hd1 (Int.le_of_lt hp)
  have h4 : d * D = d * ld + P m * (d * D2) := by rw [hD, Int.mul_add, Int.mul_left_comm d (P m) D2]
  rw [Int.sub_mul, Int.one_mul]
  omega

/-! ### A part of a list: before, middle, behind -/
theorem seg_nth (a b c : List Int) (o k : Nat) (ha : a.length = o) (hk : k < b.length) : Ls.nth (a ++ (b ++ c)) (o + k) = Ls.nth b k := by
  unfold Ls.nth
  rw [List.getD, List.getD, List.getElem?_append_right (by omega), ha, show o + k - o = k from by omega, List.getElem?_append_left hk]
theorem seg_set (a b c : List Int) (o k : Nat) (x : Int) (ha : a.length = o) (hk : k < b.length) : (a ++ (b ++ c)).set (o + k) x = a ++ (b.set k x ++ c) := by
  rw [List.set_append_right _ _ (by omega), ha, show o + k - o = k from by omega, List.set_append_left _ _ hk]
theorem seg_len (a b c : List Int) : (a ++ (b ++ c)).length = a.length + b.length + c.length := by
  rw [List.length_append, List.length_append]; omega
theorem V_seg (a b c : List Int) (o m : Nat) (ha : a.length = o) (hb : b.length = m) : V (a ++ (b ++ c)) = V a + P o * V b + P (o + m) * V c := by
  rw [V_append, V_append, ha, hb, P_add, Int.mul_add, Int.mul_assoc]; omega
theorem over_nth' {s l : List Int} {i : Nat} (hs : s.length = i) : Ls.nth (s ++ l.drop i) i = Ls.nth l i := by
  unfold Ls.nth
  rw [List.getD, List.getD, List.getElem?_append_right (by omega), hs, Nat.sub_self, List.getElem?_drop, Nat.add_zero]
theorem over_set' {s l : List Int} {i : Nat} (v : Int) (hs : s.length = i) (hi : i < l.length) : (s ++ l.drop i).set i v = (s ++ [v]) ++ l.drop (i + 1) := by
  rw [List.set_append_right _ _ (by omega), hs, Nat.sub_self, List.append_assoc]
  congr 1
  rw [List.drop_eq_getElem_cons hi]
  rfl
theorem over_len' {s l : List Int} {i : Nat} (hs : s.length = i) (hi : i ≤ l.length) : (s ++ l.drop i).length = l.length := by
  rw [List.length_append, hs, List.length_drop]; omega
end Nt
