/- What DivMod of the number package returns by two limbs and more: its walk. -/
import Derived.Test.YtfjdhclpcbgdbaaNatKr
import Derived.Test.YtfjdhclpcbgdbaaNatG
import Derived.Deep.RegionWith
import Derived.Deep.DeepCutAuto
namespace Nt
open Go
theorem nth_take (l : List Int) (m j : Nat) (h : j < m) : Ls.nth (l.take m) j = Ls.nth l j := by
  unfold Ls.nth
  rw [List.getD, List.getD, List.getElem?_take, if_pos h]
/-- The highest limb, by which the divisor is shifted. -/
theorem dm_lead {y m : Nat} (hm : (limbs y).length = m) (h1 : 1 ≤ m) : ∃ s : Nat, 1 ≤ Ls.nth (limbs y) (m - 1) ∧ Ls.nth (limbs y) (m - 1) ≤ 4294967295 ∧ (32 - (Lib.bitLen (Ls.nth (limbs y) (m - 1)).toNat : Int)) = (s : Int) ∧ s ≤ 31 ∧
    2147483648 * P (m - 1) ≤ (y : Int) * 2 ^ s ∧ (y : Int) * 2 ^ s < P m := by
  have hb := (limbs_Ok y).nth_any (m - 1)
  have hv : V (limbs y) = V ((limbs y).take (m - 1)) + P (m - 1) * Ls.nth (limbs y) (m - 1) := by
    have e := V_take (limbs y) (m - 1) (by omega)
    rw [V_take_all _ _ (by omega)] at e
    exact e
  have hn : Ls.nth (limbs y) (m - 1) ≠ 0 := by
    rcases (limbs_R y).2 with h | h
    · rw [h] at hm; simp at hm; omega
    · rwa [hm] at h
  have hlow := V_lt ((limbs_Ok y).take (m - 1))
  have hlow0 := V_nonneg ((limbs_Ok y).take (m - 1))
  rw [List.length_take, Nat.min_eq_left (by omega)] at hlow
  generalize Ls.nth (limbs y) (m - 1) = t at hb hn hv ⊢
  obtain ⟨a, rfl⟩ := Int.eq_ofNat_of_zero_le hb.1
  obtain ⟨s, e, hs, h2, h3⟩ := lead a (by omega) (by omega)
  have hp := e_pos s
  have hP := P_pos (m - 1)
  rw [V_limbs] at hv
  have h2' : (2147483648 : Int) ≤ (a : Int) * 2 ^ s := by
    have : ((a * 2 ^ s : Nat) : Int) = (a : Int) * 2 ^ s := by rw [Int.natCast_mul, Int.natCast_pow]; rfl
    omega
  have h3' : (a : Int) * 2 ^ s ≤ 4294967295 := by
    have : ((a * 2 ^ s : Nat) : Int) = (a : Int) * 2 ^ s := by rw [Int.natCast_mul, Int.natCast_pow]; rfl
    omega
  refine ⟨s, by omega, hb.2, by rw [Int.toNat_natCast]; exact e, hs, ?_, ?_⟩
  · have h4 : P (m - 1) * 2147483648 ≤ P (m - 1) * ((a : Int) * 2 ^ s) := Int.mul_le_mul_of_nonneg_left h2' (Int.le_of_lt hP)
    rw [hv, Int.add_mul, Int.mul_assoc]
    have h5 := Int.mul_nonneg hlow0 (Int.le_of_lt hp)
    omega
  · -- (low + P·a)·2^s < P·(a+1)·2^s ≤ P·B
    have hroom : ((a : Int) + 1) * 2 ^ s ≤ 4294967296 := by
      have h6 := low_room (lo := (a : Int) * 2 ^ s) (s := s) (by omega) (by omega) (Int.mul_emod_left _ _)
      rw [Int.add_mul, Int.one_mul]; exact h6
    have h7 : V ((limbs y).take (m - 1)) * 2 ^ s < P (m - 1) * 2 ^ s := Int.mul_lt_mul_of_pos_right hlow hp
    have h8 : P (m - 1) * (((a : Int) + 1) * 2 ^ s) ≤ P (m - 1) * 4294967296 := Int.mul_le_mul_of_nonneg_left hroom (Int.le_of_lt hP)
    have h9 : P m = P (m - 1) * 4294967296 := by rw [Int.mul_comm, ← P_succ, show m - 1 + 1 = m from by omega]
    rw [Int.add_mul, Int.one_mul, Int.mul_add] at h8
    rw [hv, h9, Int.add_mul, Int.mul_assoc]
    omega
/-- The divisor, shifted, needs no limb more. -/
theorem dm_trim {l : List Int} {m : Nat} {D : Int} (hl : l.length = m + 1) (ho : Ok l) (hv : V l = D) (hD : D < P m) : V (l.take m) = D := by
  have h1 := V_take l m (by omega)
  rw [V_take_all l (m + 1) (by omega), hv] at h1
  have hb := ho.nth_any m
  have h2 := V_nonneg (ho.take m)
  have hP := P_pos m
  rcases (show Ls.nth l m = 0 ∨ 1 ≤ Ls.nth l m by omega) with h | h
  · rw [h, Int.mul_zero] at h1; omega
  · have : P m * 1 ≤ P m * Ls.nth l m := Int.mul_le_mul_of_nonneg_left h (Int.le_of_lt hP)
    omega
theorem dm_high {l : List Int} {m : Nat} (hl : l.length = m) (hm : 1 ≤ m) (ho : Ok l) (h : 2147483648 * P (m - 1) ≤ V l) : 2147483648 ≤ Ls.nth l (m - 1) := by
  have e := V_take l (m - 1) (by omega)
  rw [show m - 1 + 1 = m from by omega, V_take_all _ _ (by omega)] at e
  have h4 := V_lt (ho.take (m - 1))
  rw [List.length_take, Nat.min_eq_left (by omega)] at h4
  have h5 : P (m - 1) * 2147483648 < P (m - 1) * (Ls.nth l (m - 1) + 1) := by rw [Int.mul_add, Int.mul_one, Int.mul_comm]; omega
  have := Int.lt_of_mul_lt_mul_left h5 (Int.le_of_lt (P_pos _))
  omega
theorem dm_start {x y n m s : Nat} (hn : (limbs x).length = n) (hm : (limbs y).length = m) (hmn : m ≤ n) (h1 : 1 ≤ m) : (x : Int) * 2 ^ s < ((y : Int) * 2 ^ s) * P (n - m + 1) := by
  have h2 := limbs_lt x
  rw [hn] at h2
  have h3 := limbs_low (n := y) (by intro h; subst h; rw [limbs_zero] at hm; simp at hm; omega)
  rw [hm] at h3
  have h4 : P n = P (m - 1) * P (n - m + 1) := by rw [← P_add, show m - 1 + (n - m + 1) = n from by omega]
  have h5 : P (m - 1) * P (n - m + 1) ≤ (y : Int) * P (n - m + 1) := Int.mul_le_mul_of_nonneg_right h3 (Int.le_of_lt (P_pos _))
  rw [Int.mul_assoc, Int.mul_comm (2 ^ s), ← Int.mul_assoc]
  exact Int.mul_lt_mul_of_pos_right (by omega) (e_pos s)
/-- The true limb, and the guess, at the highest limbs. -/
theorem dm_guess1 {mid bl : List Int} {m : Nat} (hm : 2 ≤ m) (hl1 : mid.length = m + 1) (hl2 : bl.length = m) (o1 : Ok mid) (o2 : Ok bl) (hD : 0 < V bl) :
    (V mid / V bl) * (Ls.nth bl (m - 1) * 4294967296 + Ls.nth bl (m - 2)) ≤ Ls.nth mid m * 18446744073709551616 + Ls.nth mid (m - 1) * 4294967296 + Ls.nth mid (m - 2) := by
  have t3 := V_top3 mid (m - 2) (by omega)
  have t2 := V_top2 bl (m - 2) (by omega)
  rw [show m - 2 + 1 = m - 1 from by omega] at t3 t2
  rw [show m - 2 + 2 = m from by omega] at t3
  have l1 := V_lt (o1.take (m - 2))
  rw [List.length_take, Nat.min_eq_left (by omega)] at l1
  have h0 : 0 ≤ V mid / V bl := Int.ediv_nonneg (V_nonneg o1) (by omega)
  have hq : (V mid / V bl) * V bl ≤ V mid := Int.ediv_mul_le _ (by omega)
  have := q_small t3 t2 l1 (V_nonneg (o2.take (m - 2))) h0 hq
  rw [Int.add_comm (Ls.nth bl (m - 2))] at this
  omega
theorem dm_guess2 {mid bl : List Int} {m : Nat} {d : Int} (hm : 2 ≤ m) (hl1 : mid.length = m + 1) (hl2 : bl.length = m) (o1 : Ok mid) (o2 : Ok bl) (h1 : 1 ≤ Ls.nth bl (m - 1)) (hd0 : 0 ≤ d) (hd1 : d ≤ 4294967295)
    (hd : d * (Ls.nth bl (m - 1) * 4294967296 + Ls.nth bl (m - 2)) ≤ Ls.nth mid m * 18446744073709551616 + Ls.nth mid (m - 1) * 4294967296 + Ls.nth mid (m - 2)) : (d - 1) * V bl ≤ V mid := by
  have t3 := V_top3 mid (m - 2) (by omega)
  have t2 := V_top2 bl (m - 2) (by omega)
  rw [show m - 2 + 1 = m - 1 from by omega] at t3 t2
  rw [show m - 2 + 2 = m from by omega] at t3
  have l2 := V_lt (o2.take (m - 2))
  rw [List.length_take, Nat.min_eq_left (by omega)] at l2
  have l0 := V_nonneg (o2.take (m - 2))
  have hp := P_pos (m - 2)
  have hb := o2.nth_any (m - 2)
  refine q_big t3 t2 (V_nonneg (o1.take (m - 2))) l2 hd0 hd1 ?_ ?_
  · rw [Int.add_comm (Ls.nth bl (m - 2))]
    omega
  · rw [t2]
    have : P (m - 2) * 4294967296 ≤ P (m - 2) * (Ls.nth bl (m - 2) + Ls.nth bl (m - 1) * 4294967296) := Int.mul_le_mul_of_nonneg_left (by omega) (Int.le_of_lt hp)
    omega
end Nt
