/- Plain facts on one round of the long division, and on the shift back. No program in sight. -/
import Derived.Test.YtfjdhclpcbgdbaaNatKq
namespace Nt
open Go

/-- Behind the limbs that a round looks at there is nothing. -/
theorem dm_post {a b c : List Int} {i m : Nat} {D : Int} (ha : a.length = i) (hb : b.length = m + 1) (oa : Ok a) (ob : Ok b) (oc : Ok c) (hD : D < P m) (h : V (a ++ (b ++ c)) < D * P (i + 1)) : V c = 0 := by
  rw [V_seg a b c i (m + 1) ha hb] at h
  have h1 := V_nonneg oa
  have h2 := V_nonneg ob
  have h3 := V_nonneg oc
  have hp := P_pos i
  have hp2 := P_pos (i + 1)
  rcases Int.lt_or_le 0 (V c) with h4 | h4
  · exfalso
    have e : P (i + (m + 1)) = P m * P (i + 1) := by rw [show i + (m + 1) = m + (i + 1) from by omega, P_add]
    have h5 : P (i + (m + 1)) * 1 ≤ P (i + (m + 1)) * V c := Int.mul_le_mul_of_nonneg_left (by omega) (Int.le_of_lt (P_pos _))
    have h6 : 0 ≤ P i * V b := Int.mul_nonneg (Int.le_of_lt hp) h2
    have h7 : D * P (i + 1) ≤ P m * P (i + 1) := Int.mul_le_mul_of_nonneg_right (Int.le_of_lt hD) (Int.le_of_lt hp2)
    omega
  · omega
/-- The limbs that a round looks at are less than the divisor with one limb more. -/
theorem dm_mid {a b c : List Int} {i m : Nat} {D : Int} (ha : a.length = i) (hb : b.length = m + 1) (oa : Ok a) (hc : V c = 0) (h : V (a ++ (b ++ c)) < D * P (i + 1)) : V b < D * 4294967296 := by
  rw [V_seg a b c i (m + 1) ha hb, hc, Int.mul_zero, Int.add_zero, P_succ] at h
  have h1 := V_nonneg oa
  have hp := P_pos i
  have h2 : P i * V b < P i * (D * 4294967296) := by
    rw [show P i * (D * 4294967296) = D * (4294967296 * P i) from by rw [Int.mul_left_comm, Int.mul_comm (P i) 4294967296]]
    omega
  exact Int.lt_of_mul_lt_mul_left h2 (Int.le_of_lt hp)
theorem dm_top {b d : List Int} {m : Nat} (hb : b.length = m + 1) (hd : d.length = m) (hm : 1 ≤ m) (ob : Ok b) (od : Ok d) (h : V b < V d * 4294967296) : Ls.nth b m ≤ Ls.nth d (m - 1) := by
  have h1 : V b = V (b.take m) + P m * Ls.nth b m := by
    have e := V_take b m (by omega)
    rw [V_take_all b _ (by omega)] at e
    exact e
  have h2 : V d = V (d.take (m - 1)) + P (m - 1) * Ls.nth d (m - 1) := by
    have e := V_take d (m - 1) (by omega)
    rw [show m - 1 + 1 = m from by omega, V_take_all d _ (by omega)] at e
    exact e
  have h3 := V_nonneg (ob.take m)
  have h4 := V_lt (od.take (m - 1))
  rw [List.length_take, Nat.min_eq_left (by omega)] at h4
  have hp := P_pos (m - 1)
  have e : P m = 4294967296 * P (m - 1) := by rw [← P_succ, show m - 1 + 1 = m from by omega]
  have h5 : P m * Ls.nth b m < P m * (Ls.nth d (m - 1) + 1) := by
    rw [Int.mul_add, Int.mul_one, e, Int.mul_assoc, Int.mul_assoc]
    rw [e, Int.mul_assoc] at h1
    omega
  have := Int.lt_of_mul_lt_mul_left h5 (Int.le_of_lt (P_pos m))
  omega
/-- After a guess and what was taken away: nothing was borrowed. -/
theorem dm_exact {U D dg Vr : Int} (hD : 0 < D) (hr : Vr = U - D * dg) (h0 : 0 ≤ Vr) (hq : U / D ≤ dg) : dg = U / D ∧ Vr = U % D := by
  have h1 : dg ≤ U / D := by
    rw [Int.le_ediv_iff_mul_le hD, Int.mul_comm]
    omega
  have e : dg = U / D := by omega
  subst e
  exact ⟨rfl, by have := Int.mul_ediv_add_emod U D; omega⟩
/-- Something was borrowed: the guess was one too much. -/
theorem dm_over {U D dg : Int} (hD : 0 < D) (hneg : U - D * dg < 0) (hb : (dg - 1) * D ≤ U) : dg - 1 = U / D := by
  have h1 : dg - 1 ≤ U / D := by rw [Int.le_ediv_iff_mul_le hD]; exact hb
  have h2 : U / D < dg := Int.ediv_lt_of_lt_mul hD (by rw [Int.mul_comm]; omega)
  omega
theorem dm_back {U D dg Vr Vr2 c Pm : Int} (hD : 0 < D) (hr : Vr - Pm = U - D * dg) (hq : dg - 1 = U / D) (h2 : Vr2 + Pm * c = Vr + D) (h1 : Vr2 < Pm) (hc0 : 0 ≤ c) (hc1 : c ≤ 1) : Vr2 = U % D := by
  have e := Int.mul_ediv_add_emod U D
  have m0 := Int.emod_nonneg U (show D ≠ 0 by omega)
  have m1 := Int.emod_lt_of_pos U hD
  rw [← hq, Int.mul_sub, Int.mul_one] at e
  rcases (show c = 0 ∨ c = 1 by omega) with rfl | rfl
  · rw [Int.mul_zero] at h2; omega
  · rw [Int.mul_one] at h2; omega
/-- What a round does to the whole. -/
theorem dm_round {a b r c Q : List Int} {i m : Nat} {D X : Int} (ha : a.length = i) (hb : b.length = m + 1) (hr : r.length = m + 1) (oa : Ok a) (hc : V c = 0) (hD : 0 < D) (hX : V (a ++ (b ++ c)) + D * V Q = X) (hV : V r = V b % D) (hQ : i < Q.length) (hq0 : Ls.nth Q i = 0) :
    V (a ++ (r ++ c)) + D * V (Q.set i (V b / D)) = X ∧ V (a ++ (r ++ c)) < D * P i := by
  rw [V_seg a b c i (m + 1) ha hb, hc, Int.mul_zero, Int.add_zero] at hX
  rw [V_seg a r c i (m + 1) ha hr, hc, Int.mul_zero, Int.add_zero, V_set _ _ _ hQ, hq0, hV, Int.sub_zero]
  have e := Int.mul_ediv_add_emod (V b) D
  have hp := P_pos i
  constructor
  · rw [Int.mul_add, Int.mul_left_comm D (P i)]
    have e2 : P i * V b = P i * (D * (V b / D)) + P i * (V b % D) := by rw [← Int.mul_add, e]
    omega
  · have h1 := V_lt oa
    rw [ha] at h1
    have h2 : P i * (V b % D + 1) ≤ P i * D := Int.mul_le_mul_of_nonneg_left (by have := Int.emod_lt_of_pos (V b) hD; omega) (Int.le_of_lt hp)
    rw [Int.mul_add, Int.mul_one] at h2
    rw [Int.mul_comm D]
    omega
theorem dm_end {L Q : List Int} {D X : Int} (hD : 0 < D) (hX : V L + D * V Q = X) (oL : Ok L) (hL : V L < D * P 0) : V Q = X / D ∧ V L = X % D := by
  have h0 := V_nonneg oL
  simp only [P, Int.mul_one] at hL
  have := (Int.ediv_emod_unique (a := X) (b := D) (r := V L) (q := V Q) hD).2 ⟨by omega, h0, hL⟩
  exact ⟨this.1.symm, this.2.symm⟩
theorem seg_split (L : List Int) (i m : Nat) : L = L.take i ++ ((L.drop i).take m ++ L.drop (i + m)) := by
  have h1 : (L.drop i).take m ++ L.drop (i + m) = L.drop i := by
    rw [show L.drop (i + m) = (L.drop i).drop m from by rw [List.drop_drop]]
    exact List.take_append_drop m (L.drop i)
  rw [h1, List.take_append_drop]

/-! ### The shift back -/
theorem back_limb {x : Int} {s : Nat} (hs : s ≤ 32) : x * 2 ^ (32 - s) % 4294967296 = 2 ^ (32 - s) * (x % 2 ^ s) := by
  have e := e_split s hs
  rw [← e, Int.mul_comm x, Int.mul_comm (2 ^ s), Int.mul_emod_mul_of_pos _ _ (e_pos _)]
theorem back_step {L q : List Int} {i : Nat} {s : Nat} {nw : Int} (hs : s ≤ 32) (hi : i < L.length) (hq : q.length = i) (h : V q + P i * (V (L.drop i) / 2 ^ s) = V L / 2 ^ s)
    (hn : nw = Ls.nth L i / 2 ^ s + 2 ^ (32 - s) * (V (L.drop (i + 1)) % 2 ^ s)) : V (q ++ [nw]) + P (i + 1) * (V (L.drop (i + 1)) / 2 ^ s) = V L / 2 ^ s := by
  rw [V_drop L i hi] at h
  have e := e_split s hs
  have hp := e_pos s
  generalize V (L.drop (i + 1)) = Y at h hn ⊢
  have e1 : (Ls.nth L i + 4294967296 * Y) / 2 ^ s = Ls.nth L i / 2 ^ s + 2 ^ (32 - s) * Y := by
    rw [← e, Int.mul_assoc, Int.add_mul_ediv_left _ _ (by omega)]
  have e2 : 2 ^ (32 - s) * Y = 4294967296 * (Y / 2 ^ s) + 2 ^ (32 - s) * (Y % 2 ^ s) := by
    have e3 := Int.mul_ediv_add_emod Y (2 ^ s)
    have e4 : 2 ^ (32 - s) * Y = 2 ^ (32 - s) * (2 ^ s * (Y / 2 ^ s) + Y % 2 ^ s) := by rw [e3]
    rw [e4, Int.mul_add, ← Int.mul_assoc, Int.mul_comm (2 ^ (32 - s)) (2 ^ s), e]
  rw [e1, e2] at h
  rw [V_snoc, hq, P_succ, hn, ← h, Int.mul_add, Int.mul_add, Int.mul_add, Int.mul_comm 4294967296 (P i), Int.mul_assoc]
  omega
theorem back_mod {L : List Int} {i s : Nat} (hs : s ≤ 32) (hi : i < L.length) : V (L.drop i) % 2 ^ s = Ls.nth L i % 2 ^ s := by
  rw [V_drop L i hi]
  obtain ⟨f, hf⟩ := e_dvd s hs
  rw [hf, Int.mul_assoc, Int.add_mul_emod_self_left]
theorem back_bits {x y : Int} {s : Nat} (hs : s ≤ 31) (hs0 : 0 < s) (x0 : 0 ≤ x) (x1 : x ≤ 4294967295) :
    bits .or .u32 (x / 2 ^ s) (y * 2 ^ (32 - s) % 4294967296) = x / 2 ^ s + 2 ^ (32 - s) * (y % 2 ^ s) := by
  have hp := e_pos s
  have hp2 := e_pos (32 - s)
  have e := e_split s (by omega)
  have h1 : x / 2 ^ s < 2 ^ (32 - s) := Int.ediv_lt_of_lt_mul hp (by rw [Int.mul_comm, e]; omega)
  have h0 : 0 ≤ x / 2 ^ s := Int.ediv_nonneg x0 (by omega)
  have h2 : x / 2 ^ s ≤ x := Int.ediv_le_self _ x0
  have hm : (y * 2 ^ (32 - s) % 4294967296) % 2 ^ (32 - s) = 0 := by
    rw [Int.emod_emod_of_dvd _ (e_dvd (32 - s) (by omega))]
    exact Int.mul_emod_left _ _
  have h3 := or_low (32 - s) (x / 2 ^ s) (y * 2 ^ (32 - s) % 4294967296) h0 h1 (by omega) (by omega) hm (by omega)
  rw [h3, back_limb (by omega)]
theorem back_ok {x y : Int} {s : Nat} (hs : s ≤ 32) (x0 : 0 ≤ x) (x1 : x ≤ 4294967295) : 0 ≤ x / 2 ^ s + 2 ^ (32 - s) * (y % 2 ^ s) ∧ x / 2 ^ s + 2 ^ (32 - s) * (y % 2 ^ s) ≤ 4294967295 := by
  have hp := e_pos s
  have hp2 := e_pos (32 - s)
  have e := e_split s hs
  have h1 : x / 2 ^ s < 2 ^ (32 - s) := Int.ediv_lt_of_lt_mul hp (by rw [Int.mul_comm, e]; omega)
  have h0 : 0 ≤ x / 2 ^ s := Int.ediv_nonneg x0 (by omega)
  have m0 := Int.emod_nonneg y (show (2 : Int) ^ s ≠ 0 by omega)
  have m1 := Int.emod_lt_of_pos y hp
  have h2 : 2 ^ (32 - s) * (y % 2 ^ s + 1) ≤ 2 ^ (32 - s) * 2 ^ s := Int.mul_le_mul_of_nonneg_left (by omega) (by omega)
  have h3 : 0 ≤ 2 ^ (32 - s) * (y % 2 ^ s) := Int.mul_nonneg (by omega) m0
  rw [Int.mul_add, Int.mul_one, Int.mul_comm (2 ^ (32 - s)) (2 ^ s), e] at h2
  omega
/-- Both numbers shifted: the quotient stays, the remainder is shifted. -/
theorem shift_div (x y : Nat) (s : Nat) : ((x : Int) * 2 ^ s) / ((y : Int) * 2 ^ s) = ((x / y : Nat) : Int) ∧ ((x : Int) * 2 ^ s) % ((y : Int) * 2 ^ s) / 2 ^ s = ((x % y : Nat) : Int) := by
  have hp := e_pos s
  rw [Int.mul_comm (x : Int), Int.mul_comm (y : Int), Int.mul_ediv_mul_of_pos _ _ hp, Int.mul_emod_mul_of_pos _ _ hp, Int.mul_ediv_cancel_left _ (by omega)]
  simp
end Nt
