/- Plain facts on numbers for package money: parts rounded down, shares, and bounds. No program in sight. -/
import Derived.IntWalk
import Derived.RowKit
namespace Mny
open Go Go.RowKit

theorem part_eq (c s wh q r : Int) (h : c = wh * q + r) (hw : 0 < wh) : q * s + r * s / wh = c * s / wh ∧ r * s % wh = c * s % wh := by
  subst h
  have e : (wh * q + r) * s = r * s + wh * (q * s) := by rw [Int.add_mul, Int.mul_assoc, Int.add_comm]
  rw [e, Int.add_mul_ediv_left _ _ (by omega), Int.add_mul_emod_self_left]
  exact ⟨by omega, rfl⟩

theorem mul_pos_bd (q s m : Int) (hq : 0 ≤ q) (hs : 0 ≤ s) (hm : s ≤ m) : 0 ≤ q * s ∧ q * s ≤ q * m :=
  ⟨Int.mul_nonneg hq hs, Int.mul_le_mul_of_nonneg_left hm hq⟩

theorem mul_neg_bd (q s m : Int) (hq : q ≤ 0) (hs : 0 ≤ s) (hm : s ≤ m) : q * m ≤ q * s ∧ q * s ≤ 0 := by
  have h := mul_pos_bd (-q) s m (by omega) hs hm
  rw [Int.neg_mul, Int.neg_mul] at h
  omega

theorem w64 (n : Int) (h1 : -9223372036854775808 ≤ n) (h2 : n ≤ 9223372036854775807) : wrap64 n = n := IntWalk.wrap64_in n ⟨h1, h2⟩

/-- The quotient and the remainder as Go has them, and as the floor has them. -/
theorem tdm (c wh : Int) : c = wh * c.tdiv wh + c.tmod wh := (Int.mul_tdiv_add_tmod c wh).symm
theorem tm_lt (c wh : Int) (hw : 0 < wh) : c.tmod wh < wh := Int.tmod_lt_of_pos c hw
theorem lt_tm (c wh : Int) (hw : 0 < wh) : -wh < c.tmod wh := by
  by_cases h : 0 ≤ c
  · have := Int.tmod_nonneg wh h; omega
  · have h1 := Int.neg_tmod (a := -c) (b := wh)
    rw [Int.neg_neg] at h1
    have h2 := Int.tmod_lt_of_pos (-c) hw
    omega

/-- Bounds of a part: q and r are what rounding down gives. -/
theorem part_bd (c s wh q r : Int) (h : c = wh * q + r) (hr : 0 ≤ r) (hr2 : r < wh) (hs : 0 ≤ s) (hsw : s ≤ wh) (hs6 : s ≤ 1000000) (hw : wh ≤ 4096000000) (h1 : -1000000000000000 ≤ c) (h2 : c ≤ 1000000000000000) :
    -1000004096000000 ≤ q ∧ q ≤ 1000000000000000 ∧ -1000004096000000 ≤ q * s ∧ q * s ≤ 1000000000000000 ∧ 0 ≤ r * s ∧ r * s ≤ 4096000000000000 ∧ 0 ≤ r * s / wh ∧ r * s / wh ≤ 4096000000000000 := by
  have hw0 : 0 < wh := by omega
  have hrs := mul_pos_bd r s 1000000 hr hs hs6
  have hd : 0 ≤ r * s / wh := Int.ediv_nonneg hrs.1 (by omega)
  have hd2 : r * s / wh ≤ r * s := Int.ediv_le_self _ hrs.1
  by_cases hq : 0 ≤ q
  · have a := mul_pos_bd q s wh hq hs hsw
    have b := mul_pos_bd q 1 wh hq (by omega) (by omega)
    rw [Int.mul_comm q wh] at a b
    omega
  · have a := mul_neg_bd q s wh (by omega) hs hsw
    have b := mul_neg_bd q 1 wh (by omega) (by omega) (by omega)
    rw [Int.mul_comm q wh] at a b
    omega

/-- What package money's part computes where the remainder is below 0. -/
theorem part_neg (c s wh : Int) (h1 : -1000000000000000 ≤ c) (h2 : c ≤ 1000000000000000) (h3 : 0 ≤ s) (h4 : s ≤ wh) (h5 : s ≤ 1000000) (h6 : 1 ≤ wh) (h7 : wh ≤ 4096000000) (hneg : c.tmod wh < 0) :
    wrap64 (wrap64 (wrap64 (c.tdiv wh - 1) * s) + wrap64 ((wrap64 (wrap64 (c.tmod wh + wh) * s)).tdiv wh)) = c * s / wh ∧ (wrap64 (wrap64 (c.tmod wh + wh) * s)).tmod wh = c * s % wh := by
  have hd := tdm c wh
  have hl := lt_tm c wh (by omega)
  have h : c = wh * (c.tdiv wh - 1) + (c.tmod wh + wh) := by rw [Int.mul_sub]; omega
  obtain ⟨b1, b2, b3, b4, b5, b6, b7, b8⟩ := part_bd c s wh _ _ h (by omega) (by omega) h3 h4 h5 h7 h1 h2
  obtain ⟨e1, e2⟩ := part_eq c s wh _ _ h (by omega)
  rw [w64 (c.tdiv wh - 1) (by omega) (by omega), w64 (c.tmod wh + wh) (by omega) (by omega), w64 ((c.tmod wh + wh) * s) (by omega) (by omega), w64 ((c.tdiv wh - 1) * s) (by omega) (by omega)]
  rw [Int.tdiv_eq_ediv_of_nonneg b5, Int.tmod_eq_emod_of_nonneg b5, w64 ((c.tmod wh + wh) * s / wh) (by omega) (by omega), w64 _ (by omega) (by omega)]
  exact ⟨e1, e2⟩

theorem part_pos (c s wh : Int) (h1 : -1000000000000000 ≤ c) (h2 : c ≤ 1000000000000000) (h3 : 0 ≤ s) (h4 : s ≤ wh) (h5 : s ≤ 1000000) (h6 : 1 ≤ wh) (h7 : wh ≤ 4096000000) (hpos : 0 ≤ c.tmod wh) :
    wrap64 (wrap64 (c.tdiv wh * s) + wrap64 ((wrap64 (c.tmod wh * s)).tdiv wh)) = c * s / wh ∧ (wrap64 (c.tmod wh * s)).tmod wh = c * s % wh := by
  have h := tdm c wh
  have hl := tm_lt c wh (by omega)
  obtain ⟨b1, b2, b3, b4, b5, b6, b7, b8⟩ := part_bd c s wh _ _ h (by omega) (by omega) h3 h4 h5 h7 h1 h2
  obtain ⟨e1, e2⟩ := part_eq c s wh _ _ h (by omega)
  rw [w64 (c.tmod wh * s) (by omega) (by omega), w64 (c.tdiv wh * s) (by omega) (by omega)]
  rw [Int.tdiv_eq_ediv_of_nonneg b5, Int.tmod_eq_emod_of_nonneg b5, w64 (c.tmod wh * s / wh) (by omega) (by omega), w64 _ (by omega) (by omega)]
  exact ⟨e1, e2⟩

/-! ### Shares -/
def sq (c s : Int) : Int := c * s / 10000
def sr (c s : Int) : Int := c * s % 10000
def up2 (c s : Int) : Bool := decide (0 < sr c s)
def up3 (c s : Int) : Bool := decide (10000 < 2 * sr c s) || (2 * sr c s == 10000 && decide (0 < c))
def up4 (c s : Int) : Bool := decide (10000 < 2 * sr c s) || (2 * sr c s == 10000 && (sq c s % 2 != 0))
def one (b : Bool) : Int := if b then 1 else 0
def share (c s k : Int) : Int := sq c s + (if k = 2 then one (up2 c s) else if k = 3 then one (up3 c s) else if k = 4 then one (up4 c s) else 0)

theorem one_bd (b : Bool) : 0 ≤ one b ∧ one b ≤ 1 := by cases b <;> simp [one]
theorem sr_bd (c s : Int) : 0 ≤ sr c s ∧ sr c s < 10000 := by unfold sr; omega
theorem sq_bd (c s : Int) (h1 : -1000000000000000 ≤ c) (h2 : c ≤ 1000000000000000) (h3 : 0 ≤ s) (h4 : s ≤ 10000) : -1000000000000000 ≤ sq c s ∧ sq c s ≤ 1000000000000000 := by
  unfold sq
  by_cases hc : 0 ≤ c
  · have := mul_pos_bd c s 10000 hc h3 h4; omega
  · have := mul_neg_bd c s 10000 (by omega) h3 h4; omega
theorem share_def (c s : Int) : c * s = 10000 * sq c s + sr c s := by unfold sq sr; omega

theorem rest_eq (c s : Int) : sq c (10000 - s) = c - sq c s - one (up2 c s) ∧ sr c (10000 - s) = if 0 < sr c s then 10000 - sr c s else 0 := by
  have e : c * (10000 - s) = 10000 * c - c * s := by rw [Int.mul_sub]; omega
  unfold sq up2 sr one
  rw [e]
  by_cases h : 0 < c * s % 10000
  · simp [h]; omega
  · simp [h]; omega

theorem neg_eq (c s : Int) : sq (-c) s = -sq c s - one (up2 c s) ∧ sr (-c) s = if 0 < sr c s then 10000 - sr c s else 0 := by
  have e : -c * s = -(c * s) := Int.neg_mul c s
  unfold sq up2 sr one
  rw [e]
  by_cases h : 0 < c * s % 10000
  · simp [h]; omega
  · simp [h]; omega

theorem share1 (c s : Int) : share c s 1 = sq c s := by simp [share]
theorem share2 (c s : Int) : share c s 2 = sq c s + one (up2 c s) := by simp [share]
theorem share3 (c s : Int) : share c s 3 = sq c s + one (up3 c s) := by simp [share]
theorem share4 (c s : Int) : share c s 4 = sq c s + one (up4 c s) := by simp [share]

theorem up_zero (c s : Int) (h : sr c s = 0) : up2 c s = false ∧ up3 c s = false ∧ up4 c s = false := by
  simp [up2, up3, up4, h]

theorem share_full (c k : Int) : share c 10000 k = c := by
  have hr : sr c 10000 = 0 := by unfold sr; omega
  have hq : sq c 10000 = c := by unfold sq; omega
  obtain ⟨a, b, d⟩ := up_zero c 10000 hr
  simp [share, a, b, d, one, hq]

theorem share_none (c k : Int) : share c 0 k = 0 := by
  have hr : sr c 0 = 0 := by simp [sr]
  have hq : sq c 0 = 0 := by simp [sq]
  obtain ⟨a, b, d⟩ := up_zero c 0 hr
  simp [share, a, b, d, one, hq]

/-- What MoneyRounds asks. -/
theorem rounds (c s : Int) (hs : 0 ≤ s) : share c s 1 ≤ share c s 2 ∧ share c s 2 ≤ share c s 1 + 1 ∧ (share c s 3 = share c s 1 ∨ share c s 3 = share c s 2) ∧ (share c s 4 = share c s 1 ∨ share c s 4 = share c s 2) ∧
    share c s 1 + share c (10000 - s) 2 = c ∧ (share c s 3 ≠ share c s 4 → share c s 4 % 2 = 0 ∧ share c s 3 ≠ 0 ∧ (share c s 4 < share c s 3 ↔ 0 < c)) := by
  obtain ⟨e1, e2⟩ := rest_eq c s
  have hd := share_def c s
  have hb := sr_bd c s
  have hone : up2 c (10000 - s) = up2 c s := by
    unfold up2
    rw [e2]
    by_cases h : 0 < sr c s
    · simp [h]; omega
    · simp [h]
  rw [share1, share2, share3, share4, share2, e1, hone]
  have key : (up2 c s = true ↔ 0 < sr c s) ∧ (up3 c s = true ↔ 10000 < 2 * sr c s ∨ (2 * sr c s = 10000 ∧ 0 < c)) ∧ (up4 c s = true ↔ 10000 < 2 * sr c s ∨ (2 * sr c s = 10000 ∧ sq c s % 2 ≠ 0)) := by
    simp [up2, up3, up4]
  have hc0 : c = 0 → sr c s = 0 := by intro h; subst h; simp [sr]
  have hpos : 0 < c → 0 ≤ sq c s := by
    intro h1
    have := mul_pos_bd c s s (by omega) hs (Int.le_refl _); omega
  cases h2 : up2 c s <;> cases h3 : up3 c s <;> cases h4 : up4 c s <;> simp only [h2, h3, h4, one, Bool.false_eq_true, false_iff, true_iff, if_true, if_false] at key ⊢ <;>
    refine ⟨by omega, by omega, by first | exact Or.inr trivial | omega, by first | exact Or.inr trivial | omega, by omega, fun hne => ⟨by omega, by omega, by omega⟩⟩

/-- What MoneyTurns asks. -/
theorem turns (c s : Int) : share c s 1 = -share (-c) s 2 ∧ share c s 2 = -share (-c) s 1 ∧ share c s 3 = -share (-c) s 3 ∧ share c s 4 = -share (-c) s 4 := by
  obtain ⟨e1, e2⟩ := neg_eq c s
  have hb := sr_bd c s
  rw [share1, share2, share3, share4, share1, share2, share3, share4]
  have key : (up2 c s = true ↔ 0 < sr c s) ∧ (up3 c s = true ↔ 10000 < 2 * sr c s ∨ (2 * sr c s = 10000 ∧ 0 < c)) ∧ (up4 c s = true ↔ 10000 < 2 * sr c s ∨ (2 * sr c s = 10000 ∧ sq c s % 2 ≠ 0)) := by
    simp [up2, up3, up4]
  have key' : (up2 (-c) s = true ↔ 0 < sr (-c) s) ∧ (up3 (-c) s = true ↔ 10000 < 2 * sr (-c) s ∨ (2 * sr (-c) s = 10000 ∧ 0 < -c)) ∧ (up4 (-c) s = true ↔ 10000 < 2 * sr (-c) s ∨ (2 * sr (-c) s = 10000 ∧ sq (-c) s % 2 ≠ 0)) := by
    simp [up2, up3, up4]
  have hc0 : c = 0 → sr c s = 0 := by intro h; subst h; simp [sr]
  rw [e1, e2] at key'
  rw [e1]
  cases h2 : up2 c s <;> cases h3 : up3 c s <;> cases h4 : up4 c s <;> cases g2 : up2 (-c) s <;> cases g3 : up3 (-c) s <;> cases g4 : up4 (-c) s <;>
    simp only [h2, h3, h4, g2, g3, g4, one, Bool.false_eq_true, false_iff, true_iff, if_true, if_false] at key key' ⊢ <;> split at key' <;> omega

/-- What Share computes, way by way. -/
theorem share_w1 (c s : Int) (h1 : -1000000000000000 ≤ c) (h2 : c ≤ 1000000000000000) (h3 : 0 ≤ s) (h4 : s ≤ 10000) : wrap64 (c * s / 10000) = share c s 1 := by
  have := sq_bd c s h1 h2 h3 h4
  rw [share1]; exact w64 _ (by unfold sq at this; omega) (by unfold sq at this; omega)
theorem share_wb (c s : Int) (b : Bool) (h1 : -1000000000000000 ≤ c) (h2 : c ≤ 1000000000000000) (h3 : 0 ≤ s) (h4 : s ≤ 10000) : wrap64 (c * s / 10000 + one b) = sq c s + one b := by
  have := sq_bd c s h1 h2 h3 h4
  have := one_bd b
  exact w64 _ (by unfold sq at *; omega) (by unfold sq at *; omega)

end Mny
