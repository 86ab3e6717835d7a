/- Plain laws of a split: it adds up to the amount; each weight gets its part rounded down or one cent more; those with one cent more are ahead. No program in sight. -/
import Derived.Test.YtpobjacfhgnfhaaDoorSplitM
namespace Mny
open Go Go.RowKit

/-- The rest of a part. -/
def rem (c S w : Int) : Int := c * w % S
theorem part_rem (c S w : Int) : c * w / S * S = c * w - rem c S w := by
  have := Int.mul_ediv_add_emod (c * w) S
  unfold rem
  rw [Int.mul_comm (c * w / S) S]; omega
theorem rem_bd (c S w : Int) (hS : 0 < S) : 0 ≤ rem c S w ∧ rem c S w < S := ⟨Int.emod_nonneg _ (by omega), Int.emod_lt_of_pos _ hS⟩
theorem gadd_01 (l : Int) (ws : List Int) (k : Nat) : gadd l ws k = 0 ∨ gadd l ws k = 1 := by unfold gadd; split <;> simp

/-- What the loop of the law computes for one weight. -/
theorem out_diff (c : Int) (ws : List Int) (k : Nat) (h : k < ws.length) :
    Ls.nth (outL c ws) k * Ls.isum ws - c * Ls.nth ws k = gadd (left0 c (Ls.isum ws) ws) ws k * Ls.isum ws - rem c (Ls.isum ws) (Ls.nth ws k) := by
  rw [outL_nth c ws k h, parts_nth _ _ _ _ h, Int.add_mul, part_rem]
  omega
theorem diff_bd (c : Int) (ws : List Int) (k : Nat) (hS : 0 < Ls.isum ws) (h : k < ws.length) :
    -Ls.isum ws < Ls.nth (outL c ws) k * Ls.isum ws - c * Ls.nth ws k ∧ Ls.nth (outL c ws) k * Ls.isum ws - c * Ls.nth ws k ≤ Ls.isum ws ∧
    (0 < Ls.nth (outL c ws) k * Ls.isum ws - c * Ls.nth ws k ↔ gadd (left0 c (Ls.isum ws) ws) ws k = 1) := by
  have hr := rem_bd c (Ls.isum ws) (Ls.nth ws k) hS
  rw [out_diff c ws k h]
  rcases gadd_01 (left0 c (Ls.isum ws) ws) ws k with e | e <;> rw [e]
  · rw [Int.zero_mul]; omega
  · rw [Int.one_mul]; omega
theorem out_zero (c : Int) (ws : List Int) (k : Nat) (h : k < ws.length) (h0 : Ls.nth ws k = 0) : Ls.nth (outL c ws) k = 0 ∧ gleft (left0 c (Ls.isum ws) ws) ws (k + 1) = gleft (left0 c (Ls.isum ws) ws) ws k := by
  obtain ⟨a, b⟩ := out_keep (c := c) h (by rw [h0]; simp)
  refine ⟨?_, b⟩
  rw [a, parts_nth _ _ _ _ h, h0]; simp
theorem gadd_one {l : Int} {ws : List Int} {k : Nat} : gadd l ws k = 1 ↔ 0 < gleft l ws k ∧ Ls.nth ws k ≠ 0 := by
  unfold gadd; split <;> simp_all
theorem gleft_dec (l : Int) (ws : List Int) (k : Nat) : gleft l ws (k + 1) ≤ gleft l ws k := by
  rw [gleft_succ]
  rcases gadd_01 l ws k with e | e <;> omega

/-- How many of the first k weights are not 0. -/
def cnt (ws : List Int) : Nat → Int
  | 0 => 0
  | k + 1 => cnt ws k + if Ls.nth ws k ≠ 0 then 1 else 0
theorem gleft_cnt (l : Int) (ws : List Int) (k : Nat) (hl : 0 ≤ l) : 0 ≤ gleft l ws k ∧ (0 < gleft l ws k → gleft l ws k = l - cnt ws k) := by
  induction k with
  | zero => simp [gleft, cnt]; omega
  | succ k ih =>
    rw [gleft_succ]
    unfold gadd
    simp only [cnt]
    by_cases h0 : Ls.nth ws k ≠ 0
    · by_cases hg : 0 < gleft l ws k
      · rw [if_pos ⟨hg, h0⟩, if_pos h0]; omega
      · rw [if_neg (fun h => hg h.1), if_pos h0]; omega
    · rw [if_neg (fun h => h0 h.2), if_neg h0]; omega

/-- The rests add up to what is left, times the sum. -/
theorem sum_rem (c S : Int) (ws : List Int) (hS : 0 < S) (k : Nat) (hk : k ≤ ws.length) :
    0 ≤ c * Ls.isum (ws.take k) - Ls.isum ((parts c S ws).take k) * S ∧ c * Ls.isum (ws.take k) - Ls.isum ((parts c S ws).take k) * S ≤ cnt ws k * (S - 1) := by
  induction k with
  | zero => simp [Ls.isum, cnt]
  | succ k ih =>
    have ih := ih (by omega)
    have hlt : k < ws.length := by omega
    rw [Ls.isum_take ws k hlt, Ls.isum_take _ k (by rw [parts_len]; exact hlt), parts_nth _ _ _ _ hlt, Int.mul_add, Int.add_mul, part_rem]
    have hr := rem_bd c S (Ls.nth ws k) hS
    simp only [cnt]
    by_cases h0 : Ls.nth ws k ≠ 0
    · rw [if_pos h0, Int.add_mul, Int.one_mul]; omega
    · rw [if_neg h0, Int.add_zero]
      have : Ls.nth ws k = 0 := Classical.byContradiction h0
      have hr0 : rem c S (Ls.nth ws k) = 0 := by rw [this]; simp [rem]
      rw [hr0]; omega
theorem cnt_nonneg (ws : List Int) (k : Nat) : 0 ≤ cnt ws k := by
  induction k with
  | zero => simp [cnt]
  | succ k ih => simp only [cnt]; split <;> omega
theorem left_bd (c : Int) (ws : List Int) (hS : 0 < Ls.isum ws) : 0 ≤ left0 c (Ls.isum ws) ws ∧ left0 c (Ls.isum ws) ws ≤ cnt ws ws.length := by
  have h := sum_rem c (Ls.isum ws) ws hS ws.length (Nat.le_refl _)
  rw [List.take_length, List.take_of_length_le (by rw [parts_len]; exact Nat.le_refl _)] at h
  have e : c * Ls.isum ws - Ls.isum (parts c (Ls.isum ws) ws) * Ls.isum ws = left0 c (Ls.isum ws) ws * Ls.isum ws := by unfold left0; rw [Int.sub_mul]
  rw [e] at h
  have hc := cnt_nonneg ws ws.length
  constructor
  · rcases Int.lt_or_le (left0 c (Ls.isum ws) ws) 0 with hneg | hpos
    · have := Int.mul_neg_of_neg_of_pos hneg hS; omega
    · exact hpos
  · rcases Int.lt_or_le (cnt ws ws.length) (left0 c (Ls.isum ws) ws) with hgt | hle
    · exfalso
      have h1 : cnt ws ws.length * (Ls.isum ws - 1) ≤ cnt ws ws.length * Ls.isum ws := Int.mul_le_mul_of_nonneg_left (by omega) hc
      have h2 : (cnt ws ws.length + 1) * Ls.isum ws ≤ left0 c (Ls.isum ws) ws * Ls.isum ws := Int.mul_le_mul_of_nonneg_right (by omega) (by omega)
      rw [Int.add_mul, Int.one_mul] at h2
      omega
    · exact hle
/-- Nothing is left at the end. -/
theorem gleft_end (c : Int) (ws : List Int) (hS : 0 < Ls.isum ws) : gleft (left0 c (Ls.isum ws) ws) ws ws.length = 0 := by
  obtain ⟨h1, h2⟩ := left_bd c ws hS
  obtain ⟨h3, h4⟩ := gleft_cnt (left0 c (Ls.isum ws) ws) ws ws.length h1
  rcases Int.lt_or_le 0 (gleft (left0 c (Ls.isum ws) ws) ws ws.length) with h | h
  · have := h4 h; omega
  · omega
theorem out_take (c : Int) (ws : List Int) (k : Nat) (hk : k ≤ ws.length) :
    Ls.isum ((outL c ws).take k) = Ls.isum ((parts c (Ls.isum ws) ws).take k) + left0 c (Ls.isum ws) ws - gleft (left0 c (Ls.isum ws) ws) ws k := by
  induction k with
  | zero => simp [Ls.isum, gleft]
  | succ k ih =>
    have hlt : k < ws.length := by omega
    rw [Ls.isum_take _ k (by rw [outL_len]; exact hlt), ih (by omega), outL_nth c ws k hlt, Ls.isum_take _ k (by rw [parts_len]; exact hlt), gleft_succ]
    omega
/-- A split adds up to its amount. -/
theorem out_sum (c : Int) (ws : List Int) (hS : 0 < Ls.isum ws) : Ls.isum (outL c ws) = c := by
  have h := out_take c ws ws.length (Nat.le_refl _)
  rw [gleft_end c ws hS, List.take_of_length_le (by rw [outL_len]; exact Nat.le_refl _), List.take_of_length_le (by rw [parts_len]; exact Nat.le_refl _)] at h
  unfold left0 at h
  omega
theorem out_bd (c : Int) (ws : List Int) (k : Nat) (h1 : -1000000000000000 ≤ c) (h2 : c ≤ 1000000000000000) (hall : ws.all wOk = true) (hS : 0 < Ls.isum ws) (hk : k < ws.length) :
    -1000000000000001 ≤ Ls.nth (outL c ws) k ∧ Ls.nth (outL c ws) k ≤ 1000000000000001 := by
  rw [outL_nth c ws k hk, parts_nth _ _ _ _ hk]
  obtain ⟨a, _, d⟩ := ws_all hall _ (Ls.nth_mem ws k hk)
  have := part1_bd c (Ls.nth ws k) (Ls.isum ws) h1 h2 a d hS
  rcases gadd_01 (left0 c (Ls.isum ws) ws) ws k with e | e <;> omega
theorem out_sum_bd (c : Int) (ws : List Int) (k : Nat) (hk : k ≤ 4096) (h1 : -1000000000000000 ≤ c) (h2 : c ≤ 1000000000000000) (hall : ws.all wOk = true) (hS : 0 < Ls.isum ws) :
    -4097000000000000000 ≤ Ls.isum ((outL c ws).take k) ∧ Ls.isum ((outL c ws).take k) ≤ 4097000000000000000 := by
  have := Ls.isum_take_bd (outL c ws) 1000000000000001 k (by omega) (fun x hx => by
    have hx' := List.mem_of_mem_take hx
    obtain ⟨j, hj, rfl⟩ := List.mem_iff_getElem.1 hx'
    have hj' : j < ws.length := by rw [outL_len] at hj; exact hj
    rw [← Ls.nth_get (outL c ws) j hj]
    exact out_bd c ws j h1 h2 hall hS hj')
  omega

/-- Products modulo 2^64 tell a difference that is in a small range about 0. -/
theorem u64_ex (x : Int) : ∃ q : Int, IntKind.u64.wrap x = x + 18446744073709551616 * q :=
  ⟨-(x / 18446744073709551616), by
    have h : IntKind.u64.wrap x = x % 18446744073709551616 := by simp [IntKind.wrap, IntKind.bits, IntKind.signed]
    rw [h]; omega⟩
theorem mod64 (o S c w d : Int) (h : o * S - c * w = d) (h1 : -9223372036854775808 ≤ d) (h2 : d ≤ 9223372036854775807) :
    wrap64 (IntKind.u64.wrap (IntKind.u64.wrap (IntKind.u64.wrap o * S) - IntKind.u64.wrap (IntKind.u64.wrap c * w))) = d := by
  obtain ⟨q1, e1⟩ := u64_ex o
  obtain ⟨q2, e2⟩ := u64_ex c
  rw [e1, e2]
  obtain ⟨q3, e3⟩ := u64_ex ((o + 18446744073709551616 * q1) * S)
  obtain ⟨q4, e4⟩ := u64_ex ((c + 18446744073709551616 * q2) * w)
  rw [e3, e4]
  obtain ⟨q5, e5⟩ := u64_ex ((o + 18446744073709551616 * q1) * S + 18446744073709551616 * q3 - ((c + 18446744073709551616 * q2) * w + 18446744073709551616 * q4))
  rw [e5, Int.add_mul, Int.add_mul, Int.mul_assoc 18446744073709551616 q1 S, Int.mul_assoc 18446744073709551616 q2 w]
  generalize q1 * S = a at *
  generalize q2 * w = b at *
  have e : o * S + 18446744073709551616 * a + 18446744073709551616 * q3 - (c * w + 18446744073709551616 * b + 18446744073709551616 * q4) + 18446744073709551616 * q5 = d + 18446744073709551616 * (a + q3 - b - q4 + q5) := by omega
  rw [e]
  generalize a + q3 - b - q4 + q5 = q
  unfold wrap64
  omega

end Mny
