/- Each day has a date; its day of the year. No program in sight. -/
import Derived.Test.YtjfgfchnpghpfaaDoorCivI
namespace Cv
theorem between_nat (f : Nat → Int) (d : Int) : ∀ N, f 0 ≤ d → d < f N → ∃ i, i < N ∧ f i ≤ d ∧ d < f (i + 1) := by
  intro N
  induction N with
  | zero => intro h1 h2; omega
  | succ N ih =>
    intro h1 h2
    rcases Int.lt_or_le d (f N) with h | h
    · obtain ⟨i, hi, h3, h4⟩ := ih h1 h
      exact ⟨i, by omega, h3, h4⟩
    · exact ⟨N, by omega, h, h2⟩
theorem date_ex (d : Int) (h0 : 0 ≤ d) (h1 : d ≤ 730484) : ∃ (y : Int) (m : Nat) (k : Int), IsDate d y m k := by
  obtain ⟨i, hi, h2, h3⟩ := between_nat (fun i => ys (2001 + (i : Int))) d 2000 (by show ys (2001 + 0) ≤ d; rw [Int.add_zero, ys_first]; exact h0) (by show d < ys (2001 + 2000); rw [show (2001 : Int) + 2000 = 4001 from rfl, ys_last]; omega)
  have h3' : d < ys (2001 + (i : Int) + 1) := by
    have e : (2001 : Int) + ((i + 1 : Nat) : Int) = 2001 + (i : Int) + 1 := by omega
    rw [← e]; exact h3
  have h2' : ys (2001 + (i : Int)) ≤ d := h2
  generalize hy : (2001 : Int) + (i : Int) = y at h2' h3'
  have st := ys_step y
  have ce := cum_end y
  have c1 := cum_one (leap y)
  obtain ⟨j, hj, h4, h5⟩ := between_nat (fun j => cum (leap y) (j + 1)) (d - ys y) 12 (by show cum (leap y) 1 ≤ _; omega) (by show _ < cum (leap y) 13; omega)
  have h4' : cum (leap y) (j + 1) ≤ d - ys y := h4
  have h5' : d - ys y < cum (leap y) (j + 1 + 1) := h5
  have cs := cum_step (leap y) (m := j + 1) (by omega) (by omega)
  exact ⟨y, j + 1, d - ys y - cum (leap y) (j + 1) + 1, ⟨by omega, by omega, by omega, by omega, by omega, by omega, by omega⟩⟩
end Cv
