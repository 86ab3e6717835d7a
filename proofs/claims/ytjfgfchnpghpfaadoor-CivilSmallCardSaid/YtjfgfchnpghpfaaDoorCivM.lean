/- Plain facts on years, months and days: no program in sight. -/
namespace Cv

def leap (y : Int) : Bool := decide (y % 4 = 0) && (decide (y % 100 ≠ 0) || decide (y % 400 = 0))
def lp (y : Int) : Int := if leap y then 1 else 0
/-- The day of Jan 1. -/
def ys (y : Int) : Int := (y - 2001) * 365 + (y - 2001) / 4 - (y - 2001) / 100 + (y - 2001) / 400
theorem lp_bd (y : Int) : 0 ≤ lp y ∧ lp y ≤ 1 := by unfold lp; split <;> omega
theorem ys_step (y : Int) : ys (y + 1) = ys y + 365 + lp y := by
  unfold lp leap ys
  by_cases h4 : y % 4 = 0 <;> by_cases h1 : y % 100 = 0 <;> by_cases h0 : y % 400 = 0 <;> simp [h4, h1, h0] <;> omega
theorem ys_first : ys 2001 = 0 := by decide
theorem ys_last : ys 4001 = 730485 := by decide
theorem ys_mono {a b : Int} (h : a < b) : ys (a + 1) ≤ ys b := by unfold ys; omega
theorem ys_mono' {a b : Int} (h : a ≤ b) : ys a ≤ ys b := by unfold ys; omega
theorem ys_lt {a b : Int} (h : a < b) : ys a < ys b := by unfold ys; omega
theorem ys_lt_of {a b : Int} (h : ys a < ys b) : a < b := by
  rcases Int.lt_or_le a b with h1 | h1
  · exact h1
  · have := ys_mono' h1; omega
theorem ys_turn (y : Int) : ys (y + 400) = ys y + 146097 := by unfold ys; omega
theorem leap_turn (y : Int) : leap (y + 400) = leap y := by
  unfold leap
  rw [show (y + 400) % 4 = y % 4 from by omega, show (y + 400) % 100 = y % 100 from by omega, show (y + 400) % 400 = y % 400 from by omega]
theorem lp_turn (y : Int) : lp (y + 400) = lp y := by unfold lp; rw [leap_turn]
/-- Where a day's year is looked for first. -/
theorem year_bd {d : Int} (h0 : 0 ≤ d) (h1 : d ≤ 730484) : 2001 ≤ 2001 + d * 400 / 146097 ∧ 2001 + d * 400 / 146097 ≤ 4000 := by omega

/-- The days of a year that are ahead of a month, if it is no leap year. -/
def ah : List Int := [0, 31, 59, 90, 120, 151, 181, 212, 243, 273, 304, 334, 365]
def aheadOf (m : Nat) : Int := ah.getD m 0
/-- How many days month m has (1 to 12). -/
def md (l : Bool) (m : Nat) : Int := aheadOf m - aheadOf (m - 1) + (if l && decide (m = 2) then 1 else 0)
/-- The days that are ahead of month m. -/
def cum (l : Bool) (m : Nat) : Int := aheadOf (m - 1) + (if l && decide (2 < m) then 1 else 0)
def Months : List Nat := [1, 2, 3, 4, 5, 6, 7, 8, 9, 10, 11, 12]
theorem mem_months {m : Nat} (h1 : 1 ≤ m) (h2 : m ≤ 12) : m ∈ Months := by
  have : m = 1 ∨ m = 2 ∨ m = 3 ∨ m = 4 ∨ m = 5 ∨ m = 6 ∨ m = 7 ∨ m = 8 ∨ m = 9 ∨ m = 10 ∨ m = 11 ∨ m = 12 := by omega
  rcases this with h | h | h | h | h | h | h | h | h | h | h | h <;> subst h <;> decide
theorem md_all : (∀ m ∈ Months, ∀ l : Bool, 28 ≤ md l m ∧ md l m ≤ 31 ∧ cum l (m + 1) = cum l m + md l m ∧ 0 ≤ cum l m ∧ cum l m + md l m ≤ 365 + (if l then 1 else 0) ∧ 0 ≤ aheadOf m ∧ aheadOf m ≤ 365 ∧ 0 ≤ aheadOf (m - 1) ∧ aheadOf (m - 1) ≤ 334) := by decide
theorem cum_all : (∀ m ∈ Months, ∀ k ∈ Months, ∀ l : Bool, m < k → cum l (m + 1) ≤ cum l k) := by decide
theorem md_bd (l : Bool) {m : Nat} (h1 : 1 ≤ m) (h2 : m ≤ 12) : 28 ≤ md l m ∧ md l m ≤ 31 := ⟨(md_all m (mem_months h1 h2) l).1, (md_all m (mem_months h1 h2) l).2.1⟩
theorem cum_step (l : Bool) {m : Nat} (h1 : 1 ≤ m) (h2 : m ≤ 12) : cum l (m + 1) = cum l m + md l m := (md_all m (mem_months h1 h2) l).2.2.1
theorem cum_bd (l : Bool) {m : Nat} (h1 : 1 ≤ m) (h2 : m ≤ 12) : 0 ≤ cum l m ∧ cum l m + md l m ≤ 365 + (if l then 1 else 0) := ⟨(md_all m (mem_months h1 h2) l).2.2.2.1, (md_all m (mem_months h1 h2) l).2.2.2.2.1⟩
theorem ah_bd {m : Nat} (h1 : 1 ≤ m) (h2 : m ≤ 12) : 0 ≤ aheadOf m ∧ aheadOf m ≤ 365 ∧ 0 ≤ aheadOf (m - 1) ∧ aheadOf (m - 1) ≤ 334 := (md_all m (mem_months h1 h2) true).2.2.2.2.2
theorem cum_one (l : Bool) : cum l 1 = 0 := by cases l <;> rfl
theorem cum_end (y : Int) : cum (leap y) 13 = 365 + lp y := by unfold lp; cases leap y <;> rfl
theorem cum_mono (l : Bool) {m k : Nat} (h1 : 1 ≤ m) (h2 : k ≤ 12) (h : m < k) : cum l (m + 1) ≤ cum l k := cum_all m (mem_months h1 (by omega)) k (mem_months (by omega) h2) l h

/-- d is the day of a date. -/
structure IsDate (d y : Int) (m : Nat) (k : Int) : Prop where
  y0 : 2001 ≤ y
  y1 : y ≤ 4000
  m0 : 1 ≤ m
  m1 : m ≤ 12
  k0 : 1 ≤ k
  k1 : k ≤ md (leap y) m
  day : d = ys y + cum (leap y) m + k - 1
theorem IsDate.year {d y : Int} {m : Nat} {k : Int} (h : IsDate d y m k) : ys y ≤ d ∧ d < ys (y + 1) := by
  have a := cum_bd (leap y) h.m0 h.m1
  have b := ys_step y
  have e := h.day
  have g := h.k1
  have g0 := h.k0
  unfold lp at b
  exact ⟨by omega, by omega⟩
theorem IsDate.bd {d y : Int} {m : Nat} {k : Int} (h : IsDate d y m k) : 0 ≤ d ∧ d ≤ 730484 := by
  have a := h.year
  have b := ys_mono' h.y0
  have c := ys_mono' (show y + 1 ≤ 4001 by have := h.y1; omega)
  rw [ys_first] at b
  rw [ys_last] at c
  omega
theorem IsDate.uniq {d y y' : Int} {m m' : Nat} {k k' : Int} (h : IsDate d y m k) (h' : IsDate d y' m' k') : y = y' ∧ m = m' ∧ k = k' := by
  have a := h.year
  have a' := h'.year
  have ey : y = y' := by
    rcases Int.lt_trichotomy y y' with c | c | c
    · have := ys_mono c; omega
    · exact c
    · have := ys_mono c; omega
  subst ey
  have e := h.day
  have e' := h'.day
  have b := cum_step (leap y) h.m0 h.m1
  have b' := cum_step (leap y) h'.m0 h'.m1
  have g := h.k1
  have g' := h'.k1
  have g0 := h.k0
  have g0' := h'.k0
  have em : m = m' := by
    rcases Nat.lt_trichotomy m m' with c | c | c
    · have := cum_mono (leap y) h.m0 h'.m1 c; omega
    · exact c
    · have := cum_mono (leap y) h'.m0 h.m1 c; omega
  subst em
  exact ⟨rfl, rfl, by omega⟩
/-- The day behind a day. -/
theorem IsDate.next {d y : Int} {m : Nat} {k : Int} (h : IsDate d y m k) (hd : d < 730484) :
    (k + 1 ≤ md (leap y) m ∧ IsDate (d + 1) y m (k + 1)) ∨ (md (leap y) m < k + 1 ∧ m < 12 ∧ IsDate (d + 1) y (m + 1) 1) ∨ (md (leap y) m < k + 1 ∧ m = 12 ∧ IsDate (d + 1) (y + 1) 1 1) := by
  have e := h.day
  have b := cum_step (leap y) h.m0 h.m1
  have g := h.k1
  have g0 := h.k0
  by_cases c : k + 1 ≤ md (leap y) m
  · exact .inl ⟨c, ⟨h.y0, h.y1, h.m0, h.m1, by omega, c, by omega⟩⟩
  · right
    have m1 := h.m1
    by_cases c2 : m < 12
    · left
      have q := md_bd (leap y) (m := m + 1) (by omega) (by omega)
      exact ⟨by omega, c2, ⟨h.y0, h.y1, by omega, by omega, by omega, by omega, by omega⟩⟩
    · right
      have m12 : m = 12 := by omega
      subst m12
      have q := md_bd (leap (y + 1)) (m := 1) (by omega) (by omega)
      have st := ys_step y
      have ce := cum_end y
      have c1 := cum_one (leap (y + 1))
      have b2 : cum (leap y) 13 = cum (leap y) 12 + md (leap y) 12 := b
      have hy1 : ys (y + 1) = d + 1 := by omega
      have y1 : y + 1 ≤ 4000 := by
        rcases Int.lt_or_le 3999 y with z | z
        · have h2 := ys_mono' (show 4001 ≤ y + 1 by omega)
          rw [ys_last] at h2
          omega
        · omega
      exact ⟨by omega, rfl, ⟨by have := h.y0; omega, y1, by omega, by omega, by omega, by omega, by omega⟩⟩
theorem IsDate.turn {d y : Int} {m : Nat} {k : Int} (h : IsDate d y m k) (hd : d ≤ 730484 - 146097) : IsDate (d + 146097) (y + 400) m k := by
  refine ⟨by have := h.y0; omega, ?_, h.m0, h.m1, h.k0, by rw [leap_turn]; exact h.k1, by rw [leap_turn, ys_turn]; have := h.day; omega⟩
  have hy := h.year
  rcases Int.lt_or_le 3600 y with z | z
  · have h1 := ys_mono' (show 3601 ≤ y by omega)
    have h2 : ys 3601 = 730485 - 146097 := by decide
    omega
  · omega
end Cv
