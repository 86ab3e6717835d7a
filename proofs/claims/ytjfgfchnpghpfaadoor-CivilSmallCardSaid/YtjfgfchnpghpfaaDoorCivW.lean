/- Plain facts on holidays and working days. No program in sight. -/
import Derived.Test.YtjfgfchnpghpfaaDoorCivM
import Derived.Test.YtjfgfchnpghpfaaDoorLists
namespace Cv
/-- Strictly ascending behind a last one, and no day too late. -/
def asc (last : Int) : List Int → Bool
  | [] => true
  | x :: t => decide (last < x) && decide (x ≤ 730484) && asc x t
def rightH (H : List Int) : Bool := decide (H.length ≤ 1000) && asc (-1) H
/-- The working days among the holidays that are ahead of a day, as the program counts them. -/
def bef (day : Int) : List Int → Int
  | [] => 0
  | x :: t => if day ≤ x then 0 else (if x % 7 < 5 then 1 else 0) + bef day t
def cnt (H : List Int) (day : Int) : Int := day / 7 * 5 + min (day % 7) 5 - bef day H
def wk (H : List Int) (d : Int) : Bool := decide (d % 7 < 5) && !(H.contains d)
theorem bef_bd (day : Int) (H : List Int) : 0 ≤ bef day H ∧ bef day H ≤ (H.length : Int) := by
  induction H with
  | nil => simp [bef]
  | cons x t ih =>
    simp only [bef, List.length_cons]
    split
    · omega
    · split <;> omega
theorem asc_mem {last : Int} {H : List Int} (h : asc last H = true) : ∀ x ∈ H, last < x ∧ x ≤ 730484 := by
  induction H generalizing last with
  | nil => intro x hx; simp at hx
  | cons y t ih =>
    simp only [asc, Bool.and_eq_true, decide_eq_true_eq] at h
    intro x hx
    rcases List.mem_cons.1 hx with rfl | hx
    · exact ⟨h.1.1, h.1.2⟩
    · have := ih h.2 x hx
      exact ⟨by omega, this.2⟩
theorem bef_zero {last d : Int} {H : List Int} (h : asc last H = true) (hd : d ≤ last + 1) : bef d H = 0 := by
  cases H with
  | nil => rfl
  | cons x t =>
    simp only [asc, Bool.and_eq_true, decide_eq_true_eq] at h
    simp only [bef]
    rw [if_pos (by omega)]
theorem bef_step {last : Int} {H : List Int} (h : asc last H = true) (d : Int) : bef (d + 1) H = bef d H + (if decide (d % 7 < 5) && H.contains d then 1 else 0) := by
  induction H generalizing last with
  | nil => simp [bef]
  | cons x t ih =>
    simp only [asc, Bool.and_eq_true, decide_eq_true_eq] at h
    obtain ⟨⟨h1, h2⟩, h3⟩ := h
    simp only [bef]
    rcases Int.lt_trichotomy d x with c | c | c
    · have hn : (x :: t).contains d = false := by
        rw [Bool.eq_false_iff]
        intro e
        have hm : d ∈ x :: t := by simpa using e
        rcases List.mem_cons.1 hm with rfl | hm
        · omega
        · have := asc_mem h3 d hm; omega
      rw [if_pos (show d + 1 ≤ x by omega), if_pos (show d ≤ x by omega), hn]
      simp
    · subst c
      rw [if_neg (show ¬ d + 1 ≤ d by omega), if_pos (Int.le_refl d), bef_zero h3 (by omega)]
      simp
    · rw [if_neg (show ¬ d + 1 ≤ x by omega), if_neg (show ¬ d ≤ x by omega), ih h3]
      have hc : (x :: t).contains d = t.contains d := by
        rw [List.contains_cons]
        have : (d == x) = false := by simp; omega
        rw [this, Bool.false_or]
      rw [hc]
      omega
theorem cnt_step {last : Int} {H : List Int} (h : asc last H = true) (d : Int) (_hd : 0 ≤ d) : cnt H (d + 1) = cnt H d + (if wk H d then 1 else 0) := by
  unfold cnt
  rw [bef_step h]
  unfold wk
  have e : (d + 1) / 7 * 5 + min ((d + 1) % 7) 5 = d / 7 * 5 + min (d % 7) 5 + (if d % 7 < 5 then 1 else 0) := by
    split <;> omega
  rw [e]
  by_cases h1 : d % 7 < 5 <;> cases h2 : H.contains d <;> simp [h1] <;> omega
theorem cnt_mono {last : Int} {H : List Int} (h : asc last H = true) {a b : Int} (ha : 0 ≤ a) (hab : a ≤ b) : cnt H a ≤ cnt H b := by
  obtain ⟨n, hn⟩ : ∃ n : Nat, b = a + n := ⟨(b - a).toNat, by omega⟩
  subst hn
  clear hab
  induction n with
  | zero => simp
  | succ n ih =>
    have := cnt_step h (a + n) (by omega)
    rw [show a + ((n + 1 : Nat) : Int) = a + n + 1 from by omega, this]
    split <;> omega
theorem cnt_bd (H : List Int) (hl : H.length ≤ 1000) {d : Int} (h0 : 0 ≤ d) (h1 : d ≤ 730485) : -1000 ≤ cnt H d ∧ cnt H d ≤ 521800 := by
  have := bef_bd d H
  unfold cnt
  omega
theorem drop_cons {H : List Int} {k : Nat} (hk : k < H.length) : H.drop k = Ls.nth H k :: H.drop (k + 1) := by
  rw [List.drop_eq_getElem_cons hk, Ls.nth_get H k hk]
end Cv
