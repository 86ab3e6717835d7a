/- What the small functions of package civil return: Leap, yearStart, aheadOf, monthDays, checkDay, Weekday, Time, Split, workday; Pick and day. Their walks. -/
import Derived.Test.YtjfgfchnpghpfaaDoorProg
import Derived.Test.YtjfgfchnpghpfaaDoorKit2
import Derived.Test.YtjfgfchnpghpfaaDoorCivM
import Derived.Deep.QuietTactic
import Derived.BigQuiet
import Derived.IntWalk
import Derived.Handy
import Derived.OwnWalk
namespace Cv
theorem tmod_zero (y n : Int) (_hn : 0 < n) : (y.tmod n == 0) = decide (y % n = 0) := by
  rw [Bool.eq_iff_iff, beq_iff_eq, decide_eq_true_eq]
  constructor
  · intro h; exact Int.emod_eq_zero_of_dvd (Int.dvd_of_tmod_eq_zero h)
  · intro h; exact Int.tmod_eq_zero_of_dvd (Int.dvd_of_emod_eq_zero h)
theorem tmod_pos (x n : Int) (hn : 1 ≤ n) (h : 0 ≤ x.tmod n) : x.tmod n = x % n := by
  have e := Int.mul_tdiv_add_tmod x n
  have l := Int.tmod_lt_of_pos x (by omega : 0 < n)
  have h1 : x = x.tmod n + n * x.tdiv n := by omega
  have h2 : (x.tmod n + n * x.tdiv n) % n = x.tmod n := by rw [Int.add_mul_emod_self_left]; exact Int.emod_eq_of_lt h l
  rw [← h1] at h2
  exact h2.symm
theorem tmod_neg (x n : Int) (hn : 1 ≤ n) (h : x.tmod n < 0) : x.tmod n + n = x % n := by
  have e := Int.mul_tdiv_add_tmod x n
  have l := Int.lt_tmod_of_pos x (by omega : 0 < n)
  have h1 : x = (x.tmod n + n) + n * (x.tdiv n - 1) := by rw [Int.mul_sub]; omega
  have h2 : ((x.tmod n + n) + n * (x.tdiv n - 1)) % n = x.tmod n + n := by rw [Int.add_mul_emod_self_left]; exact Int.emod_eq_of_lt (by omega) (by omega)
  rw [← h1] at h2
  exact h2.symm
end Cv
namespace Go.Proofs.YtjfgfchnpghpfaaDoor
open Go Go.RowKit

theorem leap_any (y : Int) (w : World) :
    Calls Tryd.prog 11 #[.int .i64 y] w fun e w' => e = .returned (.bool (Cv.leap y)) ∧ w = w' := by
  have e4 := Cv.tmod_zero y 4 (by omega)
  have e100 := Cv.tmod_zero y 100 (by omega)
  have e400 := Cv.tmod_zero y 400 (by omega)
  cases h4 : decide (y % 4 = 0)
  · have E : Hid (Cv.leap y = false) := Lib.hid (by unfold Cv.leap; rw [h4]; rfl)
    rw [h4] at e4
    clear h4 e100 e400
    go_enter Tryd.func11, Tryd.ntmps11
    go_wp2
    go_ret
    exact ⟨Kt.ret_bool E.out.symm, rfl⟩
  · cases h100 : decide (y % 100 = 0)
    · have E : Hid (Cv.leap y = true) := Lib.hid (by unfold Cv.leap; rw [h4]; simp at h100; simp [h100])
      rw [h4] at e4
      rw [h100] at e100
      have n100 : (y.tmod 100 != 0) = true := by rw [bne, e100]; rfl
      clear h4 h100 e400
      go_enter Tryd.func11, Tryd.ntmps11
      go_wp2
      go_ret
      exact ⟨Kt.ret_bool E.out.symm, rfl⟩
    · cases h400 : decide (y % 400 = 0)
      · have E : Hid (Cv.leap y = false) := Lib.hid (by unfold Cv.leap; rw [h4, h400]; simp at h100; simp [h100])
        rw [h4] at e4
        rw [h100] at e100
        rw [h400] at e400
        have n100 : (y.tmod 100 != 0) = false := by rw [bne, e100]; rfl
        clear h4 h100 h400
        go_enter Tryd.func11, Tryd.ntmps11
        go_wp2
        go_ret
        exact ⟨Kt.ret_bool E.out.symm, rfl⟩
      · have E : Hid (Cv.leap y = true) := Lib.hid (by unfold Cv.leap; rw [h4, h400]; simp)
        rw [h4] at e4
        rw [h100] at e100
        rw [h400] at e400
        have n100 : (y.tmod 100 != 0) = false := by rw [bne, e100]; rfl
        clear h4 h100 h400
        go_enter Tryd.func11, Tryd.ntmps11
        go_wp2
        go_ret
        exact ⟨Kt.ret_bool E.out.symm, rfl⟩
theorem ys_any (y : Int) (w : World) (h1 : 2001 ≤ y) (h2 : y ≤ 4001) :
    Calls Tryd.prog 42 #[.int .i64 y] w fun e w' => e = .returned (.int .i64 (Cv.ys y)) ∧ w = w' := by
  go_enter Tryd.func42, Tryd.ntmps42
  go_wp2
  go_ret
  exact ⟨Kt.ret_int (by unfold Cv.ys; omega), rfl⟩
theorem ahead_any (w : World) :
    Calls Tryd.prog 40 #[] w fun e w' => e = .returned (.agg #[.int .i64 0, .int .i64 31, .int .i64 59, .int .i64 90, .int .i64 120, .int .i64 151, .int .i64 181, .int .i64 212, .int .i64 243, .int .i64 273, .int .i64 304, .int .i64 334, .int .i64 365]) ∧ Below w.heap.size w w' := by
  go_enter Tryd.func40, Tryd.ntmps40
  go_wp2
  refine bodyPost_ret (results_cell_row rfl _ _ w.heap.size 63 (Kt.IArr .i64 Cv.ah) (0, 0) _ rfl (heap_alloc_new w _) Tryd.underlying63 rfl (by kernel_rfl)) rfl ?_
  exact ⟨rfl, (Below.refl _ _).alloc (Nat.le_refl _) _⟩
theorem chk_ok (d : Int) (w : World) (h0 : 0 ≤ d) (h1 : d ≤ 730484) : Calls Tryd.prog 45 #[.int .i64 d] w fun e w' => e = .returned (.int .i64 0) ∧ w = w' := by
  go_enter Tryd.func45, Tryd.ntmps45
  go_wp2
  go_ret
  exact ⟨rfl, rfl⟩
theorem chk_low (d : Int) (w : World) (h0 : d < 0) : Calls Tryd.prog 45 #[.int .i64 d] w fun e w' => e = .returned (.int .i64 2) ∧ w = w' := by
  go_enter Tryd.func45, Tryd.ntmps45
  go_wp2
  go_ret
  exact ⟨rfl, rfl⟩
theorem chk_high (d : Int) (w : World) (h1 : 730484 < d) : Calls Tryd.prog 45 #[.int .i64 d] w fun e w' => e = .returned (.int .i64 3) ∧ w = w' := by
  go_enter Tryd.func45, Tryd.ntmps45
  go_wp2
  go_ret
  exact ⟨rfl, rfl⟩
theorem md_any (b : Nat) (m : Nat) (l : Bool) (w : World) (h1 : 1 ≤ m) (h2 : m ≤ 12) (T : TypeId) (hb : Kt.IBlk w b T .i64 Cv.ah) :
    Calls Tryd.prog 41 #[.pointer (some ⟨b, 0, none⟩), .int .i64 m, .bool l] w fun e w' => e = .returned (.int .i64 (Cv.md l m)) ∧ ∃ k, w' = w.drewN k := by
  have c1 := hb.cell m (by show m < 13; omega)
  have c2 := hb.cell (m - 1) (by show m - 1 < 13; omega)
  obtain ⟨p, hp⟩ : ∃ p, Hid (Ls.nth Cv.ah m = p) := ⟨_, Lib.hid rfl⟩
  obtain ⟨q, hq⟩ : ∃ q, Hid (Ls.nth Cv.ah (m - 1) = q) := ⟨_, Lib.hid rfl⟩
  have hbd := Cv.ah_bd h1 h2
  have e1 : Cv.aheadOf m = p := hp.out
  have e2 : Cv.aheadOf (m - 1) = q := hq.out
  rw [e1, e2] at hbd
  obtain ⟨b1, b2, b3, b4⟩ := hbd
  have HE : Hid (Cv.md l m = p - q + (if l && decide (m = 2) then 1 else 0)) := Lib.hid (by unfold Cv.md; rw [e1, e2])
  rw [hp.out] at c1
  rw [hq.out] at c2
  have w1 : IntKind.i64.wrap (p - q) = p - q := IntWalk.i64_in _ (by omega)
  have w2 : IntKind.i64.wrap ((m : Int) - 1) = (m : Int) - 1 := IntWalk.i64_in _ (by omega)
  have w3 : ((m : Int) - 1).toNat = m - 1 := by omega
  have w4 : 0 ≤ (m : Int) - 1 := by omega
  clear e1 e2 hb
  cases l
  · go_enter Tryd.func41, Tryd.ntmps41
    go_wp2
    go_quiet (fail)
    go_wp2
    go_ret
    exact ⟨Kt.ret_int (by rw [HE.out]; simp), _, rfl⟩
  · by_cases hm : m = 2
    · have hm2 : ((m : Int) == 2) = true := by simp [hm]
      have HM := Lib.hid hm
      clear hm
      go_enter Tryd.func41, Tryd.ntmps41
      go_wp2
      go_quiet (fail)
      go_wp2
      go_ret
      exact ⟨Kt.ret_int (by rw [HE.out]; simp [HM.out]), _, rfl⟩
    · have hm2 : ((m : Int) == 2) = false := by simp; omega
      have HM := Lib.hid hm
      clear hm
      go_enter Tryd.func41, Tryd.ntmps41
      go_wp2
      go_quiet (fail)
      go_wp2
      go_ret
      exact ⟨Kt.ret_int (by rw [HE.out]; simp [HM.out]), _, rfl⟩
theorem work_any (d : Int) (w : World) (h0 : 0 ≤ d) : Calls Tryd.prog 61 #[.int .i64 d] w fun e w' => e = .returned (.bool (decide (d % 7 < 5))) ∧ w = w' := by
  go_enter Tryd.func61, Tryd.ntmps61
  go_wp2
  go_ret
  exact ⟨rfl, rfl⟩
theorem week_ok (d : Int) (w : World) (h0 : 0 ≤ d) (h1 : d ≤ 730484) : Calls Tryd.prog 16 #[.int .i64 d] w fun e w' => e = .returned (.tuple #[.int .i64 (d % 7), .int .i64 0]) ∧ w = w' := by
  go_enter Tryd.func16, Tryd.ntmps16
  go_wp2_with fail
  refine (chk_ok d _ h0 h1).mono ?_
  rintro e w' ⟨rfl, rfl⟩
  go_wp2
  go_ret2
  exact ⟨rfl, rfl⟩
theorem week_no (d c : Int) (w : World) (hc : (d < 0 ∧ c = 2) ∨ (730484 < d ∧ c = 3)) : Calls Tryd.prog 16 #[.int .i64 d] w fun e w' => e = .returned (.tuple #[.int .i64 0, .int .i64 c]) ∧ w = w' := by
  rcases hc with ⟨h, rfl⟩ | ⟨h, rfl⟩
  · go_enter Tryd.func16, Tryd.ntmps16
    go_wp2_with fail
    refine (chk_low d _ h).mono ?_
    rintro e w' ⟨rfl, rfl⟩
    go_wp2
    go_ret2
    exact ⟨rfl, rfl⟩
  · go_enter Tryd.func16, Tryd.ntmps16
    go_wp2_with fail
    refine (chk_high d _ h).mono ?_
    rintro e w' ⟨rfl, rfl⟩
    go_wp2
    go_ret2
    exact ⟨rfl, rfl⟩
theorem split_ok (t : Int) (w : World) (h0 : 0 ≤ t) (h1 : t ≤ 1051898399) : Calls Tryd.prog 49 #[.int .i64 t] w fun e w' => e = .returned (.tuple #[.int .i64 (t / 1440), .int .i64 (t % 1440), .int .i64 0]) ∧ w = w' := by
  go_enter Tryd.func49, Tryd.ntmps49
  go_wp2
  go_ret3
  exact ⟨rfl, rfl⟩
theorem split_no (t c : Int) (w : World) (hc : (t < 0 ∧ c = 2) ∨ (1051898399 < t ∧ c = 3)) : Calls Tryd.prog 49 #[.int .i64 t] w fun e w' => e = .returned (.tuple #[.int .i64 0, .int .i64 0, .int .i64 c]) ∧ w = w' := by
  rcases hc with ⟨h, rfl⟩ | ⟨h, rfl⟩
  all_goals
    go_enter Tryd.func49, Tryd.ntmps49
    go_wp2
    go_ret3
    exact ⟨rfl, rfl⟩
def timeOf (d m : Int) : Int := if d < 0 ∨ m < 0 ∨ 1440 ≤ m then 0 else if 730484 < d then 0 else d * 1440 + m
def timeErr (d m : Int) : Int := if d < 0 ∨ m < 0 ∨ 1440 ≤ m then 2 else if 730484 < d then 3 else 0
theorem ret_ii {a b c d : Int} (h : a = c) (h' : b = d) : Ending.returned (.tuple #[.int .i64 a, .int .i64 b]) = .returned (.tuple #[.int .i64 c, .int .i64 d]) := by rw [h, h']
theorem time_any (d m : Int) (w : World) : Calls Tryd.prog 20 #[.int .i64 d, .int .i64 m] w fun e w' => e = .returned (.tuple #[.int .i64 (timeOf d m), .int .i64 (timeErr d m)]) ∧ w = w' := by
  by_cases h1 : d < 0
  · have E : Hid (timeOf d m = 0 ∧ timeErr d m = 2) := Lib.hid (by unfold timeOf timeErr; refine ⟨?_, ?_⟩ <;> (repeat' split) <;> omega)
    go_enter Tryd.func20, Tryd.ntmps20
    go_wp2
    go_ret2
    exact ⟨ret_ii E.out.1.symm E.out.2.symm, rfl⟩
  · by_cases h2 : m < 0
    · have E : Hid (timeOf d m = 0 ∧ timeErr d m = 2) := Lib.hid (by unfold timeOf timeErr; refine ⟨?_, ?_⟩ <;> (repeat' split) <;> omega)
      go_enter Tryd.func20, Tryd.ntmps20
      go_wp2
      go_ret2
      exact ⟨ret_ii E.out.1.symm E.out.2.symm, rfl⟩
    · by_cases h3 : 1440 ≤ m
      · have E : Hid (timeOf d m = 0 ∧ timeErr d m = 2) := Lib.hid (by unfold timeOf timeErr; refine ⟨?_, ?_⟩ <;> (repeat' split) <;> omega)
        go_enter Tryd.func20, Tryd.ntmps20
        go_wp2
        go_ret2
        exact ⟨ret_ii E.out.1.symm E.out.2.symm, rfl⟩
      · by_cases h4 : 730484 < d
        · have E : Hid (timeOf d m = 0 ∧ timeErr d m = 3) := Lib.hid (by unfold timeOf timeErr; refine ⟨?_, ?_⟩ <;> (repeat' split) <;> omega)
          go_enter Tryd.func20, Tryd.ntmps20
          go_wp2
          go_ret2
          exact ⟨ret_ii E.out.1.symm E.out.2.symm, rfl⟩
        · have E : Hid (timeOf d m = d * 1440 + m ∧ timeErr d m = 0) := Lib.hid (by unfold timeOf timeErr; refine ⟨?_, ?_⟩ <;> (repeat' split) <;> omega)
          go_enter Tryd.func20, Tryd.ntmps20
          go_wp2
          go_ret2
          exact ⟨ret_ii E.out.1.symm E.out.2.symm, rfl⟩
end Go.Proofs.YtjfgfchnpghpfaaDoor
