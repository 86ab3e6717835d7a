/- What the reference's functions on dates return (package letterbagref01): Leap, long, date, Day, within, Date, Weekday, Time, Split. Their walks. -/
import Derived.Test.YtjfgfchnpghpfaaDoorCivN
namespace Go.Proofs.YtjfgfchnpghpfaaDoor
open Go Go.RowKit
theorem rleap_any (y : Int) (w : World) :
    Calls Tryd.prog 12 #[.int .i64 y] w fun e w' => e = .returned (.bool (Cv.leap y)) ∧ w = w' := by
  have e4 := Cv.tmod_zero y 4 (by omega)
  have e100 := Cv.tmod_zero y 100 (by omega)
  have e400 := Cv.tmod_zero y 400 (by omega)
  cases h400 : decide (y % 400 = 0)
  · cases h4 : decide (y % 4 = 0)
    · have E : Hid (Cv.leap y = false) := Lib.hid (by unfold Cv.leap; rw [h4]; rfl)
      rw [h4] at e4
      rw [h400] at e400
      clear h4 h400 e100
      go_enter Tryd.func12, Tryd.ntmps12
      go_wp2
      go_ret
      exact ⟨Kt.ret_bool E.out.symm, rfl⟩
    · cases h100 : decide (y % 100 = 0)
      · have E : Hid (Cv.leap y = true) := Lib.hid (by unfold Cv.leap; rw [h4]; simp at h100; simp [h100])
        rw [h4] at e4
        rw [h400] at e400
        rw [h100] at e100
        have n100 : (y.tmod 100 != 0) = true := by rw [bne, e100]; rfl
        clear h4 h100 h400
        go_enter Tryd.func12, Tryd.ntmps12
        go_wp2
        go_ret
        exact ⟨Kt.ret_bool E.out.symm, rfl⟩
      · have E : Hid (Cv.leap y = false) := Lib.hid (by unfold Cv.leap; rw [h4, h400]; simp at h100; simp [h100])
        rw [h4] at e4
        rw [h400] at e400
        rw [h100] at e100
        have n100 : (y.tmod 100 != 0) = false := by rw [bne, e100]; rfl
        clear h4 h100 h400
        go_enter Tryd.func12, Tryd.ntmps12
        go_wp2
        go_ret
        exact ⟨Kt.ret_bool E.out.symm, rfl⟩
  · have E : Hid (Cv.leap y = true) := Lib.hid (by
      have h : y % 400 = 0 := by simpa using h400
      unfold Cv.leap
      rw [h400, decide_eq_true (show y % 4 = 0 by omega)]
      simp)
    rw [h400] at e400
    clear h400 e4 e100
    go_enter Tryd.func12, Tryd.ntmps12
    go_wp2
    go_ret
    exact ⟨Kt.ret_bool E.out.symm, rfl⟩
theorem long_any (y : Int) (m : Nat) (w : World) (h1 : 1 ≤ m) (h2 : m ≤ 12) :
    Calls Tryd.prog 44 #[.int .i64 y, .int .i64 m] w fun e w' => e = .returned (.int .i64 (Cv.md (Cv.leap y) m)) ∧ w = w' := by
  obtain ⟨l, hl⟩ : ∃ l, Hid (Cv.leap y = l) := ⟨_, Lib.hid rfl⟩
  rw [hl.out]
  have hm : m = 2 ∨ m = 1 ∨ m = 3 ∨ m = 4 ∨ m = 5 ∨ m = 6 ∨ m = 7 ∨ m = 8 ∨ m = 9 ∨ m = 10 ∨ m = 11 ∨ m = 12 := by omega
  clear h1 h2
  rcases hm with rfl | hm
  · go_enter Tryd.func44, Tryd.ntmps44
    go_wp2_with fail
    refine (rleap_any y _).mono ?_
    rw [hl.out]
    rintro e w' ⟨rfl, rfl⟩
    cases l
    · go_wp2_with fail
      go_ret
      exact ⟨Kt.ret_int (by decide), rfl⟩
    · go_wp2_with fail
      go_ret
      exact ⟨Kt.ret_int (by decide), rfl⟩
  · rcases hm with rfl | rfl | rfl | rfl | rfl | rfl | rfl | rfl | rfl | rfl | rfl
    all_goals
      go_enter Tryd.func44, Tryd.ntmps44
      go_wp2_with fail
      go_ret
      exact ⟨Kt.ret_int (by cases l <;> decide), rfl⟩
theorem rdate_any (y m k : Int) (w : World) :
    Calls Tryd.prog 43 #[.int .i64 y, .int .i64 m, .int .i64 k] w fun e w' => e = .returned (.bool (decide (Cv.Valid y m k))) ∧ w = w' := by
  by_cases h1 : 2001 ≤ y
  case neg =>
    have E : Hid (decide (Cv.Valid y m k) = false) := Lib.hid (decide_eq_false (fun h => h1 h.1))
    go_enter Tryd.func43, Tryd.ntmps43
    go_wp2_with fail
    go_ret
    exact ⟨Kt.ret_bool E.out.symm, rfl⟩
  by_cases h2 : y ≤ 4000
  case neg =>
    have E : Hid (decide (Cv.Valid y m k) = false) := Lib.hid (decide_eq_false (fun h => h2 h.2.1))
    go_enter Tryd.func43, Tryd.ntmps43
    go_wp2_with fail
    go_ret
    exact ⟨Kt.ret_bool E.out.symm, rfl⟩
  by_cases h3 : 1 ≤ m
  case neg =>
    have E : Hid (decide (Cv.Valid y m k) = false) := Lib.hid (decide_eq_false (fun h => h3 h.2.2.1))
    go_enter Tryd.func43, Tryd.ntmps43
    go_wp2_with fail
    go_ret
    exact ⟨Kt.ret_bool E.out.symm, rfl⟩
  by_cases h4 : m ≤ 12
  case neg =>
    have E : Hid (decide (Cv.Valid y m k) = false) := Lib.hid (decide_eq_false (fun h => h4 h.2.2.2.1))
    go_enter Tryd.func43, Tryd.ntmps43
    go_wp2_with fail
    go_ret
    exact ⟨Kt.ret_bool E.out.symm, rfl⟩
  by_cases h5 : 1 ≤ k
  case neg =>
    have E : Hid (decide (Cv.Valid y m k) = false) := Lib.hid (decide_eq_false (fun h => h5 h.2.2.2.2.1))
    go_enter Tryd.func43, Tryd.ntmps43
    go_wp2_with fail
    go_ret
    exact ⟨Kt.ret_bool E.out.symm, rfl⟩
  obtain ⟨M, rfl⟩ := Int.eq_ofNat_of_zero_le (show 0 ≤ m by omega)
  obtain ⟨v, hv⟩ : ∃ v, Hid (Cv.md (Cv.leap y) M = v) := ⟨_, Lib.hid rfl⟩
  have E : Hid (decide (Cv.Valid y M k) = decide (k ≤ v)) := Lib.hid (by
    rw [Bool.eq_iff_iff, decide_eq_true_eq, decide_eq_true_eq]
    constructor
    · intro h; have := h.2.2.2.2.2; rwa [Int.toNat_natCast, hv.out] at this
    · intro h; exact ⟨h1, h2, h3, h4, h5, by rw [Int.toNat_natCast, hv.out]; exact h⟩)
  go_enter Tryd.func43, Tryd.ntmps43
  go_wp2_with fail
  refine (long_any y M _ (by omega) (by omega)).mono ?_
  rw [hv.out]
  rintro e w' ⟨rfl, rfl⟩
  go_wp2_with fail
  go_ret
  exact ⟨Kt.ret_bool E.out.symm, rfl⟩
set_option maxHeartbeats 1000000 in
theorem rday_any (y m k : Int) (w : World) :
    Calls Tryd.prog 10 #[.int .i64 y, .int .i64 m, .int .i64 k] w fun e w' => e = .returned (.tuple #[.int .i64 (Cv.dayV y m k), .int .i64 (Cv.dayE y m k)]) ∧ w = w' := by
  by_cases hval : Cv.Valid y m k
  · have EV : Hid (Cv.dayV y m k = Cv.dayOf y m.toNat k ∧ Cv.dayE y m k = 0) := Lib.hid (by unfold Cv.dayV Cv.dayE; rw [if_pos hval, if_pos hval]; exact ⟨rfl, rfl⟩)
    have HD := Lib.hid (rdate_any y m k w)
    rw [decide_eq_true hval] at HD
    obtain ⟨h1, h2, h3, h4, h5, h6⟩ := hval
    obtain ⟨M, rfl⟩ := Int.eq_ofNat_of_zero_le (show 0 ≤ m by omega)
    rw [Int.toNat_natCast] at h6 EV
    have hk31 : k ≤ 31 := Int.le_trans h6 (Cv.md_bd _ (by omega) (by omega)).2
    clear h6
    go_enter Tryd.func10, Tryd.ntmps10
    go_wp2_with fail
    refine HD.out.mono ?_
    rintro e w' ⟨rfl, rfl⟩
    go_wp2_with fail
    go_loopw [8, 9] (fun n yy wr => ∃ (Y N : Int), yy = .int .i64 Y ∧ n = .int .i64 N ∧ 2001 ≤ Y ∧ Y ≤ y ∧ 0 ≤ N ∧ N ≤ 730520 ∧ Hid (N = k - 1 + Cv.ys Y) ∧ w = wr) (fun _ yy _ => (y - intOf yy).toNat)
    case atStart => exact ⟨2001, k - 1, rfl, rfl, by omega, h1, by omega, by omega, Lib.hid (by rw [Cv.ys_first]; omega), rfl⟩
    case round =>
      obtain ⟨Y, N, rfl, rfl, hY0, hY1, hN0, hN1, hN, rfl⟩ := hrel
      by_cases hlt : Y < y
      · have hst := Cv.ys_step Y
        have hbd := (Cv.ys_bd (y := Y + 1) (by omega) (by omega)).2
        unfold Cv.lp at hst
        have hN2 := hN.out
        cases hl : Cv.leap Y
        · rw [hl] at hst
          simp at hst
          have HN2 : Hid (N + 365 = k - 1 + Cv.ys (Y + 1)) := Lib.hid (by omega)
          have hle : N + 365 ≤ 730520 := by omega
          clear hst hbd hN2
          go_wp2_with fail
          refine (rleap_any Y _).mono ?_
          rw [hl]
          rintro e w' ⟨rfl, rfl⟩
          go_wp2_with fail
          go_roundw
          case rel => exact ⟨Y + 1, N + 365, rfl, rfl, by omega, by omega, by omega, hle, HN2, by trivial⟩
          case measure => simp [intOf]; omega
        · rw [hl] at hst
          simp at hst
          have HN2 : Hid (N + 365 + 1 = k - 1 + Cv.ys (Y + 1)) := Lib.hid (by omega)
          have hle : N + 365 + 1 ≤ 730520 := by omega
          clear hst hbd hN2
          go_wp2_with fail
          refine (rleap_any Y _).mono ?_
          rw [hl]
          rintro e w' ⟨rfl, rfl⟩
          go_wp2_with fail
          go_roundw
          case rel => exact ⟨Y + 1, N + 365 + 1, rfl, rfl, by omega, by omega, by omega, hle, HN2, by trivial⟩
          case measure => simp [intOf]; omega
      · have e : Y = y := by omega
        have HN2 : Hid (N = k - 1 + Cv.ys y) := Lib.hid (by rw [← e]; exact hN.out)
        clear e
        obtain ⟨l, hl⟩ : ∃ l, Hid (Cv.leap y = l) := ⟨_, Lib.hid rfl⟩
        go_wp2_with fail
        go_loopw [8, 10] (fun n mm wr => ∃ (j : Nat) (Q : Int), mm = .int .i64 j ∧ n = .int .i64 Q ∧ 1 ≤ j ∧ j ≤ M ∧ 0 ≤ Q ∧ Q ≤ 731000 ∧ Hid (Q = N + Cv.cum l j) ∧ w = wr) (fun _ mm _ => M - (intOf mm).toNat)
        case atStart => exact ⟨1, N, rfl, rfl, by omega, by omega, hN0, by omega, Lib.hid (by rw [Cv.cum_one]; omega), rfl⟩
        case round =>
          obtain ⟨j, Q, rfl, rfl, hj0, hj1, hQ0, hQ1, hQ, rfl⟩ := hrel
          by_cases hjm : j < M
          · have hst := Cv.cum_step l (m := j) (by omega) (by omega)
            have hcb := Cv.cum_bd l (m := j) (by omega) (by omega)
            obtain ⟨v, hv⟩ : ∃ v, Hid (Cv.md l j = v) := ⟨_, Lib.hid rfl⟩
            have hvb := Cv.md_bd l (m := j) (by omega) (by omega)
            rw [hv.out] at hst hvb hcb
            have hQ2 := hQ.out
            have HQ2 : Hid (Q + v = N + Cv.cum l (j + 1)) := Lib.hid (by omega)
            have hle : Q + v ≤ 731000 := by
              have h9 := hcb.2
              split at h9 <;> omega
            obtain ⟨v0, v1⟩ := hvb
            clear hst hcb hQ2
            go_wp2_with fail
            refine (long_any y j _ (by omega) (by omega)).mono ?_
            rw [hl.out, hv.out]
            rintro e w' ⟨rfl, rfl⟩
            go_wp2_with fail
            go_roundw
            case rel => exact ⟨j + 1, Q + v, by go_num, rfl, by omega, by omega, by omega, hle, HQ2, by trivial⟩
            case measure => simp [intOf]; omega
          · have e : j = M := by omega
            have HE : Hid (Cv.dayV y M k = Q ∧ Cv.dayE y M k = 0) := Lib.hid (by
              refine ⟨?_, EV.out.2⟩
              rw [EV.out.1, hQ.out, HN2.out, e]
              unfold Cv.dayOf
              rw [hl.out]
              omega)
            clear e
            go_wp2_with fail
            go_ret2
            exact ⟨ret_ii HE.out.1.symm HE.out.2.symm, rfl⟩
  · have EV : Hid (Cv.dayV y m k = 0 ∧ Cv.dayE y m k = 10) := Lib.hid (by unfold Cv.dayV Cv.dayE; rw [if_neg hval, if_neg hval]; exact ⟨rfl, rfl⟩)
    have HD := Lib.hid (rdate_any y m k w)
    rw [decide_eq_false hval] at HD
    clear hval
    go_enter Tryd.func10, Tryd.ntmps10
    go_wp2_with fail
    refine HD.out.mono ?_
    rintro e w' ⟨rfl, rfl⟩
    go_wp2_with fail
    go_ret2
    exact ⟨ret_ii EV.out.1.symm EV.out.2.symm, rfl⟩
theorem within_ok (n t : Int) (w : World) (h0 : 0 ≤ n) (h1 : n ≤ t) : Calls Tryd.prog 46 #[.int .i64 n, .int .i64 t] w fun e w' => e = .returned (.int .i64 0) ∧ w = w' := by
  go_enter Tryd.func46, Tryd.ntmps46
  go_wp2
  go_ret
  exact ⟨rfl, rfl⟩
theorem within_no (n t c : Int) (w : World) (ht : 0 ≤ t) (hc : (n < 0 ∧ c = 2) ∨ (t < n ∧ c = 3)) : Calls Tryd.prog 46 #[.int .i64 n, .int .i64 t] w fun e w' => e = .returned (.int .i64 c) ∧ w = w' := by
  rcases hc with ⟨h, rfl⟩ | ⟨h, rfl⟩
  all_goals
    go_enter Tryd.func46, Tryd.ntmps46
    go_wp2
    go_ret
    exact ⟨rfl, rfl⟩
theorem rweek_ok (d : Int) (w : World) (h0 : 0 ≤ d) (h1 : d ≤ 730484) : Calls Tryd.prog 17 #[.int .i64 d] w fun e w' => e = .returned (.tuple #[.int .i64 (d % 7), .int .i64 0]) ∧ w = w' := by
  go_enter Tryd.func17, Tryd.ntmps17
  go_wp2_with fail
  refine (within_ok d 730484 _ h0 h1).mono ?_
  rintro e w' ⟨rfl, rfl⟩
  go_wp2
  go_ret2
  exact ⟨rfl, rfl⟩
theorem rweek_no (d c : Int) (w : World) (hc : (d < 0 ∧ c = 2) ∨ (730484 < d ∧ c = 3)) : Calls Tryd.prog 17 #[.int .i64 d] w fun e w' => e = .returned (.tuple #[.int .i64 0, .int .i64 c]) ∧ w = w' := by
  have hc0 : c = 2 ∨ c = 3 := by omega
  have H := Lib.hid (within_no d 730484 c w (by omega) hc)
  clear hc
  go_enter Tryd.func17, Tryd.ntmps17
  go_wp2_with fail
  refine H.out.mono ?_
  rintro e w' ⟨rfl, rfl⟩
  rcases hc0 with rfl | rfl
  all_goals
    go_wp2
    go_ret2
    exact ⟨rfl, rfl⟩
theorem rsplit_ok (t : Int) (w : World) (h0 : 0 ≤ t) (h1 : t ≤ 1051898399) : Calls Tryd.prog 50 #[.int .i64 t] w fun e w' => e = .returned (.tuple #[.int .i64 (t / 1440), .int .i64 (t % 1440), .int .i64 0]) ∧ w = w' := by
  go_enter Tryd.func50, Tryd.ntmps50
  go_wp2_with fail
  refine (within_ok t 1051898399 _ h0 h1).mono ?_
  rintro e w' ⟨rfl, rfl⟩
  go_wp2
  go_ret3
  exact ⟨rfl, rfl⟩
theorem rsplit_no (t c : Int) (w : World) (hc : (t < 0 ∧ c = 2) ∨ (1051898399 < t ∧ c = 3)) : Calls Tryd.prog 50 #[.int .i64 t] w fun e w' => e = .returned (.tuple #[.int .i64 0, .int .i64 0, .int .i64 c]) ∧ w = w' := by
  have hc0 : c = 2 ∨ c = 3 := by omega
  have H := Lib.hid (within_no t 1051898399 c w (by omega) hc)
  clear hc
  go_enter Tryd.func50, Tryd.ntmps50
  go_wp2_with fail
  refine H.out.mono ?_
  rintro e w' ⟨rfl, rfl⟩
  rcases hc0 with rfl | rfl
  all_goals
    go_wp2
    go_ret3
    exact ⟨rfl, rfl⟩
theorem rtime_any (d m : Int) (w : World) : Calls Tryd.prog 21 #[.int .i64 d, .int .i64 m] w fun e w' => e = .returned (.tuple #[.int .i64 (timeOf d m), .int .i64 (timeErr d m)]) ∧ w = w' := by
  have hcs : d < 0 ∨ (0 ≤ d ∧ m < 0) ∨ (0 ≤ d ∧ 1439 < m) ∨ (0 ≤ m ∧ m ≤ 1439 ∧ 730484 < d) ∨ (0 ≤ d ∧ d ≤ 730484 ∧ 0 ≤ m ∧ m ≤ 1439) := by omega
  rcases hcs with h | ⟨h, h2⟩ | ⟨h, h2⟩ | ⟨h, h2, h3⟩ | ⟨h, h2, h3, h4⟩
  · have E : Hid (timeOf d m = 0 ∧ timeErr d m = 2) := Lib.hid (by unfold timeOf timeErr; refine ⟨?_, ?_⟩ <;> (repeat' split) <;> omega)
    go_enter Tryd.func21, Tryd.ntmps21
    go_wp2
    go_ret2
    exact ⟨ret_ii E.out.1.symm E.out.2.symm, rfl⟩
  · have E : Hid (timeOf d m = 0 ∧ timeErr d m = 2) := Lib.hid (by unfold timeOf timeErr; refine ⟨?_, ?_⟩ <;> (repeat' split) <;> omega)
    go_enter Tryd.func21, Tryd.ntmps21
    go_wp2
    go_ret2
    exact ⟨ret_ii E.out.1.symm E.out.2.symm, rfl⟩
  · have E : Hid (timeOf d m = 0 ∧ timeErr d m = 2) := Lib.hid (by unfold timeOf timeErr; refine ⟨?_, ?_⟩ <;> (repeat' split) <;> omega)
    go_enter Tryd.func21, Tryd.ntmps21
    go_wp2
    go_ret2
    exact ⟨ret_ii E.out.1.symm E.out.2.symm, rfl⟩
  · have E : Hid (timeOf d m = 0 ∧ timeErr d m = 3) := Lib.hid (by unfold timeOf timeErr; refine ⟨?_, ?_⟩ <;> (repeat' split) <;> omega)
    go_enter Tryd.func21, Tryd.ntmps21
    go_wp2
    go_ret2
    exact ⟨ret_ii E.out.1.symm E.out.2.symm, rfl⟩
  · have E : Hid (timeOf d m = 1440 * d + m ∧ timeErr d m = 0) := Lib.hid (by unfold timeOf timeErr; refine ⟨?_, ?_⟩ <;> (repeat' split) <;> omega)
    go_enter Tryd.func21, Tryd.ntmps21
    go_wp2
    go_ret2
    exact ⟨ret_ii E.out.1.symm E.out.2.symm, rfl⟩
end Go.Proofs.YtjfgfchnpghpfaaDoor
