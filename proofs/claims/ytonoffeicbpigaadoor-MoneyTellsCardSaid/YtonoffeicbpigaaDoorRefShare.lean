/- The reference implementation of amounts: shares. -/
import Derived.Test.YtonoffeicbpigaaDoorRefPart
import Derived.Test.YtonoffeicbpigaaDoorBase
namespace Go.Proofs.YtonoffeicbpigaaDoor
open Go Go.RowKit
set_option linter.unusedVariables false

theorem rshare_1 (c s q r : Int) (w : World) (h1 : -1000000000000000 ≤ c) (h2 : c ≤ 1000000000000000) (h3 : 0 ≤ s) (h4 : s ≤ 10000) (HQ : Hid (c * s / 10000 = q)) (HR : Hid (c * s % 10000 = r)) (hr1 : 0 ≤ r) (hr2 : r < 10000) (hq1 : -1000000000000000 ≤ q) (hq2 : q ≤ 1000000000000000)  :
    Calls Tryd.prog 19 #[.int .i64 c, .int .i64 s, .int .u8 1] w fun e w' => e = .returned (.tuple #[.int .i64 (q), .int .i64 0]) ∧ Below w.heap.size w w' := by
  have hin : inR c = true := by simp [inR, h1, h2]
  go_enter Tryd.func19, Tryd.ntmps19
  go_wp2_with fail
  refine (rright_any c _).mono ?_
  rintro e w' ⟨rfl, rfl⟩
  rw [hin]
  go_wp2_with fail
  refine (rpart_any c s 10000 _ h1 h2 h3 h4 (by omega) (by omega) (by omega)).mono ?_
  rintro e w' ⟨rfl, nd, rfl⟩
  rw [HQ.out, HR.out]
  go_wp2
  go_ret2
  exact ⟨rfl, Kt.below_of_drewN _ _⟩
theorem rshare_2n (c s q r : Int) (w : World) (h1 : -1000000000000000 ≤ c) (h2 : c ≤ 1000000000000000) (h3 : 0 ≤ s) (h4 : s ≤ 10000) (HQ : Hid (c * s / 10000 = q)) (HR : Hid (c * s % 10000 = r)) (hr1 : 0 ≤ r) (hr2 : r < 10000) (hq1 : -1000000000000000 ≤ q) (hq2 : q ≤ 1000000000000000) (hx : r = 0) :
    Calls Tryd.prog 19 #[.int .i64 c, .int .i64 s, .int .u8 2] w fun e w' => e = .returned (.tuple #[.int .i64 (q), .int .i64 0]) ∧ Below w.heap.size w w' := by
  have hin : inR c = true := by simp [inR, h1, h2]
  subst hx
  go_enter Tryd.func19, Tryd.ntmps19
  go_wp2_with fail
  refine (rright_any c _).mono ?_
  rintro e w' ⟨rfl, rfl⟩
  rw [hin]
  go_wp2_with fail
  refine (rpart_any c s 10000 _ h1 h2 h3 h4 (by omega) (by omega) (by omega)).mono ?_
  rintro e w' ⟨rfl, nd, rfl⟩
  rw [HQ.out, HR.out]
  go_wp2
  go_ret2
  exact ⟨rfl, Kt.below_of_drewN _ _⟩
theorem rshare_2y (c s q r : Int) (w : World) (h1 : -1000000000000000 ≤ c) (h2 : c ≤ 1000000000000000) (h3 : 0 ≤ s) (h4 : s ≤ 10000) (HQ : Hid (c * s / 10000 = q)) (HR : Hid (c * s % 10000 = r)) (hr1 : 0 ≤ r) (hr2 : r < 10000) (hq1 : -1000000000000000 ≤ q) (hq2 : q ≤ 1000000000000000) (hx : 0 < r) :
    Calls Tryd.prog 19 #[.int .i64 c, .int .i64 s, .int .u8 2] w fun e w' => e = .returned (.tuple #[.int .i64 (q + 1), .int .i64 0]) ∧ Below w.heap.size w w' := by
  have hin : inR c = true := by simp [inR, h1, h2]
  go_enter Tryd.func19, Tryd.ntmps19
  go_wp2_with fail
  refine (rright_any c _).mono ?_
  rintro e w' ⟨rfl, rfl⟩
  rw [hin]
  go_wp2_with fail
  refine (rpart_any c s 10000 _ h1 h2 h3 h4 (by omega) (by omega) (by omega)).mono ?_
  rintro e w' ⟨rfl, nd, rfl⟩
  rw [HQ.out, HR.out]
  go_wp2
  go_ret2
  exact ⟨rfl, Kt.below_of_drewN _ _⟩
theorem rshare_3a (c s q r : Int) (w : World) (h1 : -1000000000000000 ≤ c) (h2 : c ≤ 1000000000000000) (h3 : 0 ≤ s) (h4 : s ≤ 10000) (HQ : Hid (c * s / 10000 = q)) (HR : Hid (c * s % 10000 = r)) (hr1 : 0 ≤ r) (hr2 : r < 10000) (hq1 : -1000000000000000 ≤ q) (hq2 : q ≤ 1000000000000000) (hx : 5000 < r) :
    Calls Tryd.prog 19 #[.int .i64 c, .int .i64 s, .int .u8 3] w fun e w' => e = .returned (.tuple #[.int .i64 (q + 1), .int .i64 0]) ∧ Below w.heap.size w w' := by
  have hin : inR c = true := by simp [inR, h1, h2]
  go_enter Tryd.func19, Tryd.ntmps19
  go_wp2_with fail
  refine (rright_any c _).mono ?_
  rintro e w' ⟨rfl, rfl⟩
  rw [hin]
  go_wp2_with fail
  refine (rpart_any c s 10000 _ h1 h2 h3 h4 (by omega) (by omega) (by omega)).mono ?_
  rintro e w' ⟨rfl, nd, rfl⟩
  rw [HQ.out, HR.out]
  go_wp2
  go_ret2
  exact ⟨rfl, Kt.below_of_drewN _ _⟩
theorem rshare_3b (c s q r : Int) (w : World) (h1 : -1000000000000000 ≤ c) (h2 : c ≤ 1000000000000000) (h3 : 0 ≤ s) (h4 : s ≤ 10000) (HQ : Hid (c * s / 10000 = q)) (HR : Hid (c * s % 10000 = r)) (hr1 : 0 ≤ r) (hr2 : r < 10000) (hq1 : -1000000000000000 ≤ q) (hq2 : q ≤ 1000000000000000) (hx : r = 5000) (hc : 0 < c) :
    Calls Tryd.prog 19 #[.int .i64 c, .int .i64 s, .int .u8 3] w fun e w' => e = .returned (.tuple #[.int .i64 (q + 1), .int .i64 0]) ∧ Below w.heap.size w w' := by
  have hin : inR c = true := by simp [inR, h1, h2]
  subst hx
  go_enter Tryd.func19, Tryd.ntmps19
  go_wp2_with fail
  refine (rright_any c _).mono ?_
  rintro e w' ⟨rfl, rfl⟩
  rw [hin]
  go_wp2_with fail
  refine (rpart_any c s 10000 _ h1 h2 h3 h4 (by omega) (by omega) (by omega)).mono ?_
  rintro e w' ⟨rfl, nd, rfl⟩
  rw [HQ.out, HR.out]
  go_wp2
  go_ret2
  exact ⟨rfl, Kt.below_of_drewN _ _⟩
theorem rshare_3c (c s q r : Int) (w : World) (h1 : -1000000000000000 ≤ c) (h2 : c ≤ 1000000000000000) (h3 : 0 ≤ s) (h4 : s ≤ 10000) (HQ : Hid (c * s / 10000 = q)) (HR : Hid (c * s % 10000 = r)) (hr1 : 0 ≤ r) (hr2 : r < 10000) (hq1 : -1000000000000000 ≤ q) (hq2 : q ≤ 1000000000000000) (hx : r = 5000) (hc : ¬ 0 < c) :
    Calls Tryd.prog 19 #[.int .i64 c, .int .i64 s, .int .u8 3] w fun e w' => e = .returned (.tuple #[.int .i64 (q), .int .i64 0]) ∧ Below w.heap.size w w' := by
  have hin : inR c = true := by simp [inR, h1, h2]
  subst hx
  go_enter Tryd.func19, Tryd.ntmps19
  go_wp2_with fail
  refine (rright_any c _).mono ?_
  rintro e w' ⟨rfl, rfl⟩
  rw [hin]
  go_wp2_with fail
  refine (rpart_any c s 10000 _ h1 h2 h3 h4 (by omega) (by omega) (by omega)).mono ?_
  rintro e w' ⟨rfl, nd, rfl⟩
  rw [HQ.out, HR.out]
  go_wp2
  go_ret2
  exact ⟨rfl, Kt.below_of_drewN _ _⟩
theorem rshare_3d (c s q r : Int) (w : World) (h1 : -1000000000000000 ≤ c) (h2 : c ≤ 1000000000000000) (h3 : 0 ≤ s) (h4 : s ≤ 10000) (HQ : Hid (c * s / 10000 = q)) (HR : Hid (c * s % 10000 = r)) (hr1 : 0 ≤ r) (hr2 : r < 10000) (hq1 : -1000000000000000 ≤ q) (hq2 : q ≤ 1000000000000000) (hx : r < 5000) :
    Calls Tryd.prog 19 #[.int .i64 c, .int .i64 s, .int .u8 3] w fun e w' => e = .returned (.tuple #[.int .i64 (q), .int .i64 0]) ∧ Below w.heap.size w w' := by
  have hin : inR c = true := by simp [inR, h1, h2]
  have hxb : (r == 5000) = false := by simp; omega
  go_enter Tryd.func19, Tryd.ntmps19
  go_wp2_with fail
  refine (rright_any c _).mono ?_
  rintro e w' ⟨rfl, rfl⟩
  rw [hin]
  go_wp2_with fail
  refine (rpart_any c s 10000 _ h1 h2 h3 h4 (by omega) (by omega) (by omega)).mono ?_
  rintro e w' ⟨rfl, nd, rfl⟩
  rw [HQ.out, HR.out]
  go_wp2
  go_ret2
  exact ⟨rfl, Kt.below_of_drewN _ _⟩
theorem rshare_4a (c s q r : Int) (w : World) (h1 : -1000000000000000 ≤ c) (h2 : c ≤ 1000000000000000) (h3 : 0 ≤ s) (h4 : s ≤ 10000) (HQ : Hid (c * s / 10000 = q)) (HR : Hid (c * s % 10000 = r)) (hr1 : 0 ≤ r) (hr2 : r < 10000) (hq1 : -1000000000000000 ≤ q) (hq2 : q ≤ 1000000000000000) (hx : 5000 < r) :
    Calls Tryd.prog 19 #[.int .i64 c, .int .i64 s, .int .u8 4] w fun e w' => e = .returned (.tuple #[.int .i64 (q + 1), .int .i64 0]) ∧ Below w.heap.size w w' := by
  have hin : inR c = true := by simp [inR, h1, h2]
  go_enter Tryd.func19, Tryd.ntmps19
  go_wp2_with fail
  refine (rright_any c _).mono ?_
  rintro e w' ⟨rfl, rfl⟩
  rw [hin]
  go_wp2_with fail
  refine (rpart_any c s 10000 _ h1 h2 h3 h4 (by omega) (by omega) (by omega)).mono ?_
  rintro e w' ⟨rfl, nd, rfl⟩
  rw [HQ.out, HR.out]
  go_wp2
  go_ret2
  exact ⟨rfl, Kt.below_of_drewN _ _⟩
theorem rshare_4b (c s q r : Int) (w : World) (h1 : -1000000000000000 ≤ c) (h2 : c ≤ 1000000000000000) (h3 : 0 ≤ s) (h4 : s ≤ 10000) (HQ : Hid (c * s / 10000 = q)) (HR : Hid (c * s % 10000 = r)) (hr1 : 0 ≤ r) (hr2 : r < 10000) (hq1 : -1000000000000000 ≤ q) (hq2 : q ≤ 1000000000000000) (hx : r = 5000) (hc : (q.tmod 2 != 0) = true) :
    Calls Tryd.prog 19 #[.int .i64 c, .int .i64 s, .int .u8 4] w fun e w' => e = .returned (.tuple #[.int .i64 (q + 1), .int .i64 0]) ∧ Below w.heap.size w w' := by
  have hin : inR c = true := by simp [inR, h1, h2]
  subst hx
  go_enter Tryd.func19, Tryd.ntmps19
  go_wp2_with fail
  refine (rright_any c _).mono ?_
  rintro e w' ⟨rfl, rfl⟩
  rw [hin]
  go_wp2_with fail
  refine (rpart_any c s 10000 _ h1 h2 h3 h4 (by omega) (by omega) (by omega)).mono ?_
  rintro e w' ⟨rfl, nd, rfl⟩
  rw [HQ.out, HR.out]
  go_wp2
  go_ret2
  exact ⟨rfl, Kt.below_of_drewN _ _⟩
theorem rshare_4c (c s q r : Int) (w : World) (h1 : -1000000000000000 ≤ c) (h2 : c ≤ 1000000000000000) (h3 : 0 ≤ s) (h4 : s ≤ 10000) (HQ : Hid (c * s / 10000 = q)) (HR : Hid (c * s % 10000 = r)) (hr1 : 0 ≤ r) (hr2 : r < 10000) (hq1 : -1000000000000000 ≤ q) (hq2 : q ≤ 1000000000000000) (hx : r = 5000) (hc : (q.tmod 2 != 0) = false) :
    Calls Tryd.prog 19 #[.int .i64 c, .int .i64 s, .int .u8 4] w fun e w' => e = .returned (.tuple #[.int .i64 (q), .int .i64 0]) ∧ Below w.heap.size w w' := by
  have hin : inR c = true := by simp [inR, h1, h2]
  subst hx
  go_enter Tryd.func19, Tryd.ntmps19
  go_wp2_with fail
  refine (rright_any c _).mono ?_
  rintro e w' ⟨rfl, rfl⟩
  rw [hin]
  go_wp2_with fail
  refine (rpart_any c s 10000 _ h1 h2 h3 h4 (by omega) (by omega) (by omega)).mono ?_
  rintro e w' ⟨rfl, nd, rfl⟩
  rw [HQ.out, HR.out]
  go_wp2
  go_ret2
  exact ⟨rfl, Kt.below_of_drewN _ _⟩
theorem rshare_4d (c s q r : Int) (w : World) (h1 : -1000000000000000 ≤ c) (h2 : c ≤ 1000000000000000) (h3 : 0 ≤ s) (h4 : s ≤ 10000) (HQ : Hid (c * s / 10000 = q)) (HR : Hid (c * s % 10000 = r)) (hr1 : 0 ≤ r) (hr2 : r < 10000) (hq1 : -1000000000000000 ≤ q) (hq2 : q ≤ 1000000000000000) (hx : r < 5000) :
    Calls Tryd.prog 19 #[.int .i64 c, .int .i64 s, .int .u8 4] w fun e w' => e = .returned (.tuple #[.int .i64 (q), .int .i64 0]) ∧ Below w.heap.size w w' := by
  have hin : inR c = true := by simp [inR, h1, h2]
  have hxb : (r == 5000) = false := by simp; omega
  go_enter Tryd.func19, Tryd.ntmps19
  go_wp2_with fail
  refine (rright_any c _).mono ?_
  rintro e w' ⟨rfl, rfl⟩
  rw [hin]
  go_wp2_with fail
  refine (rpart_any c s 10000 _ h1 h2 h3 h4 (by omega) (by omega) (by omega)).mono ?_
  rintro e w' ⟨rfl, nd, rfl⟩
  rw [HQ.out, HR.out]
  go_wp2
  go_ret2
  exact ⟨rfl, Kt.below_of_drewN _ _⟩

theorem rshare_bad (c s k : Int) (w : World) (h : shareOk c s k = false) (k1 : 0 ≤ k) :
    Calls Tryd.prog 19 #[.int .i64 c, .int .i64 s, .int .u8 k] w fun e w' => e = .returned (.tuple #[.int .i64 0, .int .i64 2]) ∧ Below w.heap.size w w' := by
  have h' : ¬ (-1000000000000000 ≤ c ∧ c ≤ 1000000000000000 ∧ 0 ≤ s ∧ s ≤ 10000 ∧ 1 ≤ k ∧ k ≤ 4) := by simpa [shareOk] using h
  cases hin : inR c
  · go_enter Tryd.func19, Tryd.ntmps19
    go_wp2_with fail
    refine (rright_any c _).mono ?_
    rintro e w' ⟨rfl, rfl⟩
    rw [hin]
    go_wp2
    go_ret2
    exact ⟨rfl, Below.refl _ _⟩
  · have hbd := inR_bd hin
    rcases (show s < 0 ∨ (0 ≤ s ∧ 10000 < s) ∨ (0 ≤ s ∧ s ≤ 10000 ∧ k < 1) ∨ (0 ≤ s ∧ s ≤ 10000 ∧ 1 ≤ k ∧ 4 < k) by omega) with hx | ⟨hx, hx2⟩ | ⟨hx, hx2, hx3⟩ | ⟨hx, hx2, hx3, hx4⟩
    all_goals
      go_enter Tryd.func19, Tryd.ntmps19
      go_wp2_with fail
      refine (rright_any c _).mono ?_
      rintro e w' ⟨rfl, rfl⟩
      rw [hin]
      go_wp2
      go_ret2
      exact ⟨rfl, Below.refl _ _⟩

theorem rshare_any (c s k : Int) (w : World) (k1 : 0 ≤ k) :
    Calls Tryd.prog 19 #[.int .i64 c, .int .i64 s, .int .u8 k] w fun e w' => e = .returned (.tuple #[.int .i64 (shareV c s k), .int .i64 (shareE c s k)]) ∧ Below w.heap.size w w' := by
  cases h : shareOk c s k
  · simp only [shareV, shareE, h]
    exact rshare_bad c s k w h k1
  · simp only [shareV, shareE, h, if_true]
    have h' : -1000000000000000 ≤ c ∧ c ≤ 1000000000000000 ∧ 0 ≤ s ∧ s ≤ 10000 ∧ 1 ≤ k ∧ k ≤ 4 := by simpa [shareOk] using h
    obtain ⟨h1, h2, h3, h4, k2, k3⟩ := h'
    have hr := Mny.sr_bd c s
    have hq := Mny.sq_bd c s h1 h2 h3 h4
    obtain ⟨q, HQ⟩ : ∃ q, Hid (c * s / 10000 = q) := ⟨_, Lib.hid rfl⟩
    obtain ⟨r, HR⟩ : ∃ r, Hid (c * s % 10000 = r) := ⟨_, Lib.hid rfl⟩
    have hqs : Mny.sq c s = q := HQ.out
    have hrs : Mny.sr c s = r := HR.out
    rw [hrs] at hr
    rw [hqs] at hq
    obtain ⟨hr1, hr2⟩ := hr
    obtain ⟨hq1, hq2⟩ := hq
    rcases (show k = 1 ∨ k = 2 ∨ k = 3 ∨ k = 4 by omega) with rfl | rfl | rfl | rfl
    · rw [Mny.share1, hqs]
      exact rshare_1 c s q r w h1 h2 h3 h4 HQ HR hr1 hr2 hq1 hq2
    · rw [Mny.share2, hqs, Mny.up2, hrs]
      by_cases hx : 0 < r
      · simp only [hx, decide_true, Mny.one, if_true]
        exact rshare_2y c s q r w h1 h2 h3 h4 HQ HR hr1 hr2 hq1 hq2 hx
      · simp only [hx, decide_false, Mny.one]
        simpa using rshare_2n c s q r w h1 h2 h3 h4 HQ HR hr1 hr2 hq1 hq2 (by omega)
    · rw [Mny.share3, hqs, Mny.up3, hrs]
      rcases (show 5000 < r ∨ r = 5000 ∨ r < 5000 by omega) with hx | hx | hx
      · have e : (decide (10000 < 2 * r) || (2 * r == 10000 && decide (0 < c))) = true := by simp; omega
        rw [e]
        exact rshare_3a c s q r w h1 h2 h3 h4 HQ HR hr1 hr2 hq1 hq2 hx
      · by_cases hc : 0 < c
        · have e : (decide (10000 < 2 * r) || (2 * r == 10000 && decide (0 < c))) = true := by simp [hx, hc]
          rw [e]
          exact rshare_3b c s q r w h1 h2 h3 h4 HQ HR hr1 hr2 hq1 hq2 hx hc
        · have e : (decide (10000 < 2 * r) || (2 * r == 10000 && decide (0 < c))) = false := by simp [hx, hc]
          rw [e]
          simpa [Mny.one] using rshare_3c c s q r w h1 h2 h3 h4 HQ HR hr1 hr2 hq1 hq2 hx hc
      · have e : (decide (10000 < 2 * r) || (2 * r == 10000 && decide (0 < c))) = false := by simp; omega
        rw [e]
        simpa [Mny.one] using rshare_3d c s q r w h1 h2 h3 h4 HQ HR hr1 hr2 hq1 hq2 hx
    · rw [Mny.share4, hqs, Mny.up4, hrs, hqs]
      rcases (show 5000 < r ∨ r = 5000 ∨ r < 5000 by omega) with hx | hx | hx
      · have e : (decide (10000 < 2 * r) || (2 * r == 10000 && (q % 2 != 0))) = true := by simp; omega
        rw [e]
        exact rshare_4a c s q r w h1 h2 h3 h4 HQ HR hr1 hr2 hq1 hq2 hx
      · cases hc : (q.tmod 2 != 0)
        · have e : (decide (10000 < 2 * r) || (2 * r == 10000 && (q % 2 != 0))) = false := by rw [← tm2, hc]; simp [hx]
          rw [e]
          simpa [Mny.one] using rshare_4c c s q r w h1 h2 h3 h4 HQ HR hr1 hr2 hq1 hq2 hx hc
        · have e : (decide (10000 < 2 * r) || (2 * r == 10000 && (q % 2 != 0))) = true := by rw [← tm2, hc]; simp [hx]
          rw [e]
          exact rshare_4b c s q r w h1 h2 h3 h4 HQ HR hr1 hr2 hq1 hq2 hx hc
      · have e : (decide (10000 < 2 * r) || (2 * r == 10000 && (q % 2 != 0))) = false := by simp; omega
        rw [e]
        simpa [Mny.one] using rshare_4d c s q r w h1 h2 h3 h4 HQ HR hr1 hr2 hq1 hq2 hx
end Go.Proofs.YtonoffeicbpigaaDoor
