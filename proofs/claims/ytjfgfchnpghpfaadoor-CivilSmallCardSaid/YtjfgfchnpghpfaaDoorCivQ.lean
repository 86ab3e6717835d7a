/- What both the program and the reference answer for a day of the year: Yearly. The reference's walk. -/
import Derived.Test.YtjfgfchnpghpfaaDoorCivZ
namespace Go.Proofs.YtjfgfchnpghpfaaDoor
open Go Go.RowKit
theorem yd_parts (a : Int) (i0 : -9223372036854775808 ≤ a) (_i1 : a ≤ 9223372036854775807) : ∃ q r : Int, Hid (decide (Cv.Valid 2004 q r) = Cv.ydB a) ∧ ((0 < a ∧ a / 100 = q ∧ a % 100 = r) ∨ (a ≤ 0 ∧ a.tdiv 100 = q ∧ a.tmod 100 = r ∧ q ≤ 0 ∧ -9223372036854775808 ≤ q)) := by
  have hv : ∀ q r, a.tdiv 100 = q → a.tmod 100 = r → decide (Cv.Valid 2004 q r) = Cv.ydB a := fun q r h1 h2 => by
    have := Cv.valid_yd a
    rw [h1, h2] at this
    rw [Bool.eq_iff_iff, decide_eq_true_eq]
    exact this
  by_cases h : 0 < a
  · refine ⟨a / 100, a % 100, Lib.hid (hv _ _ (Int.tdiv_eq_ediv_of_nonneg (by omega)) (Int.tmod_eq_emod_of_nonneg (by omega))), .inl ⟨h, rfl, rfl⟩⟩
  · have e2 : a.tdiv 100 ≤ 0 ∧ a ≤ a.tdiv 100 := by
      have h3 : 0 ≤ (-a).tdiv 100 := Int.tdiv_nonneg (by omega) (by omega)
      have h4 : (-a).tdiv 100 = (-a) / 100 := Int.tdiv_eq_ediv_of_nonneg (by omega)
      have h5 : -(a.tdiv 100) = (-a).tdiv 100 := by rw [Int.neg_tdiv]
      omega
    exact ⟨a.tdiv 100, a.tmod 100, Lib.hid (hv _ _ rfl rfl), .inr ⟨by omega, rfl, rfl, e2.1, by omega⟩⟩
set_option maxHeartbeats 4000000 in
theorem ryearly_ok (d a b : Int) {y k : Int} (M : Nat) (p : Bool) (w : World) (ia0 : -9223372036854775808 ≤ a) (ia : a ≤ 9223372036854775807) (ib0 : -9223372036854775808 ≤ b) (ib : b ≤ 9223372036854775807) (h : Cv.IsDate d y M k) (ha : Cv.ydB a = true) (hb : Cv.ydB b = true) (hp : Cv.yrV (100 * (M : Int) + k) a b = p) :
    Calls Tryd.prog 34 #[.int .i64 d, .int .i64 a, .int .i64 b] w fun e w' => e = .returned (.tuple #[.bool p, .int .i64 0]) ∧ w = w' := by
  obtain ⟨qa, ra, hqa, hca⟩ := yd_parts a ia0 ia
  obtain ⟨qb, rb, hqb, hcb⟩ := yd_parts b ib0 ib
  have a0 : 0 < a := by
    unfold Cv.ydB at ha
    simp only [Bool.and_eq_true, decide_eq_true_eq] at ha
    exact ha.1.1.1.1
  have b0 : 0 < b := by
    unfold Cv.ydB at hb
    simp only [Bool.and_eq_true, decide_eq_true_eq] at hb
    exact hb.1.1.1.1
  rw [ha] at hqa
  rw [hb] at hqb
  obtain ⟨_, ea1, ea2⟩ : 0 < a ∧ a / 100 = qa ∧ a % 100 = ra := by
    rcases hca with h | h
    · exact h
    · omega
  obtain ⟨_, eb1, eb2⟩ : 0 < b ∧ b / 100 = qb ∧ b % 100 = rb := by
    rcases hcb with h | h
    · exact h
    · omega
  have m1 := h.m1
  have k0 := h.k0
  have k3 : k ≤ 31 := Int.le_trans h.k1 (Cv.md_bd _ h.m0 h.m1).2
  have HD := Lib.hid h
  obtain ⟨z, hz⟩ : ∃ q : Int, 100 * (M : Int) + k = q := ⟨_, rfl⟩
  rw [hz] at hp
  have hcs : (a ≤ b ∧ a ≤ z) ∨ (a ≤ b ∧ z < a) ∨ (b < a ∧ a ≤ z) ∨ (b < a ∧ z < a) := by omega
  have E : Hid (p = Cv.yrV z a b) := Lib.hid hp.symm
  clear h ha hb hp hca hcb
  rcases hcs with ⟨g, g2⟩ | ⟨g, g2⟩ | ⟨g, g2⟩ | ⟨g, g2⟩
  · have E2 : Hid (p = decide (z ≤ b)) := Lib.hid (by rw [E.out]; unfold Cv.yrV; rw [if_neg (by omega), decide_eq_true g2]; rfl)
    clear E
    go_enter Tryd.func34, Tryd.ntmps34
    go_wp2_with fail
    refine (rdateof_val (m := (M : Int)) M rfl HD.out).mono ?_
    rintro e w' ⟨rfl, rfl⟩
    go_wp2_with fail
    refine (rdate_any 2004 qa ra _).mono ?_
    rw [hqa.out]
    rintro e w' ⟨rfl, rfl⟩
    go_wp2_with fail
    refine (rdate_any 2004 qb rb _).mono ?_
    rw [hqb.out]
    rintro e w' ⟨rfl, rfl⟩
    go_wp2_with fail
    go_ret2
    exact ⟨ret_bi E2.out.symm rfl, rfl⟩
  · have E2 : Hid (p = false) := Lib.hid (by rw [E.out]; unfold Cv.yrV; rw [if_neg (by omega), decide_eq_false (by omega)]; rfl)
    clear E
    go_enter Tryd.func34, Tryd.ntmps34
    go_wp2_with fail
    refine (rdateof_val (m := (M : Int)) M rfl HD.out).mono ?_
    rintro e w' ⟨rfl, rfl⟩
    go_wp2_with fail
    refine (rdate_any 2004 qa ra _).mono ?_
    rw [hqa.out]
    rintro e w' ⟨rfl, rfl⟩
    go_wp2_with fail
    refine (rdate_any 2004 qb rb _).mono ?_
    rw [hqb.out]
    rintro e w' ⟨rfl, rfl⟩
    go_wp2_with fail
    go_ret2
    exact ⟨ret_bi E2.out.symm rfl, rfl⟩
  · have E2 : Hid (p = true) := Lib.hid (by rw [E.out]; unfold Cv.yrV; rw [if_pos g, decide_eq_true g2]; rfl)
    clear E
    go_enter Tryd.func34, Tryd.ntmps34
    go_wp2_with fail
    refine (rdateof_val (m := (M : Int)) M rfl HD.out).mono ?_
    rintro e w' ⟨rfl, rfl⟩
    go_wp2_with fail
    refine (rdate_any 2004 qa ra _).mono ?_
    rw [hqa.out]
    rintro e w' ⟨rfl, rfl⟩
    go_wp2_with fail
    refine (rdate_any 2004 qb rb _).mono ?_
    rw [hqb.out]
    rintro e w' ⟨rfl, rfl⟩
    go_wp2_with fail
    go_ret2
    exact ⟨ret_bi E2.out.symm rfl, rfl⟩
  · have E2 : Hid (p = (decide (a ≤ z) || decide (z ≤ b))) := Lib.hid (by rw [E.out]; unfold Cv.yrV; rw [if_pos g])
    have E3 : Hid (p = decide (z ≤ b)) := Lib.hid (by rw [E2.out, decide_eq_false (by omega), Bool.false_or])
    clear E
    go_enter Tryd.func34, Tryd.ntmps34
    go_wp2_with fail
    refine (rdateof_val (m := (M : Int)) M rfl HD.out).mono ?_
    rintro e w' ⟨rfl, rfl⟩
    go_wp2_with fail
    refine (rdate_any 2004 qa ra _).mono ?_
    rw [hqa.out]
    rintro e w' ⟨rfl, rfl⟩
    go_wp2_with fail
    refine (rdate_any 2004 qb rb _).mono ?_
    rw [hqb.out]
    rintro e w' ⟨rfl, rfl⟩
    go_wp2_with fail
    go_ret2
    first
      | exact ⟨ret_bi E2.out.symm rfl, rfl⟩
      | exact ⟨ret_bi E3.out.symm rfl, rfl⟩
set_option maxHeartbeats 4000000 in
theorem ryearly_bad (d a b : Int) {y k : Int} (M : Nat) (w : World) (ia0 : -9223372036854775808 ≤ a) (ia : a ≤ 9223372036854775807) (ib0 : -9223372036854775808 ≤ b) (ib : b ≤ 9223372036854775807) (h : Cv.IsDate d y M k) (hab : Cv.ydB a = false ∨ (Cv.ydB a = true ∧ Cv.ydB b = false)) :
    Calls Tryd.prog 34 #[.int .i64 d, .int .i64 a, .int .i64 b] w fun e w' => e = .returned (.tuple #[.bool false, .int .i64 10]) ∧ w = w' := by
  obtain ⟨qa, ra, hqa, hca⟩ := yd_parts a ia0 ia
  obtain ⟨qb, rb, hqb, hcb⟩ := yd_parts b ib0 ib
  have m1 := h.m1
  have k0 := h.k0
  have k3 : k ≤ 31 := Int.le_trans h.k1 (Cv.md_bd _ h.m0 h.m1).2
  have HD := Lib.hid h
  clear h
  rcases hab with ha | ⟨ha, hb⟩
  · rw [ha] at hqa
    clear ha hcb
    rcases hca with ⟨g, ea1, ea2⟩ | ⟨g, ea1, ea2, g1, g2⟩
    all_goals
      go_enter Tryd.func34, Tryd.ntmps34
      go_wp2_with fail
      refine (rdateof_val (m := (M : Int)) M rfl HD.out).mono ?_
      rintro e w' ⟨rfl, rfl⟩
      go_wp2_with fail
      refine (rdate_any 2004 qa ra _).mono ?_
      rw [hqa.out]
      rintro e w' ⟨rfl, rfl⟩
      go_wp2_with fail
      go_ret2
      exact ⟨rfl, rfl⟩
  · have a0 : 0 < a := by
      unfold Cv.ydB at ha
      simp only [Bool.and_eq_true, decide_eq_true_eq] at ha
      exact ha.1.1.1.1
    obtain ⟨_, ea1, ea2⟩ : 0 < a ∧ a / 100 = qa ∧ a % 100 = ra := by
      rcases hca with h | h
      · exact h
      · omega
    rw [ha] at hqa
    rw [hb] at hqb
    clear ha hb hca
    rcases hcb with ⟨g, eb1, eb2⟩ | ⟨g, eb1, eb2, g1, g2⟩
    all_goals
      go_enter Tryd.func34, Tryd.ntmps34
      go_wp2_with fail
      refine (rdateof_val (m := (M : Int)) M rfl HD.out).mono ?_
      rintro e w' ⟨rfl, rfl⟩
      go_wp2_with fail
      refine (rdate_any 2004 qa ra _).mono ?_
      rw [hqa.out]
      rintro e w' ⟨rfl, rfl⟩
      go_wp2_with fail
      refine (rdate_any 2004 qb rb _).mono ?_
      rw [hqb.out]
      rintro e w' ⟨rfl, rfl⟩
      go_wp2_with fail
      go_ret2
      exact ⟨rfl, rfl⟩
theorem ryearly_day (d a b c : Int) (w : World) (hc : (d < 0 ∧ c = 2) ∨ (730484 < d ∧ c = 3)) :
    Calls Tryd.prog 34 #[.int .i64 d, .int .i64 a, .int .i64 b] w fun e w' => e = .returned (.tuple #[.bool false, .int .i64 c]) ∧ w = w' := by
  have hc0 : c = 2 ∨ c = 3 := by omega
  have HD := Lib.hid (rdate_no d c w hc)
  clear hc
  go_enter Tryd.func34, Tryd.ntmps34
  go_wp2_with fail
  refine HD.out.mono ?_
  rintro e w' ⟨rfl, rfl⟩
  rcases hc0 with rfl | rfl
  all_goals
    go_wp2
    go_ret2
    exact ⟨rfl, rfl⟩
theorem same_below {P : Program} {f : FuncId} {args : Array Value} {w : World} {v : Value} (h : Calls P f args w fun e w' => e = .returned v ∧ w = w') : Calls P f args w fun e w' => e = .returned v ∧ Below w.heap.size w w' :=
  h.mono fun _ _ ⟨he, hw⟩ => ⟨he, by subst hw; exact Below.refl _ _⟩
theorem both_yearly (d a b : Int) (ia0 : -9223372036854775808 ≤ a) (ia : a ≤ 9223372036854775807) (ib0 : -9223372036854775808 ≤ b) (ib : b ≤ 9223372036854775807) : ∃ (p : Bool) (c : Int),
    (∀ w, Calls Tryd.prog 33 #[.int .i64 d, .int .i64 a, .int .i64 b] w fun e w' => e = .returned (.tuple #[.bool p, .int .i64 c]) ∧ Below w.heap.size w w') ∧
    (∀ w, Calls Tryd.prog 34 #[.int .i64 d, .int .i64 a, .int .i64 b] w fun e w' => e = .returned (.tuple #[.bool p, .int .i64 c]) ∧ Below w.heap.size w w') := by
  by_cases h0 : d < 0
  · exact ⟨false, 2, fun w => same_below (yearly_day d a b 2 w (.inl ⟨h0, rfl⟩)), fun w => same_below (ryearly_day d a b 2 w (.inl ⟨h0, rfl⟩))⟩
  by_cases h1 : 730484 < d
  · exact ⟨false, 3, fun w => same_below (yearly_day d a b 3 w (.inr ⟨h1, rfl⟩)), fun w => same_below (ryearly_day d a b 3 w (.inr ⟨h1, rfl⟩))⟩
  obtain ⟨y, m, k, hd⟩ := Cv.date_ex d (by omega) (by omega)
  cases ha : Cv.ydB a
  · exact ⟨false, 10, fun w => yearly_bad d a b w (by omega) (by omega) ia ib (.inl ha), fun w => same_below (ryearly_bad d a b m w ia0 ia ib0 ib hd (.inl ha))⟩
  · cases hb : Cv.ydB b
    · exact ⟨false, 10, fun w => yearly_bad d a b w (by omega) (by omega) ia ib (.inr ⟨ha, hb⟩), fun w => same_below (ryearly_bad d a b m w ia0 ia ib0 ib hd (.inr ⟨ha, hb⟩))⟩
    · exact ⟨_, 0, fun w => yearly_val m hd ia ib ha hb rfl, fun w => same_below (ryearly_ok d a b m _ w ia0 ia ib0 ib hd ha hb rfl)⟩
end Go.Proofs.YtjfgfchnpghpfaaDoor
