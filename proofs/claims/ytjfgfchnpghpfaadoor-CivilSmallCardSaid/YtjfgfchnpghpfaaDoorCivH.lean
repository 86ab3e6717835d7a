/- What yearDay and Yearly of package civil return: their walks. -/
import Derived.Test.YtjfgfchnpghpfaaDoorCivG
namespace Cv
def ydB (n : Int) : Bool := decide (0 < n) && decide (1 ≤ n / 100) && decide (n / 100 ≤ 12) && decide (1 ≤ n % 100) && decide (n % 100 ≤ md true (n / 100).toNat)
def yrV (n a b : Int) : Bool := if b < a then decide (a ≤ n) || decide (n ≤ b) else decide (a ≤ n) && decide (n ≤ b)
end Cv
namespace Go.Proofs.YtjfgfchnpghpfaaDoor
open Go Go.RowKit
theorem yd_any (n : Int) (hi : n ≤ 9223372036854775807) (w : World) : Calls Tryd.prog 56 #[.int .i64 n] w fun e w' => e = .returned (.bool (Cv.ydB n)) ∧ Below w.heap.size w w' := by
  have HAL := fun (w1 : World) (b1 : Below w.heap.size w w1) => (b1.alloc b1.size (.cells (Kt.IArr .i64 Cv.ah) 63) : Below w.heap.size w (w1.alloc (.cells (Kt.IArr .i64 Cv.ah) 63)))
  have HB := Lib.hid HAL
  clear HAL
  by_cases g0 : 0 < n
  case neg =>
    have E : Hid (Cv.ydB n = false) := Lib.hid (by unfold Cv.ydB; rw [decide_eq_false g0]; rfl)
    go_enter Tryd.func56, Tryd.ntmps56
    go_wp2_with fail
    refine (ahead_any _).mono ?_
    rintro e w1 ⟨rfl, b1⟩
    go_wp2_with fail
    go_ret
    exact ⟨Kt.ret_bool E.out.symm, HB.out _ b1⟩
  obtain ⟨M, hM⟩ : ∃ M : Nat, n / 100 = (M : Int) := ⟨(n / 100).toNat, by omega⟩
  obtain ⟨D, hD⟩ : ∃ D : Int, n % 100 = D := ⟨_, rfl⟩
  have E0 : Hid (Cv.ydB n = (decide (1 ≤ M) && decide (M ≤ 12) && decide (1 ≤ D) && decide (D ≤ Cv.md true M))) := Lib.hid (by
    unfold Cv.ydB
    rw [hM, hD, decide_eq_true g0, Bool.true_and, Int.toNat_natCast]
    congr 1
    congr 1
    congr 1
    · rw [Bool.eq_iff_iff]; simp only [decide_eq_true_eq]; omega
    · rw [Bool.eq_iff_iff]; simp only [decide_eq_true_eq]; omega)
  by_cases g1 : 1 ≤ M
  case neg =>
    have E : Hid (Cv.ydB n = false) := Lib.hid (by rw [E0.out, decide_eq_false g1]; rfl)
    clear E0
    go_enter Tryd.func56, Tryd.ntmps56
    go_wp2_with fail
    refine (ahead_any _).mono ?_
    rintro e w1 ⟨rfl, b1⟩
    go_wp2_with fail
    go_ret
    exact ⟨Kt.ret_bool E.out.symm, HB.out _ b1⟩
  by_cases g2 : M ≤ 12
  case neg =>
    have E : Hid (Cv.ydB n = false) := Lib.hid (by rw [E0.out, decide_eq_false g2, Bool.and_false]; rfl)
    clear E0
    go_enter Tryd.func56, Tryd.ntmps56
    go_wp2_with fail
    refine (ahead_any _).mono ?_
    rintro e w1 ⟨rfl, b1⟩
    go_wp2_with fail
    go_ret
    exact ⟨Kt.ret_bool E.out.symm, HB.out _ b1⟩
  by_cases g3 : 1 ≤ D
  case neg =>
    have E : Hid (Cv.ydB n = false) := Lib.hid (by rw [E0.out, decide_eq_false g3, Bool.and_false]; rfl)
    clear E0
    go_enter Tryd.func56, Tryd.ntmps56
    go_wp2_with fail
    refine (ahead_any _).mono ?_
    rintro e w1 ⟨rfl, b1⟩
    go_wp2_with fail
    go_ret
    exact ⟨Kt.ret_bool E.out.symm, HB.out _ b1⟩
  obtain ⟨v, hv⟩ : ∃ v, Hid (Cv.md true M = v) := ⟨_, Lib.hid rfl⟩
  have E : Hid (Cv.ydB n = decide (D ≤ v)) := Lib.hid (by rw [E0.out, decide_eq_true g1, decide_eq_true g2, decide_eq_true g3, hv.out]; rfl)
  clear E0
  go_enter Tryd.func56, Tryd.ntmps56
  go_wp2_with fail
  refine (ahead_any _).mono ?_
  rintro e w1 ⟨rfl, b1⟩
  go_wp2_with fail
  have hblk : Kt.IBlk (w1.alloc (.cells (Kt.IArr .i64 Cv.ah) 63)) w1.heap.size 63 .i64 Cv.ah := Kt.IBlk.new _ _ _ _
  refine (md_any w1.heap.size M true _ g1 g2 _ hblk).mono ?_
  rw [hv.out]
  rintro e w2 ⟨rfl, q, rfl⟩
  have b2 : Below w.heap.size w ((w1.alloc (.cells (Kt.IArr .i64 Cv.ah) 63)).drewN q) := Kt.below_drewN (HB.out _ b1) q
  go_wp2_with fail
  go_ret
  exact ⟨Kt.ret_bool E.out.symm, b2⟩
theorem yearly_day (d a b c : Int) (w : World) (hc : (d < 0 ∧ c = 2) ∨ (730484 < d ∧ c = 3)) :
    Calls Tryd.prog 33 #[.int .i64 d, .int .i64 a, .int .i64 b] w fun e w' => e = .returned (.tuple #[.bool false, .int .i64 c]) ∧ w = w' := by
  have hc0 : c = 2 ∨ c = 3 := by omega
  have HD := Lib.hid (date_bad d c w hc)
  clear hc
  go_enter Tryd.func33, Tryd.ntmps33
  go_wp2_with fail
  refine HD.out.mono ?_
  rintro e w' ⟨rfl, rfl⟩
  rcases hc0 with rfl | rfl
  all_goals
    go_wp2
    go_ret2
    exact ⟨rfl, rfl⟩
theorem yearly_bad (d a b : Int) (w : World) (h0 : 0 ≤ d) (h1 : d ≤ 730484) (ia : a ≤ 9223372036854775807) (ib : b ≤ 9223372036854775807) (hb : Cv.ydB a = false ∨ (Cv.ydB a = true ∧ Cv.ydB b = false)) :
    Calls Tryd.prog 33 #[.int .i64 d, .int .i64 a, .int .i64 b] w fun e w' => e = .returned (.tuple #[.bool false, .int .i64 10]) ∧ Below w.heap.size w w' := by
  rcases hb with hb | ⟨hb, hb2⟩
  · have HA := Lib.hid (yd_any a ia)
    rw [hb] at HA
    clear hb
    go_enter Tryd.func33, Tryd.ntmps33
    go_wp2_with fail
    refine (date_ok d _ h0 h1).mono ?_
    rintro e w1 ⟨⟨y, m, k, rfl, hd⟩, b1⟩
    go_wp2_with fail
    refine (HA.out _).mono ?_
    rintro e w2 ⟨rfl, b2⟩
    go_wp2_with fail
    go_ret2
    exact ⟨rfl, Kt.next b1 b2⟩
  · have HA := Lib.hid (yd_any a ia)
    have HB := Lib.hid (yd_any b ib)
    rw [hb] at HA
    rw [hb2] at HB
    clear hb hb2
    go_enter Tryd.func33, Tryd.ntmps33
    go_wp2_with fail
    refine (date_ok d _ h0 h1).mono ?_
    rintro e w1 ⟨⟨y, m, k, rfl, hd⟩, b1⟩
    go_wp2_with fail
    refine (HA.out _).mono ?_
    rintro e w2 ⟨rfl, b2⟩
    go_wp2_with fail
    refine (HB.out _).mono ?_
    rintro e w3 ⟨rfl, b3⟩
    go_wp2_with fail
    go_ret2
    exact ⟨rfl, Kt.next (Kt.next b1 b2) b3⟩
def YearlyR (w : World) (d a b : Int) (e : Ending) (w' : World) : Prop :=
  (∃ (y : Int) (m : Nat) (k : Int), e = .returned (.tuple #[.bool (Cv.yrV (100 * (m : Int) + k) a b), .int .i64 0]) ∧ Cv.IsDate d y m k) ∧ Below w.heap.size w w'
theorem yearly_ok (d a b : Int) (w : World) (h0 : 0 ≤ d) (h1 : d ≤ 730484) (ia : a ≤ 9223372036854775807) (ib : b ≤ 9223372036854775807) (ha : Cv.ydB a = true) (hb : Cv.ydB b = true) :
    Calls Tryd.prog 33 #[.int .i64 d, .int .i64 a, .int .i64 b] w (YearlyR w d a b) := by
  have HA := Lib.hid (yd_any a ia)
  have HB := Lib.hid (yd_any b ib)
  rw [ha] at HA
  rw [hb] at HB
  clear ha hb
  go_enter Tryd.func33, Tryd.ntmps33
  go_wp2_with fail
  refine (date_ok d _ h0 h1).mono ?_
  rintro e w1 ⟨⟨y, m, k, rfl, hd⟩, b1⟩
  have HD := Lib.hid hd
  have m1 := hd.m1
  have k0 := hd.k0
  have k1 := hd.k1
  have k2 := (Cv.md_bd (Cv.leap y) hd.m0 hd.m1).2
  have k3 : k ≤ 31 := by omega
  clear hd k1 k2
  obtain ⟨q, hq⟩ : ∃ q : Int, 100 * (m : Int) + k = q := ⟨_, rfl⟩
  go_wp2_with fail
  refine (HA.out _).mono ?_
  rintro e w2 ⟨rfl, b2⟩
  go_wp2_with fail
  refine (HB.out _).mono ?_
  rintro e w3 ⟨rfl, b3⟩
  have b4 := Kt.next (Kt.next b1 b2) b3
  by_cases h : b < a
  · by_cases h2 : a ≤ q
    · have E : Hid (Cv.yrV (100 * (m : Int) + k) a b = true) := Lib.hid (by unfold Cv.yrV; rw [if_pos h, hq, decide_eq_true h2]; rfl)
      go_wp2_with fail
      go_ret2
      exact ⟨⟨y, m, k, ret_bi E.out.symm rfl, HD.out⟩, b4⟩
    · have E : Hid (Cv.yrV (100 * (m : Int) + k) a b = (decide (a ≤ q) || decide (q ≤ b))) := Lib.hid (by unfold Cv.yrV; rw [if_pos h, hq])
      go_wp2_with fail
      go_ret2
      exact ⟨⟨y, m, k, ret_bi E.out.symm rfl, HD.out⟩, b4⟩
  · by_cases h2 : a ≤ q
    · have E : Hid (Cv.yrV (100 * (m : Int) + k) a b = decide (q ≤ b)) := Lib.hid (by unfold Cv.yrV; rw [if_neg h, hq, decide_eq_true h2]; rfl)
      go_wp2_with fail
      go_ret2
      exact ⟨⟨y, m, k, ret_bi E.out.symm rfl, HD.out⟩, b4⟩
    · have E : Hid (Cv.yrV (100 * (m : Int) + k) a b = false) := Lib.hid (by unfold Cv.yrV; rw [if_neg h, hq, decide_eq_false h2]; rfl)
      go_wp2_with fail
      go_ret2
      exact ⟨⟨y, m, k, ret_bi E.out.symm rfl, HD.out⟩, b4⟩
end Go.Proofs.YtjfgfchnpghpfaaDoor
