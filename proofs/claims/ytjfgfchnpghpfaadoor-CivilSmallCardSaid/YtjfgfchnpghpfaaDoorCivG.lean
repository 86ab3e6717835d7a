/- What Works, Between and Ahead of package civil return: their walks. -/
import Derived.Test.YtjfgfchnpghpfaaDoorCivF
namespace Cv
theorem cnt_le {last : Int} {H : List Int} (h : asc last H = true) {a b : Int} (ha : 0 ≤ a) (hab : a ≤ b) : cnt H b ≤ cnt H a + (b - a) := by
  obtain ⟨n, hn⟩ : ∃ n : Nat, b = a + n := ⟨(b - a).toNat, by omega⟩
  subst hn
  clear hab
  induction n with
  | zero => simp
  | succ n ih =>
    have := cnt_step h (a + n) (by omega)
    rw [show a + ((n + 1 : Nat) : Int) = a + n + 1 from by omega, this]
    split <;> omega
theorem rightH_asc {H : List Int} (h : rightH H = true) : H.length ≤ 1000 ∧ asc (-1) H = true := by
  unfold rightH at h
  simpa only [Bool.and_eq_true, decide_eq_true_eq] using h
end Cv
namespace Go.Proofs.YtjfgfchnpghpfaaDoor
open Go Go.RowKit
section
variable {w : World} {A : Option Addr} {n cp : Nat} {H : List Int}
theorem ret_bi {a b : Bool} {c d : Int} (h : a = b) (h2 : c = d) : Ending.returned (.tuple #[.bool a, .int .i64 c]) = .returned (.tuple #[.bool b, .int .i64 d]) := by rw [h, h2]
theorem works_ok (d : Int) (hl : H.length = n) (hz : Kt.Ints w w.heap.size .i64 A H) (hr : Cv.rightH H = true) (h0 : 0 ≤ d) (h1 : d ≤ 730484) :
    Calls Tryd.prog 25 #[.int .i64 d, .slice A n cp] w fun e w' => e = .returned (.tuple #[.bool (Cv.wk H d), .int .i64 0]) ∧ Below w.heap.size w w' := by
  have hr2 := Cv.rightH_asc hr
  have hn : n ≤ 1000 := by omega
  have HR := Lib.hid (right_any A n cp H w hl hz (by omega))
  rw [hr] at HR
  have HC := Lib.hid (counter_any A n cp H w hl hz hr)
  have hs := Cv.cnt_step hr2.2 d h0
  have hb0 := Cv.cnt_bd H hr2.1 h0 (by omega)
  have hb1 := Cv.cnt_bd H hr2.1 (show 0 ≤ d + 1 by omega) (by omega)
  obtain ⟨p, hp⟩ : ∃ p, Hid (Cv.cnt H d = p) := ⟨_, Lib.hid rfl⟩
  obtain ⟨q, hq⟩ : ∃ p, Hid (Cv.cnt H (d + 1) = p) := ⟨_, Lib.hid rfl⟩
  rw [hp.out] at hs hb0
  rw [hq.out] at hs hb1
  obtain ⟨p0, p1⟩ := hb0
  obtain ⟨q0, q1⟩ := hb1
  have E : Hid (decide (p < q) = Cv.wk H d) := Lib.hid (by cases hw : Cv.wk H d <;> rw [hw] at hs <;> simp at hs <;> simp <;> omega)
  clear hs hr hz hl
  go_enter Tryd.func25, Tryd.ntmps25
  go_wp2_with fail
  refine HR.out.mono ?_
  rintro e w' ⟨rfl, rfl⟩
  go_wp2_with fail
  refine (chk_ok d _ h0 h1).mono ?_
  rintro e w' ⟨rfl, rfl⟩
  go_wp2_with fail
  refine HC.out.mono ?_
  rintro e w1 ⟨g, rfl, hc, b1⟩
  go_wp2_with fail
  refine (cnt_any (d + 1) g H _ (by omega) (by omega) hc).mono ?_
  rw [hq.out]
  rintro e w' ⟨rfl, rfl⟩
  go_wp2_with fail
  refine (cnt_any d g H _ (by omega) (by omega) hc).mono ?_
  rw [hp.out]
  rintro e w' ⟨rfl, rfl⟩
  go_wp2_with fail
  go_ret2
  exact ⟨ret_bi E.out rfl, b1⟩
theorem works_bad (d : Int) (hl : H.length = n) (hz : Kt.Ints w w.heap.size .i64 A H) (hr : Cv.rightH H = false) (hn : n ≤ 4611686018427387904) :
    Calls Tryd.prog 25 #[.int .i64 d, .slice A n cp] w fun e w' => e = .returned (.tuple #[.bool false, .int .i64 2]) ∧ Below w.heap.size w w' := by
  have HR := Lib.hid (right_any A n cp H w hl hz hn)
  rw [hr] at HR
  clear hr hz hl
  go_enter Tryd.func25, Tryd.ntmps25
  go_wp2_with fail
  refine HR.out.mono ?_
  rintro e w' ⟨rfl, rfl⟩
  go_wp2_with fail
  go_ret2
  exact ⟨rfl, Below.refl _ _⟩
theorem works_day (d c : Int) (hl : H.length = n) (hz : Kt.Ints w w.heap.size .i64 A H) (hr : Cv.rightH H = true) (hc : (d < 0 ∧ c = 2) ∨ (730484 < d ∧ c = 3)) :
    Calls Tryd.prog 25 #[.int .i64 d, .slice A n cp] w fun e w' => e = .returned (.tuple #[.bool false, .int .i64 c]) ∧ Below w.heap.size w w' := by
  have hr2 := Cv.rightH_asc hr
  have HR := Lib.hid (right_any A n cp H w hl hz (by omega))
  rw [hr] at HR
  clear hr hz hl hr2
  rcases hc with ⟨h, rfl⟩ | ⟨h, rfl⟩
  · have HC := Lib.hid (chk_low d w h)
    go_enter Tryd.func25, Tryd.ntmps25
    go_wp2_with fail
    refine HR.out.mono ?_
    rintro e w' ⟨rfl, rfl⟩
    go_wp2_with fail
    refine HC.out.mono ?_
    rintro e w' ⟨rfl, rfl⟩
    go_wp2_with fail
    go_ret2
    exact ⟨rfl, Below.refl _ _⟩
  · have HC := Lib.hid (chk_high d w h)
    go_enter Tryd.func25, Tryd.ntmps25
    go_wp2_with fail
    refine HR.out.mono ?_
    rintro e w' ⟨rfl, rfl⟩
    go_wp2_with fail
    refine HC.out.mono ?_
    rintro e w' ⟨rfl, rfl⟩
    go_wp2_with fail
    go_ret2
    exact ⟨rfl, Below.refl _ _⟩
def btwE (a b : Int) : Int := if a < 0 ∨ b < a then 2 else if 730484 < b then 3 else 0
theorem between_ok (a b : Int) (hl : H.length = n) (hz : Kt.Ints w w.heap.size .i64 A H) (hr : Cv.rightH H = true) (h0 : 0 ≤ a) (hab : a ≤ b) (h1 : b ≤ 730484) :
    Calls Tryd.prog 29 #[.int .i64 a, .int .i64 b, .slice A n cp] w fun e w' => e = .returned (.tuple #[.int .i64 (Cv.cnt H b - Cv.cnt H a), .int .i64 0]) ∧ Below w.heap.size w w' := by
  have hr2 := Cv.rightH_asc hr
  have hn : n ≤ 1000 := by omega
  have HR := Lib.hid (right_any A n cp H w hl hz (by omega))
  rw [hr] at HR
  have HC := Lib.hid (counter_any A n cp H w hl hz hr)
  have hb0 := Cv.cnt_bd H hr2.1 h0 (by omega)
  have hb1 := Cv.cnt_bd H hr2.1 (show 0 ≤ b by omega) (by omega)
  obtain ⟨p, hp⟩ : ∃ p, Hid (Cv.cnt H a = p) := ⟨_, Lib.hid rfl⟩
  obtain ⟨q, hq⟩ : ∃ p, Hid (Cv.cnt H b = p) := ⟨_, Lib.hid rfl⟩
  rw [hp.out] at hb0 ⊢
  rw [hq.out] at hb1 ⊢
  obtain ⟨p0, p1⟩ := hb0
  obtain ⟨q0, q1⟩ := hb1
  clear hr hz hl hr2
  go_enter Tryd.func29, Tryd.ntmps29
  go_wp2_with fail
  refine HR.out.mono ?_
  rintro e w' ⟨rfl, rfl⟩
  go_wp2_with fail
  refine HC.out.mono ?_
  rintro e w1 ⟨g, rfl, hc, b1⟩
  go_wp2_with fail
  refine (cnt_any b g H _ (by omega) (by omega) hc).mono ?_
  rw [hq.out]
  rintro e w' ⟨rfl, rfl⟩
  go_wp2_with fail
  refine (cnt_any a g H _ (by omega) (by omega) hc).mono ?_
  rw [hp.out]
  rintro e w' ⟨rfl, rfl⟩
  go_wp2_with fail
  go_ret2
  exact ⟨rfl, b1⟩
theorem between_bad (a b : Int) (hl : H.length = n) (hz : Kt.Ints w w.heap.size .i64 A H) (hr : Cv.rightH H = false) (hn : n ≤ 4611686018427387904) :
    Calls Tryd.prog 29 #[.int .i64 a, .int .i64 b, .slice A n cp] w fun e w' => e = .returned (.tuple #[.int .i64 0, .int .i64 2]) ∧ Below w.heap.size w w' := by
  have HR := Lib.hid (right_any A n cp H w hl hz hn)
  rw [hr] at HR
  clear hr hz hl
  go_enter Tryd.func29, Tryd.ntmps29
  go_wp2_with fail
  refine HR.out.mono ?_
  rintro e w' ⟨rfl, rfl⟩
  go_wp2_with fail
  go_ret2
  exact ⟨rfl, Below.refl _ _⟩
theorem between_day (a b c : Int) (hl : H.length = n) (hz : Kt.Ints w w.heap.size .i64 A H) (hr : Cv.rightH H = true) (hc : (a < 0 ∧ c = 2) ∨ (0 ≤ a ∧ b < a ∧ c = 2) ∨ (0 ≤ a ∧ a ≤ b ∧ 730484 < b ∧ c = 3)) :
    Calls Tryd.prog 29 #[.int .i64 a, .int .i64 b, .slice A n cp] w fun e w' => e = .returned (.tuple #[.int .i64 0, .int .i64 c]) ∧ Below w.heap.size w w' := by
  have hr2 := Cv.rightH_asc hr
  have HR := Lib.hid (right_any A n cp H w hl hz (by omega))
  rw [hr] at HR
  clear hr hz hl hr2
  rcases hc with ⟨h, rfl⟩ | ⟨h, h2, rfl⟩ | ⟨h, h2, h3, rfl⟩
  all_goals
    go_enter Tryd.func29, Tryd.ntmps29
    go_wp2_with fail
    refine HR.out.mono ?_
    rintro e w' ⟨rfl, rfl⟩
    go_wp2_with fail
    go_ret2
    exact ⟨rfl, Below.refl _ _⟩
theorem ahead_bad (a k : Int) (hl : H.length = n) (hz : Kt.Ints w w.heap.size .i64 A H) (hr : Cv.rightH H = false) (hn : n ≤ 4611686018427387904) :
    Calls Tryd.prog 31 #[.int .i64 a, .int .i64 k, .slice A n cp] w fun e w' => e = .returned (.tuple #[.int .i64 0, .int .i64 2]) ∧ Below w.heap.size w w' := by
  have HR := Lib.hid (right_any A n cp H w hl hz hn)
  rw [hr] at HR
  clear hr hz hl
  go_enter Tryd.func31, Tryd.ntmps31
  go_wp2_with fail
  refine HR.out.mono ?_
  rintro e w' ⟨rfl, rfl⟩
  go_wp2_with fail
  go_ret2
  exact ⟨rfl, Below.refl _ _⟩
theorem ahead_day (a k c : Int) (hl : H.length = n) (hz : Kt.Ints w w.heap.size .i64 A H) (hr : Cv.rightH H = true) (hc : (a < 0 ∧ c = 2) ∨ (0 ≤ a ∧ k < 0 ∧ c = 2) ∨ (0 ≤ a ∧ 0 ≤ k ∧ 730484 < a ∧ c = 3)) :
    Calls Tryd.prog 31 #[.int .i64 a, .int .i64 k, .slice A n cp] w fun e w' => e = .returned (.tuple #[.int .i64 0, .int .i64 c]) ∧ Below w.heap.size w w' := by
  have hr2 := Cv.rightH_asc hr
  have HR := Lib.hid (right_any A n cp H w hl hz (by omega))
  rw [hr] at HR
  clear hr hz hl hr2
  rcases hc with ⟨h, rfl⟩ | ⟨h, h2, rfl⟩ | ⟨h, h2, h3, rfl⟩
  all_goals
    go_enter Tryd.func31, Tryd.ntmps31
    go_wp2_with fail
    refine HR.out.mono ?_
    rintro e w' ⟨rfl, rfl⟩
    go_wp2_with fail
    go_ret2
    exact ⟨rfl, Below.refl _ _⟩
/-- There are not so many working days. -/
theorem ahead_none (a k : Int) (hl : H.length = n) (hz : Kt.Ints w w.heap.size .i64 A H) (hr : Cv.rightH H = true) (h0 : 0 ≤ a) (h1 : a ≤ 730484) (hk : 0 ≤ k) (hn : Cv.cnt H 730485 - Cv.cnt H a ≤ k) :
    Calls Tryd.prog 31 #[.int .i64 a, .int .i64 k, .slice A n cp] w fun e w' => e = .returned (.tuple #[.int .i64 0, .int .i64 3]) ∧ Below w.heap.size w w' := by
  have hr2 := Cv.rightH_asc hr
  have HR := Lib.hid (right_any A n cp H w hl hz (by omega))
  rw [hr] at HR
  have HC := Lib.hid (counter_any A n cp H w hl hz hr)
  have hb0 := Cv.cnt_bd H hr2.1 h0 (by omega)
  have hb1 := Cv.cnt_bd H hr2.1 (show (0 : Int) ≤ 730485 by omega) (by omega)
  obtain ⟨p, hp⟩ : ∃ p, Hid (Cv.cnt H a = p) := ⟨_, Lib.hid rfl⟩
  obtain ⟨q, hq⟩ : ∃ p, Hid (Cv.cnt H 730485 = p) := ⟨_, Lib.hid rfl⟩
  rw [hp.out] at hb0 hn
  rw [hq.out] at hb1 hn
  obtain ⟨p0, p1⟩ := hb0
  obtain ⟨q0, q1⟩ := hb1
  clear hr hz hl hr2
  go_enter Tryd.func31, Tryd.ntmps31
  go_wp2_with fail
  refine HR.out.mono ?_
  rintro e w' ⟨rfl, rfl⟩
  go_wp2_with fail
  refine HC.out.mono ?_
  rintro e w1 ⟨g, rfl, hc, b1⟩
  go_wp2_with fail
  refine (cnt_any a g H _ (by omega) (by omega) hc).mono ?_
  rw [hp.out]
  rintro e w' ⟨rfl, rfl⟩
  go_wp2_with fail
  refine (cnt_any 730485 g H _ (by omega) (by omega) hc).mono ?_
  rw [hq.out]
  rintro e w' ⟨rfl, rfl⟩
  go_wp2_with fail
  go_ret2
  exact ⟨rfl, b1⟩
/-- The day behind which there are more than k working days, the first one. -/
def AheadR (w : World) (H : List Int) (a k : Int) (e : Ending) (w' : World) : Prop :=
  (∃ d, e = .returned (.tuple #[.int .i64 d, .int .i64 0]) ∧ a ≤ d ∧ d ≤ 730484 ∧ Cv.cnt H d - Cv.cnt H a = k ∧ Cv.wk H d = true) ∧ Below w.heap.size w w'
set_option maxHeartbeats 1000000 in
theorem ahead_ok (a k : Int) (hl : H.length = n) (hz : Kt.Ints w w.heap.size .i64 A H) (hr : Cv.rightH H = true) (h0 : 0 ≤ a) (h1 : a ≤ 730484) (hk : 0 ≤ k) (hn : k < Cv.cnt H 730485 - Cv.cnt H a) :
    Calls Tryd.prog 31 #[.int .i64 a, .int .i64 k, .slice A n cp] w (AheadR w H a k) := by
  have hr2 := Cv.rightH_asc hr
  have HR := Lib.hid (right_any A n cp H w hl hz (by omega))
  rw [hr] at HR
  have HC := Lib.hid (counter_any A n cp H w hl hz hr)
  have hb0 := Cv.cnt_bd H hr2.1 h0 (by omega)
  have hb1 := Cv.cnt_bd H hr2.1 (show (0 : Int) ≤ 730485 by omega) (by omega)
  have HBD := Lib.hid (fun d => @Cv.cnt_bd H hr2.1 d)
  have HASC := Lib.hid hr2.2
  have HNN := Lib.hid hn
  obtain ⟨p, hp⟩ : ∃ p, Hid (Cv.cnt H a = p) := ⟨_, Lib.hid rfl⟩
  obtain ⟨q, hq⟩ : ∃ p, Hid (Cv.cnt H 730485 = p) := ⟨_, Lib.hid rfl⟩
  rw [hp.out] at hb0 hn
  rw [hq.out] at hb1 hn
  obtain ⟨p0, p1⟩ := hb0
  obtain ⟨q0, q1⟩ := hb1
  clear hr hz hl hr2
  go_enter Tryd.func31, Tryd.ntmps31
  go_wp2_with fail
  refine HR.out.mono ?_
  rintro e w' ⟨rfl, rfl⟩
  go_wp2_with fail
  refine HC.out.mono ?_
  rintro e w1 ⟨g, rfl, hc, b1⟩
  go_wp2_with fail
  refine (cnt_any a g H _ (by omega) (by omega) hc).mono ?_
  rw [hp.out]
  rintro e w' ⟨rfl, rfl⟩
  go_wp2_with fail
  refine (cnt_any 730485 g H _ (by omega) (by omega) hc).mono ?_
  rw [hq.out]
  rintro e w' ⟨rfl, rfl⟩
  go_wp2_with fail
  go_loopw [10, 11] (fun lo hi wr => ∃ x y : Int, lo = .int .i64 x ∧ hi = .int .i64 y ∧ a ≤ x ∧ x ≤ y ∧ y ≤ 730484 ∧ Hid (Cv.cnt H x - p ≤ k) ∧ Hid (k < Cv.cnt H (y + 1) - p) ∧ w1 = wr) (fun lo hi _ => (intOf hi - intOf lo).toNat)
  case atStart => exact ⟨a, 730484, rfl, rfl, by omega, by omega, by omega, Lib.hid (by rw [hp.out]; omega), Lib.hid (by rw [show (730484 : Int) + 1 = 730485 from rfl, hq.out]; exact hn), rfl⟩
  case round =>
    obtain ⟨x, y, rfl, rfl, hx, hxy, hy, hlo, hhi, rfl⟩ := hrel
    by_cases hlt : x < y
    · obtain ⟨m, hm⟩ : ∃ m, (x + y) / 2 = m := ⟨_, rfl⟩
      have hm0 : x ≤ m := by omega
      have hm1 : m < y := by omega
      have hbm := HBD.out (m + 1) (by omega) (by omega)
      obtain ⟨v, hv⟩ : ∃ v, Hid (Cv.cnt H (m + 1) = v) := ⟨_, Lib.hid rfl⟩
      rw [hv.out] at hbm
      obtain ⟨v0, v1⟩ := hbm
      go_wp2_with fail
      refine (cnt_any (m + 1) g H _ (by omega) (by omega) hc).mono ?_
      rw [hv.out]
      rintro e w' ⟨rfl, rfl⟩
      by_cases hgt : k < v - p
      · have HH : Hid (k < Cv.cnt H (m + 1) - p) := Lib.hid (by rw [hv.out]; exact hgt)
        go_wp2_with fail
        go_roundw
        case rel => exact ⟨x, m, rfl, rfl, hx, hm0, by omega, hlo, HH, by trivial⟩
        case measure => simp [intOf]; omega
      · have HH : Hid (Cv.cnt H (m + 1) - p ≤ k) := Lib.hid (by rw [hv.out]; omega)
        go_wp2_with fail
        go_roundw
        case rel => exact ⟨m + 1, y, rfl, rfl, by omega, by omega, hy, HH, hhi, by trivial⟩
        case measure => simp [intOf]; omega
    · obtain rfl : x = y := by omega
      have hs := Cv.cnt_step HASC.out x (by omega)
      have hlo2 := hlo.out
      have hhi2 := hhi.out
      have hwk : Cv.wk H x = true ∧ Cv.cnt H x - p = k := by
        cases hw : Cv.wk H x
        · rw [hw] at hs; simp at hs; omega
        · rw [hw] at hs; simp at hs; exact ⟨rfl, by omega⟩
      have HW := Lib.hid hwk
      clear hs hlo2 hhi2 hwk
      go_wp2_with fail
      go_ret2
      exact ⟨⟨x, rfl, hx, hy, by rw [hp.out]; exact HW.out.2, HW.out.1⟩, b1⟩
end
end Go.Proofs.YtjfgfchnpghpfaaDoor
