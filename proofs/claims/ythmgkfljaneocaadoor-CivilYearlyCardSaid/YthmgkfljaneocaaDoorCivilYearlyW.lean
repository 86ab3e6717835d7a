/- The walk of CivilYearly. -/
import Derived.Test.YthmgkfljaneocaaDoorCivN
namespace Cv
/-- v is the day of the year of day d. -/
def MD (d v : Int) : Prop := ∃ (y : Int) (m : Nat) (k : Int), IsDate d y m k ∧ v = 100 * (m : Int) + k
theorem MD.uniq {d v v' : Int} (h : MD d v) (h' : MD d v') : v = v' := by
  obtain ⟨y, m, k, hd, rfl⟩ := h
  obtain ⟨y', m', k', hd', rfl⟩ := h'
  obtain ⟨_, rfl, rfl⟩ := hd.uniq hd'
  rfl
theorem md_true (l : Bool) (m : Nat) : md l m ≤ md true m := by
  unfold md
  cases l <;> simp <;> split <;> omega
theorem MD.bd {d v : Int} (h : MD d v) : 101 ≤ v ∧ v ≤ 1231 := by
  obtain ⟨y, m, k, hd, rfl⟩ := h
  have := hd.m0
  have := hd.m1
  have := hd.k0
  have := hd.k1
  have := (md_bd (leap y) hd.m0 hd.m1).2
  omega
theorem MD.yd {d v : Int} (h : MD d v) : ydB v = true := by
  obtain ⟨y, m, k, hd, rfl⟩ := h
  have m0 := hd.m0
  have m1 := hd.m1
  have k0 := hd.k0
  have k1 := hd.k1
  have k2 := (md_bd (leap y) hd.m0 hd.m1).2
  have k3 := md_true (leap y) m
  have e1 : (100 * (m : Int) + k) / 100 = m := by omega
  have e2 : (100 * (m : Int) + k) % 100 = k := by omega
  unfold ydB
  rw [e1, e2, Int.toNat_natCast]
  simp only [Bool.and_eq_true, decide_eq_true_eq]
  omega
end Cv
namespace Go.Proofs.YthmgkfljaneocaaDoor
open Go Go.RowKit

theorem md_val {d v : Int} {w : World} (h : Cv.MD d v) : Calls Tryd.prog 32 #[.int .i64 d] w fun e w' => e = .returned (.int .i64 v) ∧ Below w.heap.size w w' := by
  obtain ⟨y, m, k, hd, rfl⟩ := h
  have m1 := hd.m1
  have k0 := hd.k0
  have k1 : k ≤ 31 := Int.le_trans hd.k1 (Cv.md_bd _ hd.m0 hd.m1).2
  have HD := Lib.hid hd
  clear hd
  go_enter Tryd.func32, Tryd.ntmps32
  go_wp2_with fail
  refine (date_val (y := y) (m := (m : Int)) (k := k) m rfl HD.out).mono ?_
  rintro e w1 ⟨rfl, b1⟩
  go_wp2_with fail
  go_ret
  exact ⟨rfl, b1⟩
theorem yearly_md {d v a b : Int} {p : Bool} {w : World} (h : Cv.MD d v) (ha : Cv.ydB a = true) (hb : Cv.ydB b = true) (ia : a ≤ 1231) (ib : b ≤ 1231) (hp : Cv.yrV v a b = p) :
    Calls Tryd.prog 23 #[.int .i64 d, .int .i64 a, .int .i64 b] w fun e w' => e = .returned (.tuple #[.bool p, .int .i64 0]) ∧ Below w.heap.size w w' := by
  obtain ⟨y, m, k, hd, rfl⟩ := h
  exact yearly_val m hd (by omega) (by omega) ha hb hp
/-- Each day has its day of the year. -/
theorem md_ex (d : Int) (h0 : 0 ≤ d) (h1 : d ≤ 730484) : ∃ v, Cv.MD d v := by
  obtain ⟨y, m, k, h⟩ := Cv.date_ex d h0 h1
  exact ⟨_, y, m, k, h, rfl⟩
set_option maxRecDepth 100000 in
set_option maxHeartbeats 8000000 in
theorem walk_CivilYearly (n : Int) (_wn : (Lit.int .i64 n).wf = true) (a : Int) (_wa : (Lit.int .i64 a).wf = true) (b : Int) (_wb : (Lit.int .i64 b).wf = true) (w : World) (ht : Tab w) :
    Calls Tryd.prog 7 #[.int .i64 n, .int .i64 a, .int .i64 b] w fun e w' => e = .returned (.bool true) ∧ Below w.heap.size w w' := by
  have HT := Lib.hid ht
  clear ht
  obtain ⟨d, hd⟩ : ∃ d, Hid (n % 730485 = d) := ⟨_, Lib.hid rfl⟩
  obtain ⟨i, hi⟩ : ∃ d, Hid (a % 730485 = d) := ⟨_, Lib.hid rfl⟩
  obtain ⟨j, hj⟩ : ∃ d, Hid (b % 730485 = d) := ⟨_, Lib.hid rfl⟩
  obtain ⟨v, hv⟩ := md_ex d (by rw [← hd.out]; omega) (by rw [← hd.out]; omega)
  obtain ⟨x, hx⟩ := md_ex i (by rw [← hi.out]; omega) (by rw [← hi.out]; omega)
  obtain ⟨y, hy⟩ := md_ex j (by rw [← hj.out]; omega) (by rw [← hj.out]; omega)
  have HV := Lib.hid hv
  have HX := Lib.hid hx
  have HY := Lib.hid hy
  have bx := hx.bd.2
  have by' := hy.bd.2
  clear hv hx hy
  have hcs : (x = y ∧ v = x) ∨ (x = y ∧ v ≠ x) ∨ (x < y ∧ v < x) ∨ (x < y ∧ v = x) ∨ (x < y ∧ x < v ∧ v < y) ∨ (x < y ∧ v = y) ∨ (x < y ∧ y < v) ∨ (y < x ∧ v < y) ∨ (y < x ∧ v = y) ∨ (y < x ∧ y < v ∧ v < x) ∨ (y < x ∧ v = x) ∨ (y < x ∧ x < v) := by omega
  rcases hcs with h | h | h | h | h | h | h | h | h | h | h | h
  · have hp : Cv.yrV v x y = true := by unfold Cv.yrV; split <;> simp <;> omega
    have hq : Cv.yrV v y x = true := by unfold Cv.yrV; split <;> simp <;> omega
    have HP := Lib.hid hp
    have HQ := Lib.hid hq
    clear hp hq
    obtain ⟨rfl, rfl⟩ := h
    go_enter Tryd.func7, Tryd.ntmps7
    go_wp2_with fail
    refine (awake_any _ HT.out).mono ?_
    rintro e w0 ⟨rfl, b0⟩
    go_wp2_with fail
    refine (lawday_any n _).mono ?_
    rw [hd.out]
    rintro e w' ⟨rfl, rfl⟩
    go_wp2_with fail
    refine (lawday_any a _).mono ?_
    rw [hi.out]
    rintro e w' ⟨rfl, rfl⟩
    go_wp2_with fail
    refine (md_val HX.out).mono ?_
    rintro e w1 ⟨rfl, b1⟩
    replace b1 := Kt.next b0 b1
    go_wp2_with fail
    refine (lawday_any b _).mono ?_
    rw [hj.out]
    rintro e w' ⟨rfl, rfl⟩
    go_wp2_with fail
    refine (md_val HY.out).mono ?_
    rintro e w2 ⟨rfl, b2⟩
    replace b2 := Kt.next b1 b2
    go_wp2_with fail
    refine (yearly_md HV.out HX.out.yd HY.out.yd bx by' HP.out).mono ?_
    rintro e w3 ⟨rfl, b3⟩
    replace b3 := Kt.next b2 b3
    go_wp2_with fail
    refine (yearly_md HV.out HY.out.yd HX.out.yd by' bx HQ.out).mono ?_
    rintro e w4 ⟨rfl, b4⟩
    replace b4 := Kt.next b3 b4
    go_wp2_with fail
    refine (md_val HV.out).mono ?_
    rintro e w5 ⟨rfl, b5⟩
    replace b5 := Kt.next b4 b5
    go_wp2_with fail
    go_ret
    exact ⟨rfl, b5⟩
  · have hp : Cv.yrV v x y = false := by unfold Cv.yrV; split <;> simp <;> omega
    have hq : Cv.yrV v y x = false := by unfold Cv.yrV; split <;> simp <;> omega
    have HP := Lib.hid hp
    have HQ := Lib.hid hq
    clear hp hq
    obtain ⟨rfl, hne⟩ := h
    have hvx : (v == x) = false := by simp; omega
    go_enter Tryd.func7, Tryd.ntmps7
    go_wp2_with fail
    refine (awake_any _ HT.out).mono ?_
    rintro e w0 ⟨rfl, b0⟩
    go_wp2_with fail
    refine (lawday_any n _).mono ?_
    rw [hd.out]
    rintro e w' ⟨rfl, rfl⟩
    go_wp2_with fail
    refine (lawday_any a _).mono ?_
    rw [hi.out]
    rintro e w' ⟨rfl, rfl⟩
    go_wp2_with fail
    refine (md_val HX.out).mono ?_
    rintro e w1 ⟨rfl, b1⟩
    replace b1 := Kt.next b0 b1
    go_wp2_with fail
    refine (lawday_any b _).mono ?_
    rw [hj.out]
    rintro e w' ⟨rfl, rfl⟩
    go_wp2_with fail
    refine (md_val HY.out).mono ?_
    rintro e w2 ⟨rfl, b2⟩
    replace b2 := Kt.next b1 b2
    go_wp2_with fail
    refine (yearly_md HV.out HX.out.yd HY.out.yd bx by' HP.out).mono ?_
    rintro e w3 ⟨rfl, b3⟩
    replace b3 := Kt.next b2 b3
    go_wp2_with fail
    refine (yearly_md HV.out HY.out.yd HX.out.yd by' bx HQ.out).mono ?_
    rintro e w4 ⟨rfl, b4⟩
    replace b4 := Kt.next b3 b4
    go_wp2_with fail
    refine (md_val HV.out).mono ?_
    rintro e w5 ⟨rfl, b5⟩
    replace b5 := Kt.next b4 b5
    go_wp2_with fail
    refine (md_val HV.out).mono ?_
    rintro e w6 ⟨rfl, b6⟩
    replace b6 := Kt.next b5 b6
    go_wp2_with fail
    go_ret
    exact ⟨rfl, b6⟩
  · have hp : Cv.yrV v x y = false := by unfold Cv.yrV; split <;> simp <;> omega
    have hq : Cv.yrV v y x = true := by unfold Cv.yrV; split <;> simp <;> omega
    have HP := Lib.hid hp
    have HQ := Lib.hid hq
    clear hp hq
    obtain ⟨g1, g2⟩ := h
    have hvx : (v == x) = false := by simp; omega
    have hvy : (v == y) = false := by simp; omega
    go_enter Tryd.func7, Tryd.ntmps7
    go_wp2_with fail
    refine (awake_any _ HT.out).mono ?_
    rintro e w0 ⟨rfl, b0⟩
    go_wp2_with fail
    refine (lawday_any n _).mono ?_
    rw [hd.out]
    rintro e w' ⟨rfl, rfl⟩
    go_wp2_with fail
    refine (lawday_any a _).mono ?_
    rw [hi.out]
    rintro e w' ⟨rfl, rfl⟩
    go_wp2_with fail
    refine (md_val HX.out).mono ?_
    rintro e w1 ⟨rfl, b1⟩
    replace b1 := Kt.next b0 b1
    go_wp2_with fail
    refine (lawday_any b _).mono ?_
    rw [hj.out]
    rintro e w' ⟨rfl, rfl⟩
    go_wp2_with fail
    refine (md_val HY.out).mono ?_
    rintro e w2 ⟨rfl, b2⟩
    replace b2 := Kt.next b1 b2
    go_wp2_with fail
    refine (yearly_md HV.out HX.out.yd HY.out.yd bx by' HP.out).mono ?_
    rintro e w3 ⟨rfl, b3⟩
    replace b3 := Kt.next b2 b3
    go_wp2_with fail
    refine (yearly_md HV.out HY.out.yd HX.out.yd by' bx HQ.out).mono ?_
    rintro e w4 ⟨rfl, b4⟩
    replace b4 := Kt.next b3 b4
    go_wp2_with fail
    refine (md_val HV.out).mono ?_
    rintro e w5 ⟨rfl, b5⟩
    replace b5 := Kt.next b4 b5
    go_wp2_with fail
    refine (md_val HV.out).mono ?_
    rintro e w6 ⟨rfl, b6⟩
    replace b6 := Kt.next b5 b6
    go_wp2_with fail
    go_ret
    exact ⟨rfl, b6⟩
  · have hp : Cv.yrV v x y = true := by unfold Cv.yrV; split <;> simp <;> omega
    have hq : Cv.yrV v y x = true := by unfold Cv.yrV; split <;> simp <;> omega
    have HP := Lib.hid hp
    have HQ := Lib.hid hq
    clear hp hq
    obtain ⟨g1, rfl⟩ := h
    go_enter Tryd.func7, Tryd.ntmps7
    go_wp2_with fail
    refine (awake_any _ HT.out).mono ?_
    rintro e w0 ⟨rfl, b0⟩
    go_wp2_with fail
    refine (lawday_any n _).mono ?_
    rw [hd.out]
    rintro e w' ⟨rfl, rfl⟩
    go_wp2_with fail
    refine (lawday_any a _).mono ?_
    rw [hi.out]
    rintro e w' ⟨rfl, rfl⟩
    go_wp2_with fail
    refine (md_val HX.out).mono ?_
    rintro e w1 ⟨rfl, b1⟩
    replace b1 := Kt.next b0 b1
    go_wp2_with fail
    refine (lawday_any b _).mono ?_
    rw [hj.out]
    rintro e w' ⟨rfl, rfl⟩
    go_wp2_with fail
    refine (md_val HY.out).mono ?_
    rintro e w2 ⟨rfl, b2⟩
    replace b2 := Kt.next b1 b2
    go_wp2_with fail
    refine (yearly_md HV.out HX.out.yd HY.out.yd bx by' HP.out).mono ?_
    rintro e w3 ⟨rfl, b3⟩
    replace b3 := Kt.next b2 b3
    go_wp2_with fail
    refine (yearly_md HV.out HY.out.yd HX.out.yd by' bx HQ.out).mono ?_
    rintro e w4 ⟨rfl, b4⟩
    replace b4 := Kt.next b3 b4
    go_wp2_with fail
    refine (md_val HV.out).mono ?_
    rintro e w5 ⟨rfl, b5⟩
    replace b5 := Kt.next b4 b5
    go_wp2_with fail
    go_ret
    exact ⟨rfl, b5⟩
  · have hp : Cv.yrV v x y = true := by unfold Cv.yrV; split <;> simp <;> omega
    have hq : Cv.yrV v y x = false := by unfold Cv.yrV; split <;> simp <;> omega
    have HP := Lib.hid hp
    have HQ := Lib.hid hq
    clear hp hq
    obtain ⟨g1, g2, g3⟩ := h
    have hvx : (v == x) = false := by simp; omega
    have hvy : (v == y) = false := by simp; omega
    go_enter Tryd.func7, Tryd.ntmps7
    go_wp2_with fail
    refine (awake_any _ HT.out).mono ?_
    rintro e w0 ⟨rfl, b0⟩
    go_wp2_with fail
    refine (lawday_any n _).mono ?_
    rw [hd.out]
    rintro e w' ⟨rfl, rfl⟩
    go_wp2_with fail
    refine (lawday_any a _).mono ?_
    rw [hi.out]
    rintro e w' ⟨rfl, rfl⟩
    go_wp2_with fail
    refine (md_val HX.out).mono ?_
    rintro e w1 ⟨rfl, b1⟩
    replace b1 := Kt.next b0 b1
    go_wp2_with fail
    refine (lawday_any b _).mono ?_
    rw [hj.out]
    rintro e w' ⟨rfl, rfl⟩
    go_wp2_with fail
    refine (md_val HY.out).mono ?_
    rintro e w2 ⟨rfl, b2⟩
    replace b2 := Kt.next b1 b2
    go_wp2_with fail
    refine (yearly_md HV.out HX.out.yd HY.out.yd bx by' HP.out).mono ?_
    rintro e w3 ⟨rfl, b3⟩
    replace b3 := Kt.next b2 b3
    go_wp2_with fail
    refine (yearly_md HV.out HY.out.yd HX.out.yd by' bx HQ.out).mono ?_
    rintro e w4 ⟨rfl, b4⟩
    replace b4 := Kt.next b3 b4
    go_wp2_with fail
    refine (md_val HV.out).mono ?_
    rintro e w5 ⟨rfl, b5⟩
    replace b5 := Kt.next b4 b5
    go_wp2_with fail
    refine (md_val HV.out).mono ?_
    rintro e w6 ⟨rfl, b6⟩
    replace b6 := Kt.next b5 b6
    go_wp2_with fail
    go_ret
    exact ⟨rfl, b6⟩
  · have hp : Cv.yrV v x y = true := by unfold Cv.yrV; split <;> simp <;> omega
    have hq : Cv.yrV v y x = true := by unfold Cv.yrV; split <;> simp <;> omega
    have HP := Lib.hid hp
    have HQ := Lib.hid hq
    clear hp hq
    obtain ⟨g1, rfl⟩ := h
    have hvx : (v == x) = false := by simp; omega
    go_enter Tryd.func7, Tryd.ntmps7
    go_wp2_with fail
    refine (awake_any _ HT.out).mono ?_
    rintro e w0 ⟨rfl, b0⟩
    go_wp2_with fail
    refine (lawday_any n _).mono ?_
    rw [hd.out]
    rintro e w' ⟨rfl, rfl⟩
    go_wp2_with fail
    refine (lawday_any a _).mono ?_
    rw [hi.out]
    rintro e w' ⟨rfl, rfl⟩
    go_wp2_with fail
    refine (md_val HX.out).mono ?_
    rintro e w1 ⟨rfl, b1⟩
    replace b1 := Kt.next b0 b1
    go_wp2_with fail
    refine (lawday_any b _).mono ?_
    rw [hj.out]
    rintro e w' ⟨rfl, rfl⟩
    go_wp2_with fail
    refine (md_val HY.out).mono ?_
    rintro e w2 ⟨rfl, b2⟩
    replace b2 := Kt.next b1 b2
    go_wp2_with fail
    refine (yearly_md HV.out HX.out.yd HY.out.yd bx by' HP.out).mono ?_
    rintro e w3 ⟨rfl, b3⟩
    replace b3 := Kt.next b2 b3
    go_wp2_with fail
    refine (yearly_md HV.out HY.out.yd HX.out.yd by' bx HQ.out).mono ?_
    rintro e w4 ⟨rfl, b4⟩
    replace b4 := Kt.next b3 b4
    go_wp2_with fail
    refine (md_val HV.out).mono ?_
    rintro e w5 ⟨rfl, b5⟩
    replace b5 := Kt.next b4 b5
    go_wp2_with fail
    refine (md_val HV.out).mono ?_
    rintro e w6 ⟨rfl, b6⟩
    replace b6 := Kt.next b5 b6
    go_wp2_with fail
    go_ret
    exact ⟨rfl, b6⟩
  · have hp : Cv.yrV v x y = false := by unfold Cv.yrV; split <;> simp <;> omega
    have hq : Cv.yrV v y x = true := by unfold Cv.yrV; split <;> simp <;> omega
    have HP := Lib.hid hp
    have HQ := Lib.hid hq
    clear hp hq
    obtain ⟨g1, g2⟩ := h
    have hvx : (v == x) = false := by simp; omega
    have hvy : (v == y) = false := by simp; omega
    go_enter Tryd.func7, Tryd.ntmps7
    go_wp2_with fail
    refine (awake_any _ HT.out).mono ?_
    rintro e w0 ⟨rfl, b0⟩
    go_wp2_with fail
    refine (lawday_any n _).mono ?_
    rw [hd.out]
    rintro e w' ⟨rfl, rfl⟩
    go_wp2_with fail
    refine (lawday_any a _).mono ?_
    rw [hi.out]
    rintro e w' ⟨rfl, rfl⟩
    go_wp2_with fail
    refine (md_val HX.out).mono ?_
    rintro e w1 ⟨rfl, b1⟩
    replace b1 := Kt.next b0 b1
    go_wp2_with fail
    refine (lawday_any b _).mono ?_
    rw [hj.out]
    rintro e w' ⟨rfl, rfl⟩
    go_wp2_with fail
    refine (md_val HY.out).mono ?_
    rintro e w2 ⟨rfl, b2⟩
    replace b2 := Kt.next b1 b2
    go_wp2_with fail
    refine (yearly_md HV.out HX.out.yd HY.out.yd bx by' HP.out).mono ?_
    rintro e w3 ⟨rfl, b3⟩
    replace b3 := Kt.next b2 b3
    go_wp2_with fail
    refine (yearly_md HV.out HY.out.yd HX.out.yd by' bx HQ.out).mono ?_
    rintro e w4 ⟨rfl, b4⟩
    replace b4 := Kt.next b3 b4
    go_wp2_with fail
    refine (md_val HV.out).mono ?_
    rintro e w5 ⟨rfl, b5⟩
    replace b5 := Kt.next b4 b5
    go_wp2_with fail
    refine (md_val HV.out).mono ?_
    rintro e w6 ⟨rfl, b6⟩
    replace b6 := Kt.next b5 b6
    go_wp2_with fail
    go_ret
    exact ⟨rfl, b6⟩
  · have hp : Cv.yrV v x y = true := by unfold Cv.yrV; split <;> simp <;> omega
    have hq : Cv.yrV v y x = false := by unfold Cv.yrV; split <;> simp <;> omega
    have HP := Lib.hid hp
    have HQ := Lib.hid hq
    clear hp hq
    obtain ⟨g1, g2⟩ := h
    have hvx : (v == x) = false := by simp; omega
    have hvy : (v == y) = false := by simp; omega
    go_enter Tryd.func7, Tryd.ntmps7
    go_wp2_with fail
    refine (awake_any _ HT.out).mono ?_
    rintro e w0 ⟨rfl, b0⟩
    go_wp2_with fail
    refine (lawday_any n _).mono ?_
    rw [hd.out]
    rintro e w' ⟨rfl, rfl⟩
    go_wp2_with fail
    refine (lawday_any a _).mono ?_
    rw [hi.out]
    rintro e w' ⟨rfl, rfl⟩
    go_wp2_with fail
    refine (md_val HX.out).mono ?_
    rintro e w1 ⟨rfl, b1⟩
    replace b1 := Kt.next b0 b1
    go_wp2_with fail
    refine (lawday_any b _).mono ?_
    rw [hj.out]
    rintro e w' ⟨rfl, rfl⟩
    go_wp2_with fail
    refine (md_val HY.out).mono ?_
    rintro e w2 ⟨rfl, b2⟩
    replace b2 := Kt.next b1 b2
    go_wp2_with fail
    refine (yearly_md HV.out HX.out.yd HY.out.yd bx by' HP.out).mono ?_
    rintro e w3 ⟨rfl, b3⟩
    replace b3 := Kt.next b2 b3
    go_wp2_with fail
    refine (yearly_md HV.out HY.out.yd HX.out.yd by' bx HQ.out).mono ?_
    rintro e w4 ⟨rfl, b4⟩
    replace b4 := Kt.next b3 b4
    go_wp2_with fail
    refine (md_val HV.out).mono ?_
    rintro e w5 ⟨rfl, b5⟩
    replace b5 := Kt.next b4 b5
    go_wp2_with fail
    refine (md_val HV.out).mono ?_
    rintro e w6 ⟨rfl, b6⟩
    replace b6 := Kt.next b5 b6
    go_wp2_with fail
    go_ret
    exact ⟨rfl, b6⟩
  · have hp : Cv.yrV v x y = true := by unfold Cv.yrV; split <;> simp <;> omega
    have hq : Cv.yrV v y x = true := by unfold Cv.yrV; split <;> simp <;> omega
    have HP := Lib.hid hp
    have HQ := Lib.hid hq
    clear hp hq
    obtain ⟨g1, rfl⟩ := h
    have hvx : (v == x) = false := by simp; omega
    go_enter Tryd.func7, Tryd.ntmps7
    go_wp2_with fail
    refine (awake_any _ HT.out).mono ?_
    rintro e w0 ⟨rfl, b0⟩
    go_wp2_with fail
    refine (lawday_any n _).mono ?_
    rw [hd.out]
    rintro e w' ⟨rfl, rfl⟩
    go_wp2_with fail
    refine (lawday_any a _).mono ?_
    rw [hi.out]
    rintro e w' ⟨rfl, rfl⟩
    go_wp2_with fail
    refine (md_val HX.out).mono ?_
    rintro e w1 ⟨rfl, b1⟩
    replace b1 := Kt.next b0 b1
    go_wp2_with fail
    refine (lawday_any b _).mono ?_
    rw [hj.out]
    rintro e w' ⟨rfl, rfl⟩
    go_wp2_with fail
    refine (md_val HY.out).mono ?_
    rintro e w2 ⟨rfl, b2⟩
    replace b2 := Kt.next b1 b2
    go_wp2_with fail
    refine (yearly_md HV.out HX.out.yd HY.out.yd bx by' HP.out).mono ?_
    rintro e w3 ⟨rfl, b3⟩
    replace b3 := Kt.next b2 b3
    go_wp2_with fail
    refine (yearly_md HV.out HY.out.yd HX.out.yd by' bx HQ.out).mono ?_
    rintro e w4 ⟨rfl, b4⟩
    replace b4 := Kt.next b3 b4
    go_wp2_with fail
    refine (md_val HV.out).mono ?_
    rintro e w5 ⟨rfl, b5⟩
    replace b5 := Kt.next b4 b5
    go_wp2_with fail
    refine (md_val HV.out).mono ?_
    rintro e w6 ⟨rfl, b6⟩
    replace b6 := Kt.next b5 b6
    go_wp2_with fail
    go_ret
    exact ⟨rfl, b6⟩
  · have hp : Cv.yrV v x y = false := by unfold Cv.yrV; split <;> simp <;> omega
    have hq : Cv.yrV v y x = true := by unfold Cv.yrV; split <;> simp <;> omega
    have HP := Lib.hid hp
    have HQ := Lib.hid hq
    clear hp hq
    obtain ⟨g1, g2, g3⟩ := h
    have hvx : (v == x) = false := by simp; omega
    have hvy : (v == y) = false := by simp; omega
    go_enter Tryd.func7, Tryd.ntmps7
    go_wp2_with fail
    refine (awake_any _ HT.out).mono ?_
    rintro e w0 ⟨rfl, b0⟩
    go_wp2_with fail
    refine (lawday_any n _).mono ?_
    rw [hd.out]
    rintro e w' ⟨rfl, rfl⟩
    go_wp2_with fail
    refine (lawday_any a _).mono ?_
    rw [hi.out]
    rintro e w' ⟨rfl, rfl⟩
    go_wp2_with fail
    refine (md_val HX.out).mono ?_
    rintro e w1 ⟨rfl, b1⟩
    replace b1 := Kt.next b0 b1
    go_wp2_with fail
    refine (lawday_any b _).mono ?_
    rw [hj.out]
    rintro e w' ⟨rfl, rfl⟩
    go_wp2_with fail
    refine (md_val HY.out).mono ?_
    rintro e w2 ⟨rfl, b2⟩
    replace b2 := Kt.next b1 b2
    go_wp2_with fail
    refine (yearly_md HV.out HX.out.yd HY.out.yd bx by' HP.out).mono ?_
    rintro e w3 ⟨rfl, b3⟩
    replace b3 := Kt.next b2 b3
    go_wp2_with fail
    refine (yearly_md HV.out HY.out.yd HX.out.yd by' bx HQ.out).mono ?_
    rintro e w4 ⟨rfl, b4⟩
    replace b4 := Kt.next b3 b4
    go_wp2_with fail
    refine (md_val HV.out).mono ?_
    rintro e w5 ⟨rfl, b5⟩
    replace b5 := Kt.next b4 b5
    go_wp2_with fail
    refine (md_val HV.out).mono ?_
    rintro e w6 ⟨rfl, b6⟩
    replace b6 := Kt.next b5 b6
    go_wp2_with fail
    go_ret
    exact ⟨rfl, b6⟩
  · have hp : Cv.yrV v x y = true := by unfold Cv.yrV; split <;> simp <;> omega
    have hq : Cv.yrV v y x = true := by unfold Cv.yrV; split <;> simp <;> omega
    have HP := Lib.hid hp
    have HQ := Lib.hid hq
    clear hp hq
    obtain ⟨g1, rfl⟩ := h
    go_enter Tryd.func7, Tryd.ntmps7
    go_wp2_with fail
    refine (awake_any _ HT.out).mono ?_
    rintro e w0 ⟨rfl, b0⟩
    go_wp2_with fail
    refine (lawday_any n _).mono ?_
    rw [hd.out]
    rintro e w' ⟨rfl, rfl⟩
    go_wp2_with fail
    refine (lawday_any a _).mono ?_
    rw [hi.out]
    rintro e w' ⟨rfl, rfl⟩
    go_wp2_with fail
    refine (md_val HX.out).mono ?_
    rintro e w1 ⟨rfl, b1⟩
    replace b1 := Kt.next b0 b1
    go_wp2_with fail
    refine (lawday_any b _).mono ?_
    rw [hj.out]
    rintro e w' ⟨rfl, rfl⟩
    go_wp2_with fail
    refine (md_val HY.out).mono ?_
    rintro e w2 ⟨rfl, b2⟩
    replace b2 := Kt.next b1 b2
    go_wp2_with fail
    refine (yearly_md HV.out HX.out.yd HY.out.yd bx by' HP.out).mono ?_
    rintro e w3 ⟨rfl, b3⟩
    replace b3 := Kt.next b2 b3
    go_wp2_with fail
    refine (yearly_md HV.out HY.out.yd HX.out.yd by' bx HQ.out).mono ?_
    rintro e w4 ⟨rfl, b4⟩
    replace b4 := Kt.next b3 b4
    go_wp2_with fail
    refine (md_val HV.out).mono ?_
    rintro e w5 ⟨rfl, b5⟩
    replace b5 := Kt.next b4 b5
    go_wp2_with fail
    go_ret
    exact ⟨rfl, b5⟩
  · have hp : Cv.yrV v x y = true := by unfold Cv.yrV; split <;> simp <;> omega
    have hq : Cv.yrV v y x = false := by unfold Cv.yrV; split <;> simp <;> omega
    have HP := Lib.hid hp
    have HQ := Lib.hid hq
    clear hp hq
    obtain ⟨g1, g2⟩ := h
    have hvx : (v == x) = false := by simp; omega
    have hvy : (v == y) = false := by simp; omega
    go_enter Tryd.func7, Tryd.ntmps7
    go_wp2_with fail
    refine (awake_any _ HT.out).mono ?_
    rintro e w0 ⟨rfl, b0⟩
    go_wp2_with fail
    refine (lawday_any n _).mono ?_
    rw [hd.out]
    rintro e w' ⟨rfl, rfl⟩
    go_wp2_with fail
    refine (lawday_any a _).mono ?_
    rw [hi.out]
    rintro e w' ⟨rfl, rfl⟩
    go_wp2_with fail
    refine (md_val HX.out).mono ?_
    rintro e w1 ⟨rfl, b1⟩
    replace b1 := Kt.next b0 b1
    go_wp2_with fail
    refine (lawday_any b _).mono ?_
    rw [hj.out]
    rintro e w' ⟨rfl, rfl⟩
    go_wp2_with fail
    refine (md_val HY.out).mono ?_
    rintro e w2 ⟨rfl, b2⟩
    replace b2 := Kt.next b1 b2
    go_wp2_with fail
    refine (yearly_md HV.out HX.out.yd HY.out.yd bx by' HP.out).mono ?_
    rintro e w3 ⟨rfl, b3⟩
    replace b3 := Kt.next b2 b3
    go_wp2_with fail
    refine (yearly_md HV.out HY.out.yd HX.out.yd by' bx HQ.out).mono ?_
    rintro e w4 ⟨rfl, b4⟩
    replace b4 := Kt.next b3 b4
    go_wp2_with fail
    refine (md_val HV.out).mono ?_
    rintro e w5 ⟨rfl, b5⟩
    replace b5 := Kt.next b4 b5
    go_wp2_with fail
    refine (md_val HV.out).mono ?_
    rintro e w6 ⟨rfl, b6⟩
    replace b6 := Kt.next b5 b6
    go_wp2_with fail
    go_ret
    exact ⟨rfl, b6⟩
end Go.Proofs.YthmgkfljaneocaaDoor
