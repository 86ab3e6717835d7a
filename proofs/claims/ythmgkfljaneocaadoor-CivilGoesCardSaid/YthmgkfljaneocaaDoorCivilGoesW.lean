/- The walk of CivilGoes. -/
import Derived.Test.YthmgkfljaneocaaDoorCivI
namespace Go.Proofs.YthmgkfljaneocaaDoor
open Go Go.RowKit

set_option maxRecDepth 100000 in
set_option maxHeartbeats 4000000 in
theorem walk_CivilGoes (n : Int) (_wn : (Lit.int .i64 n).wf = true) (w : World) (ht : Tab w) :
    Calls Tryd.prog 5 #[.int .i64 n] w fun e w' => e = .returned (.bool true) ∧ Below w.heap.size w w' := by
  have HT := Lib.hid ht
  clear ht
  obtain ⟨d, hd⟩ : ∃ d, Hid (n % 730484 = d) := ⟨_, Lib.hid rfl⟩
  have hd0 : 0 ≤ d := by rw [← hd.out]; omega
  have hd1 : d < 730484 := by rw [← hd.out]; omega
  have hwd : (d + 1) % 7 = (d % 7 + 1) % 7 := by omega
  have HWD := Lib.hid hwd
  clear hwd
  go_enter Tryd.func5, Tryd.ntmps5
  go_wp2_with fail
  refine (awake_any _ HT.out).mono ?_
  rintro e w0 ⟨rfl, b0⟩
  go_wp2_with fail
  refine (pick_any n 730484 _ (by omega) (by omega)).mono ?_
  rw [hd.out]
  rintro e w' ⟨rfl, rfl⟩
  go_wp2_with fail
  refine (date_ok d _ hd0 (by omega)).mono ?_
  rintro e w1 ⟨⟨y, m, k, rfl, hdt⟩, b1⟩
  replace b1 := Kt.next b0 b1
  have y0 := hdt.y0
  have y1 := hdt.y1
  have m0 := hdt.m0
  have m1 := hdt.m1
  have k0 := hdt.k0
  have k1 : k ≤ 31 := Int.le_trans hdt.k1 (Cv.md_bd _ hdt.m0 hdt.m1).2
  have hnx := hdt.next hd1
  have HD := Lib.hid hdt
  clear hdt
  rcases hnx with ⟨hk, hn⟩ | ⟨hk, hm, hn⟩ | ⟨hk, hm, hn⟩
  · have HN := Lib.hid hn
    clear hk hn
    go_wp2_with fail
    refine (date_val (y := y) (m := (m : Int)) (k := k + 1) m rfl HN.out).mono ?_
    rintro e w2 ⟨rfl, b2⟩
    replace b2 := Kt.next b1 b2
    go_wp2_with fail
    refine (week_ok d _ hd0 (by omega)).mono ?_
    rintro e w' ⟨rfl, rfl⟩
    go_wp2_with fail
    refine (week_ok (d + 1) _ (by omega) (by omega)).mono ?_
    rw [HWD.out]
    rintro e w' ⟨rfl, rfl⟩
    go_wp2_with fail
    refine (day_val m rfl HD.out).mono ?_
    rintro e w3 ⟨rfl, b3⟩
    replace b3 := Kt.next b2 b3
    go_wp2_with fail
    refine (day_val m rfl HN.out).mono ?_
    rintro e w4 ⟨rfl, b4⟩
    replace b4 := Kt.next b3 b4
    go_wp2_with fail
    go_ret
    exact ⟨rfl, b4⟩
  · have HN := Lib.hid hn
    have HB : Hid (¬ Cv.Valid y m (k + 1)) := Lib.hid (fun h => by have := h.2.2.2.2.2; rw [Int.toNat_natCast] at this; omega)
    clear hk hn
    go_wp2_with fail
    refine (date_val (y := y) (m := (m : Int) + 1) (k := 1) (m + 1) (by omega) HN.out).mono ?_
    rintro e w2 ⟨rfl, b2⟩
    replace b2 := Kt.next b1 b2
    go_wp2_with fail
    refine (week_ok d _ hd0 (by omega)).mono ?_
    rintro e w' ⟨rfl, rfl⟩
    go_wp2_with fail
    refine (week_ok (d + 1) _ (by omega) (by omega)).mono ?_
    rw [HWD.out]
    rintro e w' ⟨rfl, rfl⟩
    go_wp2_with fail
    refine (day_val m rfl HD.out).mono ?_
    rintro e w3 ⟨rfl, b3⟩
    replace b3 := Kt.next b2 b3
    go_wp2_with fail
    refine (day_bad y m (k + 1) _ HB.out).mono ?_
    rintro e w4 ⟨rfl, b4⟩
    replace b4 := Kt.next b3 b4
    go_wp2_with fail
    go_ret
    exact ⟨rfl, b4⟩
  · have HN := Lib.hid hn
    have HB : Hid (¬ Cv.Valid y m (k + 1)) := Lib.hid (fun h => by have := h.2.2.2.2.2; rw [Int.toNat_natCast] at this; omega)
    have hm2 : ((m : Int) == 12) = true := by simp; omega
    have hm3 : decide ((m : Int) < 12) = false := by simp; omega
    clear hk hn hm m0 m1
    go_wp2_with fail
    refine (date_val (y := y + 1) (m := 1) (k := 1) 1 rfl HN.out).mono ?_
    rintro e w2 ⟨rfl, b2⟩
    replace b2 := Kt.next b1 b2
    go_wp2_with fail
    refine (week_ok d _ hd0 (by omega)).mono ?_
    rintro e w' ⟨rfl, rfl⟩
    go_wp2_with fail
    refine (week_ok (d + 1) _ (by omega) (by omega)).mono ?_
    rw [HWD.out]
    rintro e w' ⟨rfl, rfl⟩
    go_wp2_with fail
    refine (day_val m rfl HD.out).mono ?_
    rintro e w3 ⟨rfl, b3⟩
    replace b3 := Kt.next b2 b3
    go_wp2_with fail
    refine (day_bad y m (k + 1) _ HB.out).mono ?_
    rintro e w4 ⟨rfl, b4⟩
    replace b4 := Kt.next b3 b4
    go_wp2_with fail
    go_ret
    exact ⟨rfl, b4⟩
end Go.Proofs.YthmgkfljaneocaaDoor
