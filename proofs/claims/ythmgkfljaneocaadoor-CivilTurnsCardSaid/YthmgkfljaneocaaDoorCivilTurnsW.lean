/- The walk of CivilTurns. -/
import Derived.Test.YthmgkfljaneocaaDoorCivI
namespace Go.Proofs.YthmgkfljaneocaaDoor
open Go Go.RowKit

set_option maxRecDepth 100000 in
set_option maxHeartbeats 4000000 in
theorem walk_CivilTurns (n : Int) (_wn : (Lit.int .i64 n).wf = true) (w : World) (ht : Tab w) :
    Calls Tryd.prog 6 #[.int .i64 n] w fun e w' => e = .returned (.bool true) ∧ Below w.heap.size w w' := by
  have HT := Lib.hid ht
  clear ht
  obtain ⟨d, hd⟩ : ∃ d, Hid (n % 584388 = d) := ⟨_, Lib.hid rfl⟩
  have hd0 : 0 ≤ d := by rw [← hd.out]; omega
  have hd1 : d ≤ 584387 := by rw [← hd.out]; omega
  have hwd : (d + 146097) % 7 = d % 7 := by omega
  have HWD := Lib.hid hwd
  clear hwd
  go_enter Tryd.func6, Tryd.ntmps6
  go_wp2_with fail
  refine (awake_any _ HT.out).mono ?_
  rintro e w0 ⟨rfl, b0⟩
  go_wp2_with fail
  refine (pick_any n 584388 _ (by omega) (by omega)).mono ?_
  rw [hd.out]
  rintro e w' ⟨rfl, rfl⟩
  go_wp2_with fail
  refine (date_ok d _ hd0 (by omega)).mono ?_
  rintro e w1 ⟨⟨y, m, k, rfl, hdt⟩, b1⟩
  replace b1 := Kt.next b0 b1
  have y0 := hdt.y0
  have y1 := hdt.y1
  have HN := Lib.hid (hdt.turn (by omega))
  clear hdt
  obtain ⟨l, hl⟩ : ∃ l, Hid (Cv.leap y = l) := ⟨_, Lib.hid rfl⟩
  have hl2 : Hid (Cv.leap (y + 400) = l) := Lib.hid (by rw [Cv.leap_turn]; exact hl.out)
  go_wp2_with fail
  refine (date_val (y := y + 400) (m := (m : Int)) (k := k) m rfl HN.out).mono ?_
  rintro e w2 ⟨rfl, b2⟩
  replace b2 := Kt.next b1 b2
  go_wp2_with fail
  refine (week_ok d _ hd0 (by omega)).mono ?_
  rintro e w' ⟨rfl, rfl⟩
  go_wp2_with fail
  refine (week_ok (d + 146097) _ (by omega) (by omega)).mono ?_
  rw [HWD.out]
  rintro e w' ⟨rfl, rfl⟩
  go_wp2_with fail
  refine (leap_any y _).mono ?_
  rw [hl.out]
  rintro e w' ⟨rfl, rfl⟩
  go_wp2_with fail
  refine (leap_any (y + 400) _).mono ?_
  rw [hl2.out]
  rintro e w' ⟨rfl, rfl⟩
  go_wp2_with fail
  go_ret
  exact ⟨by simp, b2⟩
end Go.Proofs.YthmgkfljaneocaaDoor
