/- The walk of CivilReads. -/
import Derived.Test.YtjfgfchnpghpfaaDoorCivU
namespace Go.Proofs.YtjfgfchnpghpfaaDoor
open Go Go.RowKit

set_option maxRecDepth 100000 in
set_option maxHeartbeats 4000000 in
theorem walk_CivilReads (s : ByteArray) (ws : s.size ≤ maxLen) (w : World) (ht : Tab w) :
    Calls Tryd.prog 7 #[.string s] w fun e w' => e = .returned (.bool true) ∧ Below w.heap.size w w' := by
  have HT := Lib.hid ht
  have HA := Lib.hid (fun W => read_any s W ws)
  have HB := Lib.hid (fun W => rread_any s W)
  have HC := Lib.hid (fun W => readtime_any s W ws)
  have HD := Lib.hid (fun W => rreadtime_any s W)
  obtain ⟨a, ha⟩ : ∃ x, rV s = x := ⟨_, rfl⟩
  obtain ⟨b, hb⟩ : ∃ x, rE s = x := ⟨_, rfl⟩
  obtain ⟨c, hc⟩ : ∃ x, tV s = x := ⟨_, rfl⟩
  obtain ⟨d, hd⟩ : ∃ x, tE s = x := ⟨_, rfl⟩
  rw [ha, hb] at HA HB
  rw [hc, hd] at HC HD
  clear ht ws ha hb hc hd
  go_enter Tryd.func7, Tryd.ntmps7
  go_wp2_with fail
  refine (HA.out _).mono ?_
  rintro e w1 ⟨rfl, b1⟩
  go_wp2_with fail
  refine (HB.out _).mono ?_
  rintro e w2 ⟨rfl, b2⟩
  replace b2 := Kt.next b1 b2
  go_wp2_with fail
  refine (HC.out _).mono ?_
  rintro e w3 ⟨rfl, b3⟩
  replace b3 := Kt.next b2 b3
  go_wp2_with fail
  refine (HD.out _).mono ?_
  rintro e w4 ⟨rfl, b4⟩
  replace b4 := Kt.next b3 b4
  have HT4 := Lib.hid (HT.out.on b4)
  go_wp2_with fail
  refine (awake_any _ HT4.out).mono ?_
  rintro e w5 ⟨rfl, b5⟩
  go_wp2_with fail
  go_ret
  exact ⟨rfl, Kt.next b4 b5⟩
end Go.Proofs.YtjfgfchnpghpfaaDoor
