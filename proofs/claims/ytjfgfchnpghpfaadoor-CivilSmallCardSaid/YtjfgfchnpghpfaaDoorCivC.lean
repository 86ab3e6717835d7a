/- What Date of package civil returns for a day: its walk. -/
import Derived.Test.YtjfgfchnpghpfaaDoorCivB
namespace Go.Proofs.YtjfgfchnpghpfaaDoor
open Go Go.RowKit
set_option maxHeartbeats 2000000 in
theorem date_ok (d : Int) (w : World) (h0 : 0 ≤ d) (h1 : d ≤ 730484) :
    Calls Tryd.prog 14 #[.int .i64 d] w (DateR w d) := by
  have hy0 := (Cv.year_bd h0 h1).1
  have hy1 := (Cv.year_bd h0 h1).2
  have HST : Hid (2001 ≤ 2001 + d * 400 / 146097 ∧ 2001 + d * 400 / 146097 ≤ 4000) := Lib.hid ⟨hy0, hy1⟩
  clear hy0 hy1
  go_enter Tryd.func14, Tryd.ntmps14
  go_wp2_with fail
  refine (chk_ok d _ h0 h1).mono ?_
  rintro e w' ⟨rfl, rfl⟩
  go_wp2_with fail
  go_loopw [7] (fun y wr => ∃ Y : Int, y = .int .i64 Y ∧ 2001 ≤ Y ∧ Y ≤ 4000 ∧ w = wr) (fun y _ => (intOf y - 2000).toNat)
  case atStart => exact ⟨_, rfl, HST.out.1, HST.out.2, rfl⟩
  case round =>
    obtain ⟨Y, rfl, hY0, hY1, rfl⟩ := hrel
    obtain ⟨v, hv⟩ : ∃ v, Hid (Cv.ys Y = v) := ⟨_, Lib.hid rfl⟩
    go_wp2_with fail
    refine (ys_any Y _ hY0 (by omega)).mono ?_
    rw [hv.out]
    rintro e w' ⟨rfl, rfl⟩
    by_cases hlt : d < v
    · have hYn : 2001 < Y := by
        rcases Int.lt_or_le 2001 Y with h | h
        · exact h
        · exfalso
          have e : Y = 2001 := by omega
          have h8 := hv.out
          rw [e, Cv.ys_first] at h8
          omega
      go_wp2_with fail
      go_roundw
      case rel => exact ⟨Y - 1, rfl, by omega, by omega, by trivial⟩
      case measure => simp [intOf]; omega
    · have HV : Hid (Cv.ys Y ≤ d) := Lib.hid (by rw [hv.out]; omega)
      clear hv
      go_wp2_with fail
      clear hlt
      go_loopw [7] (fun y wr => ∃ Y : Int, y = .int .i64 Y ∧ 2001 ≤ Y ∧ Y ≤ 4000 ∧ Hid (Cv.ys Y ≤ d) ∧ w = wr) (fun y _ => (4001 - intOf y).toNat)
      case atStart => exact ⟨_, rfl, hY0, hY1, HV, rfl⟩
      case round =>
        clear HV hY0 hY1
        obtain ⟨Y, rfl, hY0, hY1, HV, rfl⟩ := hrel
        obtain ⟨v, hv⟩ : ∃ v, Hid (Cv.ys (Y + 1) = v) := ⟨_, Lib.hid rfl⟩
        go_wp2_with fail
        refine (ys_any (Y + 1) _ (by omega) (by omega)).mono ?_
        rw [hv.out]
        rintro e w' ⟨rfl, rfl⟩
        by_cases hle : v ≤ d
        · have hYn : Y < 4000 := by
            rcases Int.lt_or_le Y 4000 with h | h
            · exact h
            · exfalso
              have e : Y = 4000 := by omega
              have h8 := hv.out
              rw [e] at h8
              have h9 : Cv.ys (4000 + 1) = 730485 := Cv.ys_last
              omega
          go_wp2_with fail
          go_roundw
          case rel => exact ⟨Y + 1, rfl, by omega, by omega, Lib.hid (by rw [hv.out]; exact hle), by trivial⟩
          case measure => simp [intOf]; omega
        · have HV2 : Hid (d < Cv.ys (Y + 1)) := Lib.hid (by rw [hv.out]; omega)
          clear hv
          obtain ⟨u, hu⟩ : ∃ u, Hid (Cv.ys Y = u) := ⟨_, Lib.hid rfl⟩
          have hvd : u ≤ d := by rw [← hu.out]; exact HV.out
          have hv0 : 0 ≤ u := by rw [← hu.out]; exact (Cv.ys_bd hY0 (by omega)).1
          obtain ⟨l, hl⟩ : ∃ l, Hid (Cv.leap Y = l) := ⟨_, Lib.hid rfl⟩
          go_wp2_with fail
          refine (ys_any Y _ hY0 (by omega)).mono ?_
          rw [hu.out]
          rintro e w' ⟨rfl, rfl⟩
          go_wp2_with fail
          refine (leap_any Y _).mono ?_
          rw [hl.out]
          rintro e w' ⟨rfl, rfl⟩
          go_wp2_with fail
          refine (ahead_any _).mono ?_
          rintro e w1 ⟨rfl, b1⟩
          go_wp2_with fail
          have hblk : Kt.IBlk (w1.alloc (.cells (Kt.IArr .i64 Cv.ah) 63)) w1.heap.size 63 .i64 Cv.ah := Kt.IBlk.new _ _ _ _
          have b2 : Below w.heap.size w (w1.alloc (.cells (Kt.IArr .i64 Cv.ah) 63)) := b1.alloc b1.size _
          go_loopw [8, 11] (fun r mo wr => ∃ (R : Int) (m : Nat), r = .int .i64 R ∧ mo = .int .i64 m ∧ 1 ≤ m ∧ m ≤ 12 ∧ 0 ≤ R ∧ R ≤ 730484 ∧ Hid (R = d - u - Cv.cum l m) ∧ Kt.IBlk wr w1.heap.size 63 .i64 Cv.ah ∧ Below w.heap.size w wr) (fun _ mo _ => (13 - intOf mo).toNat)
          case atStart => exact ⟨d - u, 1, rfl, rfl, by omega, by omega, by omega, by omega, Lib.hid (by rw [Cv.cum_one]; omega), hblk, b2⟩
          case round =>
            clear hblk b2
            obtain ⟨R, m, rfl, rfl, hm1, hm2, hR0, hR1, hR, hblk, hbel⟩ := hrel
            obtain ⟨n, hn⟩ : ∃ n, Hid (Cv.md l m = n) := ⟨_, Lib.hid rfl⟩
            have hn31 := Cv.md_bd l hm1 hm2
            rw [hn.out] at hn31
            obtain ⟨hn1, hn2⟩ := hn31
            have hstep := Cv.cum_step l hm1 hm2
            rw [hn.out] at hstep
            have HSTEP := Lib.hid hstep
            clear hstep
            go_wp2_with fail
            refine (md_any w1.heap.size m l _ hm1 hm2 _ hblk).mono ?_
            rw [hn.out]
            rintro e w2 ⟨rfl, q, rfl⟩
            by_cases hge : n ≤ R
            · have hm12 : m < 12 := by
                rcases Nat.lt_or_ge m 12 with h | h
                · exact h
                · exfalso
                  have e : m = 12 := by omega
                  have h1 := HSTEP.out
                  rw [e] at h1
                  have h2 := Cv.cum_end Y
                  rw [hl.out] at h2
                  have h3 := Cv.ys_step Y
                  rw [hu.out] at h3
                  have h4 := HV2.out
                  have h5 := hR.out
                  rw [e] at h5
                  have h6 : Cv.cum l 13 = Cv.cum l 12 + n := h1
                  omega
              go_wp2_with fail
              refine (md_any w1.heap.size m l _ hm1 hm2 _ (hblk.drewN q)).mono ?_
              rw [hn.out]
              rintro e w2 ⟨rfl, q2, rfl⟩
              go_wp2_with fail
              go_roundw
              case rel => exact ⟨R - n, m + 1, rfl, by go_num, by omega, by omega, by omega, by omega, Lib.hid (by have := hR.out; have := HSTEP.out; omega), hblk.drewN (q + q2), Kt.below_drewN hbel (q + q2)⟩
              case measure => simp [intOf]; omega
            · have HD : Cv.IsDate d Y m (R + 1) := ⟨hY0, hY1, hm1, hm2, by omega, by rw [hl.out, hn.out]; omega, by rw [hl.out, hu.out]; have := hR.out; omega⟩
              have HDD := Lib.hid HD
              clear HD
              go_wp2_with fail
              go_returns
              exact ⟨⟨Y, m, R + 1, rfl, HDD.out⟩, Kt.below_drewN hbel q⟩
end Go.Proofs.YtjfgfchnpghpfaaDoor
