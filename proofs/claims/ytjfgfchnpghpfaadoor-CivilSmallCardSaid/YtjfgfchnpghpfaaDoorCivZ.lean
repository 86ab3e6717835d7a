/- What both the program and the reference answer: Between, Ahead, Yearly. The reference's walks. -/
import Derived.Test.YtjfgfchnpghpfaaDoorCivX
namespace Go.Proofs.YtjfgfchnpghpfaaDoor
open Go Go.RowKit
set_option maxHeartbeats 1000000 in
theorem both_between (H : List Int) (hH : H.length ≤ 4611686018427387904) (a b : Int) : ∃ (v c : Int),
    Ans 29 (fun s => #[.int .i64 a, .int .i64 b, s]) H (.int .i64 v) c ∧ Ans 30 (fun s => #[.int .i64 a, .int .i64 b, s]) H (.int .i64 v) c := by
  have HR := Lib.hid (fun (w : World) A n cp (hl : H.length = n) hz => rright_any A n cp H w hl hz (by omega))
  cases hr : Cv.rightH H
  · refine ⟨0, 2, fun w A n cp hl hz => between_bad a b hl hz hr (by omega), fun w A n cp hl hz => ?_⟩
    rw [hr] at HR
    have HR2 := Lib.hid (HR.out w A n cp hl hz)
    clear HR hl hz hr
    go_enter Tryd.func30, Tryd.ntmps30
    go_wp2_with fail
    refine HR2.out.mono ?_
    rintro e w' ⟨rfl, q, rfl⟩
    go_wp2_with fail
    go_ret2
    exact ⟨rfl, Kt.below_of_drewN _ _⟩
  · rw [hr] at HR
    have hcs : a < 0 ∨ (0 ≤ a ∧ b < a) ∨ (0 ≤ a ∧ a ≤ b ∧ 730484 < b) ∨ (0 ≤ a ∧ a ≤ b ∧ b ≤ 730484) := by omega
    rcases hcs with h | ⟨h, h2⟩ | ⟨h, h2, h3⟩ | ⟨h, h2, h3⟩
    · refine ⟨0, 2, fun w A n cp hl hz => between_day a b 2 hl hz hr (.inl ⟨h, rfl⟩), fun w A n cp hl hz => ?_⟩
      have HR2 := Lib.hid (HR.out w A n cp hl hz)
      clear HR hl hz hr
      go_enter Tryd.func30, Tryd.ntmps30
      go_wp2_with fail
      refine HR2.out.mono ?_
      rintro e w' ⟨rfl, q, rfl⟩
      go_wp2_with fail
      go_ret2
      exact ⟨rfl, Kt.below_of_drewN _ _⟩
    · refine ⟨0, 2, fun w A n cp hl hz => between_day a b 2 hl hz hr (.inr (.inl ⟨h, h2, rfl⟩)), fun w A n cp hl hz => ?_⟩
      have HR2 := Lib.hid (HR.out w A n cp hl hz)
      clear HR hl hz hr
      go_enter Tryd.func30, Tryd.ntmps30
      go_wp2_with fail
      refine HR2.out.mono ?_
      rintro e w' ⟨rfl, q, rfl⟩
      go_wp2_with fail
      go_ret2
      exact ⟨rfl, Kt.below_of_drewN _ _⟩
    · refine ⟨0, 3, fun w A n cp hl hz => between_day a b 3 hl hz hr (.inr (.inr ⟨h, h2, h3, rfl⟩)), fun w A n cp hl hz => ?_⟩
      have HR2 := Lib.hid (HR.out w A n cp hl hz)
      clear HR hl hz hr
      go_enter Tryd.func30, Tryd.ntmps30
      go_wp2_with fail
      refine HR2.out.mono ?_
      rintro e w' ⟨rfl, q, rfl⟩
      go_wp2_with fail
      go_ret2
      exact ⟨rfl, Kt.below_of_drewN _ _⟩
    · have hr2 := Cv.rightH_asc hr
      have HASC := Lib.hid hr2.2
      refine ⟨Cv.cnt H b - Cv.cnt H a, 0, fun w A n cp hl hz => between_ok a b hl hz hr h h2 h3, fun w A n cp hl hz => ?_⟩
      have HR2 := Lib.hid (HR.out w A n cp hl hz)
      have HK := Lib.hid (fun (q : Nat) (d : Int) (h0 : 0 ≤ d) => rworks_any d A n cp H (w.drewN q) h0 hl hz (by omega))
      obtain ⟨p, hp⟩ : ∃ p, Hid (Cv.cnt H a = p) := ⟨_, Lib.hid rfl⟩
      obtain ⟨v, hv⟩ : ∃ v, Hid (Cv.cnt H b - Cv.cnt H a = v) := ⟨_, Lib.hid rfl⟩
      rw [hv.out]
      clear HR hl hz hr hr2
      go_enter Tryd.func30, Tryd.ntmps30
      go_wp2_with fail
      refine HR2.out.mono ?_
      rintro e w' ⟨rfl, q, rfl⟩
      go_wp2_with fail
      go_loopw [8, 9] (fun m dd wr => ∃ (d N : Int), dd = .int .i64 d ∧ m = .int .i64 N ∧ a ≤ d ∧ d ≤ b ∧ 0 ≤ N ∧ N ≤ d ∧ Hid (N = Cv.cnt H d - p) ∧ wr = w.drewN q) (fun _ dd _ => (b - intOf dd).toNat)
      case atStart => exact ⟨a, 0, rfl, rfl, by omega, h2, by omega, h, Lib.hid (by rw [hp.out]; omega), rfl⟩
      case round =>
        obtain ⟨d, N, rfl, rfl, hd0, hd1, hN0, hN1, hN, rfl⟩ := hrel
        by_cases hlt : d < b
        · have hs := Cv.cnt_step HASC.out d (by omega)
          have hN2 := hN.out
          go_wp2_with fail
          cases hw : Cv.wk H d
          · rw [hw] at hs
            simp at hs
            have HN : Hid (N = Cv.cnt H (d + 1) - p) := Lib.hid (by omega)
            clear hs hN2
            refine (HK.out q d (by omega)).mono ?_
            rw [hw]
            rintro e w' ⟨rfl, rfl⟩
            go_wp2_with fail
            go_roundw
            case rel => exact ⟨d + 1, N, rfl, rfl, by omega, by omega, hN0, by omega, HN, by first | rfl | trivial⟩
            case measure => simp [intOf]; omega
          · rw [hw] at hs
            simp at hs
            have HN : Hid (N + 1 = Cv.cnt H (d + 1) - p) := Lib.hid (by omega)
            clear hs hN2
            refine (HK.out q d (by omega)).mono ?_
            rw [hw]
            rintro e w' ⟨rfl, rfl⟩
            go_wp2_with fail
            go_roundw
            case rel => exact ⟨d + 1, N + 1, rfl, rfl, by omega, by omega, by omega, by omega, HN, by first | rfl | trivial⟩
            case measure => simp [intOf]; omega
        · have E : Hid (N = v) := Lib.hid (by
            have e : d = b := by omega
            rw [← hv.out, hp.out, ← e]
            exact hN.out)
          go_wp2_with fail
          go_ret2
          exact ⟨ret_ii E.out rfl, Kt.below_of_drewN _ _⟩
set_option maxHeartbeats 1000000 in
theorem both_ahead (H : List Int) (hH : H.length ≤ 4611686018427387904) (a k : Int) (ik : k ≤ 9223372036854775807) : ∃ (v c : Int),
    Ans 31 (fun s => #[.int .i64 a, .int .i64 k, s]) H (.int .i64 v) c ∧ Ans 32 (fun s => #[.int .i64 a, .int .i64 k, s]) H (.int .i64 v) c := by
  have HR := Lib.hid (fun (w : World) A n cp (hl : H.length = n) hz => rright_any A n cp H w hl hz (by omega))
  cases hr : Cv.rightH H
  · refine ⟨0, 2, fun w A n cp hl hz => ahead_bad a k hl hz hr (by omega), fun w A n cp hl hz => ?_⟩
    rw [hr] at HR
    have HR2 := Lib.hid (HR.out w A n cp hl hz)
    clear HR hl hz hr
    go_enter Tryd.func32, Tryd.ntmps32
    go_wp2_with fail
    refine HR2.out.mono ?_
    rintro e w' ⟨rfl, q, rfl⟩
    go_wp2_with fail
    go_ret2
    exact ⟨rfl, Kt.below_of_drewN _ _⟩
  · rw [hr] at HR
    have hr2 := Cv.rightH_asc hr
    have HASC := Lib.hid hr2.2
    have hcs : a < 0 ∨ (0 ≤ a ∧ k < 0) ∨ (0 ≤ a ∧ 0 ≤ k) := by omega
    rcases hcs with h | ⟨h, h2⟩ | ⟨h, h2⟩
    · refine ⟨0, 2, fun w A n cp hl hz => ahead_day a k 2 hl hz hr (.inl ⟨h, rfl⟩), fun w A n cp hl hz => ?_⟩
      have HR2 := Lib.hid (HR.out w A n cp hl hz)
      clear HR hl hz hr hr2
      go_enter Tryd.func32, Tryd.ntmps32
      go_wp2_with fail
      refine HR2.out.mono ?_
      rintro e w' ⟨rfl, q, rfl⟩
      go_wp2_with fail
      go_ret2
      exact ⟨rfl, Kt.below_of_drewN _ _⟩
    · refine ⟨0, 2, fun w A n cp hl hz => ahead_day a k 2 hl hz hr (.inr (.inl ⟨h, h2, rfl⟩)), fun w A n cp hl hz => ?_⟩
      have HR2 := Lib.hid (HR.out w A n cp hl hz)
      clear HR hl hz hr hr2
      go_enter Tryd.func32, Tryd.ntmps32
      go_wp2_with fail
      refine HR2.out.mono ?_
      rintro e w' ⟨rfl, q, rfl⟩
      go_wp2_with fail
      go_ret2
      exact ⟨rfl, Kt.below_of_drewN _ _⟩
    · -- what the program answers, and what the reference's walk must end in
      have hgoal : ∃ v c : Int, Ans 31 (fun s => #[.int .i64 a, .int .i64 k, s]) H (.int .i64 v) c ∧ ((v = 0 ∧ c = 3 ∧ (730484 < a ∨ (a ≤ 730484 ∧ Cv.cnt H 730485 - Cv.cnt H a ≤ k))) ∨ (c = 0 ∧ a ≤ v ∧ v ≤ 730484 ∧ Cv.cnt H v - Cv.cnt H a = k ∧ Cv.wk H v = true)) := by
        by_cases h3 : 730484 < a
        · exact ⟨0, 3, fun w A n cp hl hz => ahead_day a k 3 hl hz hr (.inr (.inr ⟨h, h2, h3, rfl⟩)), .inl ⟨rfl, rfl, .inl h3⟩⟩
        · by_cases h4 : Cv.cnt H 730485 - Cv.cnt H a ≤ k
          · exact ⟨0, 3, fun w A n cp hl hz => ahead_none a k hl hz hr h (by omega) h2 h4, .inl ⟨rfl, rfl, .inr ⟨by omega, h4⟩⟩⟩
          · obtain ⟨d, d0, d1, d2, d3⟩ := Cv.ahead_ex hr2.2 h (by omega) h2 (show k < Cv.cnt H 730485 - Cv.cnt H a by omega)
            exact ⟨d, 0, fun w A n cp hl hz => ahead_val a k d hl hz hr h d0 d1 h2 d3 d2, .inr ⟨rfl, d0, d1, d2, d3⟩⟩
      obtain ⟨v, c, hprog, hend⟩ := hgoal
      refine ⟨v, c, hprog, fun w A n cp hl hz => ?_⟩
      have HEND := Lib.hid hend
      have HR2 := Lib.hid (HR.out w A n cp hl hz)
      have HK := Lib.hid (fun (q : Nat) (d : Int) (h0 : 0 ≤ d) => rworks_any d A n cp H (w.drewN q) h0 hl hz (by omega))
      obtain ⟨p, hp⟩ : ∃ p, Hid (Cv.cnt H a = p) := ⟨_, Lib.hid rfl⟩
      have HV : Hid (∀ d, a ≤ d → d ≤ 730484 → Cv.cnt H d - p = k → Cv.wk H d = true → v = d ∧ c = 0) := Lib.hid (fun d e0 e1 e2 e3 => by
        rcases HEND.out with ⟨_, _, g | ⟨g, g2⟩⟩ | ⟨g1, g2, g3, g4, g5⟩
        · omega
        · exfalso
          have hs := Cv.cnt_step HASC.out d (by omega)
          have hm := Cv.cnt_mono HASC.out (show 0 ≤ d + 1 by omega) (show d + 1 ≤ 730485 by omega)
          rw [e3] at hs
          simp at hs
          have := hp.out
          omega
        · exact ⟨(Cv.ahead_uniq HASC.out (d := v) (e := d) (by omega) (by omega) (by have := hp.out; omega) g5 e3), g1⟩)
      have HW : Hid (Cv.cnt H 730485 - p ≤ k ∨ 730484 < a → v = 0 ∧ c = 3) := Lib.hid (fun hc => by
        rcases HEND.out with ⟨g1, g2, _⟩ | ⟨g1, g2, g3, g4, g5⟩
        · exact ⟨g1, g2⟩
        · exfalso
          have hs := Cv.cnt_step HASC.out v (by omega)
          have hm := Cv.cnt_mono HASC.out (show 0 ≤ v + 1 by omega) (show v + 1 ≤ 730485 by omega)
          rw [g5] at hs
          simp at hs
          have := hp.out
          rcases hc with hc | hc <;> omega)
      clear HR hl hz hr hr2 hend HEND hprog
      go_enter Tryd.func32, Tryd.ntmps32
      go_wp2_with fail
      refine HR2.out.mono ?_
      rintro e w' ⟨rfl, q, rfl⟩
      go_wp2_with fail
      go_loopw [1, 8] (fun nn dd wr => ∃ (d N : Int), dd = .int .i64 d ∧ nn = .int .i64 N ∧ a ≤ d ∧ (d ≤ 730485 ∨ d = a) ∧ 0 ≤ N ∧ N ≤ k ∧ Hid (N = k - (Cv.cnt H d - p)) ∧ wr = w.drewN q) (fun _ dd _ => (730486 - intOf dd).toNat)
      case atStart => exact ⟨a, k, rfl, rfl, by omega, .inr rfl, h2, by omega, Lib.hid (by rw [hp.out]; omega), rfl⟩
      case round =>
        obtain ⟨d, N, rfl, rfl, hd0, hd1, hN0, hN1, hN, rfl⟩ := hrel
        by_cases hle : d ≤ 730484
        · have hs := Cv.cnt_step HASC.out d (by omega)
          have hN2 := hN.out
          go_wp2_with fail
          cases hw : Cv.wk H d
          · rw [hw] at hs
            simp at hs
            have HN : Hid (N = k - (Cv.cnt H (d + 1) - p)) := Lib.hid (by omega)
            clear hs hN2
            refine (HK.out q d (by omega)).mono ?_
            rw [hw]
            rintro e w' ⟨rfl, rfl⟩
            go_wp2_with fail
            go_roundw
            case rel => exact ⟨d + 1, N, rfl, rfl, by omega, .inl (by omega), hN0, hN1, HN, by first | rfl | trivial⟩
            case measure => simp [intOf]; omega
          · by_cases hz0 : N = 0
            · have HE := Lib.hid (HV.out d hd0 hle (by omega) hw)
              have hnz : (N == 0) = true := by simp [hz0]
              clear hs hN2 hz0
              refine (HK.out q d (by omega)).mono ?_
              rw [hw]
              rintro e w' ⟨rfl, rfl⟩
              go_wp2_with fail
              go_ret2
              exact ⟨ret_ii HE.out.1.symm HE.out.2.symm, Kt.below_of_drewN _ _⟩
            · have hnz : (N == 0) = false := by simp [hz0]
              rw [hw] at hs
              simp at hs
              have HN : Hid (N - 1 = k - (Cv.cnt H (d + 1) - p)) := Lib.hid (by omega)
              have hN9 : 1 ≤ N := by omega
              clear hs hN2 hz0
              refine (HK.out q d (by omega)).mono ?_
              rw [hw]
              rintro e w' ⟨rfl, rfl⟩
              go_wp2_with fail
              go_roundw
              case rel => exact ⟨d + 1, N - 1, rfl, rfl, by omega, .inl (by omega), by omega, by omega, HN, by first | rfl | trivial⟩
              case measure => simp [intOf]; omega
        · have HE := Lib.hid (HW.out (by
            have hN2 := hN.out
            rcases hd1 with e | e
            · left
              have e2 : d = 730485 := by omega
              rw [e2] at hN2
              omega
            · right; omega))
          go_wp2_with fail
          go_ret2
          exact ⟨ret_ii HE.out.1.symm HE.out.2.symm, Kt.below_of_drewN _ _⟩
end Go.Proofs.YtjfgfchnpghpfaaDoor
