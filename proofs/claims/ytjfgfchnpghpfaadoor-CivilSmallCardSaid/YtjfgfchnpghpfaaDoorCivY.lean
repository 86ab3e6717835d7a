/- What the reference's Right returns (package letterbagref01): its walk. -/
import Derived.Test.YtjfgfchnpghpfaaDoorCivO
namespace Go.Proofs.YtjfgfchnpghpfaaDoor
open Go Go.RowKit
set_option maxHeartbeats 8000000 in
theorem rright_any (A : Option Addr) (n cp : Nat) (H : List Int) (w : World) (hl : H.length = n) (hz : Kt.Ints w w.heap.size .i64 A H) (hn : n ≤ 4611686018427387904) :
    Calls Tryd.prog 28 #[.slice A n cp] w fun e w' => e = .returned (.bool (Cv.rightH H)) ∧ ∃ q, w' = w.drewN q := by
  have HL := Lib.hid hl
  have E0 : Hid (Cv.rightH H = (decide (n ≤ 1000) && Cv.asc (-1) H)) := Lib.hid (by unfold Cv.rightH; rw [hl])
  clear hl
  go_enter Tryd.func28, Tryd.ntmps28
  go_wp2
  go_loopw [3] (fun i wr => ∃ (k : Nat) (last : Int), k ≤ n ∧ i = .int .i64 k ∧ -1 ≤ last ∧ Hid (k = 0 → last = -1) ∧ Hid (0 < k → 0 ≤ last ∧ Ls.nth H (k - 1) = last) ∧ Hid (Cv.asc (-1) H = Cv.asc last (H.drop k)) ∧ ∃ q, wr = w.drewN q) (fun i _ => n - (intOf i).toNat)
  case atStart => exact ⟨0, -1, Nat.zero_le _, rfl, by omega, Lib.hid (fun _ => rfl), Lib.hid (fun h => by omega), Lib.hid (by simp), 0, rfl⟩
  case round =>
    obtain ⟨k, last, hk, rfl, hl0, hk0, hkp, ha, q, rfl⟩ := hrel
    by_cases hlt : k < n
    · obtain ⟨b, o, rfl, hb, hc⟩ := hz (by have := HL.out; omega)
      have hcell := hc k (by have := HL.out; omega)
      have hcell2 := hc (k - 1) (by have := HL.out; omega)
      obtain ⟨x, hx⟩ : ∃ x, Hid (Ls.nth H k = x) := ⟨_, Lib.hid rfl⟩
      rw [hx.out] at hcell
      have hstep := ha.out
      rw [Cv.drop_cons (by have := HL.out; omega), hx.out, Cv.asc] at hstep
      have HS := Lib.hid hstep
      clear hc hstep
      have u1 : IntKind.i64.wrap ((k : Int) - 1) = (k : Int) - 1 := IntWalk.i64_in _ (by omega)
      by_cases h1 : x < 0
      · have E : Hid (Cv.rightH H = false) := Lib.hid (by rw [E0.out, HS.out, decide_eq_false (show ¬ last < x by omega)]; simp)
        clear hcell2
        have d1 : decide (x < 0) = true := by simp; omega
        go_wp2
        go_quiet (fail)
        go_wp2
        go_ret
        exact ⟨Kt.ret_bool E.out.symm, _, by first | rfl | exact World.drewN_drewN _ _ _ | (rw [World.drewN_drewN]; exact World.drewN_drewN _ _ _)⟩
      · have d1 : decide (x < 0) = false := by simp; omega
        by_cases h2 : 730484 < x
        · have E : Hid (Cv.rightH H = false) := Lib.hid (by rw [E0.out, HS.out, decide_eq_false (show ¬ x ≤ 730484 by omega)]; simp)
          clear hcell2
          have d2 : decide (730484 < x) = true := by simp; omega
          go_wp2
          go_quiet (fail)
          go_wp2
          go_ret
          exact ⟨Kt.ret_bool E.out.symm, _, by first | rfl | exact World.drewN_drewN _ _ _ | (rw [World.drewN_drewN]; exact World.drewN_drewN _ _ _)⟩
        · have d2 : decide (730484 < x) = false := by simp; omega
          by_cases h3 : 0 < k
          · have hp := hkp.out h3
            obtain ⟨hp0, hp1⟩ := hp
            rw [hp1] at hcell2
            have u2 : ((k : Int) - 1).toNat = k - 1 := by omega
            have u3 : 0 ≤ (k : Int) - 1 := by omega
            clear hp1
            have d3 : decide (0 < k) = true := by simp; omega
            by_cases h4 : x ≤ last
            · have E : Hid (Cv.rightH H = false) := Lib.hid (by rw [E0.out, HS.out, decide_eq_false (show ¬ last < x by omega)]; simp)
              have d4 : decide (x ≤ last) = true := by simp; omega
              go_wp2
              go_quiet (fail)
              go_wp2
              go_ret
              exact ⟨Kt.ret_bool E.out.symm, _, by first | rfl | exact World.drewN_drewN _ _ _ | (rw [World.drewN_drewN]; exact World.drewN_drewN _ _ _)⟩
            · have HA : Hid (Cv.asc (-1) H = Cv.asc x (H.drop (k + 1))) := Lib.hid (by rw [HS.out, decide_eq_true (show last < x by omega), decide_eq_true (show x ≤ 730484 by omega)]; rfl)
              have d4 : decide (x ≤ last) = false := by simp; omega
              go_wp2
              go_quiet (fail)
              go_wp2
              go_roundw
              case rel => exact ⟨k + 1, x, by omega, by go_num, by omega, Lib.hid (fun h => by omega), Lib.hid (fun _ => ⟨by omega, by rw [Nat.add_sub_cancel]; exact hx.out⟩), HA, _, by first | rfl | exact World.drewN_drewN _ _ _ | (rw [World.drewN_drewN]; exact World.drewN_drewN _ _ _)⟩
              case measure => simp [intOf]; omega
          · have HLA : Hid (last = -1) := Lib.hid (hk0.out (by omega))
            have HA : Hid (Cv.asc (-1) H = Cv.asc x (H.drop (k + 1))) := Lib.hid (by rw [HS.out, decide_eq_true (show last < x by have := HLA.out; omega), decide_eq_true (show x ≤ 730484 by omega)]; rfl)
            clear hcell2
            have d3 : decide (0 < k) = false := by simp; omega
            go_wp2
            go_quiet (fail)
            go_wp2
            go_roundw
            case rel => exact ⟨k + 1, x, by omega, by go_num, by omega, Lib.hid (fun h => by omega), Lib.hid (fun _ => ⟨by omega, by rw [Nat.add_sub_cancel]; exact hx.out⟩), HA, _, by first | rfl | exact World.drewN_drewN _ _ _ | (rw [World.drewN_drewN]; exact World.drewN_drewN _ _ _)⟩
            case measure => simp [intOf]; omega
    · obtain rfl : k = n := by omega
      have E : Hid (Cv.rightH H = decide (k ≤ 1000)) := Lib.hid (by rw [E0.out, ha.out, List.drop_of_length_le (by rw [HL.out]; exact Nat.le_refl _)]; simp [Cv.asc])
      have e2 : decide ((k : Int) ≤ 1000) = decide (k ≤ 1000) := by rw [Bool.eq_iff_iff]; simp only [decide_eq_true_eq]; omega
      have E2 : Hid (Cv.rightH H = decide ((k : Int) ≤ 1000)) := Lib.hid (by rw [E.out, e2])
      clear e2
      go_wp2
      go_ret
      exact ⟨Kt.ret_bool E2.out.symm, q, rfl⟩
end Go.Proofs.YtjfgfchnpghpfaaDoor
