/- What Day and Date of package civil return: their walks. -/
import Derived.Test.YtjfgfchnpghpfaaDoorCivA
namespace Cv
def Valid (y m k : Int) : Prop := 2001 ≤ y ∧ y ≤ 4000 ∧ 1 ≤ m ∧ m ≤ 12 ∧ 1 ≤ k ∧ k ≤ md (leap y) m.toNat
def dayOf (y : Int) (m : Nat) (k : Int) : Int := ys y + cum (leap y) m + k - 1
theorem IsDate.valid {d y : Int} {m : Nat} {k : Int} (h : IsDate d y m k) : Valid y m k := ⟨h.y0, h.y1, by have := h.m0; omega, by have := h.m1; omega, h.k0, by rw [Int.toNat_natCast]; exact h.k1⟩
theorem Valid.date {y m k : Int} (h : Valid y m k) : IsDate (dayOf y m.toNat k) y m.toNat k := ⟨h.1, h.2.1, by have := h.2.2.1; omega, by have := h.2.2.2.1; omega, h.2.2.2.2.1, h.2.2.2.2.2, rfl⟩
theorem ys_bd {y : Int} (h0 : 2001 ≤ y) (h1 : y ≤ 4001) : 0 ≤ ys y ∧ ys y ≤ 730485 := by
  have a := ys_mono' h0
  have b := ys_mono' h1
  rw [ys_first] at a
  rw [ys_last] at b
  exact ⟨a, b⟩
theorem cum_eq (l : Bool) (m : Nat) : cum l m = aheadOf (m - 1) + (if l && decide (2 < m) then 1 else 0) := rfl
end Cv
namespace Go.Proofs.YtjfgfchnpghpfaaDoor
open Go Go.RowKit
theorem day_bad (y m k : Int) (w : World) (h : ¬ Cv.Valid y m k) :
    Calls Tryd.prog 9 #[.int .i64 y, .int .i64 m, .int .i64 k] w fun e w' => e = .returned (.tuple #[.int .i64 0, .int .i64 10]) ∧ Below w.heap.size w w' := by
  by_cases h1 : y < 2001
  · go_enter Tryd.func9, Tryd.ntmps9
    go_wp2
    go_ret2
    exact ⟨rfl, Below.refl _ _⟩
  by_cases h2 : 4000 < y
  · go_enter Tryd.func9, Tryd.ntmps9
    go_wp2
    go_ret2
    exact ⟨rfl, Below.refl _ _⟩
  by_cases h3 : m < 1
  · go_enter Tryd.func9, Tryd.ntmps9
    go_wp2
    go_ret2
    exact ⟨rfl, Below.refl _ _⟩
  by_cases h4 : 12 < m
  · go_enter Tryd.func9, Tryd.ntmps9
    go_wp2
    go_ret2
    exact ⟨rfl, Below.refl _ _⟩
  by_cases h5 : k < 1
  · go_enter Tryd.func9, Tryd.ntmps9
    go_wp2
    go_ret2
    exact ⟨rfl, Below.refl _ _⟩
  obtain ⟨M, rfl⟩ := Int.eq_ofNat_of_zero_le (show 0 ≤ m by omega)
  obtain ⟨l, hl⟩ : ∃ l, Hid (Cv.leap y = l) := ⟨_, Lib.hid rfl⟩
  obtain ⟨n, hn⟩ : ∃ n, Hid (Cv.md l M = n) := ⟨_, Lib.hid rfl⟩
  have hk : n < k := by
    rcases Int.lt_or_le n k with h6 | h6
    · exact h6
    · exact absurd ⟨by omega, by omega, by omega, by omega, by omega, by rw [Int.toNat_natCast, hl.out, hn.out]; exact h6⟩ h
  clear h
  go_enter Tryd.func9, Tryd.ntmps9
  go_wp2_with fail
  refine (leap_any y _).mono ?_
  rw [hl.out]
  rintro e w' ⟨rfl, rfl⟩
  go_wp2_with fail
  refine (ahead_any _).mono ?_
  rintro e w1 ⟨rfl, b1⟩
  go_wp2_with fail
  have hblk : Kt.IBlk (w1.alloc (.cells (Kt.IArr .i64 Cv.ah) 63)) w1.heap.size 63 .i64 Cv.ah := Kt.IBlk.new _ _ _ _
  refine (md_any w1.heap.size M l _ (by omega) (by omega) _ hblk).mono ?_
  rw [hn.out]
  rintro e w2 ⟨rfl, q, rfl⟩
  have b2 : Below w.heap.size w ((w1.alloc (.cells (Kt.IArr .i64 Cv.ah) 63)).drewN q) := Kt.below_drewN (b1.alloc b1.size _) q
  go_wp2_with fail
  go_ret2
  exact ⟨rfl, b2⟩
set_option maxHeartbeats 1000000 in
theorem day_ok (d y : Int) (M : Nat) (k : Int) (w : World) (h : Cv.IsDate d y M k) :
    Calls Tryd.prog 9 #[.int .i64 y, .int .i64 M, .int .i64 k] w fun e w' => e = .returned (.tuple #[.int .i64 d, .int .i64 0]) ∧ Below w.heap.size w w' := by
  have h1 := h.y0
  have h2 := h.y1
  have h3 := h.m0
  have h4 := h.m1
  have h5 := h.k0
  have h6 := h.k1
  have h7 := h.day
  have hys := Cv.ys_bd h1 (by omega)
  rw [Cv.cum_eq] at h7
  obtain ⟨l, hl⟩ : ∃ l, Hid (Cv.leap y = l) := ⟨_, Lib.hid rfl⟩
  rw [hl.out] at h6 h7
  obtain ⟨n, hn⟩ : ∃ n, Hid (Cv.md l M = n) := ⟨_, Lib.hid rfl⟩
  have hn31 := Cv.md_bd l h3 h4
  rw [hn.out] at h6 hn31
  obtain ⟨_, hn31⟩ := hn31
  have hbd := Cv.ah_bd h3 h4
  obtain ⟨Y, hY⟩ : ∃ Y, Hid (Cv.ys y = Y) := ⟨_, Lib.hid rfl⟩
  rw [hY.out] at h7 hys
  obtain ⟨q, hq⟩ : ∃ q, Hid (Cv.aheadOf (M - 1) = q) := ⟨_, Lib.hid rfl⟩
  rw [hq.out] at h7 hbd
  obtain ⟨Y0, Y1⟩ := hys
  obtain ⟨_, _, q0, q1⟩ := hbd
  have HD := Lib.hid h7
  clear h h7
  go_enter Tryd.func9, Tryd.ntmps9
  go_wp2_with fail
  refine (leap_any y _).mono ?_
  rw [hl.out]
  rintro e w' ⟨rfl, rfl⟩
  go_wp2_with fail
  refine (ahead_any _).mono ?_
  rintro e w1 ⟨rfl, b1⟩
  go_wp2_with fail
  have hblk : Kt.IBlk (w1.alloc (.cells (Kt.IArr .i64 Cv.ah) 63)) w1.heap.size 63 .i64 Cv.ah := Kt.IBlk.new _ _ _ _
  refine (md_any w1.heap.size M l _ h3 h4 _ hblk).mono ?_
  rw [hn.out]
  rintro e w2 ⟨rfl, q2, rfl⟩
  have b2 : Below w.heap.size w ((w1.alloc (.cells (Kt.IArr .i64 Cv.ah) 63)).drewN q2) := Kt.below_drewN (b1.alloc b1.size _) q2
  have hcell := (hblk.drewN q2).cell (M - 1) (by show M - 1 < 13; omega)
  have hcq : Ls.nth Cv.ah (M - 1) = q := hq.out
  rw [hcq] at hcell
  clear hcq hblk
  generalize hw3 : ((w1.alloc (.cells (Kt.IArr .i64 Cv.ah) 63)).drewN q2) = w3 at hcell b2
  have e3 : ((w1.alloc (.cells #[.int .i64 0, .int .i64 31, .int .i64 59, .int .i64 90, .int .i64 120, .int .i64 151, .int .i64 181, .int .i64 212, .int .i64 243, .int .i64 273, .int .i64 304, .int .i64 334, .int .i64 365] 63)).drewN q2) = w3 := hw3
  try rw [e3]
  clear hw3 e3
  have u1 : IntKind.i64.wrap ((M : Int) - 1) = (M : Int) - 1 := IntWalk.i64_in _ (by omega)
  have u2 : IntKind.i64.wrap (Y + q) = Y + q := IntWalk.i64_in _ (by omega)
  have u3 : IntKind.i64.wrap (Y + q + k) = Y + q + k := IntWalk.i64_in _ (by omega)
  have u4 : IntKind.i64.wrap (Y + q + k - 1) = Y + q + k - 1 := IntWalk.i64_in _ (by omega)
  have u5 : ((M : Int) - 1).toNat = M - 1 := by omega
  have u6 : 0 ≤ (M : Int) - 1 := by omega
  have HYS : Hid (∀ j, Calls Tryd.prog 42 #[.int .i64 y] (w3.drewN j) fun e w' => e = .returned (.int .i64 Y) ∧ w3.drewN j = w') := Lib.hid (fun j => by rw [← hY.out]; exact ys_any y _ h1 (by omega))
  go_wp2_with fail
  go_quiet ((go_at_call 42; first | exact Kt.quiet_left (HYS.out _) | exact Kt.quiet_add_left (HYS.out _)))
  clear u1 u2 u3 u4 u5 u6
  cases l
  · go_wp2_with fail
    go_ret2
    exact ⟨ret_ii (by have h8 := HD.out; simp at h8; omega) rfl, Kt.below_drewN b2 _⟩
  · by_cases h8 : 2 < M
    · go_wp2_with fail
      go_ret2
      exact ⟨ret_ii (by have h9 := HD.out; simp [h8] at h9; omega) rfl, Kt.below_drewN b2 _⟩
    · go_wp2_with fail
      go_ret2
      exact ⟨ret_ii (by have h9 := HD.out; simp [h8] at h9; omega) rfl, Kt.below_drewN b2 _⟩
def DateR (w : World) (d : Int) (e : Ending) (w' : World) : Prop := (∃ (y : Int) (m : Nat) (k : Int), e = .returned (.tuple #[.int .i64 y, .int .i64 m, .int .i64 k, .int .i64 0]) ∧ Cv.IsDate d y m k) ∧ Below w.heap.size w w'
theorem date_bad (d c : Int) (w : World) (hc : (d < 0 ∧ c = 2) ∨ (730484 < d ∧ c = 3)) :
    Calls Tryd.prog 14 #[.int .i64 d] w fun e w' => e = .returned (.tuple #[.int .i64 0, .int .i64 0, .int .i64 0, .int .i64 c]) ∧ w = w' := by
  rcases hc with ⟨h, rfl⟩ | ⟨h, rfl⟩
  · go_enter Tryd.func14, Tryd.ntmps14
    go_wp2_with fail
    refine (chk_low d _ h).mono ?_
    rintro e w' ⟨rfl, rfl⟩
    go_wp2
    go_returns
    exact ⟨rfl, rfl⟩
  · go_enter Tryd.func14, Tryd.ntmps14
    go_wp2_with fail
    refine (chk_high d _ h).mono ?_
    rintro e w' ⟨rfl, rfl⟩
    go_wp2
    go_returns
    exact ⟨rfl, rfl⟩
end Go.Proofs.YtjfgfchnpghpfaaDoor
