/- The walk of CivilAhead. -/
import Derived.Test.YthmgkfljaneocaaDoorCivO
namespace Go.Proofs.YthmgkfljaneocaaDoor
open Go Go.RowKit

set_option maxRecDepth 100000 in
set_option maxHeartbeats 4000000 in
theorem walk_CivilAhead (w : World) (A : Option Addr) (cp : Nat) (l : List Int) (_ll : l.length ≤ cp) (_ml : cp ≤ maxLen) (zl : Kt.Ints w w.heap.size .u16 A l) (wl : ∀ i ∈ l, (Lit.int .u16 i).wf = true) (rl : l.length * 2 ≤ 140737488351232)
    (a : Int) (_wa : (Lit.int .i64 a).wf = true) (n : Int) (_wn : (Lit.int .i64 n).wf = true) (ht : Tab w) :
    Calls Tryd.prog 10 #[.slice A l.length cp, .int .i64 a, .int .i64 n] w fun e w' => e = .returned (.bool true) ∧ Below w.heap.size w w' := by
  have HT := Lib.hid ht
  have HLB := Lib.hid (fun x hx => bd_u16 (wl x hx))
  obtain ⟨d, hd⟩ : ∃ d, Hid (a % 730485 = d) := ⟨_, Lib.hid rfl⟩
  obtain ⟨k, hk⟩ : ∃ d, Hid (n % 1048576 = d) := ⟨_, Lib.hid rfl⟩
  have d0 : 0 ≤ d := by rw [← hd.out]; omega
  have d1 : d ≤ 730484 := by rw [← hd.out]; omega
  have k0 : 0 ≤ k := by rw [← hk.out]; omega
  have k1 : k < 1048576 := by rw [← hk.out]; omega
  clear ht wl
  go_enter Tryd.func10, Tryd.ntmps10
  go_wp2_with fail
  refine (awake_any _ HT.out).mono ?_
  rintro e w0 ⟨rfl, b0⟩
  go_wp2_with fail
  refine (list_any A _ cp l _ rfl (zl.on b0) HLB.out (by omega)).mono ?_
  rintro e w1 ⟨B, H, c, rfl, hHc, hz, hr, b1⟩
  replace b1 := Kt.next b0 b1
  have HR := Lib.hid hr
  have hr2 := Cv.rightH_asc hr
  have HASC := Lib.hid hr2.2
  have hl1 := hr2.1
  clear hr hr2
  obtain ⟨nn, hnn⟩ : ∃ nn, Hid (H.length = nn) := ⟨_, Lib.hid rfl⟩
  rw [hnn.out] at hHc hl1 ⊢
  go_wp2_with fail
  refine (lawday_any a _).mono ?_
  rw [hd.out]
  rintro e w' ⟨rfl, rfl⟩
  go_wp2_with fail
  refine (pick_any n 1048576 _ (by omega) (by omega)).mono ?_
  rw [hk.out]
  rintro e w' ⟨rfl, rfl⟩
  by_cases hno : Cv.cnt H 730485 - Cv.cnt H d ≤ k
  · have HNO := Lib.hid hno
    have hst := Cv.cnt_step HASC.out 730484 (by omega)
    have HST := Lib.hid hst
    have hb1 := Cv.cnt_bd H (by rw [hnn.out]; exact hl1) d0 (by omega)
    have hb2 := Cv.cnt_bd H (by rw [hnn.out]; exact hl1) (show (0 : Int) ≤ 730484 by omega) (by omega)
    obtain ⟨p, hp⟩ : ∃ p, Hid (Cv.cnt H 730484 - Cv.cnt H d = p) := ⟨_, Lib.hid rfl⟩
    have p0 : p ≤ 600000 := by rw [← hp.out]; omega
    have p1 : -600000 ≤ p := by rw [← hp.out]; omega
    clear hno hst hb1 hb2
    go_wp2_with fail
    refine (ahead_none d k hnn.out hz HR.out d0 d1 k0 HNO.out).mono ?_
    rintro e w2 ⟨rfl, b2⟩
    have hz2 := hz.on b2
    replace b2 := Kt.next b1 b2
    go_wp2_with fail
    refine (between_val d 730484 p hnn.out hz2 HR.out d0 (by omega) (by omega) hp.out).mono ?_
    rintro e w3 ⟨rfl, b3⟩
    have hz3 := hz2.on b3
    replace b3 := Kt.next b2 b3
    go_wp2_with fail
    refine (works_ok 730484 hnn.out hz3 HR.out (by omega) (by omega)).mono ?_
    cases hw : Cv.wk H 730484
    · have hle : p ≤ k := by
        have h1 := HST.out
        have h2 := HNO.out
        rw [hw] at h1
        simp at h1
        rw [← hp.out]
        omega
      rintro e w4 ⟨rfl, b4⟩
      replace b4 := Kt.next b3 b4
      go_wp2_with fail
      go_ret
      exact ⟨rfl, b4⟩
    · have hle : p + 1 ≤ k := by
        have h1 := HST.out
        have h2 := HNO.out
        rw [hw] at h1
        simp at h1
        rw [← hp.out]
        omega
      rintro e w4 ⟨rfl, b4⟩
      replace b4 := Kt.next b3 b4
      go_wp2_with fail
      go_ret
      exact ⟨rfl, b4⟩
  · have HYES : Hid (k < Cv.cnt H 730485 - Cv.cnt H d) := Lib.hid (by omega)
    clear hno
    go_wp2_with fail
    refine (ahead_ok d k hnn.out hz HR.out d0 d1 k0 HYES.out).mono ?_
    rintro e w2 ⟨⟨x, rfl, x0, x1, hcx, hwx⟩, b2⟩
    have hz2 := hz.on b2
    replace b2 := Kt.next b1 b2
    have HCX := Lib.hid hcx
    have HWX := Lib.hid hwx
    clear hcx hwx
    go_wp2_with fail
    refine (works_ok x hnn.out hz2 HR.out (by omega) (by omega)).mono ?_
    rw [HWX.out]
    rintro e w3 ⟨rfl, b3⟩
    have hz3 := hz2.on b3
    replace b3 := Kt.next b2 b3
    go_wp2_with fail
    refine (between_val d x k hnn.out hz3 HR.out d0 x0 x1 HCX.out).mono ?_
    rintro e w4 ⟨rfl, b4⟩
    have hz4 := hz3.on b4
    replace b4 := Kt.next b3 b4
    by_cases hmax : x = 730484
    · have hm2 : (x == 730484) = true := by simp [hmax]
      clear hmax
      go_wp2_with fail
      go_ret
      exact ⟨rfl, b4⟩
    · have hm2 : (x == 730484) = false := by simp [hmax]
      have hxm : x + 1 ≤ 730484 := by omega
      have hst := Cv.cnt_step HASC.out x (by omega)
      rw [HWX.out] at hst
      simp only [if_true] at hst
      have HST := Lib.hid hst
      clear hmax hst
      by_cases hno : Cv.cnt H 730485 - Cv.cnt H d ≤ k + 1
      · have HNO := Lib.hid hno
        have HNO2 : Hid (Cv.cnt H 730485 - Cv.cnt H (x + 1) ≤ 0) := Lib.hid (by have h1 := HST.out; have h2 := HCX.out; omega)
        clear hno
        go_wp2_with fail
        refine (ahead_none d (k + 1) hnn.out hz4 HR.out d0 d1 (by omega) HNO.out).mono ?_
        rintro e w5 ⟨rfl, b5⟩
        have hz5 := hz4.on b5
        replace b5 := Kt.next b4 b5
        go_wp2_with fail
        refine (ahead_none (x + 1) 0 hnn.out hz5 HR.out (by omega) hxm (by omega) HNO2.out).mono ?_
        rintro e w6 ⟨rfl, b6⟩
        replace b6 := Kt.next b5 b6
        go_wp2_with fail
        go_ret
        exact ⟨rfl, b6⟩
      · have HYES2 : Hid (k + 1 < Cv.cnt H 730485 - Cv.cnt H d) := Lib.hid (by omega)
        clear hno
        go_wp2_with fail
        refine (ahead_ok d (k + 1) hnn.out hz4 HR.out d0 d1 (by omega) HYES2.out).mono ?_
        rintro e w5 ⟨⟨y, rfl, y0, y1, hcy, hwy⟩, b5⟩
        have hz5 := hz4.on b5
        replace b5 := Kt.next b4 b5
        have hxy : x + 1 ≤ y := by
          rcases Int.lt_or_le x y with h | h
          · omega
          · have h1 := Cv.cnt_mono HASC.out (show 0 ≤ y by omega) h
            have h2 := HCX.out
            omega
        have HCY : Hid (Cv.cnt H y - Cv.cnt H (x + 1) = 0) := Lib.hid (by have h1 := HST.out; have h2 := HCX.out; omega)
        have HWY := Lib.hid hwy
        clear hcy hwy
        go_wp2_with fail
        refine (ahead_val (x + 1) 0 y hnn.out hz5 HR.out (by omega) hxy y1 (by omega) HWY.out HCY.out).mono ?_
        rintro e w6 ⟨rfl, b6⟩
        replace b6 := Kt.next b5 b6
        go_wp2_with fail
        go_ret
        exact ⟨rfl, b6⟩
end Go.Proofs.YthmgkfljaneocaaDoor
