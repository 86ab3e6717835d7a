/- The walk of CivilWrites. -/
import Derived.Test.YthmgkfljaneocaaDoorCivP
namespace Go.Proofs.YthmgkfljaneocaaDoor
open Go Go.RowKit

set_option maxRecDepth 100000 in
set_option maxHeartbeats 4000000 in
theorem walk_CivilWrites (a : Int) (_wa : (Lit.int .i64 a).wf = true) (b : Int) (_wb : (Lit.int .i64 b).wf = true) (w : World) (ht : Tab w) :
    Calls Tryd.prog 11 #[.int .i64 a, .int .i64 b] w fun e w' => e = .returned (.bool true) ∧ Below w.heap.size w w' := by
  have HT := Lib.hid ht
  clear ht
  obtain ⟨x, hx⟩ : ∃ d, Hid (a % 1051898400 = d) := ⟨_, Lib.hid rfl⟩
  obtain ⟨y, hy⟩ : ∃ d, Hid (b % 1051898400 = d) := ⟨_, Lib.hid rfl⟩
  have x0 : 0 ≤ x := by rw [← hx.out]; omega
  have x1 : x ≤ 1051898399 := by rw [← hx.out]; omega
  have y0 : 0 ≤ y := by rw [← hy.out]; omega
  have y1 : y ≤ 1051898399 := by rw [← hy.out]; omega
  go_enter Tryd.func11, Tryd.ntmps11
  go_wp2_with fail
  refine (awake_any _ HT.out).mono ?_
  rintro e w0 ⟨rfl, b0⟩
  have HT0 := Lib.hid (HT.out.on b0)
  go_wp2_with fail
  refine (pick_any a 1051898400 _ (by omega) (by omega)).mono ?_
  rw [hx.out]
  rintro e w' ⟨rfl, rfl⟩
  go_wp2_with fail
  refine (pick_any b 1051898400 _ (by omega) (by omega)).mono ?_
  rw [hy.out]
  rintro e w' ⟨rfl, rfl⟩
  go_wp2_with fail
  refine (timetext_ok x _ x0 x1 HT0.out).mono ?_
  rintro e w1 ⟨⟨Y, M, K, h, n, rfl, hd, hh, hn⟩, b1⟩
  have HT1 := Lib.hid (HT0.out.on b1)
  replace b1 := Kt.next b0 b1
  go_wp2_with fail
  refine (timetext_ok y _ y0 y1 HT1.out).mono ?_
  rintro e w2 ⟨⟨Y', M', K', h', n', rfl, hd', hh', hn'⟩, b2⟩
  have HT2 := Lib.hid (HT1.out.on b2)
  replace b2 := Kt.next b1 b2
  have hrd := read_time hd hh hn
  have hlx := Cv.lex_time hd hd' hh hn hh' hn'
  rw [← Cv.timeL_less Y M K h n Y' M' K' h' n' (by have := hd.y1; omega) (by have := hd'.y1; omega) (by have := hd.m1; omega) (by have := hd'.m1; omega) (by have := Int.le_trans hd.k1 (Cv.md_bd _ hd.m0 hd.m1).2; omega) (by have := Int.le_trans hd'.k1 (Cv.md_bd _ hd'.m0 hd'.m1).2; omega) (by omega) (by omega) (by omega) (by omega)] at hlx
  have hrd2 := read_date hd
  obtain ⟨S, hS⟩ : ∃ S, Hid (Cv.timeL Y M K h n = S) := ⟨_, Lib.hid rfl⟩
  obtain ⟨T, hT⟩ : ∃ S, Hid (Cv.timeL Y' M' K' h' n' = S) := ⟨_, Lib.hid rfl⟩
  obtain ⟨U, hU⟩ : ∃ S, Hid (Cv.dateL Y M K = S) := ⟨_, Lib.hid rfl⟩
  have hsl : S.length = 16 := by rw [← hS.out]; exact Cv.timeL_len _ _ _ _ _
  have hul : U.length = 10 := by rw [← hU.out]; exact Cv.dateL_len _ _ _
  have HDD := Lib.hid hd
  have HUU := hU
  rw [hS.out, hT.out] at hlx
  rw [hS.out, hU.out] at hrd
  rw [hU.out] at hrd2
  rw [hS.out, hT.out]
  have HLX := Lib.hid hlx
  have HRD := Lib.hid hrd
  have HRD2 := Lib.hid hrd2
  obtain ⟨D, hD⟩ : ∃ D, Hid (x / 1440 = D) := ⟨_, Lib.hid rfl⟩
  rw [hD.out] at HRD2 HDD
  have hD0 : 0 ≤ D := by rw [← hD.out]; omega
  have hD1 : D ≤ 730484 := by rw [← hD.out]; omega
  have HSP : Hid (∀ W, Calls Tryd.prog 19 #[.int .i64 x] W fun e w' => e = .returned (.tuple #[.int .i64 D, .int .i64 (x % 1440), .int .i64 0]) ∧ W = w') := Lib.hid (fun W => by rw [← hD.out]; exact split_ok x W x0 x1)
  have hslt : (⟨S.toArray⟩ : ByteArray).size = 16 := hsl
  clear hd hd' hh hn hh' hn' hlx hrd hrd2 hU
  go_wp2_with fail
  refine (readtime_val (v := x) (by rw [hslt]; unfold maxLen; omega) HRD.out.2.1 HRD.out.2.2).mono ?_
  rintro e w3 ⟨rfl, b3⟩
  have HT3 := Lib.hid (HT2.out.on b3)
  replace b3 := Kt.next b2 b3
  go_wp2_with fail
  refine (HSP.out _).mono ?_
  rintro e w' ⟨rfl, rfl⟩
  have hlx := HLX.out
  go_wp2_with fail
  clear hlx
  refine (text_val (l := U) Y M K HDD.out HUU.out HT3.out).mono ?_
  rintro e w4 ⟨rfl, b4⟩
  replace b4 := Kt.next b3 b4
  have hut : (⟨U.toArray⟩ : ByteArray).size = 10 := hul
  go_wp2_with fail
  refine (read_any ⟨U.toArray⟩ _ (by rw [hut]; unfold maxLen; omega)).mono ?_
  rw [HRD2.out.1, HRD2.out.2]
  rintro e w5 ⟨rfl, b5⟩
  replace b5 := Kt.next b4 b5
  have hext := HRD.out.1
  go_wp2_with fail
  go_ret
  exact ⟨rfl, b5⟩
end Go.Proofs.YthmgkfljaneocaaDoor
