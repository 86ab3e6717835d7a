/- The walk of CivilWrong. -/
import Derived.Test.YthmgkfljaneocaaDoorCivO
namespace Go.Proofs.YthmgkfljaneocaaDoor
open Go Go.RowKit

def wrongCells (p q r s : Int) : Array Value := #[.int .i64 p, .int .i64 q, .int .i64 2, .int .i64 r, .int .i64 s, .int .i64 3]
set_option maxRecDepth 100000 in
set_option maxHeartbeats 8000000 in
theorem walk_CivilWrong (n : Int) (_wn : (Lit.int .i64 n).wf = true) (m : Int) (_wm : (Lit.int .i64 m).wf = true) (w : World) (ht : Tab w) :
    Calls Tryd.prog 3 #[.int .i64 n, .int .i64 m] w fun e w' => e = .returned (.bool true) ∧ Below w.heap.size w w' := by
  have HT := Lib.hid ht
  clear ht
  obtain ⟨x, hx⟩ : ∃ d, Hid (n % 1099511627776 = d) := ⟨_, Lib.hid rfl⟩
  obtain ⟨y, hy⟩ : ∃ d, Hid (m % 1099511627776 = d) := ⟨_, Lib.hid rfl⟩
  have x0 : 0 ≤ x := by rw [← hx.out]; omega
  have x1 : x < 1099511627776 := by rw [← hx.out]; omega
  have y0 : 0 ≤ y := by rw [← hy.out]; omega
  have y1 : y < 1099511627776 := by rw [← hy.out]; omega
  go_enter Tryd.func3, Tryd.ntmps3
  go_wp2_with fail
  refine (awake_any _ HT.out).mono ?_
  rintro e w0 ⟨rfl, b0⟩
  go_wp2_with fail
  refine (pick_any n 1099511627776 _ (by omega) (by omega)).mono ?_
  rw [hx.out]
  rintro e w' ⟨rfl, rfl⟩
  go_wp2_with fail
  refine (pick_any m 1099511627776 _ (by omega) (by omega)).mono ?_
  rw [hy.out]
  rintro e w' ⟨rfl, rfl⟩
  go_wp2_with fail
  refine (pick_any n 1099511627776 _ (by omega) (by omega)).mono ?_
  rw [hx.out]
  rintro e w' ⟨rfl, rfl⟩
  go_wp2_with fail
  refine (pick_any m 1099511627776 _ (by omega) (by omega)).mono ?_
  rw [hy.out]
  rintro e w' ⟨rfl, rfl⟩
  go_wp2_with fail
  go_loopw [50] (fun i wr => ∃ z : Int, 0 ≤ z ∧ z ≤ 2 ∧ i = .int .i64 z ∧ Kt.Blk wr w0.heap.size 25 (wrongCells (-1 - x) (-1 - y) (730485 + x) (1051898400 + y)) ∧ Below w.heap.size w wr) (fun i _ => 2 - (intOf i).toNat)
  case atStart => exact ⟨0, by omega, by omega, rfl, Kt.Blk.new _ _ _, b0.alloc b0.size _⟩
  case round =>
    obtain ⟨z, hz1, hz2, rfl, hblk, hbel⟩ := hrel
    rcases (show z = 0 ∨ z = 1 ∨ z = 2 by omega) with rfl | rfl | rfl
    · clear hz1 hz2
      obtain ⟨D, hD⟩ : ∃ D : Int, D = -1 - x := ⟨_, rfl⟩
      obtain ⟨T, hTT⟩ : ∃ T : Int, T = -1 - y := ⟨_, rfl⟩
      have c0 : wr.cell? ⟨w0.heap.size, 0, none⟩ = some (.int .i64 D) := by rw [hD]; exact hblk.cell 0
      have c1 : wr.cell? ⟨w0.heap.size, 1, none⟩ = some (.int .i64 T) := by rw [hTT]; exact hblk.cell 1
      have c2 : wr.cell? ⟨w0.heap.size, 2, none⟩ = some (.int .i64 2) := hblk.cell 2
      have hD0 : D < 0 := by omega
      have hT0 : T < 0 := by omega
      have hD9 : -2000000000000 ≤ D := by omega
      have hmin : min D 0 = D := by omega
      have HTO : Hid (timeOf D 0 = 0 ∧ timeErr D 0 = 2) := Lib.hid (by unfold timeOf timeErr; refine ⟨?_, ?_⟩ <;> (repeat' split) <;> omega)
      clear hD hTT
      have hb1 : Below w.heap.size w (wr.alloc (.cells #[.int .i64 D, .int .i64 T, .int .i64 2] 25)) := hbel.alloc hbel.size _
      have hbl1 := Kt.Blk.new wr 25 #[.int .i64 D, .int .i64 T, .int .i64 2]
      have hba1 := hblk.alloc (.cells #[.int .i64 D, .int .i64 T, .int .i64 2] 25)
      go_wp2_with fail
      refine (date_bad D 2 _ (.inl ⟨by omega, rfl⟩)).mono ?_
      rintro e w' ⟨rfl, rfl⟩
      go_wp2_with fail
      refine (week_no D 2 _ (.inl ⟨by omega, rfl⟩)).mono ?_
      rintro e w' ⟨rfl, rfl⟩
      go_wp2_with fail
      refine (text_bad D 2 _ (.inl ⟨by omega, rfl⟩)).mono ?_
      rintro e w' ⟨rfl, rfl⟩
      go_wp2_with fail
      refine (time_any D 0 _).mono ?_
      rw [HTO.out.1, HTO.out.2]
      rintro e w' ⟨rfl, rfl⟩
      go_wp2_with fail
      refine (split_no T 2 _ (.inl ⟨by omega, rfl⟩)).mono ?_
      rintro e w' ⟨rfl, rfl⟩
      go_wp2_with fail
      refine (timetext_bad T 2 _ (.inl ⟨by omega, rfl⟩)).mono ?_
      rintro e w' ⟨rfl, rfl⟩
      go_wp2_with fail
      refine (works_day (H := []) D 2 rfl Kt.Ints.nil Cv.rightH_nil (.inl ⟨by omega, rfl⟩)).mono ?_
      rintro e w2 ⟨rfl, b2⟩
      have hbl2 := hbl1.on b2
      have hba2 := hba1.on b2
      replace b2 := Kt.next hb1 b2
      have e0 := hbl2.cell 0
      have e1 := hbl2.cell 1
      have e2 := hbl2.cell 2
      simp at e0 e1 e2
      go_wp2_with fail
      refine (ahead_day (H := []) D 0 2 rfl Kt.Ints.nil Cv.rightH_nil (.inl ⟨by omega, rfl⟩)).mono ?_
      rintro e w3 ⟨rfl, b3⟩
      have hbl3 := hbl2.on b3
      have hba3 := hba2.on b3
      replace b3 := Kt.next b2 b3
      clear e0 e1 e2
      have e0 := hbl3.cell 0
      have e1 := hbl3.cell 1
      have e2 := hbl3.cell 2
      simp at e0 e1 e2
      go_wp2_with fail
      refine (yearly_day D 0 0 2 _ (.inl ⟨by omega, rfl⟩)).mono ?_
      rintro e w' ⟨rfl, rfl⟩
      go_wp2_with fail
      try rw [hmin]
      refine (between_day (H := []) D D 2 rfl Kt.Ints.nil Cv.rightH_nil (.inl ⟨by omega, rfl⟩)).mono ?_
      rintro e w4 ⟨rfl, b4⟩
      have hbl4 := hbl3.on b4
      have hba4 := hba3.on b4
      replace b4 := Kt.next b3 b4
      clear e0 e1 e2
      have e0 := hbl4.cell 0
      have e1 := hbl4.cell 1
      have e2 := hbl4.cell 2
      simp at e0 e1 e2
      go_wp2_with fail
      go_roundw
      case rel => exact ⟨1, by omega, by omega, rfl, hba4, b4⟩
      case measure => simp [intOf]
    · clear hz1 hz2
      obtain ⟨D, hD⟩ : ∃ D : Int, D = 730485 + x := ⟨_, rfl⟩
      obtain ⟨T, hTT⟩ : ∃ T : Int, T = 1051898400 + y := ⟨_, rfl⟩
      have c0 : wr.cell? ⟨w0.heap.size, 3, none⟩ = some (.int .i64 D) := by rw [hD]; exact hblk.cell 3
      have c1 : wr.cell? ⟨w0.heap.size, 4, none⟩ = some (.int .i64 T) := by rw [hTT]; exact hblk.cell 4
      have c2 : wr.cell? ⟨w0.heap.size, 5, none⟩ = some (.int .i64 3) := hblk.cell 5
      have hD0 : 730484 < D := by omega
      have hT0 : 1051898399 < T := by omega
      have hD9 : D ≤ 2000000000000 := by omega
      have hmin : min D 0 = 0 := by omega
      have HTO : Hid (timeOf D 0 = 0 ∧ timeErr D 0 = 3) := Lib.hid (by unfold timeOf timeErr; refine ⟨?_, ?_⟩ <;> (repeat' split) <;> omega)
      clear hD hTT
      have hb1 : Below w.heap.size w (wr.alloc (.cells #[.int .i64 D, .int .i64 T, .int .i64 3] 25)) := hbel.alloc hbel.size _
      have hbl1 := Kt.Blk.new wr 25 #[.int .i64 D, .int .i64 T, .int .i64 3]
      have hba1 := hblk.alloc (.cells #[.int .i64 D, .int .i64 T, .int .i64 3] 25)
      go_wp2_with fail
      refine (date_bad D 3 _ (.inr ⟨by omega, rfl⟩)).mono ?_
      rintro e w' ⟨rfl, rfl⟩
      go_wp2_with fail
      refine (week_no D 3 _ (.inr ⟨by omega, rfl⟩)).mono ?_
      rintro e w' ⟨rfl, rfl⟩
      go_wp2_with fail
      refine (text_bad D 3 _ (.inr ⟨by omega, rfl⟩)).mono ?_
      rintro e w' ⟨rfl, rfl⟩
      go_wp2_with fail
      refine (time_any D 0 _).mono ?_
      rw [HTO.out.1, HTO.out.2]
      rintro e w' ⟨rfl, rfl⟩
      go_wp2_with fail
      refine (split_no T 3 _ (.inr ⟨by omega, rfl⟩)).mono ?_
      rintro e w' ⟨rfl, rfl⟩
      go_wp2_with fail
      refine (timetext_bad T 3 _ (.inr ⟨by omega, rfl⟩)).mono ?_
      rintro e w' ⟨rfl, rfl⟩
      go_wp2_with fail
      refine (works_day (H := []) D 3 rfl Kt.Ints.nil Cv.rightH_nil (.inr ⟨by omega, rfl⟩)).mono ?_
      rintro e w2 ⟨rfl, b2⟩
      have hbl2 := hbl1.on b2
      have hba2 := hba1.on b2
      replace b2 := Kt.next hb1 b2
      have e0 := hbl2.cell 0
      have e1 := hbl2.cell 1
      have e2 := hbl2.cell 2
      simp at e0 e1 e2
      go_wp2_with fail
      refine (ahead_day (H := []) D 0 3 rfl Kt.Ints.nil Cv.rightH_nil (.inr (.inr ⟨by omega, by omega, by omega, rfl⟩))).mono ?_
      rintro e w3 ⟨rfl, b3⟩
      have hbl3 := hbl2.on b3
      have hba3 := hba2.on b3
      replace b3 := Kt.next b2 b3
      clear e0 e1 e2
      have e0 := hbl3.cell 0
      have e1 := hbl3.cell 1
      have e2 := hbl3.cell 2
      simp at e0 e1 e2
      go_wp2_with fail
      refine (yearly_day D 0 0 3 _ (.inr ⟨by omega, rfl⟩)).mono ?_
      rintro e w' ⟨rfl, rfl⟩
      go_wp2_with fail
      try rw [hmin]
      refine (between_day (H := []) 0 D 3 rfl Kt.Ints.nil Cv.rightH_nil (.inr (.inr ⟨by omega, by omega, by omega, rfl⟩))).mono ?_
      rintro e w4 ⟨rfl, b4⟩
      have hbl4 := hbl3.on b4
      have hba4 := hba3.on b4
      replace b4 := Kt.next b3 b4
      clear e0 e1 e2
      have e0 := hbl4.cell 0
      have e1 := hbl4.cell 1
      have e2 := hbl4.cell 2
      simp at e0 e1 e2
      go_wp2_with fail
      go_roundw
      case rel => exact ⟨2, by omega, by omega, rfl, hba4, b4⟩
      case measure => simp [intOf]
    · clear hz1 hz2
      obtain ⟨v, hv⟩ : ∃ d, Hid (n % 1000 = d) := ⟨_, Lib.hid rfl⟩
      have v0 : 0 ≤ v := by rw [← hv.out]; omega
      have HBAD : Hid (Cv.rightH [v, 0] = false) := Lib.hid (by unfold Cv.rightH Cv.asc; simp [Cv.asc]; omega)
      go_wp2_with fail
      refine (pick_any n 1000 _ (by omega) (by omega)).mono ?_
      rw [hv.out]
      rintro e w' ⟨rfl, rfl⟩
      have hz0 : Kt.Ints (wr.alloc (.cells #[.int .i64 v, .int .i64 0] 3)) (wr.alloc (.cells #[.int .i64 v, .int .i64 0] 3)).heap.size .i64 (some ⟨wr.heap.size, 0, none⟩) [v, 0] := Kt.ints_lit _ _ _ _ _ rfl
      have hb1 : Below w.heap.size w (wr.alloc (.cells #[.int .i64 v, .int .i64 0] 3)) := hbel.alloc hbel.size _
      go_wp2_with fail
      refine (works_bad 0 rfl hz0 HBAD.out (by simp)).mono ?_
      rintro e w2 ⟨rfl, b2⟩
      have hz2 := hz0.on b2
      replace b2 := Kt.next hb1 b2
      go_wp2_with fail
      refine (between_bad 0 1 rfl hz2 HBAD.out (by simp)).mono ?_
      rintro e w3 ⟨rfl, b3⟩
      have hz3 := hz2.on b3
      replace b3 := Kt.next b2 b3
      go_wp2_with fail
      refine (ahead_bad 0 0 rfl hz3 HBAD.out (by simp)).mono ?_
      rintro e w4 ⟨rfl, b4⟩
      have hz4 := hz3.on b4
      replace b4 := Kt.next b3 b4
      go_wp2_with fail
      refine (yearly_bad 0 101 230 _ (by omega) (by omega) (by omega) (by omega) (.inr ⟨by decide +kernel, by decide +kernel⟩)).mono ?_
      rintro e w5 ⟨rfl, b5⟩
      have hz5 := hz4.on b5
      replace b5 := Kt.next b4 b5
      go_wp2_with fail
      refine (yearly_bad 0 0 101 _ (by omega) (by omega) (by omega) (by omega) (.inl (by decide +kernel))).mono ?_
      rintro e w6 ⟨rfl, b6⟩
      have hz6 := hz5.on b6
      replace b6 := Kt.next b5 b6
      go_wp2_with fail
      refine (right_any _ 2 2 [v, 0] _ rfl hz6 (by decide)).mono ?_
      rw [HBAD.out]
      rintro e w' ⟨rfl, rfl⟩
      go_wp2_with fail
      go_ret
      exact ⟨rfl, b6⟩
end Go.Proofs.YthmgkfljaneocaaDoor
