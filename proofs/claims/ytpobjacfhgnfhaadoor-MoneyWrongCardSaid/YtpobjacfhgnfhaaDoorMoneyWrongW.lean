/- The walk of MoneyWrong. -/
import Derived.Deep.DeepCutAuto
import Derived.Test.YtpobjacfhgnfhaaDoorLawKit2
namespace Go.Proofs.YtpobjacfhgnfhaaDoor
open Go Go.RowKit

set_option maxRecDepth 100000 in
set_option maxHeartbeats 8000000 in
theorem walk_MoneyWrong (n : Int) (_wn : (Lit.int .i64 n).wf = true) (k : Int) (wk : (Lit.int .u8 k).wf = true) (w : World) (ht : Tab w) :
    Calls Tryd.prog 10 #[.int .i64 n, .int .u8 k] w fun e w' => e = .returned (.bool true) ∧ Below w.heap.size w w' := by
  have HT := Lib.hid ht
  clear ht
  have hk1 : 0 ≤ k ∧ k ≤ 255 := by
    have hmin : IntKind.u8.min = 0 := rfl
    have hmax : IntKind.u8.max = 255 := rfl
    simp only [Lit.wf, Bool.and_eq_true, decide_eq_true_eq] at wk
    omega
  clear wk
  obtain ⟨hk1, hk2⟩ := hk1
  have hp1 : 0 ≤ n % 1152921504606846976 := by omega
  have hp2 : n % 1152921504606846976 < 1152921504606846976 := by omega
  obtain ⟨p, HP⟩ : ∃ p, Hid (n % 1152921504606846976 = p) := ⟨_, Lib.hid rfl⟩
  rw [HP.out] at hp1 hp2
  go_enter Tryd.func10, Tryd.ntmps10
  go_wp2_with fail
  refine (awake_any _ HT.out).mono ?_
  rintro e w0 ⟨rfl, hb0⟩
  go_wp2_with fail
  refine (pick_val n 1152921504606846976 p _ (by omega) (by omega) HP.out).mono ?_
  rintro e w' ⟨rfl, rfl⟩
  go_upto_region 4 with (fail)
  go_cut [39] (fun s39 wx => ∃ b : Bool, s39 = .bool b ∧ Hid (b = true ↔ 1 ≤ k ∧ k ≤ 4) ∧ Below w.heap.size w wx)
  case first =>
    by_cases h1 : 1 ≤ k
    · by_cases h2 : k ≤ 4
      · go_wp2_with fail
        go_meet
        exact ⟨true, rfl, Lib.hid (by simp [h1, h2]), hb0⟩
      · go_wp2_with fail
        go_meet
        exact ⟨false, rfl, Lib.hid (by simp; omega), hb0⟩
    · go_wp2_with fail
      go_meet
      exact ⟨false, rfl, Lib.hid (by simp; omega), hb0⟩
  obtain ⟨bw, rfl, HBW, hbw0⟩ := hcut
  go_upto_if 39 with (fail)
  go_cut [1] (fun s1 wx => ∃ v : Int, s1 = .int .u8 v ∧ (v = 0 ∨ 5 ≤ v) ∧ v ≤ 255 ∧ Below w.heap.size w wx)
  case first =>
    cases bw
    · have hno := HBW.out
      simp only [Bool.false_eq_true, false_iff] at hno
      go_wp2_with fail
      go_meet
      exact ⟨k, rfl, by omega, by omega, hbw0⟩
    · have hyes := HBW.out.1 rfl
      obtain ⟨hy1, hy2⟩ := hyes
      go_wp2_with fail
      go_meet
      exact ⟨k + 4, rfl, .inr (by omega), by omega, hbw0⟩
  case rest =>
    obtain ⟨v, rfl, hv1, hv2, hbw⟩ := hcut
    obtain ⟨b, HB⟩ : ∃ b : Int, Hid (1000000000000001 + p = b) := ⟨_, Lib.hid rfl⟩
    have hb1 : 1000000000000001 ≤ b := by have := HB.out; omega
    have hb2 : b ≤ 1153921504606846977 := by have := HB.out; omega
    have hq1 : 1 ≤ b / 1000000000000000 := by omega
    have hq2 : b / 1000000000000000 ≤ 1153 := by omega
    have HQ : Hid (wrap64 (10000 + wrap64 (-b.tdiv 1000000000000000)) = 10000 - b / 1000000000000000) := Lib.hid (by
      rw [Int.tdiv_eq_ediv_of_nonneg (by omega), Mny.w64 (-(b / 1000000000000000)) (by omega) (by omega), Mny.w64 _ (by omega) (by omega)]; omega)
    rw [HB.out]
    clear hk1 hk2 hp1 hp2
    go_wp2_with fail
    have hbl := (hbw.alloc hbw.size (.cells (Kt.IArr .i64 [b, -b]) 3))
    go_loopw [47] (fun i wr => ∃ z : Int, 0 ≤ z ∧ z ≤ 2 ∧ i = .int .i64 z ∧ Kt.IBlk wr wc.heap.size 3 .i64 [b, -b] ∧ Below w.heap.size w wr) (fun i _ => 2 - (intOf i).toNat)
    case atStart => exact ⟨0, by omega, by omega, rfl, Kt.IBlk.new wc 3 .i64 [b, -b], hbl⟩
    case round =>
      obtain ⟨z, hz1, hz2, rfl, hblk, hbel⟩ := hrel
      rcases (show z = 0 ∨ z = 1 ∨ z = 2 by omega) with rfl | rfl | rfl
      · clear hz1 hz2 hbl
        have c0 : wr.cell? ⟨wc.heap.size, 0, none⟩ = some (.int .i64 b) := hblk.cell 0 (by simp)
        go_wp2_with fail
        refine (add_val b 0 0 2 _ (sum_bad (all_bad (x := b) (by simp) (by omega))).1 (sum_bad (all_bad (x := b) (by simp) (by omega))).2).mono ?_
        rintro e x1 ⟨rfl, hx1⟩
        clear c0
        go_wp2_with fail
        refine (sum_val _ 2 [0, b] 0 2 _ (Kt.ints_lit _ _ .i64 [0, b] _ rfl) (by simp) (sum_bad (all_bad (x := b) (by simp) (by omega))).1 (sum_bad (all_bad (x := b) (by simp) (by omega))).2).mono ?_
        rintro e w' ⟨rfl, rfl⟩
        go_wp2_with fail
        refine (share_bad1 b 0 4 _ (by omega)).mono ?_
        rintro e x2 ⟨rfl, hx2⟩
        go_wp2_with fail
        refine (split_notAmount b _ 1 1 _ (by omega) (by omega)).mono ?_
        rintro e w' ⟨rfl, rfl⟩
        go_wp2_with fail
        refine (text_no b _ (by omega)).mono ?_
        rintro e x3 ⟨rfl, hx3⟩
        go_wp2_with fail
        refine (right_no b _ (by omega)).mono ?_
        rintro e w' ⟨rfl, rfl⟩
        go_wp2_with fail
        refine (share_bad3 0 (10000 + b / 1000000000000000) 2 _ (by omega) (by omega) (by omega) (by omega)).mono ?_
        rintro e x4 ⟨rfl, hx4⟩
        go_wp2_with fail
        refine (split_notWeights 0 _ 2 [1, b] _ (Kt.ints_lit _ _ .i64 [1, b] _ rfl) (by simp) (by omega) (by omega) (w_bad (x := b) (by simp) (by omega))).mono ?_
        rintro e w' ⟨rfl, rfl⟩
        have hxx : Below wr.heap.size wr x4 := Kt.next (Kt.next (Kt.next hx1 ((Below.refl _ _).alloc (Nat.le_refl _) _ |>.trans (hx2.mono (by simp)))) ((Below.refl _ _).alloc (Nat.le_refl _) _ |>.trans (hx3.mono (by simp)))) hx4
        clear hx1 hx2 hx3 hx4
        go_wp2
        go_roundw
        case rel => exact ⟨1, by omega, by omega, rfl, (hblk.on hxx).alloc _, (Kt.next hbel hxx).alloc (Kt.next hbel hxx).size _⟩
        case measure => simp [intOf]
      · clear hz1 hz2 hbl
        have c0 : wr.cell? ⟨wc.heap.size, 1, none⟩ = some (.int .i64 (-b)) := hblk.cell 1 (by simp)
        go_wp2_with fail
        refine (add_val (-b) 0 0 2 _ (sum_bad (all_bad (x := (-b)) (by simp) (by omega))).1 (sum_bad (all_bad (x := (-b)) (by simp) (by omega))).2).mono ?_
        rintro e x1 ⟨rfl, hx1⟩
        clear c0
        go_wp2_with fail
        refine (sum_val _ 2 [0, (-b)] 0 2 _ (Kt.ints_lit _ _ .i64 [0, (-b)] _ rfl) (by simp) (sum_bad (all_bad (x := (-b)) (by simp) (by omega))).1 (sum_bad (all_bad (x := (-b)) (by simp) (by omega))).2).mono ?_
        rintro e w' ⟨rfl, rfl⟩
        go_wp2_with fail
        refine (share_bad1 (-b) 0 4 _ (by omega)).mono ?_
        rintro e x2 ⟨rfl, hx2⟩
        go_wp2_with fail
        refine (split_notAmount (-b) _ 1 1 _ (by omega) (by omega)).mono ?_
        rintro e w' ⟨rfl, rfl⟩
        go_wp2_with fail
        refine (text_no (-b) _ (by omega)).mono ?_
        rintro e x3 ⟨rfl, hx3⟩
        go_wp2_with fail
        refine (right_no (-b) _ (by omega)).mono ?_
        rintro e w' ⟨rfl, rfl⟩
        go_wp2_with fail
        rw [HQ.out]
        refine (share_val 0 (10000 - b / 1000000000000000) 2 0 _ (by omega) (by omega) (by omega) (by omega) (by omega) (by omega) (share_zero _ _)).mono ?_
        rintro e x4 ⟨rfl, hx4⟩
        go_wp2_with fail
        refine (split_notWeights 0 _ 2 [1, (-b)] _ (Kt.ints_lit _ _ .i64 [1, (-b)] _ rfl) (by simp) (by omega) (by omega) (w_bad (x := (-b)) (by simp) (by omega))).mono ?_
        rintro e w' ⟨rfl, rfl⟩
        have hxx : Below wr.heap.size wr x4 := Kt.next (Kt.next (Kt.next hx1 ((Below.refl _ _).alloc (Nat.le_refl _) _ |>.trans (hx2.mono (by simp)))) ((Below.refl _ _).alloc (Nat.le_refl _) _ |>.trans (hx3.mono (by simp)))) hx4
        clear hx1 hx2 hx3 hx4
        go_wp2
        go_roundw
        case rel => exact ⟨2, by omega, by omega, rfl, (hblk.on hxx).alloc _, (Kt.next hbel hxx).alloc (Kt.next hbel hxx).size _⟩
        case measure => simp [intOf]
      · clear hz1 hz2 hbl hblk
        have HK : Hid ((v == 1) = false ∧ (v == 2) = false ∧ (v == 3) = false ∧ (v == 4) = false) := Lib.hid ⟨beq_eq_false_iff_ne.2 (by omega), beq_eq_false_iff_ne.2 (by omega), beq_eq_false_iff_ne.2 (by omega), beq_eq_false_iff_ne.2 (by omega)⟩
        go_wp2_with fail
        refine (share_bad4 1 1 v _ (by omega) (by omega) (by omega) (by omega) HK.out.1 HK.out.2.1 HK.out.2.2.1 HK.out.2.2.2).mono ?_
        rintro e x1 ⟨rfl, hx1⟩
        go_wp2_with fail
        refine (split_notWeights 1 _ 2 [0, 0] _ (Kt.ints_lit _ _ .i64 [0, 0] _ rfl) (by simp) (by omega) (by omega) (by decide)).mono ?_
        rintro e w' ⟨rfl, rfl⟩
        go_wp2_with fail
        refine (add_val 1000000000000000 1 0 3 _ (sum_long (by decide) (by decide)).1 (sum_long (by decide) (by decide)).2).mono ?_
        rintro e x2 ⟨rfl, hx2⟩
        go_wp2_with fail
        refine (share_bad2 1 (-1) 2 _ (by omega) (by omega) (by omega)).mono ?_
        rintro e x3 ⟨rfl, hx3⟩
        go_wp2_with fail
        refine (split_notWeights 1 none 0 [] _ Kt.Ints.nil (by simp) (by omega) (by omega) (by decide)).mono ?_
        rintro e w' ⟨rfl, rfl⟩
        go_wp2
        go_ret
        exact ⟨rfl, Kt.next (Kt.next (Kt.next hbel hx1) ((Below.refl _ _).alloc (Nat.le_refl _) _ |>.trans (hx2.mono (by simp)))) hx3⟩

end Go.Proofs.YtpobjacfhgnfhaaDoor
