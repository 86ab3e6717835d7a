/- The walk of MoneyRounds. -/
import Derived.Test.YtpobjacfhgnfhaaDoorLawKit
namespace Go.Proofs.YtpobjacfhgnfhaaDoor
open Go Go.RowKit

set_option maxRecDepth 100000 in
set_option maxHeartbeats 4000000 in
theorem walk_MoneyRounds (n : Int) (_wn : (Lit.int .i64 n).wf = true) (s : Int) (_ws : (Lit.int .i64 s).wf = true) (w : World) (ht : Tab w) :
    Calls Tryd.prog 3 #[.int .i64 n, .int .i64 s] w fun e w' => e = .returned (.bool true) ∧ Below w.heap.size w w' := by
  have HT := Lib.hid ht
  clear ht
  obtain ⟨hc1, hc2⟩ := amountOf_bd n
  have hp1 : 0 ≤ s % 10001 := by omega
  have hp2 : s % 10001 ≤ 10000 := by omega
  obtain ⟨c, HC⟩ : ∃ c, Hid (amountOf n = c) := ⟨_, Lib.hid rfl⟩
  obtain ⟨p, HP⟩ : ∃ p, Hid (s % 10001 = p) := ⟨_, Lib.hid rfl⟩
  rw [HC.out] at hc1 hc2
  rw [HP.out] at hp1 hp2
  have R := Mny.rounds c p hp1
  obtain ⟨d, HD⟩ : ∃ d, Hid (Mny.share c p 1 = d) := ⟨_, Lib.hid rfl⟩
  obtain ⟨u, HU⟩ : ∃ d, Hid (Mny.share c p 2 = d) := ⟨_, Lib.hid rfl⟩
  obtain ⟨h, HH⟩ : ∃ d, Hid (Mny.share c p 3 = d) := ⟨_, Lib.hid rfl⟩
  obtain ⟨v, HV⟩ : ∃ d, Hid (Mny.share c p 4 = d) := ⟨_, Lib.hid rfl⟩
  obtain ⟨r, HR⟩ : ∃ d, Hid (Mny.share c (10000 - p) 2 = d) := ⟨_, Lib.hid rfl⟩
  have bd := share_bd c p 1 hc1 hc2 hp1 hp2
  rw [HD.out] at bd
  rw [HD.out, HU.out, HH.out, HV.out, HR.out] at R
  obtain ⟨r1, r2, r3, r4, r5, r6⟩ := R
  obtain ⟨bd1, bd2⟩ := bd
  have hr : r = c - d := by omega
  have HR2 : Hid (Mny.share c (10000 - p) 2 = c - d) := Lib.hid (by rw [HR.out, hr])
  clear HR r5 hr r
  have hx : (d + (c - d) != c) = false := by simp; omega
  go_enter Tryd.func3, Tryd.ntmps3
  go_wp2_with fail
  refine (awake_any _ HT.out).mono ?_
  rintro e w0 ⟨rfl, hb0⟩
  go_wp2_with fail
  refine (amount_val n c _ HC.out).mono ?_
  rintro e w' ⟨rfl, rfl⟩
  go_wp2_with fail
  refine (pick_val s 10001 p _ (by omega) (by omega) HP.out).mono ?_
  rintro e w' ⟨rfl, rfl⟩
  go_wp2_with fail
  refine (share_val c p 1 d _ hc1 hc2 hp1 hp2 (by omega) (by omega) HD.out).mono ?_
  rintro e w1 ⟨rfl, hb1⟩
  go_wp2_with fail
  refine (share_val c p 2 u _ hc1 hc2 hp1 hp2 (by omega) (by omega) HU.out).mono ?_
  rintro e w2 ⟨rfl, hb2⟩
  go_wp2_with fail
  refine (share_val c p 3 h _ hc1 hc2 hp1 hp2 (by omega) (by omega) HH.out).mono ?_
  rintro e w3 ⟨rfl, hb3⟩
  go_wp2_with fail
  refine (share_val c p 4 v _ hc1 hc2 hp1 hp2 (by omega) (by omega) HV.out).mono ?_
  rintro e w4 ⟨rfl, hb4⟩
  go_wp2_with fail
  refine (share_val c (10000 - p) 2 (c - d) _ hc1 hc2 (by omega) (by omega) (by omega) (by omega) HR2.out).mono ?_
  rintro e w5 ⟨rfl, hb5⟩
  have hbw : Below w.heap.size w w5 := Kt.next (Kt.next (Kt.next (Kt.next (Kt.next hb0 hb1) hb2) hb3) hb4) hb5
  clear hb0 hb1 hb2 hb3 hb4 hb5 HD HU HH HV HR2
  rcases (show u = d ∨ u = d + 1 by omega) with e1 | e1
  · obtain rfl : h = d := by omega
    obtain rfl : v = h := by omega
    obtain rfl : u = v := by omega
    clear r1 r2 r3 r4 r6 e1
    go_wp2_with fail
    go_loopw [17] (fun i wr => ∃ z : Int, 1 ≤ z ∧ z ≤ 5 ∧ i = .int .u8 z ∧ Below w.heap.size w wr) (fun i _ => 5 - (intOf i).toNat)
    case atStart => exact ⟨1, by omega, by omega, rfl, hbw⟩
    case round =>
      obtain ⟨z, hz1, hz2, rfl, hbel⟩ := hrel
      by_cases hz : z ≤ 4
      · go_wp2_with fail
        refine (share_val c 10000 z c _ hc1 hc2 (by omega) (by omega) hz1 hz (Mny.share_full c z)).mono ?_
        rintro e w6 ⟨rfl, hb6⟩
        go_wp2_with fail
        refine (share_val c 0 z 0 _ hc1 hc2 (by omega) (by omega) hz1 hz (Mny.share_none c z)).mono ?_
        rintro e w7 ⟨rfl, hb7⟩
        go_wp2
        go_roundw
        case rel => exact ⟨z + 1, by omega, by omega, rfl, Kt.next (Kt.next hbel hb6) hb7⟩
        case measure => simp [intOf]; omega
      · go_wp2
        go_ret
        exact ⟨rfl, hbel⟩
  · subst e1
    rcases (show (h = d ∧ v = d) ∨ (h = d + 1 ∧ v = d + 1) ∨ (h = d + 1 ∧ v = d) ∨ (h = d ∧ v = d + 1) by omega) with ⟨e1, e2⟩ | ⟨e1, e2⟩ | ⟨e1, e2⟩ | ⟨e1, e2⟩
    · subst e1; subst e2
      clear r1 r2 r3 r4 r6
      go_wp2_with fail
      go_loopw [17] (fun i wr => ∃ z : Int, 1 ≤ z ∧ z ≤ 5 ∧ i = .int .u8 z ∧ Below w.heap.size w wr) (fun i _ => 5 - (intOf i).toNat)
      case atStart => exact ⟨1, by omega, by omega, rfl, hbw⟩
      case round =>
        obtain ⟨z, hz1, hz2, rfl, hbel⟩ := hrel
        by_cases hz : z ≤ 4
        · go_wp2_with fail
          refine (share_val c 10000 z c _ hc1 hc2 (by omega) (by omega) hz1 hz (Mny.share_full c z)).mono ?_
          rintro e w6 ⟨rfl, hb6⟩
          go_wp2_with fail
          refine (share_val c 0 z 0 _ hc1 hc2 (by omega) (by omega) hz1 hz (Mny.share_none c z)).mono ?_
          rintro e w7 ⟨rfl, hb7⟩
          go_wp2
          go_roundw
          case rel => exact ⟨z + 1, by omega, by omega, rfl, Kt.next (Kt.next hbel hb6) hb7⟩
          case measure => simp [intOf]; omega
        · go_wp2
          go_ret
          exact ⟨rfl, hbel⟩
    · subst e1; subst e2
      clear r1 r2 r3 r4 r6
      go_wp2_with fail
      go_loopw [17] (fun i wr => ∃ z : Int, 1 ≤ z ∧ z ≤ 5 ∧ i = .int .u8 z ∧ Below w.heap.size w wr) (fun i _ => 5 - (intOf i).toNat)
      case atStart => exact ⟨1, by omega, by omega, rfl, hbw⟩
      case round =>
        obtain ⟨z, hz1, hz2, rfl, hbel⟩ := hrel
        by_cases hz : z ≤ 4
        · go_wp2_with fail
          refine (share_val c 10000 z c _ hc1 hc2 (by omega) (by omega) hz1 hz (Mny.share_full c z)).mono ?_
          rintro e w6 ⟨rfl, hb6⟩
          go_wp2_with fail
          refine (share_val c 0 z 0 _ hc1 hc2 (by omega) (by omega) hz1 hz (Mny.share_none c z)).mono ?_
          rintro e w7 ⟨rfl, hb7⟩
          go_wp2
          go_roundw
          case rel => exact ⟨z + 1, by omega, by omega, rfl, Kt.next (Kt.next hbel hb6) hb7⟩
          case measure => simp [intOf]; omega
        · go_wp2
          go_ret
          exact ⟨rfl, hbel⟩
    · subst e1; subst e2
      obtain ⟨q1, q2, q3⟩ := r6 (by omega)
      have q4 : 0 < c := q3.1 (by omega)
      have q5 : (v.tmod 2 == 0) = true := by rw [tme2]; simp [q1]
      have q6 : (v + 1 != 0) = true := by simp [q2]
      clear r1 r2 r3 r4 r6 q1 q2 q3
      go_wp2_with fail
      go_loopw [17] (fun i wr => ∃ z : Int, 1 ≤ z ∧ z ≤ 5 ∧ i = .int .u8 z ∧ Below w.heap.size w wr) (fun i _ => 5 - (intOf i).toNat)
      case atStart => exact ⟨1, by omega, by omega, rfl, hbw⟩
      case round =>
        obtain ⟨z, hz1, hz2, rfl, hbel⟩ := hrel
        by_cases hz : z ≤ 4
        · go_wp2_with fail
          refine (share_val c 10000 z c _ hc1 hc2 (by omega) (by omega) hz1 hz (Mny.share_full c z)).mono ?_
          rintro e w6 ⟨rfl, hb6⟩
          go_wp2_with fail
          refine (share_val c 0 z 0 _ hc1 hc2 (by omega) (by omega) hz1 hz (Mny.share_none c z)).mono ?_
          rintro e w7 ⟨rfl, hb7⟩
          go_wp2
          go_roundw
          case rel => exact ⟨z + 1, by omega, by omega, rfl, Kt.next (Kt.next hbel hb6) hb7⟩
          case measure => simp [intOf]; omega
        · go_wp2
          go_ret
          exact ⟨Kt.ret_bool (by simp <;> omega), hbel⟩
    · subst e1; subst e2
      obtain ⟨q1, q2, q3⟩ := r6 (by omega)
      have q4 : ¬ 0 < c := fun hc => by have := q3.2 hc; omega
      have q5 : ((h + 1).tmod 2 == 0) = true := by rw [tme2]; simp [q1]
      have q6 : (h != 0) = true := by simp [q2]
      clear r1 r2 r3 r4 r6 q1 q2 q3
      go_wp2_with fail
      go_loopw [17] (fun i wr => ∃ z : Int, 1 ≤ z ∧ z ≤ 5 ∧ i = .int .u8 z ∧ Below w.heap.size w wr) (fun i _ => 5 - (intOf i).toNat)
      case atStart => exact ⟨1, by omega, by omega, rfl, hbw⟩
      case round =>
        obtain ⟨z, hz1, hz2, rfl, hbel⟩ := hrel
        by_cases hz : z ≤ 4
        · go_wp2_with fail
          refine (share_val c 10000 z c _ hc1 hc2 (by omega) (by omega) hz1 hz (Mny.share_full c z)).mono ?_
          rintro e w6 ⟨rfl, hb6⟩
          go_wp2_with fail
          refine (share_val c 0 z 0 _ hc1 hc2 (by omega) (by omega) hz1 hz (Mny.share_none c z)).mono ?_
          rintro e w7 ⟨rfl, hb7⟩
          go_wp2
          go_roundw
          case rel => exact ⟨z + 1, by omega, by omega, rfl, Kt.next (Kt.next hbel hb6) hb7⟩
          case measure => simp [intOf]; omega
        · go_wp2
          go_ret
          exact ⟨Kt.ret_bool (by simp <;> omega), hbel⟩

end Go.Proofs.YtpobjacfhgnfhaaDoor
