/- The walk of MoneyTurns. -/
import Derived.Test.YtpobjacfhgnfhaaDoorLawKit
namespace Go.Proofs.YtpobjacfhgnfhaaDoor
open Go Go.RowKit

def turnCells : Array Value := #[.int .u8 1, .int .u8 2, .int .u8 2, .int .u8 1, .int .u8 3, .int .u8 3, .int .u8 4, .int .u8 4]
set_option maxRecDepth 100000 in
set_option maxHeartbeats 4000000 in
theorem walk_MoneyTurns (n : Int) (_wn : (Lit.int .i64 n).wf = true) (s : Int) (_ws : (Lit.int .i64 s).wf = true) (w : World) (ht : Tab w) :
    Calls Tryd.prog 4 #[.int .i64 n, .int .i64 s] w fun e w' => e = .returned (.bool true) ∧ Below w.heap.size w w' := by
  have HT := Lib.hid ht
  clear ht
  obtain ⟨hc1, hc2⟩ := amountOf_bd n
  have hp1 : 0 ≤ s % 10001 := by omega
  have hp2 : s % 10001 ≤ 10000 := by omega
  obtain ⟨c, HC⟩ : ∃ c, Hid (amountOf n = c) := ⟨_, Lib.hid rfl⟩
  obtain ⟨p, HP⟩ : ∃ p, Hid (s % 10001 = p) := ⟨_, Lib.hid rfl⟩
  rw [HC.out] at hc1 hc2
  rw [HP.out] at hp1 hp2
  have R := Lib.hid (Mny.turns c p)
  go_enter Tryd.func4, Tryd.ntmps4
  go_wp2_with fail
  refine (awake_any _ HT.out).mono ?_
  rintro e w0 ⟨rfl, hb0⟩
  go_wp2_with fail
  refine (amount_val n c _ HC.out).mono ?_
  rintro e w' ⟨rfl, rfl⟩
  go_wp2_with fail
  refine (pick_val s 10001 p _ (by omega) (by omega) HP.out).mono ?_
  rintro e w' ⟨rfl, rfl⟩
  go_wp2_with fail
  go_loopw [25] (fun i wr => ∃ z : Int, 0 ≤ z ∧ z ≤ 4 ∧ i = .int .i64 z ∧ Kt.Blk wr w0.heap.size 29 turnCells ∧ Below w.heap.size w wr) (fun i _ => 4 - (intOf i).toNat)
  case atStart => exact ⟨0, by omega, by omega, rfl, Kt.Blk.new _ _ _, hb0.alloc hb0.size _⟩
  case round =>
    obtain ⟨z, hz1, hz2, rfl, hblk, hbel⟩ := hrel
    rcases (show z = 0 ∨ z = 1 ∨ z = 2 ∨ z = 3 ∨ z = 4 by omega) with rfl | rfl | rfl | rfl | rfl
    · clear hz1 hz2
      have c0 : wr.cell? ⟨w0.heap.size, 0, none⟩ = some (.int .u8 1) := hblk.cell 0
      have c1 : wr.cell? ⟨w0.heap.size, 1, none⟩ = some (.int .u8 2) := hblk.cell 1
      obtain ⟨b, HB⟩ : ∃ b, Hid (Mny.share (-c) p 2 = b) := ⟨_, Lib.hid rfl⟩
      have HA : Hid (Mny.share c p 1 = -b) := Lib.hid (by rw [R.out.1, HB.out])
      have hbd := share_bd (-c) p 2 (by omega) (by omega) hp1 hp2
      rw [HB.out] at hbd
      obtain ⟨hb1, hb2⟩ := hbd
      go_wp2_with fail
      clear c0 c1
      refine (share_val c p 1 (-b) _ hc1 hc2 hp1 hp2 (by omega) (by omega) HA.out).mono ?_
      rintro e w1 ⟨rfl, hb1⟩
      have hblk2 : Kt.Blk w1 wr.heap.size 29 #[.int .u8 1, .int .u8 2] := (Kt.Blk.new wr _ _).on hb1
      have d1 : w1.cell? ⟨wr.heap.size, 1, none⟩ = some (.int .u8 2) := hblk2.cell 1
      have hx : Below wr.heap.size wr w1 := ((Below.refl _ _).alloc (Nat.le_refl _) _).trans (hb1.mono (by simp))
      clear hb1 hblk2
      go_wp2_with fail
      refine (share_val (-c) p 2 b _ (by omega) (by omega) hp1 hp2 (by omega) (by omega) HB.out).mono ?_
      rintro e w2 ⟨rfl, hb2⟩
      clear d1
      go_wp2
      go_roundw
      case rel => exact ⟨1, by omega, by omega, rfl, (hblk.on hx).on hb2, Kt.next (Kt.next hbel hx) hb2⟩
      case measure => simp [intOf]
    · clear hz1 hz2
      have c0 : wr.cell? ⟨w0.heap.size, 2, none⟩ = some (.int .u8 2) := hblk.cell 2
      have c1 : wr.cell? ⟨w0.heap.size, 3, none⟩ = some (.int .u8 1) := hblk.cell 3
      obtain ⟨b, HB⟩ : ∃ b, Hid (Mny.share (-c) p 1 = b) := ⟨_, Lib.hid rfl⟩
      have HA : Hid (Mny.share c p 2 = -b) := Lib.hid (by rw [R.out.2.1, HB.out])
      have hbd := share_bd (-c) p 1 (by omega) (by omega) hp1 hp2
      rw [HB.out] at hbd
      obtain ⟨hb1, hb2⟩ := hbd
      go_wp2_with fail
      clear c0 c1
      refine (share_val c p 2 (-b) _ hc1 hc2 hp1 hp2 (by omega) (by omega) HA.out).mono ?_
      rintro e w1 ⟨rfl, hb1⟩
      have hblk2 : Kt.Blk w1 wr.heap.size 29 #[.int .u8 2, .int .u8 1] := (Kt.Blk.new wr _ _).on hb1
      have d1 : w1.cell? ⟨wr.heap.size, 1, none⟩ = some (.int .u8 1) := hblk2.cell 1
      have hx : Below wr.heap.size wr w1 := ((Below.refl _ _).alloc (Nat.le_refl _) _).trans (hb1.mono (by simp))
      clear hb1 hblk2
      go_wp2_with fail
      refine (share_val (-c) p 1 b _ (by omega) (by omega) hp1 hp2 (by omega) (by omega) HB.out).mono ?_
      rintro e w2 ⟨rfl, hb2⟩
      clear d1
      go_wp2
      go_roundw
      case rel => exact ⟨2, by omega, by omega, rfl, (hblk.on hx).on hb2, Kt.next (Kt.next hbel hx) hb2⟩
      case measure => simp [intOf]
    · clear hz1 hz2
      have c0 : wr.cell? ⟨w0.heap.size, 4, none⟩ = some (.int .u8 3) := hblk.cell 4
      have c1 : wr.cell? ⟨w0.heap.size, 5, none⟩ = some (.int .u8 3) := hblk.cell 5
      obtain ⟨b, HB⟩ : ∃ b, Hid (Mny.share (-c) p 3 = b) := ⟨_, Lib.hid rfl⟩
      have HA : Hid (Mny.share c p 3 = -b) := Lib.hid (by rw [R.out.2.2.1, HB.out])
      have hbd := share_bd (-c) p 3 (by omega) (by omega) hp1 hp2
      rw [HB.out] at hbd
      obtain ⟨hb1, hb2⟩ := hbd
      go_wp2_with fail
      clear c0 c1
      refine (share_val c p 3 (-b) _ hc1 hc2 hp1 hp2 (by omega) (by omega) HA.out).mono ?_
      rintro e w1 ⟨rfl, hb1⟩
      have hblk2 : Kt.Blk w1 wr.heap.size 29 #[.int .u8 3, .int .u8 3] := (Kt.Blk.new wr _ _).on hb1
      have d1 : w1.cell? ⟨wr.heap.size, 1, none⟩ = some (.int .u8 3) := hblk2.cell 1
      have hx : Below wr.heap.size wr w1 := ((Below.refl _ _).alloc (Nat.le_refl _) _).trans (hb1.mono (by simp))
      clear hb1 hblk2
      go_wp2_with fail
      refine (share_val (-c) p 3 b _ (by omega) (by omega) hp1 hp2 (by omega) (by omega) HB.out).mono ?_
      rintro e w2 ⟨rfl, hb2⟩
      clear d1
      go_wp2
      go_roundw
      case rel => exact ⟨3, by omega, by omega, rfl, (hblk.on hx).on hb2, Kt.next (Kt.next hbel hx) hb2⟩
      case measure => simp [intOf]
    · clear hz1 hz2
      have c0 : wr.cell? ⟨w0.heap.size, 6, none⟩ = some (.int .u8 4) := hblk.cell 6
      have c1 : wr.cell? ⟨w0.heap.size, 7, none⟩ = some (.int .u8 4) := hblk.cell 7
      obtain ⟨b, HB⟩ : ∃ b, Hid (Mny.share (-c) p 4 = b) := ⟨_, Lib.hid rfl⟩
      have HA : Hid (Mny.share c p 4 = -b) := Lib.hid (by rw [R.out.2.2.2, HB.out])
      have hbd := share_bd (-c) p 4 (by omega) (by omega) hp1 hp2
      rw [HB.out] at hbd
      obtain ⟨hb1, hb2⟩ := hbd
      go_wp2_with fail
      clear c0 c1
      refine (share_val c p 4 (-b) _ hc1 hc2 hp1 hp2 (by omega) (by omega) HA.out).mono ?_
      rintro e w1 ⟨rfl, hb1⟩
      have hblk2 : Kt.Blk w1 wr.heap.size 29 #[.int .u8 4, .int .u8 4] := (Kt.Blk.new wr _ _).on hb1
      have d1 : w1.cell? ⟨wr.heap.size, 1, none⟩ = some (.int .u8 4) := hblk2.cell 1
      have hx : Below wr.heap.size wr w1 := ((Below.refl _ _).alloc (Nat.le_refl _) _).trans (hb1.mono (by simp))
      clear hb1 hblk2
      go_wp2_with fail
      refine (share_val (-c) p 4 b _ (by omega) (by omega) hp1 hp2 (by omega) (by omega) HB.out).mono ?_
      rintro e w2 ⟨rfl, hb2⟩
      clear d1
      go_wp2
      go_roundw
      case rel => exact ⟨4, by omega, by omega, rfl, (hblk.on hx).on hb2, Kt.next (Kt.next hbel hx) hb2⟩
      case measure => simp [intOf]
    · clear hz1 hz2
      go_wp2
      go_ret
      exact ⟨rfl, hbel⟩

end Go.Proofs.YtpobjacfhgnfhaaDoor
