/- The examples of the chapter: awake returns true. (Written by gen_awake.py.) -/
import Derived.Test.YtonoffeicbpigaaDoorSplit
import Derived.Test.YtonoffeicbpigaaDoorRead
namespace Go.Proofs.YtonoffeicbpigaaDoor
open Go Go.RowKit

def awakeCells : Array Value := #[.int .i64 1050, .int .i64 5000, .int .i64 525, .int .i64 525, .int .i64 525, .int .i64 525, .int .i64 105, .int .i64 5000, .int .i64 52, .int .i64 53, .int .i64 53, .int .i64 52, .int .i64 (-105), .int .i64 5000, .int .i64 (-53), .int .i64 (-52), .int .i64 (-53), .int .i64 (-52)]
def awakeRow0 : Array Value := #[.int .i64 1050, .int .i64 5000, .int .i64 525, .int .i64 525, .int .i64 525, .int .i64 525]
def awakeRow1 : Array Value := #[.int .i64 105, .int .i64 5000, .int .i64 52, .int .i64 53, .int .i64 53, .int .i64 52]
def awakeRow2 : Array Value := #[.int .i64 (-105), .int .i64 5000, .int .i64 (-53), .int .i64 (-52), .int .i64 (-53), .int .i64 (-52)]
theorem idx0 (x0 x1 x2 x3 : Value) (w : World) : (Instr.index 25 (.agg #[x0, x1, x2, x3]) (.int .i64 0)).run Tryd.prog w = .ok x0 w := by kernel_rfl
theorem idx1 (x0 x1 x2 x3 : Value) (w : World) : (Instr.index 25 (.agg #[x0, x1, x2, x3]) (.int .i64 1)).run Tryd.prog w = .ok x1 w := by kernel_rfl
theorem idx2 (x0 x1 x2 x3 : Value) (w : World) : (Instr.index 25 (.agg #[x0, x1, x2, x3]) (.int .i64 2)).run Tryd.prog w = .ok x2 w := by kernel_rfl
theorem idx3 (x0 x1 x2 x3 : Value) (w : World) : (Instr.index 25 (.agg #[x0, x1, x2, x3]) (.int .i64 3)).run Tryd.prog w = .ok x3 w := by kernel_rfl
theorem share_val (c s k v : Int) (w : World) (h1 : -1000000000000000 ≤ c) (h2 : c ≤ 1000000000000000) (h3 : 0 ≤ s) (h4 : s ≤ 10000) (h5 : 1 ≤ k) (h6 : k ≤ 4) (hv : Mny.share c s k = v) :
    Calls Tryd.prog 6 #[.int .i64 c, .int .i64 s, .int .u8 k] w fun e w' => e = .returned (.tuple #[.int .i64 v, .int .i64 0]) ∧ Below w.heap.size w w' := by
  subst hv
  exact share_yes c s k w h1 h2 h3 h4 h5 h6

theorem split_val (c : Int) (A : Option Addr) (cp : Nat) (ws out : List Int) (w : World) (hz : Kt.Ints w w.heap.size .i64 A ws) (hn : ws.length ≤ 4096) (h1 : -1000000000000000 ≤ c) (h2 : c ≤ 1000000000000000)
    (hall : ws.all Mny.wOk = true) (hS : 0 < Ls.isum ws) (ho : Mny.outL c ws = out) :
    Calls Tryd.prog 7 #[.int .i64 c, .slice A ws.length cp] w fun e w' => e = .returned (.tuple #[.slice (some ⟨w.heap.size, 0, none⟩) ws.length ws.length, .int .i64 0]) ∧ Kt.IBlk w' w.heap.size 3 .i64 out ∧ Below w.heap.size w w' := by
  subst ho
  exact split_yes c A cp ws w hz hn h1 h2 hall hS
theorem text_val (c : Int) (l : List UInt8) (w : World) (h1 : -1000000000000000 ≤ c) (h2 : c ≤ 1000000000000000) (ht : Tab w) (hl : Mny.textB c = l) :
    Calls Tryd.prog 9 #[.int .i64 c] w fun e w' => e = .returned (.tuple #[.string ⟨l.toArray⟩, .int .i64 0]) ∧ Below w.heap.size w w' := by
  subst hl
  exact text_yes c w h1 h2 ht
theorem read_val (s : ByteArray) (w : World) (ht : Tab w) (v e : Int) (hv : v = Mny.readRV s.data.toList) (he : e = Mny.readRE s.data.toList) :
    Calls Tryd.prog 10 #[.string s] w fun e' w' => e' = .returned (.tuple #[.int .i64 v, .int .i64 e]) ∧ Below w.heap.size w w' := by
  subst hv; subst he
  exact read_any s w ht
theorem t_m5 : Mny.textB (-5) = [45, 48, 46, 48, 53] := by simp [Mny.textB, Lib.decDigits, Mny.dig2]
theorem t_123456 : Mny.textB 123456 = [49, 50, 51, 52, 46, 53, 54] := by simp [Mny.textB, Lib.decDigits, Mny.dig2]
theorem r_007 : (0 : Int) = Mny.readRV [48, 48, 55, 46, 48, 48] ∧ (20 : Int) = Mny.readRE [48, 48, 55, 46, 48, 48] :=
  Mny.read_bad1 (v := 700) (by decide) (by simp [Mny.textB, Lib.decDigits, Mny.dig2])
theorem r_m0 : (0 : Int) = Mny.readRV [45, 48, 46, 48, 48] ∧ (20 : Int) = Mny.readRE [45, 48, 46, 48, 48] :=
  Mny.read_bad1 (v := 0) (by decide) (by simp [Mny.textB, Lib.decDigits, Mny.dig2])
theorem r_15 : (0 : Int) = Mny.readRV [49, 46, 53] ∧ (20 : Int) = Mny.readRE [49, 46, 53] :=
  Mny.read_bad1 (v := 15) (by decide) (by simp [Mny.textB, Lib.decDigits, Mny.dig2])
theorem same_val (A B : Option Addr) (ca cb : Nat) (a b : List Int) (w : World) (ha : Kt.Ints w w.heap.size .i64 A a) (hb : Kt.Ints w w.heap.size .i64 B b) (hla : a.length ≤ 4611686018427387904) (v : Bool) (hv : sameB a b = v) :
    Calls Tryd.prog 8 #[.slice A a.length ca, .slice B b.length cb] w fun e w' => e = .returned (.bool v) ∧ Below w.heap.size w w' := by
  subst hv
  exact same_any A B ca cb a b w ha hb hla
/-- The literals of the second loop. -/
def Aw3 (w : World) (b : Nat) : Prop :=
  Kt.IBlk w (b) 3 .i64 [1, 1, 1] ∧ Kt.IBlk w (b + 1) 3 .i64 [34, 33, 33] ∧ Kt.IBlk w (b + 1 + 1) 3 .i64 [1, 1, 1] ∧ Kt.IBlk w (b + 1 + 1 + 1) 3 .i64 [(-33), (-33), (-34)] ∧ Kt.IBlk w (b + 1 + 1 + 1 + 1) 3 .i64 [0, 3, 1] ∧ Kt.IBlk w (b + 1 + 1 + 1 + 1 + 1) 3 .i64 [0, 8, 2] ∧
  Kt.Blk w (b + 1 + 1 + 1 + 1 + 1 + 1) 31 #[.int .i64 100, .slice (some ⟨b, 0, none⟩) 3 3, .slice (some ⟨b + 1, 0, none⟩) 3 3, .int .i64 (-100), .slice (some ⟨b + 1 + 1, 0, none⟩) 3 3, .slice (some ⟨b + 1 + 1 + 1, 0, none⟩) 3 3, .int .i64 10, .slice (some ⟨b + 1 + 1 + 1 + 1, 0, none⟩) 3 3, .slice (some ⟨b + 1 + 1 + 1 + 1 + 1, 0, none⟩) 3 3]
theorem Aw3.on {w w' : World} {b : Nat} (h : Aw3 w b) (hb : Below w.heap.size w w') : Aw3 w' b := by
  obtain ⟨h0, h1, h2, h3, h4, h5, h6⟩ := h
  exact ⟨h0.on hb, h1.on hb, h2.on hb, h3.on hb, h4.on hb, h5.on hb, h6.on hb⟩
theorem Aw3.new (w : World) (b : Nat) (hb : b = w.heap.size) : Aw3 (((((((w.alloc (.cells (Kt.IArr .i64 [1, 1, 1]) 3)).alloc (.cells (Kt.IArr .i64 [34, 33, 33]) 3)).alloc (.cells (Kt.IArr .i64 [1, 1, 1]) 3)).alloc (.cells (Kt.IArr .i64 [(-33), (-33), (-34)]) 3)).alloc (.cells (Kt.IArr .i64 [0, 3, 1]) 3)).alloc (.cells (Kt.IArr .i64 [0, 8, 2]) 3)).alloc (.cells #[.int .i64 100, .slice (some ⟨b, 0, none⟩) 3 3, .slice (some ⟨b + 1, 0, none⟩) 3 3, .int .i64 (-100), .slice (some ⟨b + 1 + 1, 0, none⟩) 3 3, .slice (some ⟨b + 1 + 1 + 1, 0, none⟩) 3 3, .int .i64 10, .slice (some ⟨b + 1 + 1 + 1 + 1, 0, none⟩) 3 3, .slice (some ⟨b + 1 + 1 + 1 + 1 + 1, 0, none⟩) 3 3] 31)) b := by
  refine ⟨((((((Kt.IBlk.new' w (b) 3 .i64 [1, 1, 1] (by subst hb; simp)).alloc _).alloc _).alloc _).alloc _).alloc _).alloc _, (((((Kt.IBlk.new' (w.alloc (.cells (Kt.IArr .i64 [1, 1, 1]) 3)) (b + 1) 3 .i64 [34, 33, 33] (by subst hb; simp)).alloc _).alloc _).alloc _).alloc _).alloc _, ((((Kt.IBlk.new' ((w.alloc (.cells (Kt.IArr .i64 [1, 1, 1]) 3)).alloc (.cells (Kt.IArr .i64 [34, 33, 33]) 3)) (b + 1 + 1) 3 .i64 [1, 1, 1] (by subst hb; simp)).alloc _).alloc _).alloc _).alloc _, (((Kt.IBlk.new' (((w.alloc (.cells (Kt.IArr .i64 [1, 1, 1]) 3)).alloc (.cells (Kt.IArr .i64 [34, 33, 33]) 3)).alloc (.cells (Kt.IArr .i64 [1, 1, 1]) 3)) (b + 1 + 1 + 1) 3 .i64 [(-33), (-33), (-34)] (by subst hb; simp)).alloc _).alloc _).alloc _, ((Kt.IBlk.new' ((((w.alloc (.cells (Kt.IArr .i64 [1, 1, 1]) 3)).alloc (.cells (Kt.IArr .i64 [34, 33, 33]) 3)).alloc (.cells (Kt.IArr .i64 [1, 1, 1]) 3)).alloc (.cells (Kt.IArr .i64 [(-33), (-33), (-34)]) 3)) (b + 1 + 1 + 1 + 1) 3 .i64 [0, 3, 1] (by subst hb; simp)).alloc _).alloc _, (Kt.IBlk.new' (((((w.alloc (.cells (Kt.IArr .i64 [1, 1, 1]) 3)).alloc (.cells (Kt.IArr .i64 [34, 33, 33]) 3)).alloc (.cells (Kt.IArr .i64 [1, 1, 1]) 3)).alloc (.cells (Kt.IArr .i64 [(-33), (-33), (-34)]) 3)).alloc (.cells (Kt.IArr .i64 [0, 3, 1]) 3)) (b + 1 + 1 + 1 + 1 + 1) 3 .i64 [0, 8, 2] (by subst hb; simp)).alloc _, Kt.Blk.new' _ _ _ _ (by subst hb; simp)⟩

set_option maxHeartbeats 8000000 in
theorem awake_any (w : World) (ht : Tab w) : Calls Tryd.prog 4 #[] w fun e w' => e = .returned (.bool true) ∧ Below w.heap.size w w' := by
  have HT := Lib.hid ht
  clear ht
  go_enter Tryd.func4, Tryd.ntmps4
  go_wp2_with fail
  go_loopw [29] (fun i wr => ∃ z : Int, 0 ≤ z ∧ z ≤ 3 ∧ i = .int .i64 z ∧ Kt.Blk wr w.heap.size 26 awakeCells ∧ Below w.heap.size w wr) (fun i _ => 3 - (intOf i).toNat)
  case atStart => exact ⟨0, by omega, by omega, rfl, Kt.Blk.new _ _ _, (Below.refl _ _).alloc (Nat.le_refl _) _⟩
  case round =>
    obtain ⟨z, hz1, hz2, rfl, hblk, hbel⟩ := hrel
    rcases (show z = 0 ∨ z = 1 ∨ z = 2 ∨ z = 3 by omega) with rfl | rfl | rfl | rfl
    · clear hz1 hz2
      have c0 : wr.cell? ⟨w.heap.size, 0, none⟩ = some (.int .i64 1050) := hblk.cell 0
      have c1 : wr.cell? ⟨w.heap.size, 1, none⟩ = some (.int .i64 5000) := hblk.cell 1
      have c2 : wr.cell? ⟨w.heap.size, 2, none⟩ = some (.int .i64 525) := hblk.cell 2
      have c3 : wr.cell? ⟨w.heap.size, 3, none⟩ = some (.int .i64 525) := hblk.cell 3
      have c4 : wr.cell? ⟨w.heap.size, 4, none⟩ = some (.int .i64 525) := hblk.cell 4
      have c5 : wr.cell? ⟨w.heap.size, 5, none⟩ = some (.int .i64 525) := hblk.cell 5
      go_wp2_with fail
      clear c0 c1 c2 c3 c4 c5
      obtain ⟨wo, rfl⟩ : ∃ wo : World, wo = wr := ⟨_, rfl⟩
      go_loopw [35] (fun i wr => ∃ z : Int, 0 ≤ z ∧ z ≤ 4 ∧ i = .int .i64 z ∧ Kt.Blk wr wo.heap.size 26 awakeRow0 ∧ Below wo.heap.size wo wr) (fun i _ => 4 - (intOf i).toNat)
      case atStart => exact ⟨0, by omega, by omega, rfl, Kt.Blk.new _ _ _, (Below.refl _ _).alloc (Nat.le_refl _) _⟩
      case round =>
        obtain ⟨z, hz1, hz2, rfl, hblk2, hbel2⟩ := hrel
        have d0 : wr.cell? ⟨wo.heap.size, 0, none⟩ = some (.int .i64 1050) := hblk2.cell 0
        have d1 : wr.cell? ⟨wo.heap.size, 1, none⟩ = some (.int .i64 5000) := hblk2.cell 1
        have i0 := idx0
        have i1 := idx1
        have i2 := idx2
        have i3 := idx3
        rcases (show z = 0 ∨ z = 1 ∨ z = 2 ∨ z = 3 ∨ z = 4 by omega) with rfl | rfl | rfl | rfl | rfl
        · clear hz1 hz2
          go_wp2_with (go_at_call 6; refine (share_val _ _ _ (525) _ (by omega) (by omega) (by omega) (by omega) (by omega) (by omega) (by decide)).mono ?_; rintro e w' ⟨rfl, hbs⟩)
          go_roundw
          case rel => exact ⟨1, by omega, by omega, rfl, hblk2.on hbs, hbel2.trans (hbs.mono hbel2.size)⟩
          case measure => simp [intOf]
        · clear hz1 hz2
          go_wp2_with (go_at_call 6; refine (share_val _ _ _ (525) _ (by omega) (by omega) (by omega) (by omega) (by omega) (by omega) (by decide)).mono ?_; rintro e w' ⟨rfl, hbs⟩)
          go_roundw
          case rel => exact ⟨2, by omega, by omega, rfl, hblk2.on hbs, hbel2.trans (hbs.mono hbel2.size)⟩
          case measure => simp [intOf]
        · clear hz1 hz2
          go_wp2_with (go_at_call 6; refine (share_val _ _ _ (525) _ (by omega) (by omega) (by omega) (by omega) (by omega) (by omega) (by decide)).mono ?_; rintro e w' ⟨rfl, hbs⟩)
          go_roundw
          case rel => exact ⟨3, by omega, by omega, rfl, hblk2.on hbs, hbel2.trans (hbs.mono hbel2.size)⟩
          case measure => simp [intOf]
        · clear hz1 hz2
          go_wp2_with (go_at_call 6; refine (share_val _ _ _ (525) _ (by omega) (by omega) (by omega) (by omega) (by omega) (by omega) (by decide)).mono ?_; rintro e w' ⟨rfl, hbs⟩)
          go_roundw
          case rel => exact ⟨4, by omega, by omega, rfl, hblk2.on hbs, hbel2.trans (hbs.mono hbel2.size)⟩
          case measure => simp [intOf]
        · clear hz1 hz2 i0 i1 i2 i3 d0 d1
          go_wp2
          go_roundw
          case rel => exact ⟨1, by omega, by omega, rfl, hblk.on hbel2, Kt.next hbel hbel2⟩
          case measure => simp [intOf]
    · clear hz1 hz2
      have c0 : wr.cell? ⟨w.heap.size, 6, none⟩ = some (.int .i64 105) := hblk.cell 6
      have c1 : wr.cell? ⟨w.heap.size, 7, none⟩ = some (.int .i64 5000) := hblk.cell 7
      have c2 : wr.cell? ⟨w.heap.size, 8, none⟩ = some (.int .i64 52) := hblk.cell 8
      have c3 : wr.cell? ⟨w.heap.size, 9, none⟩ = some (.int .i64 53) := hblk.cell 9
      have c4 : wr.cell? ⟨w.heap.size, 10, none⟩ = some (.int .i64 53) := hblk.cell 10
      have c5 : wr.cell? ⟨w.heap.size, 11, none⟩ = some (.int .i64 52) := hblk.cell 11
      go_wp2_with fail
      clear c0 c1 c2 c3 c4 c5
      obtain ⟨wo, rfl⟩ : ∃ wo : World, wo = wr := ⟨_, rfl⟩
      go_loopw [35] (fun i wr => ∃ z : Int, 0 ≤ z ∧ z ≤ 4 ∧ i = .int .i64 z ∧ Kt.Blk wr wo.heap.size 26 awakeRow1 ∧ Below wo.heap.size wo wr) (fun i _ => 4 - (intOf i).toNat)
      case atStart => exact ⟨0, by omega, by omega, rfl, Kt.Blk.new _ _ _, (Below.refl _ _).alloc (Nat.le_refl _) _⟩
      case round =>
        obtain ⟨z, hz1, hz2, rfl, hblk2, hbel2⟩ := hrel
        have d0 : wr.cell? ⟨wo.heap.size, 0, none⟩ = some (.int .i64 105) := hblk2.cell 0
        have d1 : wr.cell? ⟨wo.heap.size, 1, none⟩ = some (.int .i64 5000) := hblk2.cell 1
        have i0 := idx0
        have i1 := idx1
        have i2 := idx2
        have i3 := idx3
        rcases (show z = 0 ∨ z = 1 ∨ z = 2 ∨ z = 3 ∨ z = 4 by omega) with rfl | rfl | rfl | rfl | rfl
        · clear hz1 hz2
          go_wp2_with (go_at_call 6; refine (share_val _ _ _ (52) _ (by omega) (by omega) (by omega) (by omega) (by omega) (by omega) (by decide)).mono ?_; rintro e w' ⟨rfl, hbs⟩)
          go_roundw
          case rel => exact ⟨1, by omega, by omega, rfl, hblk2.on hbs, hbel2.trans (hbs.mono hbel2.size)⟩
          case measure => simp [intOf]
        · clear hz1 hz2
          go_wp2_with (go_at_call 6; refine (share_val _ _ _ (53) _ (by omega) (by omega) (by omega) (by omega) (by omega) (by omega) (by decide)).mono ?_; rintro e w' ⟨rfl, hbs⟩)
          go_roundw
          case rel => exact ⟨2, by omega, by omega, rfl, hblk2.on hbs, hbel2.trans (hbs.mono hbel2.size)⟩
          case measure => simp [intOf]
        · clear hz1 hz2
          go_wp2_with (go_at_call 6; refine (share_val _ _ _ (53) _ (by omega) (by omega) (by omega) (by omega) (by omega) (by omega) (by decide)).mono ?_; rintro e w' ⟨rfl, hbs⟩)
          go_roundw
          case rel => exact ⟨3, by omega, by omega, rfl, hblk2.on hbs, hbel2.trans (hbs.mono hbel2.size)⟩
          case measure => simp [intOf]
        · clear hz1 hz2
          go_wp2_with (go_at_call 6; refine (share_val _ _ _ (52) _ (by omega) (by omega) (by omega) (by omega) (by omega) (by omega) (by decide)).mono ?_; rintro e w' ⟨rfl, hbs⟩)
          go_roundw
          case rel => exact ⟨4, by omega, by omega, rfl, hblk2.on hbs, hbel2.trans (hbs.mono hbel2.size)⟩
          case measure => simp [intOf]
        · clear hz1 hz2 i0 i1 i2 i3 d0 d1
          go_wp2
          go_roundw
          case rel => exact ⟨2, by omega, by omega, rfl, hblk.on hbel2, Kt.next hbel hbel2⟩
          case measure => simp [intOf]
    · clear hz1 hz2
      have c0 : wr.cell? ⟨w.heap.size, 12, none⟩ = some (.int .i64 (-105)) := hblk.cell 12
      have c1 : wr.cell? ⟨w.heap.size, 13, none⟩ = some (.int .i64 5000) := hblk.cell 13
      have c2 : wr.cell? ⟨w.heap.size, 14, none⟩ = some (.int .i64 (-53)) := hblk.cell 14
      have c3 : wr.cell? ⟨w.heap.size, 15, none⟩ = some (.int .i64 (-52)) := hblk.cell 15
      have c4 : wr.cell? ⟨w.heap.size, 16, none⟩ = some (.int .i64 (-53)) := hblk.cell 16
      have c5 : wr.cell? ⟨w.heap.size, 17, none⟩ = some (.int .i64 (-52)) := hblk.cell 17
      go_wp2_with fail
      clear c0 c1 c2 c3 c4 c5
      obtain ⟨wo, rfl⟩ : ∃ wo : World, wo = wr := ⟨_, rfl⟩
      go_loopw [35] (fun i wr => ∃ z : Int, 0 ≤ z ∧ z ≤ 4 ∧ i = .int .i64 z ∧ Kt.Blk wr wo.heap.size 26 awakeRow2 ∧ Below wo.heap.size wo wr) (fun i _ => 4 - (intOf i).toNat)
      case atStart => exact ⟨0, by omega, by omega, rfl, Kt.Blk.new _ _ _, (Below.refl _ _).alloc (Nat.le_refl _) _⟩
      case round =>
        obtain ⟨z, hz1, hz2, rfl, hblk2, hbel2⟩ := hrel
        have d0 : wr.cell? ⟨wo.heap.size, 0, none⟩ = some (.int .i64 (-105)) := hblk2.cell 0
        have d1 : wr.cell? ⟨wo.heap.size, 1, none⟩ = some (.int .i64 5000) := hblk2.cell 1
        have i0 := idx0
        have i1 := idx1
        have i2 := idx2
        have i3 := idx3
        rcases (show z = 0 ∨ z = 1 ∨ z = 2 ∨ z = 3 ∨ z = 4 by omega) with rfl | rfl | rfl | rfl | rfl
        · clear hz1 hz2
          go_wp2_with (go_at_call 6; refine (share_val _ _ _ (-53) _ (by omega) (by omega) (by omega) (by omega) (by omega) (by omega) (by decide)).mono ?_; rintro e w' ⟨rfl, hbs⟩)
          go_roundw
          case rel => exact ⟨1, by omega, by omega, rfl, hblk2.on hbs, hbel2.trans (hbs.mono hbel2.size)⟩
          case measure => simp [intOf]
        · clear hz1 hz2
          go_wp2_with (go_at_call 6; refine (share_val _ _ _ (-52) _ (by omega) (by omega) (by omega) (by omega) (by omega) (by omega) (by decide)).mono ?_; rintro e w' ⟨rfl, hbs⟩)
          go_roundw
          case rel => exact ⟨2, by omega, by omega, rfl, hblk2.on hbs, hbel2.trans (hbs.mono hbel2.size)⟩
          case measure => simp [intOf]
        · clear hz1 hz2
          go_wp2_with (go_at_call 6; refine (share_val _ _ _ (-53) _ (by omega) (by omega) (by omega) (by omega) (by omega) (by omega) (by decide)).mono ?_; rintro e w' ⟨rfl, hbs⟩)
          go_roundw
          case rel => exact ⟨3, by omega, by omega, rfl, hblk2.on hbs, hbel2.trans (hbs.mono hbel2.size)⟩
          case measure => simp [intOf]
        · clear hz1 hz2
          go_wp2_with (go_at_call 6; refine (share_val _ _ _ (-52) _ (by omega) (by omega) (by omega) (by omega) (by omega) (by omega) (by decide)).mono ?_; rintro e w' ⟨rfl, hbs⟩)
          go_roundw
          case rel => exact ⟨4, by omega, by omega, rfl, hblk2.on hbs, hbel2.trans (hbs.mono hbel2.size)⟩
          case measure => simp [intOf]
        · clear hz1 hz2 i0 i1 i2 i3 d0 d1
          go_wp2
          go_roundw
          case rel => exact ⟨3, by omega, by omega, rfl, hblk.on hbel2, Kt.next hbel hbel2⟩
          case measure => simp [intOf]
    · clear hz1 hz2
      go_wp2_with fail
      obtain ⟨wa, rfl⟩ : ∃ wa : World, wa = wr := ⟨_, rfl⟩
      go_loopw [70] (fun i wr => ∃ z : Int, 0 ≤ z ∧ z ≤ 3 ∧ i = .int .i64 z ∧ Aw3 wr wa.heap.size ∧ Below wa.heap.size wa wr) (fun i _ => 3 - (intOf i).toNat)
      case atStart => exact ⟨0, by omega, by omega, rfl, Aw3.new wa _ rfl, ((((((((Below.refl _ _).alloc (Nat.le_refl _) _).alloc (by simp) _).alloc (by simp <;> omega) _).alloc (by simp <;> omega) _).alloc (by simp <;> omega) _).alloc (by simp <;> omega) _).alloc (by simp <;> omega) _)⟩
      case round =>
        obtain ⟨z, hz1, hz2, rfl, haw, hbel2⟩ := hrel
        obtain ⟨b, HB⟩ : ∃ b, Hid (b = wa.heap.size) := ⟨_, Lib.hid rfl⟩
        rcases (show z = 0 ∨ z = 1 ∨ z = 2 ∨ z = 3 by omega) with rfl | rfl | rfl | rfl
        · clear hz1 hz2
          obtain ⟨h0, h1, h2, h3, h4, h5, h6⟩ := haw
          have haw : Aw3 wr wa.heap.size := ⟨h0, h1, h2, h3, h4, h5, h6⟩
          have c0 : wr.cell? ⟨wa.heap.size + 1 + 1 + 1 + 1 + 1 + 1, 0, none⟩ = some (.int .i64 100) := h6.cell 0
          have c1 : wr.cell? ⟨wa.heap.size + 1 + 1 + 1 + 1 + 1 + 1, 1, none⟩ = some (.slice (some ⟨wa.heap.size, 0, none⟩) 3 3) := h6.cell 1
          have c2 : wr.cell? ⟨wa.heap.size + 1 + 1 + 1 + 1 + 1 + 1, 2, none⟩ = some (.slice (some ⟨wa.heap.size + 1, 0, none⟩) 3 3) := h6.cell 2
          go_wp2_with fail
          clear c0 c1 c2
          refine (split_val (100) _ 3 [1, 1, 1] [34, 33, 33] _ (Kt.IBlk.ints (h0.alloc _)) (by decide) (by omega) (by omega) (by decide) (by decide) (by decide)).mono ?_
          rintro e w1 ⟨rfl, hout, hb1⟩
          have hblk8 : Kt.Blk w1 wr.heap.size 31 #[.int .i64 100, .slice (some ⟨wa.heap.size, 0, none⟩) 3 3, .slice (some ⟨wa.heap.size + 1, 0, none⟩) 3 3] := (Kt.Blk.new wr 31 _).on hb1
          have hs : (wr.alloc (.cells #[.int .i64 100, .slice (some ⟨wa.heap.size, 0, none⟩) 3 3, .slice (some ⟨wa.heap.size + 1, 0, none⟩) 3 3] 31)).heap.size = wr.heap.size + 1 := by simp
          rw [hs] at hout
          have hbx : Below wr.heap.size wr w1 := ((Below.refl _ _).alloc (Nat.le_refl _) _).trans (hb1.mono (by rw [hs]; omega))
          have d2 : w1.cell? ⟨wr.heap.size, 2, none⟩ = some (.slice (some ⟨wa.heap.size + 1, 0, none⟩) 3 3) := hblk8.cell 2
          clear hs hblk8
          go_wp2_with (go_at_call 8; refine (same_val _ _ 3 3 [34, 33, 33] [34, 33, 33] _ hout.ints (h1.on hbx).ints (by decide) true (by decide)).mono ?_; rintro e w2 ⟨rfl, hb2⟩)
          go_roundw
          case rel => exact ⟨1, by omega, by omega, rfl, (haw.on hbx).on hb2, Kt.next (Kt.next hbel2 hbx) hb2⟩
          case measure => simp [intOf]
        · clear hz1 hz2
          obtain ⟨h0, h1, h2, h3, h4, h5, h6⟩ := haw
          have haw : Aw3 wr wa.heap.size := ⟨h0, h1, h2, h3, h4, h5, h6⟩
          have c0 : wr.cell? ⟨wa.heap.size + 1 + 1 + 1 + 1 + 1 + 1, 3, none⟩ = some (.int .i64 (-100)) := h6.cell 3
          have c1 : wr.cell? ⟨wa.heap.size + 1 + 1 + 1 + 1 + 1 + 1, 4, none⟩ = some (.slice (some ⟨wa.heap.size + 1 + 1, 0, none⟩) 3 3) := h6.cell 4
          have c2 : wr.cell? ⟨wa.heap.size + 1 + 1 + 1 + 1 + 1 + 1, 5, none⟩ = some (.slice (some ⟨wa.heap.size + 1 + 1 + 1, 0, none⟩) 3 3) := h6.cell 5
          go_wp2_with fail
          clear c0 c1 c2
          refine (split_val (-100) _ 3 [1, 1, 1] [(-33), (-33), (-34)] _ (Kt.IBlk.ints (h2.alloc _)) (by decide) (by omega) (by omega) (by decide) (by decide) (by decide)).mono ?_
          rintro e w1 ⟨rfl, hout, hb1⟩
          have hblk8 : Kt.Blk w1 wr.heap.size 31 #[.int .i64 (-100), .slice (some ⟨wa.heap.size + 1 + 1, 0, none⟩) 3 3, .slice (some ⟨wa.heap.size + 1 + 1 + 1, 0, none⟩) 3 3] := (Kt.Blk.new wr 31 _).on hb1
          have hs : (wr.alloc (.cells #[.int .i64 (-100), .slice (some ⟨wa.heap.size + 1 + 1, 0, none⟩) 3 3, .slice (some ⟨wa.heap.size + 1 + 1 + 1, 0, none⟩) 3 3] 31)).heap.size = wr.heap.size + 1 := by simp
          rw [hs] at hout
          have hbx : Below wr.heap.size wr w1 := ((Below.refl _ _).alloc (Nat.le_refl _) _).trans (hb1.mono (by rw [hs]; omega))
          have d2 : w1.cell? ⟨wr.heap.size, 2, none⟩ = some (.slice (some ⟨wa.heap.size + 1 + 1 + 1, 0, none⟩) 3 3) := hblk8.cell 2
          clear hs hblk8
          go_wp2_with (go_at_call 8; refine (same_val _ _ 3 3 [(-33), (-33), (-34)] [(-33), (-33), (-34)] _ hout.ints (h3.on hbx).ints (by decide) true (by decide)).mono ?_; rintro e w2 ⟨rfl, hb2⟩)
          go_roundw
          case rel => exact ⟨2, by omega, by omega, rfl, (haw.on hbx).on hb2, Kt.next (Kt.next hbel2 hbx) hb2⟩
          case measure => simp [intOf]
        · clear hz1 hz2
          obtain ⟨h0, h1, h2, h3, h4, h5, h6⟩ := haw
          have haw : Aw3 wr wa.heap.size := ⟨h0, h1, h2, h3, h4, h5, h6⟩
          have c0 : wr.cell? ⟨wa.heap.size + 1 + 1 + 1 + 1 + 1 + 1, 6, none⟩ = some (.int .i64 10) := h6.cell 6
          have c1 : wr.cell? ⟨wa.heap.size + 1 + 1 + 1 + 1 + 1 + 1, 7, none⟩ = some (.slice (some ⟨wa.heap.size + 1 + 1 + 1 + 1, 0, none⟩) 3 3) := h6.cell 7
          have c2 : wr.cell? ⟨wa.heap.size + 1 + 1 + 1 + 1 + 1 + 1, 8, none⟩ = some (.slice (some ⟨wa.heap.size + 1 + 1 + 1 + 1 + 1, 0, none⟩) 3 3) := h6.cell 8
          go_wp2_with fail
          clear c0 c1 c2
          refine (split_val (10) _ 3 [0, 3, 1] [0, 8, 2] _ (Kt.IBlk.ints (h4.alloc _)) (by decide) (by omega) (by omega) (by decide) (by decide) (by decide)).mono ?_
          rintro e w1 ⟨rfl, hout, hb1⟩
          have hblk8 : Kt.Blk w1 wr.heap.size 31 #[.int .i64 10, .slice (some ⟨wa.heap.size + 1 + 1 + 1 + 1, 0, none⟩) 3 3, .slice (some ⟨wa.heap.size + 1 + 1 + 1 + 1 + 1, 0, none⟩) 3 3] := (Kt.Blk.new wr 31 _).on hb1
          have hs : (wr.alloc (.cells #[.int .i64 10, .slice (some ⟨wa.heap.size + 1 + 1 + 1 + 1, 0, none⟩) 3 3, .slice (some ⟨wa.heap.size + 1 + 1 + 1 + 1 + 1, 0, none⟩) 3 3] 31)).heap.size = wr.heap.size + 1 := by simp
          rw [hs] at hout
          have hbx : Below wr.heap.size wr w1 := ((Below.refl _ _).alloc (Nat.le_refl _) _).trans (hb1.mono (by rw [hs]; omega))
          have d2 : w1.cell? ⟨wr.heap.size, 2, none⟩ = some (.slice (some ⟨wa.heap.size + 1 + 1 + 1 + 1 + 1, 0, none⟩) 3 3) := hblk8.cell 2
          clear hs hblk8
          go_wp2_with (go_at_call 8; refine (same_val _ _ 3 3 [0, 8, 2] [0, 8, 2] _ hout.ints (h5.on hbx).ints (by decide) true (by decide)).mono ?_; rintro e w2 ⟨rfl, hb2⟩)
          go_roundw
          case rel => exact ⟨3, by omega, by omega, rfl, (haw.on hbx).on hb2, Kt.next (Kt.next hbel2 hbx) hb2⟩
          case measure => simp [intOf]
        · clear hz1 hz2 haw hblk
          have hbw : Below w.heap.size w wr := Kt.next hbel hbel2
          have HT1 := Lib.hid (HT.out.on hbw)
          clear hbel hbel2
          go_wp2_with fail
          refine (text_val (-5) _ _ (by omega) (by omega) HT1.out t_m5).mono ?_
          rintro e w1 ⟨rfl, hb1⟩
          have HT2 := Lib.hid (HT1.out.on hb1)
          go_wp2_with fail
          refine (text_val 123456 _ _ (by omega) (by omega) HT2.out t_123456).mono ?_
          rintro e w2 ⟨rfl, hb2⟩
          have HT3 := Lib.hid (HT2.out.on hb2)
          go_wp2_with fail
          refine (read_val _ _ HT3.out _ _ r_007.1 r_007.2).mono ?_
          rintro e w3 ⟨rfl, hb3⟩
          have HT4 := Lib.hid (HT3.out.on hb3)
          go_wp2_with fail
          refine (read_val _ _ HT4.out _ _ r_m0.1 r_m0.2).mono ?_
          rintro e w4 ⟨rfl, hb4⟩
          have HT5 := Lib.hid (HT4.out.on hb4)
          go_wp2_with fail
          refine (read_val _ _ HT5.out _ _ r_15.1 r_15.2).mono ?_
          rintro e w5 ⟨rfl, hb5⟩
          go_wp2
          go_ret
          exact ⟨rfl, Kt.next (Kt.next (Kt.next (Kt.next (Kt.next hbw hb1) hb2) hb3) hb4) hb5⟩
end Go.Proofs.YtonoffeicbpigaaDoor
