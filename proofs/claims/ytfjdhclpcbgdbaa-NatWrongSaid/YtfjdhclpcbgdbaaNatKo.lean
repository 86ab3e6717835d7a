/- What takeAway and giveBack of the number package do: their walks. -/
import Derived.Test.YtfjdhclpcbgdbaaNatKn
namespace Kt
open Go Go.RowKit
section
variable {w w0 w1 w2 : World} {g : Nat} {row : Option Nat}
theorem gb_set (h : w0.grownBy w (some g)) (j : Nat) (u : Value) : w0.grownBy (w.setCell ⟨g, j, none⟩ u) (some g) :=
  ⟨h.os, h.tape, h.output, by simpa using h.size, fun i hi hne => (Below.heap_setCell w ⟨g, j, none⟩ u i (fun e => hne (by simp [e]))).trans (h.block i hi hne)⟩
theorem gb_drewN (h : w0.grownBy w row) (n : Nat) : w0.grownBy (w.drewN n) row := ⟨h.os, h.tape, h.output, h.size, h.block⟩
theorem gb_new (h : w0.grownBy w row) (j : Nat) (hj : w0.heap.size ≤ j) (u : Value) : w0.grownBy (w.setCell ⟨j, 0, none⟩ u) row :=
  ⟨h.os, h.tape, h.output, by simpa using h.size, fun i hi hne => (Below.heap_setCell w ⟨j, 0, none⟩ u i (by show i ≠ j; omega)).trans (h.block i hi hne)⟩
theorem gb_trans (h : w0.grownBy w1 row) (k : w1.grownBy w2 row) : w0.grownBy w2 row :=
  ⟨k.os.trans h.os, k.tape.trans h.tape, k.output.trans h.output, Nat.le_trans h.size k.size, fun i hi hne => (k.block i (Nat.lt_of_lt_of_le hi h.size) hne).trans (h.block i hi hne)⟩
theorem gb_alloc (h : w0.grownBy w row) (o : Obj) : w0.grownBy (w.alloc o) row := gb_trans h (World.grownBy_alloc w o row)
theorem RowAt.gb {b : Nat} {k : IntKind} {zs : List Int} (h : RowAt w b k zs) (hg : w.grownBy w1 (some g)) (hne : b ≠ g) : RowAt w1 b k zs := by
  have e := hg.block b h.1 (by simpa using hne)
  refine ⟨Nat.lt_of_lt_of_le h.1 hg.size, fun j hj => ?_, fun j => ?_⟩
  · have := h.cell j hj
    unfold World.cell? at this ⊢
    rw [e]; exact this
  · have := h.frozen j
    unfold World.frozen? at this ⊢
    rw [e]; exact this
theorem below_gb {B : Nat} {a : World} (h : Below B a w) (hg : w.grownBy w1 (some g)) (hB : B ≤ g) (hg2 : B ≤ w.heap.size) : Below B a w1 := h.grown hg hg2 (fun k hk => by injection hk with hk; omega)
end
end Kt
namespace Go.Proofs.Ytfjdhclpcbgdbaa
open Go Go.RowKit

set_option maxHeartbeats 2000000 in
theorem take_away (g o m c1 c2 d : Nat) (pre mid post bl : List Int) (f : Int) (w : World) (hpre : pre.length = o) (hmid : mid.length = m + 1) (hbl : bl.length = m) (hom : Nt.Ok mid) (hob : Nt.Ok bl)
    (hblk : Kt.IBlk w g 33 .u32 (pre ++ (mid ++ post))) (hrow : Kt.RowAt w d .u32 bl) (hgd : d ≠ g) (f0 : 0 ≤ f) (f1 : f ≤ 4294967295) (hm : m ≤ 4294967296) :
    Calls Try.prog 44 #[.slice (some ⟨g, o, none⟩) (m + 1) c1, .slice (some ⟨d, 0, none⟩) m c2, .int .u64 f] w fun e w' => ∃ (r : List Int) (b : Int), e = .returned (.bool (b != 0)) ∧ (b = 0 ∨ b = 1) ∧ r.length = m + 1 ∧ Nt.Ok r ∧
      Nt.V r - Nt.P (m + 1) * b = Nt.V mid - Nt.V bl * f ∧ Kt.IBlk w' g 33 .u32 (pre ++ (r ++ post)) ∧ w.grownBy w' (some g) := by
  have HPRE := Lib.hid hpre
  have HMID := Lib.hid hmid
  have HBL := Lib.hid hbl
  have HOM := Lib.hid hom
  have HOB := Lib.hid hob
  have HGD := Lib.hid hgd
  clear hpre hmid hbl hom hob hgd
  go_enter Try.func44, Try.ntmps44
  go_wp2
  go_loopw [7, 8, 15] (fun u7 u8 i wr => ∃ (k : Nat) (ca bo : Int) (s : List Int), k ≤ m ∧ u7 = .int .u64 ca ∧ u8 = .int .u32 bo ∧ i = .int .i64 k ∧ 0 ≤ ca ∧ ca ≤ 4294967295 ∧ 0 ≤ bo ∧ bo ≤ 1 ∧ Kt.IBlk wr g 33 .u32 (pre ++ ((s ++ mid.drop k) ++ post)) ∧ Hid (s.length = k) ∧ Hid (Nt.Ok s) ∧ Hid (Nt.V s - Nt.P k * (bo + ca) = Nt.V (mid.take k) - Nt.V (bl.take k) * f) ∧ w.grownBy wr (some g)) (fun _ _ i _ => m - (intOf i).toNat)
  case atStart => exact ⟨0, 0, 0, [], Nat.zero_le _, rfl, rfl, rfl, by omega, by omega, by omega, by omega, hblk, Lib.hid rfl, Lib.hid Nt.Ok.nil, Lib.hid (by simp [Nt.V]), World.grownBy.refl _ _⟩
  case round =>
    obtain ⟨k, ca, bo, s, hk, rfl, rfl, rfl, hca0, hca1, hbo0, hbo1, hblk2, hls, hos, hv, hgb⟩ := hrel
    have hov := Nt.over_len' (l := mid) hls.out (by rw [HMID.out]; omega)
    rw [HMID.out] at hov
    have hfr := hblk2.frozen (o + k)
    have hcell := hblk2.cell (o + k) (by rw [Nt.seg_len, HPRE.out, hov]; omega)
    rw [Nt.seg_nth _ _ _ _ _ HPRE.out (by rw [hov]; omega), Nt.over_nth' hls.out] at hcell
    obtain ⟨x, hx⟩ : ∃ x, Hid (Ls.nth mid k = x) := ⟨_, Lib.hid rfl⟩
    have hxb := HOM.out.nth_any k
    rw [hx.out] at hcell hxb
    obtain ⟨hx0, hx1⟩ := hxb
    have HOV := Lib.hid hov
    clear hov
    by_cases hlt : k < m
    · have hcell2 := (hrow.gb hgb HGD.out).cell k (by rw [HBL.out]; exact hlt)
      obtain ⟨y, hy⟩ : ∃ y, Hid (Ls.nth bl k = y) := ⟨_, Lib.hid rfl⟩
      have hyb := HOB.out.nth_any k
      rw [hy.out] at hcell2 hyb
      obtain ⟨hy0, hy1⟩ := hyb
      obtain ⟨hp0, hp1⟩ := Nt.mul_bd hy0 hy1 f0 f1
      have hw2 : (y * f + ca) / 4294967296 ≤ 4294967295 := by
        have : y * f ≤ 4294967295 * 4294967295 := Int.mul_le_mul hy1 f1 f0 (by omega)
        omega
      have hnew := Nt.seg_set pre (s ++ mid.drop k) post o k ((x - (y * f + ca) % 4294967296 - bo) % 4294967296) HPRE.out (by rw [HOV.out]; omega)
      rw [Nt.over_set' _ hls.out (by rw [HMID.out]; omega)] at hnew
      have HNEW := Lib.hid hnew
      clear hnew
      go_wp2_with fail
      refine (sub32_any x ((y * f + ca) % 4294967296) bo _ hx0 hx1 (by omega) (by omega) hbo0 hbo1).mono ?_
      rintro e w' ⟨rfl, rfl⟩
      go_wp2_with fail
      go_roundw
      case rel => exact ⟨k + 1, (y * f + ca) / 4294967296, -((x - (y * f + ca) % 4294967296 - bo) / 4294967296), s ++ [(x - (y * f + ca) % 4294967296 - bo) % 4294967296], by omega, rfl, rfl, by go_num, by omega, by omega, by omega, by omega, by rw [← HNEW.out]; exact hblk2.set_ _ _, Lib.hid (by rw [List.length_append, hls.out]; rfl), Lib.hid (hos.out.append (Nt.Ok.one (by omega) (by omega))), Lib.hid (by
        rw [Nt.take_step hls.out hv.out rfl rfl, Nt.V_take_nth, Nt.V_take_nth, hx.out, hy.out, Int.mul_sub, Int.add_mul, Int.mul_assoc]
        omega), Kt.gb_set hgb _ _⟩
      case measure => simp [intOf]; omega
    · obtain rfl : k = m := by omega
      have hnew := Nt.seg_set pre (s ++ mid.drop k) post o k ((x - ca - bo) % 4294967296) HPRE.out (by rw [HOV.out]; omega)
      rw [Nt.over_set' _ hls.out (by rw [HMID.out]; omega), show mid.drop (k + 1) = [] from List.drop_of_length_le (by rw [HMID.out]; exact Nat.le_refl _), List.append_nil] at hnew
      have HNEW := Lib.hid hnew
      clear hnew
      go_wp2_with fail
      refine (sub32_any x ca bo _ hx0 hx1 hca0 hca1 hbo0 hbo1).mono ?_
      rintro e w' ⟨rfl, rfl⟩
      go_wp2_with fail
      go_ret
      refine ⟨s ++ [(x - ca - bo) % 4294967296], -((x - ca - bo) / 4294967296), rfl, by omega, by rw [List.length_append, hls.out]; rfl, hos.out.append (Nt.Ok.one (by omega) (by omega)), ?_, by rw [← HNEW.out]; exact hblk2.set_ _ _, Kt.gb_set hgb _ _⟩
      rw [Nt.take_last hls.out hv.out rfl, Nt.V_take_all bl _ (by rw [HBL.out]; exact Nat.le_refl _)]
      have e1 : Nt.V mid = Nt.V (mid.take k) + Nt.P k * x := by
        have e2 := Nt.V_take_nth mid k
        rw [Nt.V_take_all mid (k + 1) (by rw [HMID.out]; exact Nat.le_refl _), hx.out] at e2
        exact e2
      rw [e1]
      omega

set_option maxHeartbeats 2000000 in
theorem give_back (g o m c1 c2 d : Nat) (pre mid post bl : List Int) (w : World) (hpre : pre.length = o) (hmid : mid.length = m + 1) (hbl : bl.length = m) (hom : Nt.Ok mid) (hob : Nt.Ok bl)
    (hblk : Kt.IBlk w g 33 .u32 (pre ++ (mid ++ post))) (hrow : Kt.RowAt w d .u32 bl) (hgd : d ≠ g) (hm : m ≤ 4294967296) :
    Calls Try.prog 45 #[.slice (some ⟨g, o, none⟩) (m + 1) c1, .slice (some ⟨d, 0, none⟩) m c2] w fun e w' => ∃ (r : List Int) (b : Int), e = .returned (.tuple #[]) ∧ 0 ≤ b ∧ b ≤ 1 ∧ r.length = m + 1 ∧ Nt.Ok r ∧
      Nt.V r + Nt.P (m + 1) * b = Nt.V mid + Nt.V bl ∧ Kt.IBlk w' g 33 .u32 (pre ++ (r ++ post)) ∧ w.grownBy w' (some g) := by
  have HPRE := Lib.hid hpre
  have HMID := Lib.hid hmid
  have HBL := Lib.hid hbl
  have HOM := Lib.hid hom
  have HOB := Lib.hid hob
  have HGD := Lib.hid hgd
  have hgs : g < w.heap.size := hblk.lt
  clear hpre hmid hbl hom hob hgd
  go_enter Try.func45, Try.ntmps45
  go_wp2_with (go_at_call 38; refine (adder_any _).mono ?_; rintro e w' ⟨rfl, rfl⟩)
  go_loopw [10] (fun i wr => ∃ (k : Nat) (cy : Int) (s : List Int), k ≤ m ∧ i = .int .i64 k ∧ 0 ≤ cy ∧ cy ≤ 1 ∧ Kt.IBlk wr g 33 .u32 (pre ++ ((s ++ mid.drop k) ++ post)) ∧ Kt.Blk wr w.heap.size 33 #[.int .u32 cy] ∧ Hid (s.length = k) ∧ Hid (Nt.Ok s) ∧ Hid (Nt.V s + Nt.P k * cy = Nt.V (mid.take k) + Nt.V (bl.take k)) ∧ w.grownBy wr (some g)) (fun i _ => m - (intOf i).toNat)
  case atStart => exact ⟨0, 0, [], Nat.zero_le _, rfl, by omega, by omega, hblk.alloc _, Kt.Blk.new _ _ _, Lib.hid rfl, Lib.hid Nt.Ok.nil, Lib.hid (by simp [Nt.V]), World.grownBy_alloc _ _ _⟩
  case round =>
    obtain ⟨k, cy, s, hk, rfl, hc0, hc1, hblk2, hcb, hls, hos, hv, hgb⟩ := hrel
    have hov := Nt.over_len' (l := mid) hls.out (by rw [HMID.out]; omega)
    rw [HMID.out] at hov
    have hcc := hcb.cell 0
    have hcf := hcb.frozen 0
    have hfr := hblk2.frozen (o + k)
    have hcell := hblk2.cell (o + k) (by rw [Nt.seg_len, HPRE.out, hov]; omega)
    rw [Nt.seg_nth _ _ _ _ _ HPRE.out (by rw [hov]; omega), Nt.over_nth' hls.out] at hcell
    obtain ⟨x, hx⟩ : ∃ x, Hid (Ls.nth mid k = x) := ⟨_, Lib.hid rfl⟩
    have hxb := HOM.out.nth_any k
    rw [hx.out] at hcell hxb
    obtain ⟨hx0, hx1⟩ := hxb
    have HOV := Lib.hid hov
    clear hov
    by_cases hlt : k < m
    · have hcell2 := (hrow.gb hgb HGD.out).cell k (by rw [HBL.out]; exact hlt)
      obtain ⟨y, hy⟩ : ∃ y, Hid (Ls.nth bl k = y) := ⟨_, Lib.hid rfl⟩
      have hyb := HOB.out.nth_any k
      rw [hy.out] at hcell2 hyb
      obtain ⟨hy0, hy1⟩ := hyb
      have hnew := Nt.seg_set pre (s ++ mid.drop k) post o k ((x + y + cy) % 4294967296) HPRE.out (by rw [HOV.out]; omega)
      rw [Nt.over_set' _ hls.out (by rw [HMID.out]; omega)] at hnew
      have HNEW := Lib.hid hnew
      clear hnew
      have hq := Kt.gb_set (Kt.gb_new hgb w.heap.size (Nat.le_refl _) (.int .u32 ((x + y + cy) / 4294967296))) (o + k) (.int .u32 ((x + y + cy) % 4294967296))
      have hq2 := (hblk2.far (p := ⟨w.heap.size, 0, none⟩) (by show g ≠ w.heap.size; omega) (.int .u32 ((x + y + cy) / 4294967296))).set_ (o + k) ((x + y + cy) % 4294967296)
      have hq3 := (hcb.set_ 0 (.int .u32 ((x + y + cy) / 4294967296))).far (p := ⟨g, o + k, none⟩) (by show w.heap.size ≠ g; omega) (.int .u32 ((x + y + cy) % 4294967296))
      rw [HNEW.out] at hq2
      have hgne : g ≠ w.heap.size := by omega
      go_wp2_with fail
      refine (clo_add _ x y cy _ hcc hcf hx0 hx1 hy0 hy1 hc0 hc1).mono ?_
      rintro e w' ⟨rfl, rfl⟩
      go_wp2_with fail
      go_roundw
      case rel => exact ⟨k + 1, (x + y + cy) / 4294967296, s ++ [(x + y + cy) % 4294967296], by omega, by go_num, by omega, by omega, hq2, hq3, Lib.hid (by rw [List.length_append, hls.out]; rfl), Lib.hid (hos.out.append (Nt.Ok.one (by omega) (by omega))), Lib.hid (by rw [Nt.V_add_step hls.out hv.out rfl, Nt.V_take_nth, Nt.V_take_nth, hx.out, hy.out]), hq⟩
      case measure => simp [intOf]; omega
    · obtain rfl : k = m := by omega
      have hnew := Nt.seg_set pre (s ++ mid.drop k) post o k ((x + 0 + cy) % 4294967296) HPRE.out (by rw [HOV.out]; omega)
      rw [Nt.over_set' _ hls.out (by rw [HMID.out]; omega), show mid.drop (k + 1) = [] from List.drop_of_length_le (by rw [HMID.out]; exact Nat.le_refl _), List.append_nil] at hnew
      have hq := Kt.gb_set (Kt.gb_new hgb w.heap.size (Nat.le_refl _) (.int .u32 ((x + 0 + cy) / 4294967296))) (o + k) (.int .u32 ((x + 0 + cy) % 4294967296))
      have hq2 := (hblk2.far (p := ⟨w.heap.size, 0, none⟩) (by show g ≠ w.heap.size; omega) (.int .u32 ((x + 0 + cy) / 4294967296))).set_ (o + k) ((x + 0 + cy) % 4294967296)
      rw [hnew] at hq2
      clear hnew
      have hgne : g ≠ w.heap.size := by omega
      have hfin : Nt.V (s ++ [(x + 0 + cy) % 4294967296]) + Nt.P (k + 1) * ((x + 0 + cy) / 4294967296) = Nt.V mid + Nt.V bl := by
        rw [Nt.V_add_step hls.out hv.out rfl, Nt.V_take_all bl _ (by rw [HBL.out]; exact Nat.le_refl _), Int.mul_zero, Int.add_zero]
        have e2 := Nt.V_take_nth mid k
        rw [Nt.V_take_all mid (k + 1) (by rw [HMID.out]; exact Nat.le_refl _), hx.out] at e2
        rw [e2]
      have HFIN := Lib.hid hfin
      clear hfin
      go_wp2_with fail
      refine (clo_add _ x 0 cy _ hcc hcf hx0 hx1 (by omega) (by omega) hc0 hc1).mono ?_
      rintro e w' ⟨rfl, rfl⟩
      go_wp2_with fail
      go_end0
      exact ⟨s ++ [(x + 0 + cy) % 4294967296], (x + 0 + cy) / 4294967296, rfl, by omega, by omega, by rw [List.length_append, hls.out]; rfl, hos.out.append (Nt.Ok.one (by omega) (by omega)), HFIN.out, by first | exact hq2 | simpa using hq2, by first | exact hq | simpa using hq⟩
end Go.Proofs.Ytfjdhclpcbgdbaa
