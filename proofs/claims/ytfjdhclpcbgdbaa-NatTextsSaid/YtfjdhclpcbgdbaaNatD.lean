/- What Sub32 and Sub of the number package return: their walks. -/
import Derived.Test.YtfjdhclpcbgdbaaNatB
import Derived.Test.YtfjdhclpcbgdbaaNatBit
namespace Go.Proofs.Ytfjdhclpcbgdbaa
open Go Go.RowKit

theorem sub32_any (x y c : Int) (w : World) (hx0 : 0 ≤ x) (hx1 : x ≤ 4294967295) (hy0 : 0 ≤ y) (hy1 : y ≤ 4294967295) (hc0 : 0 ≤ c) (hc1 : c ≤ 1) :
    Calls Try.prog 40 #[.int .u32 x, .int .u32 y, .int .u32 c] w fun e w' => e = .returned (.tuple #[.int .u32 ((x - y - c) % 4294967296), .int .u32 (-((x - y - c) / 4294967296))]) ∧ w = w' := by
  have E := Lib.hid (Nt.sub_bit x y c hx0 hx1 hy0 hy1 hc0 hc1)
  go_enter Try.func40, Try.ntmps40
  go_wp2
  go_ret2
  exact ⟨Kt.ret_ii (by first | rfl | omega | (simp only [IntKind.wrap_u32']; omega)) (E.out _ (by first | rfl | omega | (simp only [IntKind.wrap_u32']; omega))), rfl⟩

set_option maxHeartbeats 1000000 in
theorem sub_fits (A B : Option Addr) (n m ca cb : Nat) (a b : List Int) (x y : Nat) (w : World) (hla : a.length = n) (hlb : b.length = m) (ha : Kt.Ints w w.heap.size .u32 A a) (hb : Kt.Ints w w.heap.size .u32 B b)
    (hra : rightB a = true) (hrb : rightB b = true) (hx : a = Nt.limbs x) (hy : b = Nt.limbs y) (hle : y ≤ x) :
    Calls Try.prog 23 #[.slice A n ca, .slice B m cb] w fun e w' => (∃ v, e = .returned (.tuple #[v, .int .i64 0]) ∧ Kt.Num w' w.heap.size v (x - y)) ∧ Below w.heap.size w w' := by
  have hn := len_right hra
  have hm := len_right hrb
  rw [hla] at hn
  rw [hlb] at hm
  have hmn : m ≤ n := by rw [← hla, ← hlb, hx, hy]; exact Nt.len_mono hle
  have hva : Nt.V a = (x : Int) := by rw [hx]; exact Nt.V_limbs x
  have hvb : Nt.V b = (y : Int) := by rw [hy]; exact Nt.V_limbs y
  have HOA : Hid (Nt.Ok a) := Lib.hid (by rw [hx]; exact Nt.limbs_Ok x)
  have HOB : Hid (Nt.Ok b) := Lib.hid (by rw [hy]; exact Nt.limbs_Ok y)
  have HLA := Lib.hid hla
  have HLB := Lib.hid hlb
  have HRA := Lib.hid hra
  have HRB := Lib.hid hrb
  have HVA := Lib.hid hva
  have HVB := Lib.hid hvb
  have HX := Lib.hid hx
  have HY := Lib.hid hy
  clear hla hlb hra hrb hva hvb hx hy
  have HC : Hid (Nt.cmpV x y = 0 ∨ Nt.cmpV x y = 1) := Lib.hid (by unfold Nt.cmpV; split <;> first | omega | (split <;> simp))
  obtain ⟨cv, HCV⟩ : ∃ cv, Hid (Nt.cmpV x y = cv) := ⟨_, Lib.hid rfl⟩
  have hcv : 0 ≤ cv := by have h1 := HC.out; rw [HCV.out] at h1; omega
  obtain ⟨i0, hi0, hz0, hz1, hz2⟩ := info_parts Try.infoU32
  have hmk := fun W => Kt.run_make_ints (P := Try.prog) 22 33 i0 .u32 Try.underlying22 hi0 hz0 hz1 (by omega) n (by omega) W
  clear hi0 hz0 hz1 hz2 HC
  go_enter Try.func23, Try.ntmps23
  go_wp2_with fail
  refine (right_any A n ca a _ HLA.out ha (by omega)).mono ?_
  rw [HRA.out]
  rintro e w' ⟨rfl, rfl⟩
  go_wp2_with fail
  refine (right_any B m cb b _ HLB.out hb (by omega)).mono ?_
  rw [HRB.out]
  rintro e w' ⟨rfl, rfl⟩
  go_wp2_with fail
  refine (compared_any A B n m ca cb a b x y _ HLA.out HLB.out ha hb (by omega) HX.out HY.out).mono ?_
  rw [HCV.out]
  rintro e w' ⟨rfl, nd, rfl⟩
  go_wp2_with fail
  clear hmk
  go_loopw [7, 30] (fun c i wr => ∃ (k : Nat) (cy : Int) (s : List Int), k ≤ n ∧ c = .int .u32 cy ∧ i = .int .i64 k ∧ 0 ≤ cy ∧ cy ≤ 1 ∧ Kt.IBlk wr w.heap.size 33 .u32 (s ++ Ls.zeros (n - k)) ∧ Hid (s.length = k) ∧ Hid (Nt.Ok s) ∧ Hid (Nt.V s - Nt.P k * cy = Nt.V (a.take k) - Nt.V (b.take k)) ∧ Below w.heap.size w wr) (fun _ i _ => n - (intOf i).toNat)
  case atStart => exact ⟨0, 0, [], Nat.zero_le _, rfl, rfl, by omega, by omega, Kt.IBlk.new' _ _ _ _ _ (by simp), Lib.hid rfl, Lib.hid Nt.Ok.nil, Lib.hid (by simp [Nt.V]), (Kt.below_of_drewN _ _).alloc (by simp) _⟩
  case round =>
    obtain ⟨k, cy, s, hk, rfl, rfl, hc0, hc1, hblk, hls, hos, hv, hbel⟩ := hrel
    by_cases hlt : k < n
    · obtain ⟨b1, o1, rfl, hb1', hcc1⟩ := ha (by have := HLA.out; omega)
      have hcell1 := (hbel.cell (p := ⟨b1, o1 + k, none⟩) hb1').trans (hcc1 k (by have := HLA.out; omega))
      clear hcc1
      obtain ⟨xk, hxk⟩ : ∃ xk, Hid (Ls.nth a k = xk) := ⟨_, Lib.hid rfl⟩
      have hxb := HOA.out.nth_any k
      rw [hxk.out] at hcell1 hxb
      obtain ⟨hx0, hx1⟩ := hxb
      have hfr := hblk.frozen k
      have hcell3 := hblk.cell k (by rw [Nt.fill_len hls.out (by omega)]; exact hlt)
      by_cases hltm : k < m
      · obtain ⟨b2, o2, rfl, hb2', hcc2⟩ := hb (by have := HLB.out; omega)
        have hcell2 := (hbel.cell (p := ⟨b2, o2 + k, none⟩) hb2').trans (hcc2 k (by have := HLB.out; omega))
        clear hcc2
        obtain ⟨yk, hyk⟩ : ∃ yk, Hid (Ls.nth b k = yk) := ⟨_, Lib.hid rfl⟩
        have hyb := HOB.out.nth_any k
        rw [hyk.out] at hcell2 hyb
        obtain ⟨hy0, hy1⟩ := hyb
        go_wp2_with fail
        refine (sub32_any xk yk cy _ hx0 hx1 hy0 hy1 hc0 hc1).mono ?_
        rintro e w' ⟨rfl, rfl⟩
        go_wp2_with fail
        go_roundw
        case rel => exact ⟨k + 1, -((xk - yk - cy) / 4294967296), s ++ [(xk - yk - cy) % 4294967296], by omega, rfl, by go_num, by omega, by omega, by rw [← Nt.fill_set _ hls.out hlt]; exact hblk.set_ _ _, Lib.hid (by rw [List.length_append, hls.out]; rfl), Lib.hid (hos.out.append (Nt.Ok.one (by omega) (by omega))), Lib.hid (by rw [Nt.V_sub_step hls.out hv.out rfl, Nt.V_take_nth, Nt.V_take_nth, hxk.out, hyk.out]), hbel.setCell (Nat.le_refl _) _⟩
        case measure => simp [intOf]; omega
      · have hyk : Hid (Ls.nth b k = 0) := Lib.hid (Nt.nth_out (by have := HLB.out; omega))
        go_wp2_with fail
        refine (sub32_any xk 0 cy _ hx0 hx1 (by omega) (by omega) hc0 hc1).mono ?_
        rintro e w' ⟨rfl, rfl⟩
        go_wp2_with fail
        go_roundw
        case rel => exact ⟨k + 1, -((xk - 0 - cy) / 4294967296), s ++ [(xk - 0 - cy) % 4294967296], by omega, by first | rfl | go_num, by go_num, by omega, by omega, by rw [← Nt.fill_set _ hls.out hlt]; first | exact hblk.set_ _ _ | (have := hblk.set_ k ((xk - 0 - cy) % 4294967296); rw [Int.sub_zero] at this ⊢; exact this), Lib.hid (by rw [List.length_append, hls.out]; rfl), Lib.hid (hos.out.append (Nt.Ok.one (by omega) (by omega))), Lib.hid (by rw [Nt.V_sub_step hls.out hv.out rfl, Nt.V_take_nth, Nt.V_take_nth, hxk.out, hyk.out]), hbel.setCell (Nat.le_refl _) _⟩
        case measure => simp [intOf]; omega
    · obtain rfl : k = n := by omega
      have HV : Hid (Nt.V s = ((x - y : Nat) : Int)) := Lib.hid (by
        have h1 := Nt.sub_end (a := a) (b := b) hls.out hos.out (by have := HLA.out; omega) (by have := HLB.out; omega) hc0 (by rw [HVA.out, HVB.out]; omega) hv.out
        rw [h1, HVA.out, HVB.out]; omega)
      rw [Nt.fill_all] at hblk
      go_wp2_with fail
      refine (trimmed_any _ k k s _ hls.out hblk.ints (Nat.le_refl _) (by omega)).mono ?_
      rintro e w' ⟨t, rfl, ht, hvt, hlt, rfl⟩
      have HVT := Lib.hid hvt
      have HLT := Lib.hid hlt
      clear hvt hlt
      go_wp2
      go_ret2
      exact ⟨⟨_, rfl, Kt.Num.take hblk (Nat.le_refl _) hos.out HV.out (by have := hls.out; omega) HVT.out HLT.out ht⟩, hbel⟩

theorem sub_less (A B : Option Addr) (n m ca cb : Nat) (a b : List Int) (x y : Nat) (w : World) (hla : a.length = n) (hlb : b.length = m) (ha : Kt.Ints w w.heap.size .u32 A a) (hb : Kt.Ints w w.heap.size .u32 B b)
    (hra : rightB a = true) (hrb : rightB b = true) (hx : a = Nt.limbs x) (hy : b = Nt.limbs y) (hlt : x < y) :
    Calls Try.prog 23 #[.slice A n ca, .slice B m cb] w fun e w' => e = .returned (.tuple #[.slice none 0 0, .int .i64 2]) ∧ Below w.heap.size w w' := by
  have hn := len_right hra
  have hm := len_right hrb
  rw [hla] at hn
  rw [hlb] at hm
  have HLA := Lib.hid hla
  have HLB := Lib.hid hlb
  have HRA := Lib.hid hra
  have HRB := Lib.hid hrb
  have HX := Lib.hid hx
  have HY := Lib.hid hy
  clear hla hlb hra hrb hx hy
  have HCV : Hid (Nt.cmpV x y = -1) := Lib.hid (by rw [Nt.cmpV, if_pos hlt])
  go_enter Try.func23, Try.ntmps23
  go_wp2_with fail
  refine (right_any A n ca a _ HLA.out ha (by omega)).mono ?_
  rw [HRA.out]
  rintro e w' ⟨rfl, rfl⟩
  go_wp2_with fail
  refine (right_any B m cb b _ HLB.out hb (by omega)).mono ?_
  rw [HRB.out]
  rintro e w' ⟨rfl, rfl⟩
  go_wp2_with fail
  refine (compared_any A B n m ca cb a b x y _ HLA.out HLB.out ha hb (by omega) HX.out HY.out).mono ?_
  rw [HCV.out]
  rintro e w' ⟨rfl, nd, rfl⟩
  go_wp2
  go_ret2
  exact ⟨rfl, Kt.below_of_drewN _ _⟩

end Go.Proofs.Ytfjdhclpcbgdbaa
