/- What Mul of the number package returns: its walk. -/
import Derived.Test.YtfjdhclpcbgdbaaNatB
namespace Go.Proofs.Ytfjdhclpcbgdbaa
open Go Go.RowKit

theorem mul_nil (A B : Option Addr) (n m ca cb : Nat) (a b : List Int) (w : World) (hla : a.length = n) (hlb : b.length = m) (ha : Kt.Ints w w.heap.size .u32 A a) (hb : Kt.Ints w w.heap.size .u32 B b)
    (hra : rightB a = true) (hrb : rightB b = true) (hn : n ≤ 1024) (hm : m ≤ 1024) (h0 : n = 0 ∨ m = 0) :
    Calls Try.prog 16 #[.slice A n ca, .slice B m cb] w (Got w 0) := by
  have HLA := Lib.hid hla
  have HLB := Lib.hid hlb
  have HRA := Lib.hid hra
  have HRB := Lib.hid hrb
  clear hla hlb hra hrb
  rcases h0 with h0 | h0
  · have hb0 : ((n : Int) == 0) = true := by simp [h0]
    have hd := Lib.hid h0
    clear h0
    go_enter Try.func16, Try.ntmps16
    go_wp2_with fail
    refine (right_any A n ca a _ HLA.out ha (by omega)).mono ?_
    rw [HRA.out]
    rintro e w' ⟨rfl, rfl⟩
    go_wp2_with fail
    refine (right_any B m cb b _ HLB.out hb (by omega)).mono ?_
    rw [HRB.out]
    rintro e w' ⟨rfl, rfl⟩
    go_wp2
    go_ret2
    exact ⟨.inl ⟨by decide, _, rfl, Kt.Num.zero _ _⟩, Below.refl _ _⟩
  · have hb0 : ((m : Int) == 0) = true := by simp [h0]
    have hd := Lib.hid h0
    clear h0
    cases hd2 : ((n : Int) == 0)
    all_goals
      go_enter Try.func16, Try.ntmps16
      go_wp2_with fail
      refine (right_any A n ca a _ HLA.out ha (by omega)).mono ?_
      rw [HRA.out]
      rintro e w' ⟨rfl, rfl⟩
      go_wp2_with fail
      refine (right_any B m cb b _ HLB.out hb (by omega)).mono ?_
      rw [HRB.out]
      rintro e w' ⟨rfl, rfl⟩
      go_wp2
      go_ret2
      exact ⟨.inl ⟨by decide, _, rfl, Kt.Num.zero _ _⟩, Below.refl _ _⟩

theorem mul_long (A B : Option Addr) (n m ca cb : Nat) (a b : List Int) (x : Nat) (w : World) (hla : a.length = n) (hlb : b.length = m) (ha : Kt.Ints w w.heap.size .u32 A a) (hb : Kt.Ints w w.heap.size .u32 B b)
    (hra : rightB a = true) (hrb : rightB b = true) (hn : n ≤ 1024) (hm : m ≤ 1024) (hn0 : 0 < n) (hm0 : 0 < m) (hs : 1025 < n + m) (hx : 1024 < (Nt.limbs x).length) :
    Calls Try.prog 16 #[.slice A n ca, .slice B m cb] w (Got w x) := by
  have HLA := Lib.hid hla
  have HLB := Lib.hid hlb
  have HRA := Lib.hid hra
  have HRB := Lib.hid hrb
  have HX := Lib.hid hx
  clear hla hlb hra hrb hx
  have hb0 : ((n : Int) == 0) = false := by simp; omega
  have hb1 : ((m : Int) == 0) = false := by simp; omega
  go_enter Try.func16, Try.ntmps16
  go_wp2_with fail
  refine (right_any A n ca a _ HLA.out ha (by omega)).mono ?_
  rw [HRA.out]
  rintro e w' ⟨rfl, rfl⟩
  go_wp2_with fail
  refine (right_any B m cb b _ HLB.out hb (by omega)).mono ?_
  rw [HRB.out]
  rintro e w' ⟨rfl, rfl⟩
  go_wp2
  go_ret2
  exact ⟨.inr ⟨HX.out, rfl⟩, Below.refl _ _⟩

set_option maxHeartbeats 2000000 in
theorem mul_fits (A B : Option Addr) (n m ca cb : Nat) (a b : List Int) (x : Nat) (w : World) (hla : a.length = n) (hlb : b.length = m) (ha : Kt.Ints w w.heap.size .u32 A a) (hb : Kt.Ints w w.heap.size .u32 B b)
    (hra : rightB a = true) (hrb : rightB b = true) (hoa : Nt.Ok a) (hob : Nt.Ok b) (hn0 : 0 < n) (hm0 : 0 < m) (hs : n + m ≤ 1025) (hx : Nt.V a * Nt.V b = (x : Int)) :
    Calls Try.prog 16 #[.slice A n ca, .slice B m cb] w (Got w x) := by
  have HLA := Lib.hid hla
  have HLB := Lib.hid hlb
  have HRA := Lib.hid hra
  have HRB := Lib.hid hrb
  have HX := Lib.hid hx
  have HOA := Lib.hid hoa
  have HOB := Lib.hid hob
  clear hla hlb hra hrb hx hoa hob
  have hb0 : ((n : Int) == 0) = false := by simp; omega
  have hb1 : ((m : Int) == 0) = false := by simp; omega
  obtain ⟨i0, hi0, hz0, hz1, hz2⟩ := info_parts Try.infoU32
  have hmk := fun W => Kt.run_make_ints (P := Try.prog) 22 33 i0 .u32 Try.underlying22 hi0 hz0 hz1 (by omega) (n + m) (by omega) W
  clear hi0 hz0 hz1 hz2
  simp only [show ((n + m : Nat) : Int) = (n : Int) + (m : Int) from by omega] at hmk
  go_enter Try.func16, Try.ntmps16
  go_wp2_with fail
  refine (right_any A n ca a _ HLA.out ha (by omega)).mono ?_
  rw [HRA.out]
  rintro e w' ⟨rfl, rfl⟩
  go_wp2_with fail
  refine (right_any B m cb b _ HLB.out hb (by omega)).mono ?_
  rw [HRB.out]
  rintro e w' ⟨rfl, rfl⟩
  go_wp2_with fail
  clear hmk
  go_loopw [44] (fun i wr => ∃ (k : Nat) (p : List Int), k ≤ n ∧ i = .int .i64 k ∧ Kt.IBlk wr w.heap.size 33 .u32 p ∧ Hid (p.length = n + m) ∧ Hid (Nt.Ok p) ∧ Hid (Nt.V p = Nt.V (a.take k) * Nt.V b) ∧ Hid (∀ j, k + m ≤ j → Ls.nth p j = 0) ∧ Below w.heap.size w wr) (fun i _ => n - (intOf i).toNat)
  case atStart => exact ⟨0, Ls.zeros (n + m), Nat.zero_le _, rfl, Kt.IBlk.new _ _ _ _, Lib.hid (Ls.zeros_len _), Lib.hid (Nt.Ok.zeros _), Lib.hid (by rw [Nt.V_zeros, List.take_zero, Nt.V, Int.zero_mul]), Lib.hid (fun j _ => Nt.nth_zeros _ _), (Below.refl _ _).alloc (Nat.le_refl _) _⟩
  case round =>
    obtain ⟨k, p, hk, rfl, hblk, hlen, hop, hv, hz, hbel⟩ := hrel
    by_cases hlt : k < n
    · obtain ⟨b1, o1, rfl, hb1', hc1⟩ := ha (by have := HLA.out; omega)
      have hcell1 := (hbel.cell (p := ⟨b1, o1 + k, none⟩) hb1').trans (hc1 k (by have := HLA.out; omega))
      clear hc1
      obtain ⟨xk, hxk⟩ : ∃ xk, Hid (Ls.nth a k = xk) := ⟨_, Lib.hid rfl⟩
      have hxb := HOA.out.nth_any k
      rw [hxk.out] at hcell1 hxb
      obtain ⟨hx0, hx1⟩ := hxb
      go_wp2_with fail
      obtain ⟨wo, rfl⟩ : ∃ wo : World, wo = wr := ⟨_, rfl⟩
      go_loopw [9, 51] (fun c i wr => ∃ (j : Nat) (cy : Int) (q : List Int), j ≤ m ∧ c = .int .u64 cy ∧ i = .int .i64 j ∧ 0 ≤ cy ∧ cy ≤ 4294967295 ∧ Kt.IBlk wr w.heap.size 33 .u32 q ∧ Hid (q.length = n + m) ∧ Hid (Nt.Ok q) ∧ Hid (Nt.V q + Nt.P (k + j) * cy = Nt.V p + Nt.P k * (xk * Nt.V (b.take j))) ∧ Hid (∀ j, k + m ≤ j → Ls.nth q j = 0) ∧ Below w.heap.size w wr) (fun _ i _ => m - (intOf i).toNat)
      case atStart => exact ⟨0, 0, p, Nat.zero_le _, rfl, rfl, by omega, by omega, hblk, hlen, hop, Lib.hid (by simp [Nt.V]), hz, hbel⟩
      case round =>
        obtain ⟨j, cy, q, hj, rfl, rfl, hc0, hc1, hblk2, hlen2, hop2, hv2, hz2, hbel2⟩ := hrel
        by_cases hltj : j < m
        · obtain ⟨b2, o2, rfl, hb2', hc2⟩ := hb (by have := HLB.out; omega)
          have hcell2 := (hbel2.cell (p := ⟨b2, o2 + j, none⟩) hb2').trans (hc2 j (by have := HLB.out; omega))
          clear hc2
          obtain ⟨yj, hyj⟩ : ∃ yj, Hid (Ls.nth b j = yj) := ⟨_, Lib.hid rfl⟩
          have hyb := HOB.out.nth_any j
          rw [hyj.out] at hcell2 hyb
          obtain ⟨hy0, hy1⟩ := hyb
          have hcell3 := hblk2.cell (k + j) (by have := hlen2.out; omega)
          have hfr3 := hblk2.frozen (k + j)
          obtain ⟨z, hzz⟩ : ∃ z, Hid (Ls.nth q (k + j) = z) := ⟨_, Lib.hid rfl⟩
          have hzb := hop2.out.nth_any (k + j)
          rw [hzz.out] at hcell3 hzb
          obtain ⟨hz0, hz1⟩ := hzb
          obtain ⟨hxy0, hxy1⟩ := Nt.mul_bd hx0 hx1 hy0 hy1
          go_wp2
          go_roundw
          case rel => exact ⟨j + 1, (xk * yj + z + cy) / 4294967296, q.set (k + j) ((xk * yj + z + cy) % 4294967296), by omega, rfl, by go_num, by omega, by omega, hblk2.set_ _ _, Lib.hid (by rw [List.length_set]; exact hlen2.out), Lib.hid (hop2.out.set _ (by omega) (by omega)), Lib.hid (Nt.mul_inner (by have := hlen2.out; omega) hv2.out (by rw [hzz.out]) hyj.out), Lib.hid (fun t ht => by rw [Nt.nth_set_ne _ (by omega)]; exact hz2.out t ht), hbel2.setCell (Nat.le_refl _) _⟩
          case measure => simp [intOf]; omega
        · obtain rfl : j = m := by omega
          have hcell3 := hblk2.cell (k + j) (by have := hlen2.out; omega)
          have hfr3 := hblk2.frozen (k + j)
          have HV : Hid (Nt.V (q.set (k + j) cy) = Nt.V (a.take (k + 1)) * Nt.V b) := Lib.hid (Nt.mul_row (by have := hlen2.out; omega) hv.out (by have := hv2.out; rwa [Nt.V_take_all b _ (by have := HLB.out; omega)] at this) (hz2.out _ (Nat.le_refl _)) hxk.out)
          go_wp2
          go_roundw
          case rel => exact ⟨k + 1, q.set (k + j) cy, by omega, by go_num, hblk2.set_ _ _, Lib.hid (by rw [List.length_set]; exact hlen2.out), Lib.hid (hop2.out.set _ (by omega) (by omega)), HV, Lib.hid (fun t ht => by rw [Nt.nth_set_ne _ (by omega)]; exact hz2.out t (by omega)), hbel2.setCell (Nat.le_refl _) _⟩
          case measure => simp [intOf]; omega
    · obtain rfl : k = n := by omega
      have HV : Hid (Nt.V p = (x : Int)) := Lib.hid (by rw [hv.out, Nt.V_take_all a _ (by have := HLA.out; omega)]; exact HX.out)
      go_wp2_with fail
      refine (trimmed_any _ (k + m) (k + m) p _ hlen.out hblk.ints (Nat.le_refl _) (by omega)).mono ?_
      rintro e w' ⟨t, rfl, ht, hvt, hlt, rfl⟩
      have HVT := Lib.hid hvt
      have HLT := Lib.hid hlt
      clear hvt hlt
      by_cases hfit : t ≤ 1024
      · go_wp2
        go_ret2
        exact got_ok hblk (Nat.le_refl _) hop.out HV.out (by have := hlen.out; omega) HVT.out HLT.out ht hfit hbel
      · go_wp2
        go_ret2
        exact got_long hop.out HV.out (by have := hlen.out; omega) HVT.out HLT.out (by omega) hbel

theorem right_R {l : List Int} (ho : Nt.Ok l) (h : rightB l = true) : Nt.R l := by
  refine ⟨ho, ?_⟩
  simp only [rightB, Bool.and_eq_true, Bool.or_eq_true, decide_eq_true_eq, bne_iff_ne, ne_eq] at h
  rcases h.2 with h2 | h2
  · exact .inl (List.eq_nil_of_length_eq_zero h2)
  · exact .inr h2
theorem mul_any (A B : Option Addr) (n m ca cb : Nat) (a b : List Int) (x : Nat) (w : World) (hla : a.length = n) (hlb : b.length = m) (ha : Kt.Ints w w.heap.size .u32 A a) (hb : Kt.Ints w w.heap.size .u32 B b)
    (hra : rightB a = true) (hrb : rightB b = true) (hoa : Nt.Ok a) (hob : Nt.Ok b) (hx : Nt.V a * Nt.V b = (x : Int)) :
    Calls Try.prog 16 #[.slice A n ca, .slice B m cb] w (Got w x) := by
  have h1 := len_right hra
  have h2 := len_right hrb
  by_cases h0 : n = 0 ∨ m = 0
  · have e : x = 0 := by
      rcases h0 with h0 | h0
      · have : a = [] := List.eq_nil_of_length_eq_zero (by omega)
        rw [this, Nt.V, Int.zero_mul] at hx; omega
      · have : b = [] := List.eq_nil_of_length_eq_zero (by omega)
        rw [this, Nt.V, Int.mul_zero] at hx; omega
    subst e
    exact mul_nil A B n m ca cb a b w hla hlb ha hb hra hrb (by omega) (by omega) h0
  · by_cases hs : n + m ≤ 1025
    · exact mul_fits A B n m ca cb a b x w hla hlb ha hb hra hrb hoa hob (by omega) (by omega) hs hx
    · refine mul_long A B n m ca cb a b x w hla hlb ha hb hra hrb (by omega) (by omega) (by omega) (by omega) (by omega) ?_
      have hl := Nt.mul_low (right_R hoa hra) (right_R hob hrb) (by intro e; rw [e] at hla; simp at hla; omega) (by intro e; rw [e] at hlb; simp at hlb; omega)
      rw [hx, hla, hlb] at hl
      rcases Nat.lt_or_ge 1024 (Nt.limbs x).length with h | h
      · exact h
      · have := (Nt.len_le_iff x 1024).1 h
        have := Nt.P_mono (show 1024 ≤ n + m - 2 by omega)
        omega

end Go.Proofs.Ytfjdhclpcbgdbaa
