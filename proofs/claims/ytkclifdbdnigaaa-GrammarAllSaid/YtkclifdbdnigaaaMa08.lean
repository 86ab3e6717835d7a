/- Joined: NatC, NatE, NatF, NatG, NatT, NatH. -/
import Derived.Test.YtkclifdbdnigaaaMa07
import Derived.Laws.BitsLemmas
import Derived.Lib.ItoaMem
section
/- What Mul of the number package returns: its walk. -/
namespace Go.Proofs.Ytkclifdbdnigaaa
open Go Go.RowKit

theorem mul_nil (A B : Option Addr) (n m ca cb : Nat) (a b : List Int) (w : World) (hla : a.length = n) (hlb : b.length = m) (ha : Kt.Ints w w.heap.size .u32 A a) (hb : Kt.Ints w w.heap.size .u32 B b)
    (hra : rightB a = true) (hrb : rightB b = true) (hn : n ≤ 1024) (hm : m ≤ 1024) (h0 : n = 0 ∨ m = 0) :
    Calls Try.prog 23 #[.slice A n ca, .slice B m cb] w (Got w 0) := by
  have HLA := Lib.hid hla
  have HLB := Lib.hid hlb
  have HRA := Lib.hid hra
  have HRB := Lib.hid hrb
  clear hla hlb hra hrb
  rcases h0 with h0 | h0
  · have hb0 : ((n : Int) == 0) = true := by simp [h0]
    have hd := Lib.hid h0
    clear h0
    go_enter Try.func23, Try.ntmps23
    go_wp2_with fail
    refine (right_any A n ca a _ HLA.out ha (by omega)).mono ?_
    rw [HRA.out]
    rintro e w' ⟨rfl, rfl⟩
    go_wp2_with fail
    refine (right_any B m cb b _ HLB.out hb (by omega)).mono ?_
    rw [HRB.out]
    rintro e w' ⟨rfl, rfl⟩
    go_wp2
    go_ret2
    exact ⟨.inl ⟨by decide, _, rfl, Kt.Num.zero _ _⟩, Below.refl _ _⟩
  · have hb0 : ((m : Int) == 0) = true := by simp [h0]
    have hd := Lib.hid h0
    clear h0
    cases hd2 : ((n : Int) == 0)
    all_goals
      go_enter Try.func23, Try.ntmps23
      go_wp2_with fail
      refine (right_any A n ca a _ HLA.out ha (by omega)).mono ?_
      rw [HRA.out]
      rintro e w' ⟨rfl, rfl⟩
      go_wp2_with fail
      refine (right_any B m cb b _ HLB.out hb (by omega)).mono ?_
      rw [HRB.out]
      rintro e w' ⟨rfl, rfl⟩
      go_wp2
      go_ret2
      exact ⟨.inl ⟨by decide, _, rfl, Kt.Num.zero _ _⟩, Below.refl _ _⟩

theorem mul_long (A B : Option Addr) (n m ca cb : Nat) (a b : List Int) (x : Nat) (w : World) (hla : a.length = n) (hlb : b.length = m) (ha : Kt.Ints w w.heap.size .u32 A a) (hb : Kt.Ints w w.heap.size .u32 B b)
    (hra : rightB a = true) (hrb : rightB b = true) (hn : n ≤ 1024) (hm : m ≤ 1024) (hn0 : 0 < n) (hm0 : 0 < m) (hs : 1025 < n + m) (hx : 1024 < (Nt.limbs x).length) :
    Calls Try.prog 23 #[.slice A n ca, .slice B m cb] w (Got w x) := by
  have HLA := Lib.hid hla
  have HLB := Lib.hid hlb
  have HRA := Lib.hid hra
  have HRB := Lib.hid hrb
  have HX := Lib.hid hx
  clear hla hlb hra hrb hx
  have hb0 : ((n : Int) == 0) = false := by simp; omega
  have hb1 : ((m : Int) == 0) = false := by simp; omega
  go_enter Try.func23, Try.ntmps23
  go_wp2_with fail
  refine (right_any A n ca a _ HLA.out ha (by omega)).mono ?_
  rw [HRA.out]
  rintro e w' ⟨rfl, rfl⟩
  go_wp2_with fail
  refine (right_any B m cb b _ HLB.out hb (by omega)).mono ?_
  rw [HRB.out]
  rintro e w' ⟨rfl, rfl⟩
  go_wp2
  go_ret2
  exact ⟨.inr ⟨HX.out, rfl⟩, Below.refl _ _⟩

set_option maxHeartbeats 2000000 in
theorem mul_fits (A B : Option Addr) (n m ca cb : Nat) (a b : List Int) (x : Nat) (w : World) (hla : a.length = n) (hlb : b.length = m) (ha : Kt.Ints w w.heap.size .u32 A a) (hb : Kt.Ints w w.heap.size .u32 B b)
    (hra : rightB a = true) (hrb : rightB b = true) (hoa : Nt.Ok a) (hob : Nt.Ok b) (hn0 : 0 < n) (hm0 : 0 < m) (hs : n + m ≤ 1025) (hx : Nt.V a * Nt.V b = (x : Int)) :
    Calls Try.prog 23 #[.slice A n ca, .slice B m cb] w (Got w x) := by
  have HLA := Lib.hid hla
  have HLB := Lib.hid hlb
  have HRA := Lib.hid hra
  have HRB := Lib.hid hrb
  have HX := Lib.hid hx
  have HOA := Lib.hid hoa
  have HOB := Lib.hid hob
  clear hla hlb hra hrb hx hoa hob
  have hb0 : ((n : Int) == 0) = false := by simp; omega
  have hb1 : ((m : Int) == 0) = false := by simp; omega
  obtain ⟨i0, hi0, hz0, hz1, hz2⟩ := info_parts Try.infoU32
  have hmk := fun W => Kt.run_make_ints (P := Try.prog) 47 80 i0 .u32 Try.underlying47 hi0 hz0 hz1 (by omega) (n + m) (by omega) W
  clear hi0 hz0 hz1 hz2
  simp only [show ((n + m : Nat) : Int) = (n : Int) + (m : Int) from by omega] at hmk
  go_enter Try.func23, Try.ntmps23
  go_wp2_with fail
  refine (right_any A n ca a _ HLA.out ha (by omega)).mono ?_
  rw [HRA.out]
  rintro e w' ⟨rfl, rfl⟩
  go_wp2_with fail
  refine (right_any B m cb b _ HLB.out hb (by omega)).mono ?_
  rw [HRB.out]
  rintro e w' ⟨rfl, rfl⟩
  go_wp2_with fail
  clear hmk
  go_loopw [44] (fun i wr => ∃ (k : Nat) (p : List Int), k ≤ n ∧ i = .int .i64 k ∧ Kt.IBlk wr w.heap.size 80 .u32 p ∧ Hid (p.length = n + m) ∧ Hid (Nt.Ok p) ∧ Hid (Nt.V p = Nt.V (a.take k) * Nt.V b) ∧ Hid (∀ j, k + m ≤ j → Ls.nth p j = 0) ∧ Below w.heap.size w wr) (fun i _ => n - (intOf i).toNat)
  case atStart => exact ⟨0, Ls.zeros (n + m), Nat.zero_le _, rfl, Kt.IBlk.new _ _ _ _, Lib.hid (Ls.zeros_len _), Lib.hid (Nt.Ok.zeros _), Lib.hid (by rw [Nt.V_zeros, List.take_zero, Nt.V, Int.zero_mul]), Lib.hid (fun j _ => Nt.nth_zeros _ _), (Below.refl _ _).alloc (Nat.le_refl _) _⟩
  case round =>
    obtain ⟨k, p, hk, rfl, hblk, hlen, hop, hv, hz, hbel⟩ := hrel
    by_cases hlt : k < n
    · obtain ⟨b1, o1, rfl, hb1', hc1⟩ := ha (by have := HLA.out; omega)
      have hcell1 := (hbel.cell (p := ⟨b1, o1 + k, none⟩) hb1').trans (hc1 k (by have := HLA.out; omega))
      clear hc1
      obtain ⟨xk, hxk⟩ : ∃ xk, Hid (Ls.nth a k = xk) := ⟨_, Lib.hid rfl⟩
      have hxb := HOA.out.nth_any k
      rw [hxk.out] at hcell1 hxb
      obtain ⟨hx0, hx1⟩ := hxb
      go_wp2_with fail
      obtain ⟨wo, rfl⟩ : ∃ wo : World, wo = wr := ⟨_, rfl⟩
      go_loopw [9, 51] (fun c i wr => ∃ (j : Nat) (cy : Int) (q : List Int), j ≤ m ∧ c = .int .u64 cy ∧ i = .int .i64 j ∧ 0 ≤ cy ∧ cy ≤ 4294967295 ∧ Kt.IBlk wr w.heap.size 80 .u32 q ∧ Hid (q.length = n + m) ∧ Hid (Nt.Ok q) ∧ Hid (Nt.V q + Nt.P (k + j) * cy = Nt.V p + Nt.P k * (xk * Nt.V (b.take j))) ∧ Hid (∀ j, k + m ≤ j → Ls.nth q j = 0) ∧ Below w.heap.size w wr) (fun _ i _ => m - (intOf i).toNat)
      case atStart => exact ⟨0, 0, p, Nat.zero_le _, rfl, rfl, by omega, by omega, hblk, hlen, hop, Lib.hid (by simp [Nt.V]), hz, hbel⟩
      case round =>
        obtain ⟨j, cy, q, hj, rfl, rfl, hc0, hc1, hblk2, hlen2, hop2, hv2, hz2, hbel2⟩ := hrel
        by_cases hltj : j < m
        · obtain ⟨b2, o2, rfl, hb2', hc2⟩ := hb (by have := HLB.out; omega)
          have hcell2 := (hbel2.cell (p := ⟨b2, o2 + j, none⟩) hb2').trans (hc2 j (by have := HLB.out; omega))
          clear hc2
          obtain ⟨yj, hyj⟩ : ∃ yj, Hid (Ls.nth b j = yj) := ⟨_, Lib.hid rfl⟩
          have hyb := HOB.out.nth_any j
          rw [hyj.out] at hcell2 hyb
          obtain ⟨hy0, hy1⟩ := hyb
          have hcell3 := hblk2.cell (k + j) (by have := hlen2.out; omega)
          have hfr3 := hblk2.frozen (k + j)
          obtain ⟨z, hzz⟩ : ∃ z, Hid (Ls.nth q (k + j) = z) := ⟨_, Lib.hid rfl⟩
          have hzb := hop2.out.nth_any (k + j)
          rw [hzz.out] at hcell3 hzb
          obtain ⟨hz0, hz1⟩ := hzb
          obtain ⟨hxy0, hxy1⟩ := Nt.mul_bd hx0 hx1 hy0 hy1
          go_wp2
          go_roundw
          case rel => exact ⟨j + 1, (xk * yj + z + cy) / 4294967296, q.set (k + j) ((xk * yj + z + cy) % 4294967296), by omega, rfl, by go_num, by omega, by omega, hblk2.set_ _ _, Lib.hid (by rw [List.length_set]; exact hlen2.out), Lib.hid (hop2.out.set _ (by omega) (by omega)), Lib.hid (Nt.mul_inner (by have := hlen2.out; omega) hv2.out (by rw [hzz.out]) hyj.out), Lib.hid (fun t ht => by rw [Nt.nth_set_ne _ (by omega)]; exact hz2.out t ht), hbel2.setCell (Nat.le_refl _) _⟩
          case measure => simp [intOf]; omega
        · obtain rfl : j = m := by omega
          have hcell3 := hblk2.cell (k + j) (by have := hlen2.out; omega)
          have hfr3 := hblk2.frozen (k + j)
          have HV : Hid (Nt.V (q.set (k + j) cy) = Nt.V (a.take (k + 1)) * Nt.V b) := Lib.hid (Nt.mul_row (by have := hlen2.out; omega) hv.out (by have := hv2.out; rwa [Nt.V_take_all b _ (by have := HLB.out; omega)] at this) (hz2.out _ (Nat.le_refl _)) hxk.out)
          go_wp2
          go_roundw
          case rel => exact ⟨k + 1, q.set (k + j) cy, by omega, by go_num, hblk2.set_ _ _, Lib.hid (by rw [List.length_set]; exact hlen2.out), Lib.hid (hop2.out.set _ (by omega) (by omega)), HV, Lib.hid (fun t ht => by rw [Nt.nth_set_ne _ (by omega)]; exact hz2.out t (by omega)), hbel2.setCell (Nat.le_refl _) _⟩
          case measure => simp [intOf]; omega
    · obtain rfl : k = n := by omega
      have HV : Hid (Nt.V p = (x : Int)) := Lib.hid (by rw [hv.out, Nt.V_take_all a _ (by have := HLA.out; omega)]; exact HX.out)
      go_wp2_with fail
      refine (trimmed_any _ (k + m) (k + m) p _ hlen.out hblk.ints (Nat.le_refl _) (by omega)).mono ?_
      rintro e w' ⟨t, rfl, ht, hvt, hlt, rfl⟩
      have HVT := Lib.hid hvt
      have HLT := Lib.hid hlt
      clear hvt hlt
      by_cases hfit : t ≤ 1024
      · go_wp2
        go_ret2
        exact got_ok hblk (Nat.le_refl _) hop.out HV.out (by have := hlen.out; omega) HVT.out HLT.out ht hfit hbel
      · go_wp2
        go_ret2
        exact got_long hop.out HV.out (by have := hlen.out; omega) HVT.out HLT.out (by omega) hbel

theorem right_R {l : List Int} (ho : Nt.Ok l) (h : rightB l = true) : Nt.R l := by
  refine ⟨ho, ?_⟩
  simp only [rightB, Bool.and_eq_true, Bool.or_eq_true, decide_eq_true_eq, bne_iff_ne, ne_eq] at h
  rcases h.2 with h2 | h2
  · exact .inl (List.eq_nil_of_length_eq_zero h2)
  · exact .inr h2
theorem mul_any (A B : Option Addr) (n m ca cb : Nat) (a b : List Int) (x : Nat) (w : World) (hla : a.length = n) (hlb : b.length = m) (ha : Kt.Ints w w.heap.size .u32 A a) (hb : Kt.Ints w w.heap.size .u32 B b)
    (hra : rightB a = true) (hrb : rightB b = true) (hoa : Nt.Ok a) (hob : Nt.Ok b) (hx : Nt.V a * Nt.V b = (x : Int)) :
    Calls Try.prog 23 #[.slice A n ca, .slice B m cb] w (Got w x) := by
  have h1 := len_right hra
  have h2 := len_right hrb
  by_cases h0 : n = 0 ∨ m = 0
  · have e : x = 0 := by
      rcases h0 with h0 | h0
      · have : a = [] := List.eq_nil_of_length_eq_zero (by omega)
        rw [this, Nt.V, Int.zero_mul] at hx; omega
      · have : b = [] := List.eq_nil_of_length_eq_zero (by omega)
        rw [this, Nt.V, Int.mul_zero] at hx; omega
    subst e
    exact mul_nil A B n m ca cb a b w hla hlb ha hb hra hrb (by omega) (by omega) h0
  · by_cases hs : n + m ≤ 1025
    · exact mul_fits A B n m ca cb a b x w hla hlb ha hb hra hrb hoa hob (by omega) (by omega) hs hx
    · refine mul_long A B n m ca cb a b x w hla hlb ha hb hra hrb (by omega) (by omega) (by omega) (by omega) (by omega) ?_
      have hl := Nt.mul_low (right_R hoa hra) (right_R hob hrb) (by intro e; rw [e] at hla; simp at hla; omega) (by intro e; rw [e] at hlb; simp at hlb; omega)
      rw [hx, hla, hlb] at hl
      rcases Nat.lt_or_ge 1024 (Nt.limbs x).length with h | h
      · exact h
      · have := (Nt.len_le_iff x 1024).1 h
        have := Nt.P_mono (show 1024 ≤ n + m - 2 by omega)
        omega

end Go.Proofs.Ytkclifdbdnigaaa
end
section
/- What Of, Uint and Cmp of the number package return, and what the statements' own helpers do: their walks. -/
namespace Go.Proofs.Ytkclifdbdnigaaa
open Go Go.RowKit

/-! ### Of -/
theorem of_any (n : Int) (x : Nat) (w : World) (h : n = (x : Int)) (hx : n ≤ 18446744073709551615) :
    Calls Try.prog 22 #[.int .u64 n] w fun e w' => (∃ v, e = .returned v ∧ Kt.Num w' w.heap.size v x) ∧ Below w.heap.size w w' := by
  have h0 : 0 ≤ n := by omega
  have H := Lib.hid h
  clear h
  have hblk : Kt.IBlk (w.alloc (.cells #[.int .u32 (n % 4294967296), .int .u32 (n / 4294967296)] 80)) w.heap.size 80 .u32 [n % 4294967296, n / 4294967296] := Kt.Blk.new _ _ _
  have HO : Hid (Nt.Ok [n % 4294967296, n / 4294967296]) := Lib.hid (Nt.Ok.cons (by omega) (by omega) (Nt.Ok.one (by omega) (by omega)))
  have HV : Hid (Nt.V [n % 4294967296, n / 4294967296] = (x : Int)) := Lib.hid (by have := H.out; simp only [Nt.V]; omega)
  have HB := Lib.hid hblk
  clear hblk
  go_enter Try.func22, Try.ntmps22
  go_wp2_with fail
  refine (trimmed_any _ 2 2 [n % 4294967296, n / 4294967296] _ rfl HB.out.ints (Nat.le_refl _) (by omega)).mono ?_
  rintro e w' ⟨t, rfl, ht, hvt, hlt, rfl⟩
  have HVT := Lib.hid hvt
  have HLT := Lib.hid hlt
  clear hvt hlt
  go_wp2
  go_ret
  exact ⟨⟨_, rfl, Kt.Num.take HB.out (Nat.le_refl _) HO.out HV.out ht HVT.out HLT.out ht⟩, (Below.refl _ _).alloc (Nat.le_refl _) _⟩

/-! ### Numbers and their slices -/
theorem num_right {x : Nat} (h : (Nt.limbs x).length ≤ 1024) : rightB (Nt.limbs x) = true := by
  have hr := (Nt.limbs_R x).2
  simp only [rightB, Bool.and_eq_true, Bool.or_eq_true, decide_eq_true_eq, bne_iff_ne, ne_eq]
  refine ⟨h, ?_⟩
  rcases hr with hr | hr
  · left; rw [hr]; rfl
  · exact .inr hr
section
variable {w : World} {l1 l2 : Nat} {u v : Value} {x y : Nat}
theorem num_ok (h : Kt.Num w l1 u x) : ∃ A c, u = .slice A (Nt.limbs x).length c ∧ (Nt.limbs x).length ≤ c ∧ Kt.Ints w w.heap.size .u32 A (Nt.limbs x) := by
  obtain ⟨A, c, e, hc, _, hi⟩ := h.ints
  exact ⟨A, c, e, hc, hi⟩
theorem add_num (hx : Kt.Num w l1 u x) (hy : Kt.Num w l2 v y) (h1 : (Nt.limbs x).length ≤ 1024) (h2 : (Nt.limbs y).length ≤ 1024) :
    Calls Try.prog 24 #[u, v] w (Got w (x + y)) := by
  obtain ⟨A, ca, rfl, _, ha⟩ := num_ok hx
  obtain ⟨B, cb, rfl, _, hb⟩ := num_ok hy
  have hv : Nt.V (Nt.limbs x) + Nt.V (Nt.limbs y) = ((x + y : Nat) : Int) := by rw [Nt.V_limbs, Nt.V_limbs]; omega
  by_cases hl : (Nt.limbs y).length ≤ (Nt.limbs x).length
  · exact add_ge A B _ _ ca cb _ _ (x + y) w rfl rfl ha hb (num_right h1) (num_right h2) (Nt.limbs_Ok x) (Nt.limbs_Ok y) hl h1 hv
  · exact add_lt A B _ _ ca cb _ _ (x + y) w rfl rfl ha hb (num_right h1) (num_right h2) (Nt.limbs_Ok x) (Nt.limbs_Ok y) (by omega) h2 hv
theorem mul_num (hx : Kt.Num w l1 u x) (hy : Kt.Num w l2 v y) (h1 : (Nt.limbs x).length ≤ 1024) (h2 : (Nt.limbs y).length ≤ 1024) :
    Calls Try.prog 23 #[u, v] w (Got w (x * y)) := by
  obtain ⟨A, ca, rfl, _, ha⟩ := num_ok hx
  obtain ⟨B, cb, rfl, _, hb⟩ := num_ok hy
  exact mul_any A B _ _ ca cb _ _ (x * y) w rfl rfl ha hb (num_right h1) (num_right h2) (Nt.limbs_Ok x) (Nt.limbs_Ok y) (by rw [Nt.V_limbs, Nt.V_limbs]; simp)
end

/-! ### Cmp -/
theorem cmp_any (A B : Option Addr) (n m ca cb : Nat) (a b : List Int) (x y : Nat) (w : World) (hla : a.length = n) (hlb : b.length = m) (ha : Kt.Ints w w.heap.size .u32 A a) (hb : Kt.Ints w w.heap.size .u32 B b)
    (hra : rightB a = true) (hrb : rightB b = true) (hx : a = Nt.limbs x) (hy : b = Nt.limbs y) :
    Calls Try.prog 57 #[.slice A n ca, .slice B m cb] w fun e w' => e = .returned (.tuple #[.int .i64 (Nt.cmpV x y), .int .i64 0]) ∧ Below w.heap.size w w' := by
  have hn := len_right hra
  have hm := len_right hrb
  rw [hla] at hn
  rw [hlb] at hm
  have HLA := Lib.hid hla
  have HLB := Lib.hid hlb
  have HRA := Lib.hid hra
  have HRB := Lib.hid hrb
  have HX := Lib.hid hx
  have HY := Lib.hid hy
  clear hla hlb hra hrb hx hy
  go_enter Try.func57, Try.ntmps57
  go_wp2_with fail
  refine (right_any A n ca a _ HLA.out ha (by omega)).mono ?_
  rw [HRA.out]
  rintro e w' ⟨rfl, rfl⟩
  go_wp2_with fail
  refine (right_any B m cb b _ HLB.out hb (by omega)).mono ?_
  rw [HRB.out]
  rintro e w' ⟨rfl, rfl⟩
  go_wp2_with fail
  refine (compared_any A B n m ca cb a b x y _ HLA.out HLB.out ha hb (by omega) HX.out HY.out).mono ?_
  rintro e w' ⟨rfl, nd, rfl⟩
  go_wp2
  go_ret2
  exact ⟨rfl, Kt.below_of_drewN _ _⟩
theorem cmp_num {w : World} {l1 l2 : Nat} {u v : Value} {x y : Nat} (hx : Kt.Num w l1 u x) (hy : Kt.Num w l2 v y) (h1 : (Nt.limbs x).length ≤ 1024) (h2 : (Nt.limbs y).length ≤ 1024) :
    Calls Try.prog 57 #[u, v] w fun e w' => e = .returned (.tuple #[.int .i64 (Nt.cmpV x y), .int .i64 0]) ∧ Below w.heap.size w w' := by
  obtain ⟨A, ca, rfl, _, ha⟩ := num_ok hx
  obtain ⟨B, cb, rfl, _, hb⟩ := num_ok hy
  exact cmp_any A B _ _ ca cb _ _ x y w rfl rfl ha hb (num_right h1) (num_right h2) rfl rfl

/-! ### SameLimbs, same -/
def sameB (a b : List Int) : Bool := a == b
theorem same_no {a b : List Int} (h : a.length ≠ b.length) : sameB a b = false := by
  simp only [sameB, beq_eq_false_iff_ne, ne_eq]
  intro e; exact h (by rw [e])
theorem same_at {a b : List Int} {k : Nat} (h : Ls.nth a k ≠ Ls.nth b k) : sameB a b = false := by
  simp only [sameB, beq_eq_false_iff_ne, ne_eq]
  intro e; exact h (by rw [e])
theorem same_all {a b : List Int} (hl : a.length = b.length) (h : ∀ j, j < a.length → Ls.nth a j = Ls.nth b j) : sameB a b = true := by
  simp only [sameB, beq_iff_eq]
  exact Ls.ext_nth hl h
theorem samel_any (A B : Option Addr) (n m ca cb : Nat) (a b : List Int) (w : World) (hn : a.length = n) (hm : b.length = m) (ha : Kt.Ints w w.heap.size .u32 A a) (hb : Kt.Ints w w.heap.size .u32 B b) (hla : n ≤ 4611686018427387904) :
    Calls Try.prog 51 #[.slice A n ca, .slice B m cb] w fun e w' => e = .returned (.bool (sameB a b)) ∧ Below w.heap.size w w' := by
  have HN := Lib.hid hn
  have HM := Lib.hid hm
  clear hn hm
  by_cases hl : n = m
  · have hne : ((n : Int) != (m : Int)) = false := by simp [hl]
    subst hl
    go_enter Try.func51, Try.ntmps51
    go_wp2
    go_loopw [5] (fun i wr => ∃ k : Nat, k ≤ n ∧ i = .int .i64 k ∧ Hid (∀ j, j < k → Ls.nth a j = Ls.nth b j) ∧ ∃ q, wr = w.drewN q) (fun i _ => n - (intOf i).toNat)
    case atStart => exact ⟨0, Nat.zero_le _, rfl, Lib.hid (fun j hj => absurd hj (by omega)), 0, rfl⟩
    case round =>
      obtain ⟨k, hk, rfl, heq, q, rfl⟩ := hrel
      by_cases hlt : k < n
      · obtain ⟨b1, o1, rfl, hb1, hc1⟩ := ha (by have := HN.out; omega)
        obtain ⟨b2, o2, rfl, hb2, hc2⟩ := hb (by have := HM.out; omega)
        have hcell1 := hc1 k (by have := HN.out; omega)
        have hcell2 := hc2 k (by have := HM.out; omega)
        clear hc1 hc2
        by_cases hx : Ls.nth a k = Ls.nth b k
        · have hxb : (Ls.nth a k != Ls.nth b k) = false := by simp [hx]
          have HX := Lib.hid hx
          clear hx
          go_wp2
          go_quiet (fail)
          go_wp2
          go_roundw
          case rel => exact ⟨k + 1, by omega, by go_num, Lib.hid (fun j hj => by
            by_cases e : j = k
            · subst e; exact HX.out
            · exact heq.out j (by omega)), _, by first | rfl | exact World.drewN_drewN _ _ _⟩
          case measure => simp [intOf]; omega
        · have hxb : (Ls.nth a k != Ls.nth b k) = true := by simp [hx]
          have HS := Lib.hid (same_at hx)
          clear hx
          go_wp2
          go_quiet (fail)
          go_wp2
          go_ret
          exact ⟨Kt.ret_bool HS.out.symm, by first | exact Kt.below_of_drewN _ _ | exact Kt.below_drewN (Kt.below_of_drewN _ _) _⟩
      · go_wp2
        go_ret
        exact ⟨Kt.ret_bool (same_all (by rw [HN.out, HM.out]) (fun j hj => heq.out j (by have := HN.out; omega))).symm, Kt.below_of_drewN _ _⟩
  · have hne : ((n : Int) != (m : Int)) = true := by simp; omega
    have HS := Lib.hid (same_no (a := a) (b := b) (by rw [HN.out, HM.out]; exact hl))
    clear hl
    go_enter Try.func51, Try.ntmps51
    go_wp2
    go_ret
    exact ⟨Kt.ret_bool HS.out.symm, Below.refl _ _⟩
theorem same_lists (A B : Option Addr) (n m ca cb : Nat) (a b : List Int) (w : World) (hn : a.length = n) (hm : b.length = m) (ha : Kt.Ints w w.heap.size .u32 A a) (hb : Kt.Ints w w.heap.size .u32 B b) (hla : n ≤ 4611686018427387904) :
    Calls Try.prog 21 #[.slice A n ca, .slice B m cb] w fun e w' => e = .returned (.bool (sameB a b)) ∧ Below w.heap.size w w' := by
  go_enter Try.func21, Try.ntmps21
  go_wp2_with fail
  refine (samel_any A B n m ca cb a b _ hn hm ha hb hla).mono ?_
  rintro e w' ⟨rfl, hbel⟩
  go_wp2
  go_ret
  exact ⟨rfl, hbel⟩
theorem same_limbs (x y : Nat) : sameB (Nt.limbs x) (Nt.limbs y) = decide (x = y) := by
  rw [Bool.eq_iff_iff]
  simp only [sameB, beq_iff_eq, decide_eq_true_eq]
  exact ⟨Nt.limbs_inj, fun e => by rw [e]⟩
theorem same_num {w : World} {l1 l2 : Nat} {u v : Value} {x y : Nat} (hx : Kt.Num w l1 u x) (hy : Kt.Num w l2 v y) (h1 : (Nt.limbs x).length ≤ 4611686018427387904) :
    Calls Try.prog 21 #[u, v] w fun e w' => e = .returned (.bool (decide (x = y))) ∧ Below w.heap.size w w' := by
  obtain ⟨A, ca, rfl, _, ha⟩ := num_ok hx
  obtain ⟨B, cb, rfl, _, hb⟩ := num_ok hy
  rw [← same_limbs]
  exact same_lists A B _ _ ca cb _ _ w rfl rfl ha hb h1

theorem ints_take {w : World} {B : Nat} {k : IntKind} {A : Option Addr} {l : List Int} (h : Kt.Ints w B k A l) (m : Nat) (hm : m ≤ l.length) : Kt.Ints w B k A (l.take m) := fun hp => by
  rw [List.length_take] at hp
  obtain ⟨b, off, e, hb, hc⟩ := h (by omega)
  exact ⟨b, off, e, hb, fun j hj => by rw [List.length_take] at hj; rw [hc j (by omega), Ls.nth_take _ _ _ (by omega)]⟩
end Go.Proofs.Ytkclifdbdnigaaa
end
section
/- What Div32 and divided do: division by one limb. -/
namespace Nt
open Go
theorem or_wide (h l : Int) (h0 : 0 ≤ h) (h1 : h ≤ 4294967295) (l0 : 0 ≤ l) (l1 : l ≤ 4294967295) : bits .or .u64 (h * 4294967296) l = h * 4294967296 + l :=
  bits_join .u64 64 (by decide) (fun n hn hn2 => by rw [IntKind.wrap_u64]; omega) 32 _ _ (by omega) (by omega) (by omega) l0 (by omega) (by omega)
theorem wide_div {h l y : Int} (h0 : 0 ≤ h) (h1 : h < y) (l0 : 0 ≤ l) (l1 : l ≤ 4294967295) : 0 ≤ (h * 4294967296 + l) / y ∧ (h * 4294967296 + l) / y ≤ 4294967295 := by
  refine ⟨Int.ediv_nonneg (by omega) (by omega), ?_⟩
  have : (h * 4294967296 + l) / y < 4294967296 := Int.ediv_lt_of_lt_mul (by omega) (by
    have : (h + 1) * 4294967296 ≤ y * 4294967296 := by omega
    omega)
  omega
/-- One limb of a division, from the highest on. -/
theorem V_div_step {a q : List Int} {k : Nat} {y r z : Int} (hk : k < a.length) (hq : q.length = a.length) (h : V (a.drop (k + 1)) = y * V (q.drop (k + 1)) + r) (hz : z = r * 4294967296 + Ls.nth a k) (hn : Ls.nth q k = z / y) :
    V (a.drop k) = y * V (q.drop k) + z % y := by
  rw [V_drop a k hk, V_drop q k (by omega), h, hn, Int.mul_add, Int.mul_add, Int.mul_left_comm y 4294967296]
  have e := Int.mul_ediv_add_emod z y
  generalize y * V (q.drop (k + 1)) = t
  omega
theorem drop_set {l : List Int} {k : Nat} (x : Int) : (l.set k x).drop (k + 1) = l.drop (k + 1) := by
  rw [List.drop_set, if_pos (by omega)]
end Nt
namespace Go.Proofs.Ytkclifdbdnigaaa
open Go Go.RowKit

theorem div32_any (h l y : Int) (w : World) (h0 : 0 ≤ h) (h1 : h < y) (l0 : 0 ≤ l) (l1 : l ≤ 4294967295) (y1 : y ≤ 4294967295) :
    Calls Try.prog 72 #[.int .u32 h, .int .u32 l, .int .u32 y] w fun e w' => e = .returned (.tuple #[.int .u32 ((h * 4294967296 + l) / y), .int .u32 ((h * 4294967296 + l) % y)]) ∧ ∃ q, w' = w.drewN q := by
  have hy : (y != 0) = true := by simp; omega
  have hle : decide (y ≤ h) = false := by simp; omega
  have HO := Lib.hid (Nt.or_wide h l h0 (by omega) l0 l1)
  obtain ⟨q0, q1⟩ := Nt.wide_div h0 h1 l0 l1
  have r0 : 0 ≤ (h * 4294967296 + l) % y := Int.emod_nonneg _ (by omega)
  have r1 : (h * 4294967296 + l) % y < y := Int.emod_lt_of_pos _ (by omega)
  go_enter Try.func72, Try.ntmps72
  go_wp2
  rw [HO.out]
  have z0 : 0 ≤ h * 4294967296 + l := by omega
  have z1 : h * 4294967296 + l ≤ 18446744073709551615 := by omega
  clear HO
  obtain ⟨z, hz⟩ : ∃ z, Hid (h * 4294967296 + l = z) := ⟨_, Lib.hid rfl⟩
  rw [hz.out] at q0 q1 r0 r1 z0 z1 ⊢
  clear hle h0 h1 l0 l1
  go_quiet (fail)
  go_wp2
  go_ret2
  exact ⟨Kt.ret_ii (by rw [hz.out]) (by rw [hz.out]), _, rfl⟩

set_option maxHeartbeats 400000 in
/-- divided: the limbs of block b become those of the quotient. -/
theorem divided_any (b n cp : Nat) (l : List Int) (y : Int) (w : World) (hl : l.length = n) (hz : Kt.RowAt w b .u32 l) (hok : Nt.Ok l) (hn : n ≤ 4611686018427387904) (y0 : 1 ≤ y) (y1 : y ≤ 4294967295) :
    Calls Try.prog 60 #[.slice (some ⟨b, 0, none⟩) n cp, .int .u32 y] w fun e w' => ∃ q : List Int, e = .returned (.int .u32 (Nt.V l % y)) ∧ q.length = n ∧ Nt.Ok q ∧ Nt.V q = Nt.V l / y ∧ Kt.RowAt w' b .u32 q ∧ Below b w w' := by
  have HL := Lib.hid hl
  have HO := Lib.hid hok
  clear hl hok
  go_enter Try.func60, Try.ntmps60
  go_wp2
  go_loopw [5, 6] (fun r i wr => ∃ (k : Nat) (rest : Int) (q : List Int), k ≤ n ∧ r = .int .u32 rest ∧ i = .int .i64 ((k : Int) - 1) ∧ 0 ≤ rest ∧ rest < y ∧ Kt.RowAt wr b .u32 q ∧ Hid (q.length = n) ∧ Hid (Nt.Ok q) ∧ Hid (Nt.V (l.drop k) = y * Nt.V (q.drop k) + rest) ∧ Hid (∀ j, j < k → Ls.nth q j = Ls.nth l j) ∧ Below b w wr) (fun _ i _ => (intOf i + 1).toNat)
  case atStart => exact ⟨n, 0, l, Nat.le_refl _, rfl, rfl, by omega, by omega, hz, HL, HO, Lib.hid (by rw [List.drop_of_length_le (by rw [HL.out]; exact Nat.le_refl _)]; simp [Nt.V]), Lib.hid (fun _ _ => rfl), Below.refl _ _⟩
  case round =>
    obtain ⟨k, rest, q, hk, rfl, rfl, hr0, hr1, hrow, hlq, hoq, hv, hsame, hbel⟩ := hrel
    by_cases h0 : 0 < k
    · obtain ⟨k, rfl⟩ : ∃ j, k = j + 1 := ⟨k - 1, by omega⟩
      rw [show ((k + 1 : Nat) : Int) - 1 = (k : Int) from by omega]
      have hcell := hrow.cell k (by rw [hlq.out]; omega)
      rw [hsame.out k (by omega)] at hcell
      have hfr := hrow.frozen k
      obtain ⟨x, hx⟩ : ∃ x, Hid (Ls.nth l k = x) := ⟨_, Lib.hid rfl⟩
      have hxb := HO.out.nth_any k
      rw [hx.out] at hcell hxb
      obtain ⟨hx0, hx1⟩ := hxb
      obtain ⟨d0, d1⟩ := Nt.wide_div hr0 hr1 hx0 hx1
      have m0 : 0 ≤ (rest * 4294967296 + x) % y := Int.emod_nonneg _ (by omega)
      have m1 : (rest * 4294967296 + x) % y < y := Int.emod_lt_of_pos _ (by omega)
      obtain ⟨z, hz2⟩ : ∃ z, Hid (rest * 4294967296 + x = z) := ⟨_, Lib.hid rfl⟩
      rw [hz2.out] at d0 d1 m0 m1
      go_wp2_with fail
      refine (div32_any rest x y _ hr0 hr1 hx0 hx1 y1).mono ?_
      rw [hz2.out]
      rintro e w' ⟨rfl, nd, rfl⟩
      go_wp2_with fail
      go_roundw
      case rel => exact ⟨k, z % y, q.set k (z / y), by omega, rfl, by first | rfl | go_num, m0, m1, (hrow.drewN nd).set k (by rw [hlq.out]; omega) _, Lib.hid (by rw [List.length_set]; exact hlq.out), Lib.hid (hoq.out.set _ d0 d1), Lib.hid (Nt.V_div_step (by rw [HL.out]; omega) (by rw [List.length_set, HL.out, hlq.out]) (by rw [Nt.drop_set]; exact hv.out) (by rw [hx.out]; exact hz2.out.symm) (Nt.nth_set_eq _ (by rw [hlq.out]; omega))), Lib.hid (fun j hj => by rw [Nt.nth_set_ne _ (by omega)]; exact hsame.out j (by omega)), (Kt.below_drewN hbel nd).setCell (Nat.le_refl _) _⟩
      case measure => simp [intOf]
    · obtain rfl : k = 0 := by omega
      have hv2 := hv.out
      rw [List.drop_zero, List.drop_zero] at hv2
      have HE : Hid (Nt.V l / y = Nt.V q ∧ Nt.V l % y = rest) := Lib.hid ((Int.ediv_emod_unique (by omega)).2 ⟨by omega, hr0, hr1⟩)
      clear hv2
      go_wp2
      go_ret
      exact ⟨q, Kt.ret_int HE.out.2.symm, hlq.out, hoq.out, HE.out.1.symm, hrow, hbel⟩
end Go.Proofs.Ytkclifdbdnigaaa
end
section
/- What DivMod returns where the dividend is less, and by one limb. -/
namespace Go.Proofs.Ytkclifdbdnigaaa
open Go Go.RowKit

/-- A quotient and a remainder were handed back. -/
def GotDM (w : World) (x y : Nat) (e : Ending) (w' : World) : Prop :=
  ∃ q r, e = .returned (.tuple #[q, r, .int .i64 0]) ∧ Kt.Num w' w.heap.size q (x / y) ∧ Kt.Num w' w.heap.size r (x % y) ∧ Below w.heap.size w w'
theorem copied_num {w : World} {l1 : Nat} {u : Value} {x : Nat} (hx : Kt.Num w l1 u x) (h1 : (Nt.limbs x).length ≤ 1024) :
    Calls Try.prog 58 #[u] w fun e w' => ∃ v, e = .returned v ∧ Kt.Num w' w.heap.size v x ∧ Below w.heap.size w w' := by
  obtain ⟨A, c, rfl, _, hn, ha⟩ := hx.ints
  have h0 : A = none → (Nt.limbs x).length = 0 ∧ c = 0 := fun e => by
    refine ⟨?_, hn e⟩
    rcases Nat.eq_zero_or_pos (Nt.limbs x).length with h | h
    · exact h
    · obtain ⟨b, o, e2, _⟩ := ha h
      rw [e] at e2
      cases e2
  exact copied_any A _ c _ w rfl ha h0 (by omega)
theorem num_ints {w : World} {l n c x : Nat} {A : Option Addr} (h : Kt.Num w l (.slice A n c) x) : Kt.Ints w w.heap.size .u32 A (Nt.limbs x) := by
  obtain ⟨A', c', e, _, hi⟩ := num_ok h
  injection e with e1 _ _
  rw [e1]; exact hi
end Go.Proofs.Ytkclifdbdnigaaa
end
section
/- Plain facts on the decimal digits of numbers. No program in sight. -/
namespace Nt
open Go

/-- The k lowest digits, the highest first. -/
def lowd (n : Nat) : Nat → List Int
  | 0 => []
  | k + 1 => (48 + (n / 10 ^ k % 10 : Nat) : Int) :: lowd n k
theorem lowd_len (n k : Nat) : (lowd n k).length = k := by
  induction k with
  | zero => rfl
  | succ k ih => simp [lowd, ih]
theorem lowd_bd (n k : Nat) : ∀ x ∈ lowd n k, 48 ≤ x ∧ x ≤ 57 := by
  induction k with
  | zero => intro x hx; simp [lowd] at hx
  | succ k ih =>
    intro x hx
    rcases List.mem_cons.1 hx with rfl | hx
    · have := Nat.mod_lt (n / 10 ^ k) (show 0 < 10 by omega)
      omega
    · exact ih x hx
theorem lowd_snoc (n k : Nat) : lowd n (k + 1) = lowd (n / 10) k ++ [(48 + (n % 10 : Nat) : Int)] := by
  induction k with
  | zero => simp [lowd]
  | succ k ih =>
    have e : n / 10 / 10 ^ k = n / 10 ^ (k + 1) := by rw [Nat.div_div_eq_div_mul, Nat.pow_succ, Nat.mul_comm]
    rw [lowd, ih]
    show _ = (48 + (n / 10 / 10 ^ k % 10 : Nat) : Int) :: lowd (n / 10) k ++ _
    rw [e]
    rfl
/-- The bytes of digits. -/
def bytes (l : List Int) : List UInt8 := l.map fun x => UInt8.ofNat x.toNat
theorem dec_step {u : Nat} (h : 10 ≤ u) : Lib.decDigits u = Lib.decDigits (u / 10) ++ [UInt8.ofNat (48 + u % 10)] := by
  rw [Lib.decDigits, dif_neg (by omega)]
/-- Digits without zeros ahead are the number's text. -/
theorem lowd_dec (k : Nat) : ∀ n : Nat, 10 ^ k ≤ n → n < 10 ^ (k + 1) → bytes (lowd n (k + 1)) = Lib.decDigits n := by
  induction k with
  | zero =>
    intro n h1 h2
    rw [Lib.decDigits_one (by simpa using h2)]
    have : n % 10 = n := Nat.mod_eq_of_lt (by simpa using h2)
    have e : (48 + ((n / 10 ^ 0 % 10 : Nat) : Int)).toNat = 48 + n := by rw [Nat.pow_zero, Nat.div_one, this]; omega
    show [UInt8.ofNat (48 + ((n / 10 ^ 0 % 10 : Nat) : Int)).toNat] = _
    rw [e]
  | succ k ih =>
    intro n h1 h2
    rw [Nat.pow_succ] at h1 h2
    have hp : 0 < 10 ^ k := Nat.pow_pos (by omega)
    have h10 : 10 ≤ n := by
      have : 1 * 10 ≤ 10 ^ k * 10 := Nat.mul_le_mul_right 10 hp
      rw [Nat.pow_succ] at h2
      omega
    rw [lowd_snoc, dec_step h10, ← ih (n / 10) (by omega) (by omega)]
    unfold bytes
    rw [List.map_append]
    congr 1
/-- The first digit that is no zero tells how many there are. -/
theorem lowd_top {n k : Nat} (hd : Ls.nth (lowd n (k + 1)) 0 ≠ 48) : 10 ^ k ≤ n := by
  have e : Ls.nth (lowd n (k + 1)) 0 = (48 + (n / 10 ^ k % 10 : Nat) : Int) := rfl
  rw [e] at hd
  rcases Nat.lt_or_ge n (10 ^ k) with h | h
  · rw [Nat.div_eq_of_lt h] at hd; simp at hd
  · exact h
theorem lowd_skip {n k : Nat} (hlt : n < 10 ^ (k + 1)) (hd : Ls.nth (lowd n (k + 1)) 0 = 48) : n < 10 ^ k := by
  have e : Ls.nth (lowd n (k + 1)) 0 = (48 + (n / 10 ^ k % 10 : Nat) : Int) := rfl
  rw [e] at hd
  rw [Nat.pow_succ] at hlt
  have h1 : n / 10 ^ k < 10 := by
    rw [Nat.div_lt_iff_lt_mul (Nat.pow_pos (by omega))]
    omega
  rw [Nat.mod_eq_of_lt h1] at hd
  have h2 : n / 10 ^ k = 0 := by omega
  exact (Nat.div_eq_zero_iff_lt (Nat.pow_pos (by omega))).1 h2
/-- The digit that a chunk of nine gives. -/
theorem chunk_digit (x c t : Nat) (ht : t < 9) : x / 10 ^ (9 * c) % 1000000000 / 10 ^ t % 10 = x / 10 ^ (9 * c + t) % 10 := by
  rw [Nat.pow_add, ← Nat.div_div_eq_div_mul]
  generalize x / 10 ^ (9 * c) = y
  have e : 1000000000 = 10 ^ t * 10 ^ (9 - t) := by rw [← Nat.pow_add, show t + (9 - t) = 9 from by omega]
  rw [e, Nat.mod_mul_right_div_self]
  rw [show 9 - t = (8 - t) + 1 from by omega, Nat.pow_succ, Nat.mul_comm]
  exact Nat.mod_mul_right_mod _ _ _
theorem pow9 (c : Nat) : 10 ^ (9 * (c + 1)) = 10 ^ (9 * c) * 1000000000 := by rw [Nat.mul_add, Nat.pow_add]
theorem big_text (a b k : Nat) (ha : a = 93 * k + 32) (hb : 28 * k + 10 ≤ b) : (2 : Nat) ^ a < 10 ^ b := by
  subst ha
  have h1 : (2 : Nat) ^ 93 ≤ 10 ^ 28 := by decide
  have h2 := Nat.pow_le_pow_left h1 k
  have h3 : (2 : Nat) ^ 32 < 10 ^ 10 := by decide
  rw [← Nat.pow_mul, ← Nat.pow_mul] at h2
  have h4 : (10 : Nat) ^ (28 * k + 10) ≤ 10 ^ b := Nat.pow_le_pow_right (by omega) hb
  rw [Nat.pow_add] at h4 ⊢
  have hp : 0 < (10 : Nat) ^ (28 * k) := Nat.pow_pos (by omega)
  exact Nat.lt_of_lt_of_le (Nat.mul_lt_mul_of_le_of_lt h2 h3 hp) h4
theorem P_pow (k : Nat) : P k = ((2 ^ (32 * k) : Nat) : Int) := by
  induction k with
  | zero => rfl
  | succ k ih =>
    rw [P_succ, ih, Nat.mul_add, Nat.pow_add, Int.natCast_mul, Int.mul_comm]
    rfl
theorem fits_text {x m b : Nat} (h : (limbs x).length ≤ m) (k : Nat) (hk : 32 * m = 93 * k + 32) (hb : 28 * k + 10 ≤ b) : x < 10 ^ b := by
  have h1 := (len_le_iff x m).1 h
  rw [P_pow] at h1
  have h2 : x < 2 ^ (32 * m) := Int.ofNat_lt.1 h1
  exact Nat.lt_trans h2 (big_text _ _ k hk hb)
end Nt
end
section
/- What Text of the number package returns: its walk. -/
namespace Nt
open Go
theorem low_fill (f : Nat) (l : List Int) (v : Int) : (Ls.zeros (f + 1) ++ l).set f v = Ls.zeros f ++ (v :: l) := by
  have e : Ls.zeros (f + 1) = Ls.zeros f ++ [0] := List.replicate_succ'
  rw [e, List.append_assoc, List.set_append_right _ _ (by rw [Ls.zeros_len]; omega), Ls.zeros_len, Nat.sub_self]
  rfl
theorem nth_append_right (a b : List Int) (k : Nat) (h : a.length ≤ k) : Ls.nth (a ++ b) k = Ls.nth b (k - a.length) := by
  unfold Ls.nth
  rw [List.getD, List.getD, List.getElem?_append_right h]
theorem nth_low (n k d : Nat) : Ls.nth (lowd n (k + d)) d = Ls.nth (lowd n k) 0 := by
  induction d with
  | zero => rfl
  | succ d ih => exact ih
theorem low_nth (n f m k : Nat) (hkm : k ≤ m) : Ls.nth (Ls.zeros f ++ lowd n m) (f + m - k) = Ls.nth (lowd n k) 0 := by
  rw [nth_append_right _ _ _ (by rw [Ls.zeros_len]; omega), Ls.zeros_len]
  have e : m = k + (m - k) := by omega
  rw [show f + m - k - f = m - k from by omega]
  have h := nth_low n k (m - k)
  rwa [← e] at h
theorem low_drop (n f m k : Nat) (hkm : k ≤ m) (j : Nat) (_hj : j < k) : Ls.nth (Ls.zeros f ++ lowd n m) (f + m - k + j) = Ls.nth (lowd n k) j := by
  rw [nth_append_right _ _ _ (by rw [Ls.zeros_len]; omega), Ls.zeros_len]
  rw [show f + m - k + j - f = (m - k) + j from by omega]
  have h : ∀ d, Ls.nth (lowd n (k + d)) (d + j) = Ls.nth (lowd n k) j := by
    intro d
    induction d with
    | zero => simp
    | succ d ih => rw [show d + 1 + j = (d + j) + 1 from by omega]; exact ih
  have e := h (m - k)
  rwa [show k + (m - k) = m from by omega] at e
end Nt
namespace Go.Proofs.Ytkclifdbdnigaaa
open Go Go.RowKit

def isZ : Value → Bool
  | .int .u8 n => n == 0
  | _ => false
def zlook (v : Value) : Nat × Bool := match v with
  | .agg cs => (cs.size, cs.toList.all isZ)
  | _ => (0, false)
theorem isZ_eq {v : Value} (h : isZ v = true) : v = .int .u8 0 := by
  unfold isZ at h
  split at h
  · rename_i n
    have e : n = 0 := by simpa using h
    rw [e]
  · cases h
theorem all_zero : ∀ (l : List Value) (n : Nat), l.length = n → l.all isZ = true → l = (Ls.zeros n).map (Value.int .u8)
  | [], n, hn, _ => by simp at hn; subst hn; rfl
  | v :: l, n, hn, h => by
    cases n with
    | zero => simp at hn
    | succ n =>
      simp only [List.all_cons, Bool.and_eq_true] at h
      rw [isZ_eq h.1, all_zero l n (by simpa using hn) h.2]
      rfl
theorem zlookA : ((Try.prog.info? 106).bind (fun i => i.zero)).map zlook = some (9873, true) := by kernel_rfl
theorem zeroA (w : World) : (zeroValue 106).run Try.prog w = .ok (.agg (Kt.IArr .u8 (Ls.zeros 9873))) w := by
  have h := zlookA
  cases hi : Try.prog.info? 106 with
  | none => rw [hi] at h; simp at h
  | some i =>
    rw [hi] at h
    simp only [Option.bind_some] at h
    cases hz : i.zero with
    | none => rw [hz] at h; simp at h
    | some v =>
      rw [hz] at h
      simp only [Option.map_some, Option.some.injEq] at h
      unfold zlook at h
      split at h
      · rename_i cs
        simp only [Prod.mk.injEq] at h
        have e := all_zero cs.toList 9873 (by simpa using h.1) h.2
        have e2 : cs = Kt.IArr .u8 (Ls.zeros 9873) := by
          apply Array.toList_inj.1
          rw [e, Kt.IArr]
        unfold zeroValue
        simp [typeInfo, hi, hz, e2]
      · simp at h

theorem conv_row (w : World) (b off k cap : Nat) (l : List Int) (hl : l.length = k) (hbd : ∀ x ∈ l, 48 ≤ x ∧ x ≤ 57) (hc : ∀ j, j < k → w.cell? ⟨b, off + j, none⟩ = some (.int .u8 (Ls.nth l j))) :
    (Go.convert 108 9 (.slice (some ⟨b, off, none⟩) k cap)).run Try.prog w = .ok (.string ⟨(Nt.bytes l).toArray⟩) w := by
  have hlen : (Nt.bytes l).length = k := by unfold Nt.bytes; rw [List.length_map]; exact hl
  have h := run_convert_bytes_back (P := Try.prog) w 108 9 5 ⟨b, off, none⟩ cap (Nt.bytes l) Try.underlying108 Try.underlying5 Try.underlying9 (fun j hj => by
    rw [hlen] at hj
    have h1 := hc j hj
    have h2 := hbd _ (Ls.nth_mem l j (by omega))
    have e : (Nt.bytes l)[j] = UInt8.ofNat (Ls.nth l j).toNat := by
      rw [Ls.nth_get l j (by omega)]
      simp only [Nt.bytes, List.getElem_map]
    rw [Addr.add_lit, h1, e]
    have e2 : (UInt8.ofNat (Ls.nth l j).toNat).toNat = (Ls.nth l j).toNat := by
      rw [UInt8.toNat_ofNat']
      omega
    rw [e2]
    congr 2
    omega)
  rwa [hlen] at h

theorem ret_si {a b : ByteArray} {n : Int} (h : a = b) : Ending.returned (.tuple #[.string a, .int .i64 n]) = .returned (.tuple #[.string b, .int .i64 n]) := by rw [h]
theorem slice_arr (w : World) (g f k : Nat) (hf : f + k = 9873) (hk : 0 < k) :
    (Instr.sliceAt 106 (.pointer (some ⟨g, 0, none⟩)) (some (.int .i64 (f : Int))) none none).run Try.prog w = .ok (.slice (some ⟨g, f, none⟩) k k) w := by
  have hL : Try.prog.arrayLen 106 = 9873 := by kernel_rfl
  have hs : ∀ w, (sizeOf (Try.prog.elem 106)).run Try.prog w = .ok 1 w := fun w => by kernel_rfl
  rw [run_sliceAt_array_l w 106 _ (by kernel_rfl) .i64 f (by omega) (by rw [hL]; omega), hs]
  simp only [Result.andThen, slicedAt, hL, Int.toNat_natCast]
  rw [if_neg (by omega), Addr.add_lit, show 9873 - f = k from by omega, Nat.zero_add, Nat.mul_one]

set_option maxRecDepth 100000 in
set_option maxHeartbeats 2000000 in
theorem text_at (x : Nat) (l1 : Nat) (A : Option Addr) (n ca : Nat) (w : World) (hx : Kt.Num w l1 (.slice A n ca) x) (hn : (Nt.limbs x).length = n) (h1 : n ≤ 1024) :
    Calls Try.prog 41 #[.slice A n ca] w fun e w' => e = .returned (.tuple #[.string ⟨(Lib.decDigits x).toArray⟩, .int .i64 0]) ∧ Below w.heap.size w w' := by
  have ha := num_ints hx
  have hfits : ∀ M : Nat, M = 9873 → x < 10 ^ M := fun M hM => Nt.fits_text (x := x) (m := 1024) (b := M) (by omega) 352 (by omega) (by omega)
  obtain ⟨M, HM⟩ : ∃ M : Nat, Hid (M = 9873) := ⟨_, Lib.hid rfl⟩
  have HB := Lib.hid (hfits M HM.out)
  clear hfits
  have HN := Lib.hid hn
  have HX := Lib.hid hx
  have HR1 := Lib.hid (num_right (x := x) (by omega))
  clear hn hx
  have hz := zeroA
  go_enter Try.func41, Try.ntmps41
  go_wp2_with fail
  refine (right_any A n ca _ _ HN.out ha (by omega)).mono ?_
  rw [HR1.out]
  rintro e w' ⟨rfl, rfl⟩
  go_wp2_with fail
  clear hz
  refine (copied_num (x := x) (HX.out.alloc _) (by have := HN.out; omega)).mono ?_
  rintro e w1 ⟨v, rfl, hv, hbel⟩
  have hblk0 : Kt.IBlk w1 w.heap.size 106 .u8 (Ls.zeros 9873) := (Kt.IBlk.new w _ _ _).on hbel
  have hsz : (w.alloc (.cells (Kt.IArr .u8 (Ls.zeros 9873)) 106)).heap.size = w.heap.size + 1 := by simp
  rw [hsz] at hv
  have hb1 : Below w.heap.size w w1 := ((Below.refl _ _).alloc (Nat.le_refl _) _).trans (hbel.mono (by simp))
  obtain ⟨A1, c1, rfl, _, _⟩ := num_ok hv
  rw [HN.out] at hv ⊢
  clear hsz hbel
  go_wp2_with fail
  go_loopw [5, 6] (fun u5 u6 wr => ∃ (c f n2 cp : Nat) (A2 : Option Addr), u5 = .int .i64 f ∧ u6 = .slice A2 n2 cp ∧ f ≤ 9873 ∧ n2 ≤ 1024 ∧ Hid (f + 9 * c = 9873) ∧ Hid ((Nt.limbs (x / 10 ^ (9 * c))).length = n2) ∧ Hid (Kt.Num wr (w.heap.size + 1) (.slice A2 n2 cp) (x / 10 ^ (9 * c))) ∧ Kt.IBlk wr w.heap.size 106 .u8 (Ls.zeros f ++ Nt.lowd x (9 * c)) ∧ Below w.heap.size w wr) (fun u _ _ => (intOf u).toNat)
  case atStart => exact ⟨0, 9873, n, c1, A1, rfl, rfl, Nat.le_refl _, h1, Lib.hid rfl, Lib.hid (by simp [HN.out]), Lib.hid (by simpa using hv), by simpa [Nt.lowd] using hblk0, hb1⟩
  case round =>
    obtain ⟨c, f, n2, cp, A2, rfl, rfl, hf, hn2, hfc, hlen, hnum, hblk, hbel⟩ := hrel
    by_cases h0 : 0 < n2
    · obtain ⟨y, hy⟩ : ∃ y, Hid (x / 10 ^ (9 * c) = y) := ⟨_, Lib.hid rfl⟩
      rw [hy.out] at hlen hnum
      have hf9 : 9 ≤ f := by
        have hy0 : y ≠ 0 := fun e => by rw [e] at hlen; have := hlen.out; simp [Nt.limbs_zero] at this; omega
        have h2 : 10 ^ (9 * c) ≤ x := by
          rcases Nat.lt_or_ge x (10 ^ (9 * c)) with h | h
          · exact absurd (by rw [← hy.out]; exact Nat.div_eq_of_lt h) hy0
          · exact h
        have h3 : 9 * c < 9873 := by
          rcases Nat.lt_or_ge (9 * c) M with h | h
          · have := HM.out; omega
          · have h4 := Nat.pow_le_pow_right (show 0 < 10 by omega) h
            exact absurd (Nat.lt_of_lt_of_le HB.out (Nat.le_trans h4 h2)) (Nat.lt_irrefl _)
        have := hfc.out
        omega
      obtain ⟨g, cg, e, hcg, hlo, hrow⟩ := Kt.Row.at _ hnum.out (by have := hlen.out; omega)
      rw [hlen.out] at e hcg
      injection e with e1 e2 e3
      subst e1; subst e3
      clear e2
      go_wp2_with fail
      refine (divided_any g n2 cp (Nt.limbs y) 1000000000 _ hlen.out hrow (Nt.limbs_Ok y) (by omega) (by omega) (by omega)).mono ?_
      rw [Nt.V_limbs]
      rintro e w2 ⟨q, rfl, hlq, hoq, hvq, hrq, hbel2⟩
      have HLQ := Lib.hid hlq
      have HVQ := Lib.hid hvq
      have HOQ := Lib.hid hoq
      have hblk2 := hblk.below hbel2 (by omega)
      have hb2 : Below w.heap.size w w2 := hbel.trans (hbel2.mono (by omega))
      clear hlq hvq hoq hblk hbel hbel2 hrow
      have hch0 : 0 ≤ (y : Int) % 1000000000 := by omega
      have hch1 : (y : Int) % 1000000000 ≤ 999999999 := by omega
      obtain ⟨z, hzz⟩ : ∃ z, Hid ((y : Int) % 1000000000 = z) := ⟨_, Lib.hid rfl⟩
      rw [hzz.out] at hch0 hch1 ⊢
      obtain ⟨z, rfl⟩ := Int.eq_ofNat_of_zero_le hch0
      go_wp2_with fail
      go_loopw [5, 7, 20] (fun u5 u7 i wr => ∃ (t f2 : Nat) (ch : Nat), t ≤ 9 ∧ u5 = .int .i64 f2 ∧ u7 = .int .u32 ch ∧ i = .int .i64 t ∧ f2 ≤ f ∧ Hid (f2 + t = f) ∧ ch ≤ 999999999 ∧ Hid (ch = z / 10 ^ t) ∧ Kt.IBlk wr w.heap.size 106 .u8 (Ls.zeros f2 ++ Nt.lowd x (9 * c + t)) ∧ Kt.RowAt wr g .u32 q ∧ Below w.heap.size w wr) (fun _ _ i _ => 9 - (intOf i).toNat)
      case atStart => exact ⟨0, f, z, by omega, rfl, rfl, rfl, Nat.le_refl _, Lib.hid rfl, by omega, Lib.hid (by simp), hblk2, hrq, hb2⟩
      case round =>
        obtain ⟨t, f2, ch, ht, rfl, rfl, rfl, hf2, hft, hch, hcz, hblk3, hrq3, hb3⟩ := hrel
        by_cases hlt : t < 9
        · obtain ⟨f3, rfl⟩ : ∃ f3, f2 = f3 + 1 := ⟨f2 - 1, by have := hft.out; omega⟩
          rw [show (((f3 + 1 : Nat) : Int)) = (f3 : Int) + 1 from by omega]
          have hcell := hblk3.cell f3 (by rw [List.length_append, Ls.zeros_len]; omega)
          have hfr := hblk3.frozen f3
          have HD : Hid (48 + (ch : Int) % 10 = (48 + (x / 10 ^ (9 * c + t) % 10 : Nat) : Int)) := Lib.hid (by
            rw [← Nt.chunk_digit x c t hlt, hy.out, hcz.out]
            have e : z = y % 1000000000 := by have := hzz.out; omega
            rw [e]
            omega)
          go_wp2_with fail
          go_roundw
          case rel => exact ⟨t + 1, f3, ch / 10, by omega, by first | rfl | go_num, by first | rfl | go_num, by go_num, by omega, Lib.hid (by have := hft.out; omega), by omega, Lib.hid (by rw [hcz.out, Nat.div_div_eq_div_mul, Nat.pow_succ]), by rw [show 9 * c + (t + 1) = (9 * c + t) + 1 from rfl, Nt.lowd, ← HD.out, ← Nt.low_fill]; exact hblk3.set_ _ _, hrq3.far (by show g ≠ w.heap.size; omega) _, hb3.setCell (Nat.le_refl _) _⟩
          case measure => simp [intOf]; omega
        · obtain rfl : t = 9 := by omega
          go_wp2_with fail
          refine (trimmed_any _ n2 cp q _ HLQ.out hrq3.ints hcg (by omega)).mono ?_
          rintro e w' ⟨k, rfl, hk, hvt, hlt2, rfl⟩
          have e1 := Nt.limbs_take (n := y / 1000000000) HOQ.out (by rw [HVQ.out]; simp) (by rw [HLQ.out]; exact hk) hvt hlt2
          have e2 : y / 1000000000 = x / 10 ^ (9 * (c + 1)) := by rw [Nt.pow9, ← Nat.div_div_eq_div_mul, hy.out]
          rw [e2] at e1
          have hlen2 : (q.take k).length = k := by rw [List.length_take, HLQ.out]; omega
          have h5 := (hrq3.take k).row hlo k cp hlen2 (by omega)
          rw [← e1] at h5 hlen2
          have H5 := Lib.hid h5
          have HLEN2 := Lib.hid hlen2
          clear hvt hlt2 e1 e2 hlen2 h5
          go_wp2_with fail
          go_roundw
          case rel => exact ⟨c + 1, f2, k, cp, some ⟨g, 0, none⟩, rfl, rfl, by omega, by omega, Lib.hid (by have := hft.out; have := hfc.out; omega), HLEN2, Lib.hid H5.out, hblk3, hb3⟩
          case measure => simp [intOf]; have := hft.out; omega
    · obtain rfl : n2 = 0 := by omega
      have HZ : Hid (x < 10 ^ (9 * c)) := Lib.hid (by
        have h2 := (Nt.len_zero_iff _).1 hlen.out
        exact (Nat.div_eq_zero_iff_lt (Nat.pow_pos (by omega))).1 h2)
      obtain ⟨m, hm⟩ : ∃ m, Hid (9 * c = m) := ⟨_, Lib.hid rfl⟩
      rw [hm.out] at HZ hblk hfc
      clear hlen hnum
      have hfm := hfc.out
      have HFM := Lib.hid hfm
      have hm9 : m ≤ 9873 := by omega
      clear hfm
      go_wp2_with fail
      obtain ⟨wo, rfl⟩ : ∃ wo : World, wo = wr := ⟨_, rfl⟩
      go_loop [5] (fun u5 => ∃ f2 k : Nat, u5 = .int .i64 f2 ∧ f2 ≤ 9873 ∧ k ≤ m ∧ Hid (f2 + k = 9873) ∧ Hid (x < 10 ^ k)) (fun u5 => 9873 - (intOf u5).toNat)
      case atStart => exact ⟨f, m, rfl, hf, Nat.le_refl _, HFM, HZ⟩
      case round =>
        obtain ⟨f2, k, rfl, hf2, hkm, hfk, hxk⟩ := hrel
        by_cases hlt : f2 < 9873
        · have hk0 : 0 < k := by have := hfk.out; omega
          obtain ⟨k, rfl⟩ : ∃ j, k = j + 1 := ⟨k - 1, by omega⟩
          have hcell := hblk.cell f2 (by rw [List.length_append, Ls.zeros_len, Nt.lowd_len]; have := HFM.out; omega)
          rw [show f2 = f + m - (k + 1) from by have := HFM.out; have := hfk.out; omega, Nt.low_nth x f m (k + 1) hkm, show f + m - (k + 1) = f2 from by have := HFM.out; have := hfk.out; omega] at hcell
          obtain ⟨d, hd⟩ : ∃ d, Hid (Ls.nth (Nt.lowd x (k + 1)) 0 = d) := ⟨_, Lib.hid rfl⟩
          rw [hd.out] at hcell
          cases hdb : (d == 48)
          · have HT : Hid (10 ^ k ≤ x) := Lib.hid (Nt.lowd_top (by rw [hd.out]; simpa using hdb))
            have hne : ((f2 : Int) == 9873) = false := by simp; omega
            have hcv := conv_row wo w.heap.size f2 (k + 1) (k + 1) (Nt.lowd x (k + 1)) (Nt.lowd_len _ _) (Nt.lowd_bd _ _) (fun j hj => by
              rw [hblk.cell (f2 + j) (by rw [List.length_append, Ls.zeros_len, Nt.lowd_len]; have := HFM.out; have := hfk.out; omega)]
              rw [show f2 + j = f + m - (k + 1) + j from by have := HFM.out; have := hfk.out; omega, Nt.low_drop x f m (k + 1) hkm j hj])
            have hsl := slice_arr wo w.heap.size f2 (k + 1) hfk.out (by omega)
            go_wp2_with fail
            go_ret2
            exact ⟨ret_si (by rw [Nt.lowd_dec k x HT.out hxk.out]), hbel⟩
          · have HT : Hid (x < 10 ^ k) := Lib.hid (Nt.lowd_skip hxk.out (by rw [hd.out]; simpa using hdb))
            go_wp2_with fail
            go_round
            case rel => exact ⟨f2 + 1, k, by first | rfl | go_num, by omega, by omega, Lib.hid (by have := hfk.out; omega), HT⟩
            case measure => simp [intOf]; omega
        · obtain rfl : f2 = 9873 := by omega
          have HX0 : Hid (x = 0) := Lib.hid (by
            have e : k = 0 := by have := hfk.out; omega
            have h3 := hxk.out
            rw [e] at h3
            simpa using h3)
          go_wp2_with fail
          go_ret2
          exact ⟨ret_si (by rw [HX0.out, Lib.decDigits_one (by omega)]; rfl), hbel⟩

theorem text_num {w : World} {l1 : Nat} {u : Value} {x : Nat} (hx : Kt.Num w l1 u x) (h1 : (Nt.limbs x).length ≤ 1024) :
    Calls Try.prog 41 #[u] w fun e w' => e = .returned (.tuple #[.string ⟨(Lib.decDigits x).toArray⟩, .int .i64 0]) ∧ Below w.heap.size w w' := by
  obtain ⟨A, c, rfl, _, _⟩ := num_ok hx
  exact text_at x l1 A _ c w hx rfl h1

end Go.Proofs.Ytkclifdbdnigaaa
end
