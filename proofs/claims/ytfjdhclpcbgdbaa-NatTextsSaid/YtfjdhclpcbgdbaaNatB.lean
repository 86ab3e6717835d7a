/- What Add32, adder and Add of the number package return: their walks. -/
import Derived.Test.YtfjdhclpcbgdbaaNatA
namespace Go.Proofs.Ytfjdhclpcbgdbaa
open Go Go.RowKit

theorem add32_any (x y c : Int) (w : World) (hx0 : 0 ≤ x) (hx1 : x ≤ 4294967295) (hy0 : 0 ≤ y) (hy1 : y ≤ 4294967295) (hc0 : 0 ≤ c) (hc1 : c ≤ 1) :
    Calls Try.prog 58 #[.int .u32 x, .int .u32 y, .int .u32 c] w fun e w' => e = .returned (.tuple #[.int .u32 ((x + y + c) % 4294967296), .int .u32 ((x + y + c) / 4294967296)]) ∧ w = w' := by
  go_enter Try.func58, Try.ntmps58
  go_wp2
  go_ret2
  exact ⟨Kt.ret_ii rfl rfl, rfl⟩
theorem clo_add (b : Nat) (x y c : Int) (w : World) (h : w.cell? ⟨b, 0, none⟩ = some (.int .u32 c)) (hf : w.frozen? ⟨b, 0, none⟩ = false) (hx0 : 0 ≤ x) (hx1 : x ≤ 4294967295) (hy0 : 0 ≤ y) (hy1 : y ≤ 4294967295) (hc0 : 0 ≤ c) (hc1 : c ≤ 1) :
    Calls Try.prog 57 #[.int .u32 x, .int .u32 y, .pointer (some ⟨b, 0, none⟩)] w fun e w' => e = .returned (.int .u32 ((x + y + c) % 4294967296)) ∧ w.setCell ⟨b, 0, none⟩ (.int .u32 ((x + y + c) / 4294967296)) = w' := by
  go_enter Try.func57, Try.ntmps57
  go_wp2_with (go_at_call 58; refine (add32_any _ _ _ _ hx0 hx1 hy0 hy1 hc0 hc1).mono ?_; rintro e w' ⟨rfl, rfl⟩)
  go_ret
  exact ⟨rfl, rfl⟩

theorem adder_any (w : World) : Calls Try.prog 38 #[] w fun e w' => e = .returned (.func (.func 57) #[] #[.pointer (some ⟨w.heap.size, 0, none⟩)]) ∧ w.alloc (.cells #[.int .u32 0] 33) = w' := by
  go_enter Try.func38, Try.ntmps38
  go_wp2
  go_ret
  exact ⟨rfl, rfl⟩

/-- A call handed back the number x, or that it is too long. -/
def Got (w : World) (x : Nat) (e : Ending) (w' : World) : Prop :=
  (((Nt.limbs x).length ≤ 1024 ∧ ∃ v, e = .returned (.tuple #[v, .int .i64 0]) ∧ Kt.Num w' w.heap.size v x) ∨ (1024 < (Nt.limbs x).length ∧ e = .returned (.tuple #[.slice none 0 0, .int .i64 3]))) ∧ Below w.heap.size w w'
theorem len_right {l : List Int} (h : rightB l = true) : l.length ≤ 1024 := by
  simp only [rightB, Bool.and_eq_true, decide_eq_true_eq] at h
  exact h.1

theorem got_ok {w w1 : World} {g : Nat} {T : TypeId} {ys : List Int} {x k c : Nat} (h : Kt.IBlk w1 g T .u32 ys) (hg : w.heap.size ≤ g) (ho : Nt.Ok ys) (hv : Nt.V ys = (x : Int)) (hk : k ≤ ys.length) (he : Nt.V (ys.take k) = Nt.V ys) (hl : k = 0 ∨ Ls.nth ys (k - 1) ≠ 0) (hc : k ≤ c) (hf : k ≤ 1024) (hb : Below w.heap.size w w1) :
    Got w x (.returned (.tuple #[.slice (some ⟨g, 0, none⟩) k c, .int .i64 0])) w1 := by
  refine ⟨.inl ⟨?_, _, rfl, Kt.Num.take h hg ho hv hk he hl hc⟩, hb⟩
  rw [Nt.limbs_take ho hv hk he hl, List.length_take]
  omega
theorem got_long {w w1 : World} {ys : List Int} {x k : Nat} (ho : Nt.Ok ys) (hv : Nt.V ys = (x : Int)) (hk : k ≤ ys.length) (he : Nt.V (ys.take k) = Nt.V ys) (hl : k = 0 ∨ Ls.nth ys (k - 1) ≠ 0) (hf : 1024 < k) (hb : Below w.heap.size w w1) :
    Got w x (.returned (.tuple #[.slice none 0 0, .int .i64 3])) w1 := by
  refine ⟨.inr ⟨?_, rfl⟩, hb⟩
  rw [Nt.limbs_take ho hv hk he hl, List.length_take]
  omega

theorem add_rel {w wr : World} {s : List Int} {n k : Nat} {cy cy' v : Int} (hblk : Kt.IBlk wr w.heap.size 33 .u32 (s ++ Ls.zeros (n + 1 - k))) (hcb : Kt.Blk wr (w.heap.size + 1) 33 #[.int .u32 cy]) (hls : s.length = k) (hlt : k < n + 1) (hbel : Below w.heap.size w wr) :
    Kt.IBlk ((wr.setCell ⟨w.heap.size + 1, 0, none⟩ (.int .u32 cy')).setCell ⟨w.heap.size, k, none⟩ (.int .u32 v)) w.heap.size 33 .u32 ((s ++ [v]) ++ Ls.zeros (n + 1 - (k + 1))) ∧
    Kt.Blk ((wr.setCell ⟨w.heap.size + 1, 0, none⟩ (.int .u32 cy')).setCell ⟨w.heap.size, k, none⟩ (.int .u32 v)) (w.heap.size + 1) 33 #[.int .u32 cy'] ∧
    Below w.heap.size w ((wr.setCell ⟨w.heap.size + 1, 0, none⟩ (.int .u32 cy')).setCell ⟨w.heap.size, k, none⟩ (.int .u32 v)) := by
  refine ⟨?_, ?_, (hbel.setCell (by simp) _).setCell (Nat.le_refl _) _⟩
  · rw [← Nt.fill_set v hls hlt]
    exact (hblk.far (by simp) _).set_ _ _
  · exact (hcb.set_ 0 (.int .u32 cy')).far (by simp) _

set_option maxHeartbeats 4000000 in
theorem add_ge (A B : Option Addr) (n m ca cb : Nat) (a b : List Int) (x : Nat) (w : World) (hla : a.length = n) (hlb : b.length = m) (ha : Kt.Ints w w.heap.size .u32 A a) (hb : Kt.Ints w w.heap.size .u32 B b)
    (hra : rightB a = true) (hrb : rightB b = true) (hoa : Nt.Ok a) (hob : Nt.Ok b) (hnm : m ≤ n) (hn : n ≤ 1024) (hx : Nt.V a + Nt.V b = (x : Int)) :
    Calls Try.prog 22 #[.slice A n ca, .slice B m cb] w (Got w x) := by
  have HLA := Lib.hid hla
  have HLB := Lib.hid hlb
  have HRA := Lib.hid hra
  have HRB := Lib.hid hrb
  have HX := Lib.hid hx
  have HOA := Lib.hid hoa
  have HOB := Lib.hid hob
  clear hla hlb hra hrb hx hoa hob
  obtain ⟨i0, hi0, hz0, hz1, hz2⟩ := info_parts Try.infoU32
  have hmk := fun W => Kt.run_make_ints (P := Try.prog) 22 33 i0 .u32 Try.underlying22 hi0 hz0 hz1 (by omega) (n + 1) (by omega) W
  clear hi0 hz0 hz1 hz2
  simp only [show ((n + 1 : Nat) : Int) = (n : Int) + 1 from by omega] at hmk
  have hd : decide (n < m) = false := by simp; omega
  go_enter Try.func22, Try.ntmps22
  go_wp2_with fail
  refine (right_any A n ca a _ HLA.out ha (by omega)).mono ?_
  rw [HRA.out]
  rintro e w' ⟨rfl, rfl⟩
  go_wp2_with fail
  refine (right_any B m cb b _ HLB.out hb (by omega)).mono ?_
  rw [HRB.out]
  rintro e w' ⟨rfl, rfl⟩
  go_wp2_with (go_at_call 38; refine (adder_any _).mono ?_; rintro e w' ⟨rfl, rfl⟩)
  clear hmk
  go_loopw [33] (fun i wr => ∃ (k : Nat) (cy : Int) (s : List Int), k ≤ n + 1 ∧ i = .int .i64 k ∧ 0 ≤ cy ∧ cy ≤ 1 ∧ Kt.IBlk wr w.heap.size 33 .u32 (s ++ Ls.zeros (n + 1 - k)) ∧ Kt.Blk wr (w.heap.size + 1) 33 #[.int .u32 cy] ∧ Hid (s.length = k) ∧ Hid (Nt.Ok s) ∧ Hid (Nt.V s + Nt.P k * cy = Nt.V (a.take k) + Nt.V (b.take k)) ∧ Below w.heap.size w wr) (fun i _ => n + 1 - (intOf i).toNat)
  case atStart => exact ⟨0, 0, [], Nat.zero_le _, rfl, by omega, by omega, (Kt.IBlk.new _ _ _ _).alloc _, Kt.Blk.new' _ _ _ _ (by simp), Lib.hid rfl, Lib.hid Nt.Ok.nil, Lib.hid (by simp [Nt.V]), ((Below.refl _ _).alloc (Nat.le_refl _) _).alloc (by simp) _⟩
  case round =>
    obtain ⟨k, cy, s, hk, rfl, hc0, hc1, hblk, hcb, hls, hos, hv, hbel⟩ := hrel
    by_cases hlt : k < n + 1
    · have hcc := hcb.cell 0
      have hcf := hcb.frozen 0
      have hfr := hblk.frozen k
      have hcell3 := hblk.cell k (by rw [Nt.fill_len hls.out (by omega)]; exact hlt)
      by_cases hltn : k < n
      · obtain ⟨b1, o1, rfl, hb1', hcc1⟩ := ha (by have := HLA.out; omega)
        have hcell1 := (hbel.cell (p := ⟨b1, o1 + k, none⟩) hb1').trans (hcc1 k (by have := HLA.out; omega))
        clear hcc1
        obtain ⟨xk, hxk⟩ : ∃ xk, Hid (Ls.nth a k = xk) := ⟨_, Lib.hid rfl⟩
        have hxb := HOA.out.nth_any k
        rw [hxk.out] at hcell1 hxb
        obtain ⟨hx0, hx1⟩ := hxb
        by_cases hltm : k < m
        · obtain ⟨b2, o2, rfl, hb2', hcc2⟩ := hb (by have := HLB.out; omega)
          have hcell2 := (hbel.cell (p := ⟨b2, o2 + k, none⟩) hb2').trans (hcc2 k (by have := HLB.out; omega))
          clear hcc2
          obtain ⟨yk, hyk⟩ : ∃ yk, Hid (Ls.nth b k = yk) := ⟨_, Lib.hid rfl⟩
          have hyb := HOB.out.nth_any k
          rw [hyk.out] at hcell2 hyb
          obtain ⟨hy0, hy1⟩ := hyb
          go_wp2_with fail
          refine (clo_add _ xk yk cy _ hcc hcf hx0 hx1 hy0 hy1 hc0 hc1).mono ?_
          rintro e w' ⟨rfl, rfl⟩
          have hq := add_rel (v := (xk + yk + cy) % 4294967296) (cy' := (xk + yk + cy) / 4294967296) hblk hcb hls.out hlt hbel
          go_wp2_with fail
          go_roundw
          case rel => exact ⟨k + 1, (xk + yk + cy) / 4294967296, s ++ [(xk + yk + cy) % 4294967296], by omega, by go_num, by omega, by omega, hq.1, hq.2.1, Lib.hid (by rw [List.length_append, hls.out]; rfl), Lib.hid (hos.out.append (Nt.Ok.one (by omega) (by omega))), Lib.hid (by rw [Nt.V_add_step hls.out hv.out rfl, Nt.V_take_nth, Nt.V_take_nth, hxk.out, hyk.out]), hq.2.2⟩
          case measure => simp [intOf]; omega
        · have hyk : Hid (Ls.nth b k = 0) := Lib.hid (Nt.nth_out (by have := HLB.out; omega))
          go_wp2_with fail
          refine (clo_add _ xk 0 cy _ hcc hcf hx0 hx1 (by omega) (by omega) hc0 hc1).mono ?_
          rintro e w' ⟨rfl, rfl⟩
          have hq := add_rel (v := (xk + 0 + cy) % 4294967296) (cy' := (xk + 0 + cy) / 4294967296) hblk hcb hls.out hlt hbel
          go_wp2_with fail
          go_roundw
          case rel => exact ⟨k + 1, (xk + 0 + cy) / 4294967296, s ++ [(xk + 0 + cy) % 4294967296], by omega, by go_num, by omega, by omega, by first | exact hq.1 | simpa using hq.1, by first | exact hq.2.1 | simpa using hq.2.1, Lib.hid (by rw [List.length_append, hls.out]; rfl), Lib.hid (hos.out.append (Nt.Ok.one (by omega) (by omega))), Lib.hid (by rw [Nt.V_add_step hls.out hv.out rfl, Nt.V_take_nth, Nt.V_take_nth, hxk.out, hyk.out]), by first | exact hq.2.2 | simpa using hq.2.2⟩
          case measure => simp [intOf]; omega
      · have hxk : Hid (Ls.nth a k = 0) := Lib.hid (Nt.nth_out (by have := HLA.out; omega))
        have hyk : Hid (Ls.nth b k = 0) := Lib.hid (Nt.nth_out (by have := HLB.out; omega))
        go_wp2_with fail
        refine (clo_add _ 0 0 cy _ hcc hcf (by omega) (by omega) (by omega) (by omega) hc0 hc1).mono ?_
        rintro e w' ⟨rfl, rfl⟩
        have hq := add_rel (v := (0 + 0 + cy) % 4294967296) (cy' := (0 + 0 + cy) / 4294967296) hblk hcb hls.out hlt hbel
        go_wp2_with fail
        go_roundw
        case rel => exact ⟨k + 1, (0 + 0 + cy) / 4294967296, s ++ [(0 + 0 + cy) % 4294967296], by omega, by go_num, by omega, by omega, by first | exact hq.1 | simpa using hq.1, by first | exact hq.2.1 | simpa using hq.2.1, Lib.hid (by rw [List.length_append, hls.out]; rfl), Lib.hid (hos.out.append (Nt.Ok.one (by omega) (by omega))), Lib.hid (by rw [Nt.V_add_step hls.out hv.out rfl, Nt.V_take_nth, Nt.V_take_nth, hxk.out, hyk.out]), by first | exact hq.2.2 | simpa using hq.2.2⟩
        case measure => simp [intOf]; omega
    · obtain rfl : k = n + 1 := by omega
      have HV : Hid (Nt.V s = (x : Int)) := Lib.hid (by
        rw [Nt.add_end (a := a) (b := b) (n := n) hls.out hos.out HOA.out HOB.out (by have := HLA.out; omega) (by have := HLB.out; omega) hc0 hv.out]; exact HX.out)
      rw [Nt.fill_all] at hblk
      clear hcb
      go_wp2_with fail
      refine (trimmed_any _ (n + 1) (n + 1) s _ hls.out hblk.ints (Nat.le_refl _) (by omega)).mono ?_
      rintro e w' ⟨t, rfl, ht, hvt, hlt, rfl⟩
      have HVT := Lib.hid hvt
      have HLT := Lib.hid hlt
      clear hvt hlt
      by_cases hfit : t ≤ 1024
      · go_wp2
        go_ret2
        exact got_ok hblk (Nat.le_refl _) hos.out HV.out (by have := hls.out; omega) HVT.out HLT.out ht hfit hbel
      · go_wp2
        go_ret2
        exact got_long hos.out HV.out (by have := hls.out; omega) HVT.out HLT.out (by omega) hbel

set_option maxHeartbeats 4000000 in
theorem add_lt (B A : Option Addr) (m n cb ca : Nat) (b a : List Int) (x : Nat) (w : World) (hlb : b.length = m) (hla : a.length = n) (hb : Kt.Ints w w.heap.size .u32 B b) (ha : Kt.Ints w w.heap.size .u32 A a)
    (hrb : rightB b = true) (hra : rightB a = true) (hob : Nt.Ok b) (hoa : Nt.Ok a) (hnm : m < n) (hn : n ≤ 1024) (hx' : Nt.V b + Nt.V a = (x : Int)) :
    Calls Try.prog 22 #[.slice B m cb, .slice A n ca] w (Got w x) := by
  have hx : Nt.V a + Nt.V b = (x : Int) := by omega
  clear hx'
  have HLA := Lib.hid hla
  have HLB := Lib.hid hlb
  have HRA := Lib.hid hra
  have HRB := Lib.hid hrb
  have HX := Lib.hid hx
  have HOA := Lib.hid hoa
  have HOB := Lib.hid hob
  clear hla hlb hra hrb hx hoa hob
  obtain ⟨i0, hi0, hz0, hz1, hz2⟩ := info_parts Try.infoU32
  have hmk := fun W => Kt.run_make_ints (P := Try.prog) 22 33 i0 .u32 Try.underlying22 hi0 hz0 hz1 (by omega) (n + 1) (by omega) W
  clear hi0 hz0 hz1 hz2
  simp only [show ((n + 1 : Nat) : Int) = (n : Int) + 1 from by omega] at hmk
  have hd : decide (m < n) = true := by simp; omega
  go_enter Try.func22, Try.ntmps22
  go_wp2_with fail
  refine (right_any B m cb b _ HLB.out hb (by omega)).mono ?_
  rw [HRB.out]
  rintro e w' ⟨rfl, rfl⟩
  go_wp2_with fail
  refine (right_any A n ca a _ HLA.out ha (by omega)).mono ?_
  rw [HRA.out]
  rintro e w' ⟨rfl, rfl⟩
  go_wp2_with (go_at_call 38; refine (adder_any _).mono ?_; rintro e w' ⟨rfl, rfl⟩)
  clear hmk
  go_loopw [33] (fun i wr => ∃ (k : Nat) (cy : Int) (s : List Int), k ≤ n + 1 ∧ i = .int .i64 k ∧ 0 ≤ cy ∧ cy ≤ 1 ∧ Kt.IBlk wr w.heap.size 33 .u32 (s ++ Ls.zeros (n + 1 - k)) ∧ Kt.Blk wr (w.heap.size + 1) 33 #[.int .u32 cy] ∧ Hid (s.length = k) ∧ Hid (Nt.Ok s) ∧ Hid (Nt.V s + Nt.P k * cy = Nt.V (a.take k) + Nt.V (b.take k)) ∧ Below w.heap.size w wr) (fun i _ => n + 1 - (intOf i).toNat)
  case atStart => exact ⟨0, 0, [], Nat.zero_le _, rfl, by omega, by omega, (Kt.IBlk.new _ _ _ _).alloc _, Kt.Blk.new' _ _ _ _ (by simp), Lib.hid rfl, Lib.hid Nt.Ok.nil, Lib.hid (by simp [Nt.V]), ((Below.refl _ _).alloc (Nat.le_refl _) _).alloc (by simp) _⟩
  case round =>
    obtain ⟨k, cy, s, hk, rfl, hc0, hc1, hblk, hcb, hls, hos, hv, hbel⟩ := hrel
    by_cases hlt : k < n + 1
    · have hcc := hcb.cell 0
      have hcf := hcb.frozen 0
      have hfr := hblk.frozen k
      have hcell3 := hblk.cell k (by rw [Nt.fill_len hls.out (by omega)]; exact hlt)
      by_cases hltn : k < n
      · obtain ⟨b1, o1, rfl, hb1', hcc1⟩ := ha (by have := HLA.out; omega)
        have hcell1 := (hbel.cell (p := ⟨b1, o1 + k, none⟩) hb1').trans (hcc1 k (by have := HLA.out; omega))
        clear hcc1
        obtain ⟨xk, hxk⟩ : ∃ xk, Hid (Ls.nth a k = xk) := ⟨_, Lib.hid rfl⟩
        have hxb := HOA.out.nth_any k
        rw [hxk.out] at hcell1 hxb
        obtain ⟨hx0, hx1⟩ := hxb
        by_cases hltm : k < m
        · obtain ⟨b2, o2, rfl, hb2', hcc2⟩ := hb (by have := HLB.out; omega)
          have hcell2 := (hbel.cell (p := ⟨b2, o2 + k, none⟩) hb2').trans (hcc2 k (by have := HLB.out; omega))
          clear hcc2
          obtain ⟨yk, hyk⟩ : ∃ yk, Hid (Ls.nth b k = yk) := ⟨_, Lib.hid rfl⟩
          have hyb := HOB.out.nth_any k
          rw [hyk.out] at hcell2 hyb
          obtain ⟨hy0, hy1⟩ := hyb
          go_wp2_with fail
          refine (clo_add _ xk yk cy _ hcc hcf hx0 hx1 hy0 hy1 hc0 hc1).mono ?_
          rintro e w' ⟨rfl, rfl⟩
          have hq := add_rel (v := (xk + yk + cy) % 4294967296) (cy' := (xk + yk + cy) / 4294967296) hblk hcb hls.out hlt hbel
          go_wp2_with fail
          go_roundw
          case rel => exact ⟨k + 1, (xk + yk + cy) / 4294967296, s ++ [(xk + yk + cy) % 4294967296], by omega, by go_num, by omega, by omega, hq.1, hq.2.1, Lib.hid (by rw [List.length_append, hls.out]; rfl), Lib.hid (hos.out.append (Nt.Ok.one (by omega) (by omega))), Lib.hid (by rw [Nt.V_add_step hls.out hv.out rfl, Nt.V_take_nth, Nt.V_take_nth, hxk.out, hyk.out]), hq.2.2⟩
          case measure => simp [intOf]; omega
        · have hyk : Hid (Ls.nth b k = 0) := Lib.hid (Nt.nth_out (by have := HLB.out; omega))
          go_wp2_with fail
          refine (clo_add _ xk 0 cy _ hcc hcf hx0 hx1 (by omega) (by omega) hc0 hc1).mono ?_
          rintro e w' ⟨rfl, rfl⟩
          have hq := add_rel (v := (xk + 0 + cy) % 4294967296) (cy' := (xk + 0 + cy) / 4294967296) hblk hcb hls.out hlt hbel
          go_wp2_with fail
          go_roundw
          case rel => exact ⟨k + 1, (xk + 0 + cy) / 4294967296, s ++ [(xk + 0 + cy) % 4294967296], by omega, by go_num, by omega, by omega, by first | exact hq.1 | simpa using hq.1, by first | exact hq.2.1 | simpa using hq.2.1, Lib.hid (by rw [List.length_append, hls.out]; rfl), Lib.hid (hos.out.append (Nt.Ok.one (by omega) (by omega))), Lib.hid (by rw [Nt.V_add_step hls.out hv.out rfl, Nt.V_take_nth, Nt.V_take_nth, hxk.out, hyk.out]), by first | exact hq.2.2 | simpa using hq.2.2⟩
          case measure => simp [intOf]; omega
      · have hxk : Hid (Ls.nth a k = 0) := Lib.hid (Nt.nth_out (by have := HLA.out; omega))
        have hyk : Hid (Ls.nth b k = 0) := Lib.hid (Nt.nth_out (by have := HLB.out; omega))
        go_wp2_with fail
        refine (clo_add _ 0 0 cy _ hcc hcf (by omega) (by omega) (by omega) (by omega) hc0 hc1).mono ?_
        rintro e w' ⟨rfl, rfl⟩
        have hq := add_rel (v := (0 + 0 + cy) % 4294967296) (cy' := (0 + 0 + cy) / 4294967296) hblk hcb hls.out hlt hbel
        go_wp2_with fail
        go_roundw
        case rel => exact ⟨k + 1, (0 + 0 + cy) / 4294967296, s ++ [(0 + 0 + cy) % 4294967296], by omega, by go_num, by omega, by omega, by first | exact hq.1 | simpa using hq.1, by first | exact hq.2.1 | simpa using hq.2.1, Lib.hid (by rw [List.length_append, hls.out]; rfl), Lib.hid (hos.out.append (Nt.Ok.one (by omega) (by omega))), Lib.hid (by rw [Nt.V_add_step hls.out hv.out rfl, Nt.V_take_nth, Nt.V_take_nth, hxk.out, hyk.out]), by first | exact hq.2.2 | simpa using hq.2.2⟩
        case measure => simp [intOf]; omega
    · obtain rfl : k = n + 1 := by omega
      have HV : Hid (Nt.V s = (x : Int)) := Lib.hid (by
        rw [Nt.add_end (a := a) (b := b) (n := n) hls.out hos.out HOA.out HOB.out (by have := HLA.out; omega) (by have := HLB.out; omega) hc0 hv.out]; exact HX.out)
      rw [Nt.fill_all] at hblk
      clear hcb
      go_wp2_with fail
      refine (trimmed_any _ (n + 1) (n + 1) s _ hls.out hblk.ints (Nat.le_refl _) (by omega)).mono ?_
      rintro e w' ⟨t, rfl, ht, hvt, hlt, rfl⟩
      have HVT := Lib.hid hvt
      have HLT := Lib.hid hlt
      clear hvt hlt
      by_cases hfit : t ≤ 1024
      · go_wp2
        go_ret2
        exact got_ok hblk (Nat.le_refl _) hos.out HV.out (by have := hls.out; omega) HVT.out HLT.out ht hfit hbel
      · go_wp2
        go_ret2
        exact got_long hos.out HV.out (by have := hls.out; omega) HVT.out HLT.out (by omega) hbel

end Go.Proofs.Ytfjdhclpcbgdbaa
