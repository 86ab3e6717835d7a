/- lists answers true: lists of 0, 1, 1000 and 1001 multiples of three, and six short lists of holidays. -/
import Derived.Test.YtjfgfchnpghpfaaDoorCivilWorksW
import Derived.Test.YtjfgfchnpghpfaaDoorCivilReadsW
namespace Go.Proofs.YtjfgfchnpghpfaaDoor
open Go Go.RowKit
/-- The first multiples of three. -/
def thr (n : Nat) : List Int := (List.range n).map fun (i : Nat) => 3 * (i : Int)
theorem thr_len (n : Nat) : (thr n).length = n := by simp [thr]
theorem thr_nth {n j : Nat} (h : j < n) : Ls.nth (thr n) j = 3 * (j : Int) := by simp [Ls.nth, thr, List.getD, h]
theorem thr_right : Cv.rightH (thr 0) = true ∧ Cv.rightH (thr 1) = true ∧ Cv.rightH (thr 1000) = true := by decide +kernel
theorem thr_wrong : Cv.rightH (thr 1001) = false := by decide +kernel
theorem thr_day : (Cv.wk (thr 0) 0 = true ∧ Cv.cnt (thr 0) 0 - Cv.cnt (thr 0) 0 = 0) ∧ (Cv.wk (thr 1) 1 = true ∧ Cv.cnt (thr 1) 1 - Cv.cnt (thr 1) 0 = 0) ∧ (Cv.wk (thr 1000) 1 = true ∧ Cv.cnt (thr 1000) 1 - Cv.cnt (thr 1000) 0 = 0) := by decide +kernel
theorem thr_all {n : Nat} (h : n = 0 ∨ n = 1 ∨ n = 1000) : Cv.rightH (thr n) = true ∧ ∃ d : Int, 0 ≤ d ∧ d ≤ 730484 ∧ Cv.wk (thr n) d = true ∧ Cv.cnt (thr n) d - Cv.cnt (thr n) 0 = 0 := by
  rcases h with rfl | rfl | rfl
  · exact ⟨thr_right.1, 0, by omega, by omega, thr_day.1⟩
  · exact ⟨thr_right.2.1, 1, by omega, by omega, thr_day.2.1⟩
  · exact ⟨thr_right.2.2, 1, by omega, by omega, thr_day.2.2⟩
theorem cs_rename {P : Program} {c : Code} {Q : Exit → Act → World → Prop} {a : Act} {w w' : World} (h : w = w') (k : c.wp P Q a w') : c.wp P Q a w := by rw [h]; exact k
theorem four {k : Nat} (h : k < 4) : ∃ n : Nat, Ls.nth [0, 1, 1000, 1001] k = (n : Int) ∧ (n = 0 ∨ n = 1 ∨ n = 1000 ∨ n = 1001) := by
  have : k = 0 ∨ k = 1 ∨ k = 2 ∨ k = 3 := by omega
  rcases this with rfl | rfl | rfl | rfl
  · exact ⟨0, rfl, by omega⟩
  · exact ⟨1, rfl, by omega⟩
  · exact ⟨1000, rfl, by omega⟩
  · exact ⟨1001, rfl, by omega⟩
theorem ints_lit' (w : World) (T : TypeId) (k : IntKind) (g : Nat) (zs : List Int) (cs : Array Value) (hcs : cs = (zs.map (Value.int k)).toArray) (hg : g = w.heap.size) :
    Kt.Ints (w.alloc (.cells cs T)) (w.alloc (.cells cs T)).heap.size k (some ⟨g, 0, none⟩) zs := by
  subst hg
  exact Kt.ints_lit w T k zs cs hcs
theorem ints_up {w : World} {k : IntKind} {A : Option Addr} {zs : List Int} (h : Kt.Ints w w.heap.size k A zs) (o : Obj) : Kt.Ints (w.alloc o) (w.alloc o).heap.size k A zs := h.on ((Below.refl _ _).alloc (Nat.le_refl _) _)
/-- The six lists of the second part. -/
def six (w : World) : World := ((((((w.alloc (.cells #[.int .i64 0, .int .i64 0] 3)).alloc (.cells #[.int .i64 5, .int .i64 4] 3)).alloc (.cells #[.int .i64 (-1)] 3)).alloc (.cells #[.int .i64 730485] 3)).alloc (.cells #[.int .i64 730484] 3)).alloc (.cells #[.int .i64 0, .int .i64 730484] 3)).alloc
  (.cells #[.slice (some ⟨w.heap.size, 0, none⟩) 2 2, .slice (some ⟨w.heap.size + 1, 0, none⟩) 2 2, .slice (some ⟨w.heap.size + 1 + 1, 0, none⟩) 1 1, .slice (some ⟨w.heap.size + 1 + 1 + 1, 0, none⟩) 1 1, .slice (some ⟨w.heap.size + 1 + 1 + 1 + 1, 0, none⟩) 1 1, .slice (some ⟨w.heap.size + 1 + 1 + 1 + 1 + 1, 0, none⟩) 2 2] 22)
theorem six_below (w : World) : Below w.heap.size w (six w) := by
  unfold six
  exact ((((((((Below.refl _ _).alloc (Nat.le_refl _) _).alloc (by simp) _).alloc (by simp; omega) _).alloc (by simp; omega) _).alloc (by simp; omega) _).alloc (by simp; omega) _).alloc (by simp; omega) _)
theorem six_cells (w : World) : ∀ k, k < 6 → ∃ (b n : Nat) (l : List Int), l.length = n ∧ n ≤ 2 ∧ (six w).cell? ⟨w.heap.size + 1 + 1 + 1 + 1 + 1 + 1, k, none⟩ = some (.slice (some ⟨b, 0, none⟩) n n) ∧ Kt.Ints (six w) (six w).heap.size .i64 (some ⟨b, 0, none⟩) l := by
  have hB : Kt.Blk (six w) (w.heap.size + 1 + 1 + 1 + 1 + 1 + 1) 22 _ := Kt.Blk.new' _ _ _ _ (by simp)
  intro k hk
  have h : k = 0 ∨ k = 1 ∨ k = 2 ∨ k = 3 ∨ k = 4 ∨ k = 5 := by omega
  rcases h with rfl | rfl | rfl | rfl | rfl | rfl
  · exact ⟨_, 2, [0, 0], rfl, by omega, hB.cell 0, ints_up (ints_up (ints_up (ints_up (ints_up (ints_up (ints_lit' w _ _ _ [0, 0] _ rfl rfl) _) _) _) _) _) _⟩
  · exact ⟨_, 2, [5, 4], rfl, by omega, hB.cell 1, ints_up (ints_up (ints_up (ints_up (ints_up (ints_lit' _ _ _ _ [5, 4] _ rfl (by simp)) _) _) _) _) _⟩
  · exact ⟨_, 1, [-1], rfl, by omega, hB.cell 2, ints_up (ints_up (ints_up (ints_up (ints_lit' _ _ _ _ [-1] _ rfl (by simp)) _) _) _) _⟩
  · exact ⟨_, 1, [730485], rfl, by omega, hB.cell 3, ints_up (ints_up (ints_up (ints_lit' _ _ _ _ [730485] _ rfl (by simp)) _) _) _⟩
  · exact ⟨_, 1, [730484], rfl, by omega, hB.cell 4, ints_up (ints_up (ints_lit' _ _ _ _ [730484] _ rfl (by simp)) _) _⟩
  · exact ⟨_, 2, [0, 730484], rfl, by omega, hB.cell 5, ints_up (ints_lit' _ _ _ _ [0, 730484] _ rfl (by simp)) _⟩
set_option maxRecDepth 100000 in
set_option maxHeartbeats 4000000 in
theorem lists_any (w : World) (ht : Tab w) : Calls Tryd.prog 8 #[] w fun e w' => e = .returned (.bool true) ∧ Below w.heap.size w w' := by
  have HT := Lib.hid ht
  obtain ⟨i0, hi0, hz0, hz1, hz2⟩ := info_parts Tryd.infoI64
  have hmk : ∀ (n : Nat) (_ : n ≤ 1001) (W : World), (Instr.makeSlice 22 (.int .i64 (n : Int)) (.int .i64 (n : Int))).run Tryd.prog W = .ok (.slice (some ⟨W.heap.size, 0, none⟩) n n) (W.alloc (.cells (Kt.IArr .i64 (Ls.zeros n)) 3)) := fun n hn W => Kt.run_make_ints 22 3 i0 .i64 Tryd.underlying22 hi0 hz0 hz1 (by omega) n (by omega) W
  have HZ : Kt.Ints (w.alloc (.cells #[.int .i64 0, .int .i64 1, .int .i64 1000, .int .i64 1001] 3)) (w.alloc (.cells #[.int .i64 0, .int .i64 1, .int .i64 1000, .int .i64 1001] 3)).heap.size .i64 (some ⟨w.heap.size, 0, none⟩) [0, 1, 1000, 1001] := Kt.ints_lit _ _ _ _ _ rfl
  have HB : Below w.heap.size w (w.alloc (.cells #[.int .i64 0, .int .i64 1, .int .i64 1000, .int .i64 1001] 3)) := (Below.refl _ _).alloc (Nat.le_refl _) _
  obtain ⟨wA, hwA⟩ : ∃ wA, w.alloc (.cells #[.int .i64 0, .int .i64 1, .int .i64 1000, .int .i64 1001] 3) = wA := ⟨_, rfl⟩
  rw [hwA] at HZ HB
  clear ht
  go_enter Tryd.func8, Tryd.ntmps8
  go_wp2_with fail
  clear hwA
  go_loopw [14] (fun i wr => ∃ k : Nat, k ≤ 4 ∧ i = .int .i64 k ∧ Below wA.heap.size wA wr) (fun i _ => 4 - (intOf i).toNat)
  case atStart => exact ⟨0, by omega, rfl, Below.refl _ _⟩
  case round =>
    obtain ⟨k, hk, rfl, hbel⟩ := hrel
    have hb1 := Kt.next HB hbel
    by_cases hlt : k < 4
    · obtain ⟨g, o, hA, hgl, hc⟩ := (HZ.on hbel) (by simp)
      injection hA with hA
      injection hA with hA1 hA2
      subst hA1 hA2
      have hcell := hc k (by simpa using hlt)
      obtain ⟨n, hn, hnn⟩ := four hlt
      rw [hn, Nat.zero_add] at hcell
      have hn1 : n ≤ 1001 := by omega
      have HN := Lib.hid hnn
      have hmn := hmk n hn1
      clear hmk hc hn hnn
      go_wp2_with fail
      go_loopw [22] (fun i wq => ∃ j : Nat, j ≤ n ∧ i = .int .i64 j ∧ Kt.IBlk wq wr.heap.size 3 .i64 (Ls.mix (thr n) (Ls.zeros n) j) ∧ Below wr.heap.size wr wq) (fun i _ => n - (intOf i).toNat)
      case atStart => exact ⟨0, by omega, rfl, by rw [Ls.mix_zero]; exact Kt.IBlk.new _ _ _ _, (Below.refl _ _).alloc (Nat.le_refl _) _⟩
      case round =>
        obtain ⟨j, hj, rfl, hblk, hbj⟩ := hrel
        by_cases hlj : j < n
        · have hml : (Ls.mix (thr n) (Ls.zeros n) j).length = n := by rw [Ls.mix_len _ _ _ (by rw [thr_len, Ls.zeros_len]), thr_len]
          have hcj := hblk.cell j (by rw [hml]; exact hlj)
          have hfj := hblk.frozen j
          have hset := hblk.set_ j (Ls.nth (thr n) j)
          rw [Ls.mix_set _ _ _ (by rw [thr_len]; exact hlj) (by rw [thr_len, Ls.zeros_len]), thr_nth hlj] at hset
          have HS := Lib.hid hset
          clear hset hml hblk
          go_wp2_with fail
          go_roundw
          case rel => exact ⟨j + 1, by omega, by go_num, HS.out, hbj.setCell (Nat.le_refl _) _⟩
          case measure => simp [intOf]; omega
        · obtain rfl : n = j := by omega
          rw [Ls.mix_full _ _ _ (by rw [thr_len]; exact Nat.le_refl _) (by rw [Ls.zeros_len]; exact Nat.le_refl _)] at hblk
          have hin := hblk.ints
          have hb2 := Kt.next hb1 hbj
          have hb3 := Kt.next hbel hbj
          clear hblk hmn hbj
          by_cases hr : n ≤ 1000
          · obtain ⟨hrt, d, d0, d1, hwk, hcn⟩ := thr_all (n := n) (by have := HN.out; omega)
            have HR := Lib.hid hrt
            have HW := Lib.hid hwk
            have HC := Lib.hid hcn
            obtain ⟨v, hv⟩ : ∃ v, Hid (Cv.cnt (thr n) 7000 - Cv.cnt (thr n) 0 = v) := ⟨_, Lib.hid rfl⟩
            have HTN := Lib.hid (thr_len n)
            clear hrt hwk hcn
            go_wp2_with fail
            refine (between_val 0 7000 v HTN.out hin HR.out (by omega) (by omega) (by omega) hv.out).mono ?_
            rintro e w3 ⟨rfl, b3⟩
            have hin3 := hin.on b3
            replace b3 := Kt.next hb3 b3
            go_wp2_with fail
            refine (ahead_val 0 0 d HTN.out hin3 HR.out (by omega) (by omega) d1 (by omega) HW.out HC.out).mono ?_
            rintro e w4 ⟨rfl, b4⟩
            have hin4 := hin3.on b4
            replace b4 := Kt.next b3 b4
            go_wp2_with fail
            refine (right_any _ n n (thr n) _ HTN.out hin4 (by omega)).mono ?_
            rw [HR.out]
            rintro e w' ⟨rfl, rfl⟩
            go_wp2_with fail
            go_roundw
            case rel => exact ⟨k + 1, by omega, by go_num, b4⟩
            case measure => simp [intOf]; omega
          · have HR : Hid (Cv.rightH (thr n) = false) := Lib.hid (by
              obtain rfl : n = 1001 := by omega
              exact thr_wrong)
            have HTN := Lib.hid (thr_len n)
            go_wp2_with fail
            refine (between_bad 0 7000 HTN.out hin HR.out (by omega)).mono ?_
            rintro e w3 ⟨rfl, b3⟩
            have hin3 := hin.on b3
            replace b3 := Kt.next hb3 b3
            go_wp2_with fail
            refine (ahead_bad 0 0 HTN.out hin3 HR.out (by omega)).mono ?_
            rintro e w4 ⟨rfl, b4⟩
            have hin4 := hin3.on b4
            replace b4 := Kt.next b3 b4
            go_wp2_with fail
            refine (right_any _ n n (thr n) _ HTN.out hin4 (by omega)).mono ?_
            rw [HR.out]
            rintro e w' ⟨rfl, rfl⟩
            go_wp2_with fail
            go_roundw
            case rel => exact ⟨k + 1, by omega, by go_num, b4⟩
            case measure => simp [intOf]; omega
    · clear hmk
      go_wp2_with fail
      have HS := six_cells wr
      have hbS := six_below wr
      refine cs_rename (w' := six wr) rfl ?_
      obtain ⟨wS, hwS⟩ : ∃ wS, six wr = wS := ⟨_, rfl⟩
      rw [hwS] at HS hbS
      rw [hwS]
      replace hb1 := Kt.next hb1 hbS
      have HTS := Lib.hid (HT.out.on hb1)
      have HS' := Lib.hid HS
      have hsz : wr.heap.size + 1 + 1 + 1 + 1 + 1 + 1 < wS.heap.size := by
        rw [← hwS]
        unfold six
        simp
      clear hwS HS hbS hbel HZ HB
      go_loopw [86] (fun i wq => ∃ j : Nat, j ≤ 6 ∧ i = .int .i64 j ∧ Below wS.heap.size wS wq) (fun i _ => 6 - (intOf i).toNat)
      case atStart => exact ⟨0, by omega, rfl, Below.refl _ _⟩
      case round =>
        obtain ⟨j, hj, rfl, hbj⟩ := hrel
        by_cases hlj : j < 6
        · obtain ⟨b, n, l, hl, hn, hc, hin⟩ := HS'.out j hlj
          have hc2 := (hbj.cell (p := ⟨_, j, none⟩) hsz).trans hc
          have hin2 := hin.on hbj
          have HL := Lib.hid hl
          clear hc hin hl
          go_wp2_with fail
          refine (works_law _ n n l 0 9 3 101 101 _ HL.out (by omega) hin2 (fun e => by cases e) (by omega) (by omega) (by omega) (by omega) (by omega)).mono ?_
          rintro e w3 ⟨rfl, b3⟩
          replace b3 := Kt.next hbj b3
          go_wp2_with fail
          go_roundw
          case rel => exact ⟨j + 1, by omega, by go_num, b3⟩
          case measure => simp [intOf]; omega
        · have HTE := Lib.hid (HTS.out.on hbj)
          go_wp2_with fail
          refine (awake_any _ HTE.out).mono ?_
          rintro e w3 ⟨rfl, b3⟩
          go_wp2_with fail
          go_ret
          exact ⟨rfl, Kt.next (Kt.next hb1 hbj) b3⟩
end Go.Proofs.YtjfgfchnpghpfaaDoor
