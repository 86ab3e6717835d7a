/- The walk of NatWrong. -/
import Derived.Test.YtfjdhclpcbgdbaaNatBad
import Derived.Test.YtfjdhclpcbgdbaaNatOwn
import Derived.Test.YtfjdhclpcbgdbaaNatM
namespace Go.Proofs.Ytfjdhclpcbgdbaa
open Go Go.RowKit
theorem bad_snoc (l : List Int) : rightB (l ++ [0]) = false := by
  have h : Ls.nth (l ++ [0]) ((l ++ [0]).length - 1) = 0 := by
    rw [List.length_append, List.length_singleton, Nt.nth_append_right _ _ _ (by omega), Nat.add_sub_cancel, Nat.sub_self]; rfl
  simp only [rightB, h]
  simp
theorem bad_long {l : List Int} (h : 1024 < l.length) : rightB l = false := by
  simp only [rightB]
  rw [show decide (l.length ≤ 1024) = false from by simp; omega]
  simp
theorem right_one : rightB [1] = true := by decide

theorem Bel_alloc' {a w : World} (h : Below a.heap.size a w) (o : Obj) : Below a.heap.size a (w.alloc o) := h.alloc h.size o

set_option maxRecDepth 100000 in
set_option maxHeartbeats 8000000 in
theorem walk_NatWrong (w : World) (Al : Option Addr) (cl : Nat) (l : List Int) (lcl : l.length ≤ cl) (_ml : cl ≤ maxLen) (zl : Kt.Ints w w.heap.size .u32 Al l) (wfl : ∀ i ∈ l, (Lit.int .u32 i).wf = true) (rl : l.length * 4 ≤ 140737488351232) (kl : Al = none → cl = 0) (many : Int) (wfmany : (Lit.int .u16 many).wf = true) :
    Calls Try.prog 11 #[.slice Al l.length cl, .int .u16 many] w fun e w' => e = .returned (.bool true) ∧ Below w.heap.size w w' := by
  have okl := ok_of_wf wfl
  obtain ⟨m0, m1⟩ := bd_u16 wfmany
  clear wfl wfmany
  obtain ⟨K, hK⟩ : ∃ K : Nat, many % 100 = (K : Int) := ⟨(many % 100).toNat, by omega⟩
  have hK2 : K < 100 := by omega
  obtain ⟨i0, hi0, hz0, hz1, hz2⟩ := info_parts Try.infoU32
  have hmk := fun W => Kt.run_make_ints (P := Try.prog) 22 33 i0 .u32 Try.underlying22 hi0 hz0 hz1 (by omega) (1025 + K) (by omega) W
  simp only [show ((1025 + K : Nat) : Int) = 1025 + (K : Int) from by omega] at hmk
  have OKL := Lib.hid okl
  have KL := Lib.hid kl
  clear okl kl
  go_enter Try.func11, Try.ntmps11
  go_wp2_with fail
  refine (awake_any _).mono ?_
  rintro e w1 ⟨rfl, b1⟩
  have zl1 := zl.on b1
  go_wp2_with fail
  clear hmk hK
  go_loopw [39] (fun i wr => ∃ (k : Nat) (q : List Int), k ≤ 1025 + K ∧ i = .int .i64 k ∧ Kt.IBlk wr w1.heap.size 33 .u32 q ∧ Hid (q.length = 1025 + K) ∧ Below w1.heap.size w1 wr) (fun i _ => 1025 + K - (intOf i).toNat)
  case atStart => exact ⟨0, Ls.zeros (1025 + K), Nat.zero_le _, rfl, Kt.IBlk.new _ _ _ _, Lib.hid (Ls.zeros_len _), (Below.refl _ _).alloc (Nat.le_refl _) _⟩
  case round =>
    obtain ⟨k, q, hk, rfl, hblk, hlq, hb⟩ := hrel
    by_cases hlt : k < 1025 + K
    · have hcell := hblk.cell k (by rw [hlq.out]; exact hlt)
      have hfr := hblk.frozen k
      go_wp2_with fail
      go_roundw
      case rel => exact ⟨k + 1, q.set k 1, by omega, by go_num, hblk.set_ _ _, Lib.hid (by rw [List.length_set]; exact hlq.out), hb.setCell (Nat.le_refl _) _⟩
      case measure => simp [intOf]; omega
    · obtain rfl : k = 1025 + K := by omega
      have zl2 := (zl1.below hb).more hb.size
      have bw := Kt.next b1 hb
      have hgl := hblk.lt
      clear b1
      go_wp2_with fail
      refine (number_own Al _ cl l 100 _ rfl zl2 KL.out lcl OKL.out rl (by omega)).mono ?_
      rintro e w2 ⟨v, x, rfl, hown, hx, b3⟩
      have hblk2 : Kt.IBlk w2 w1.heap.size 33 .u32 q := hblk.on b3
      have bw2 := Kt.next bw b3
      have hbs := b3.size
      go_wp2_with (at_builtin; refine wpList_append_own _ rfl (.tmp 47) (.tmp 48) 22 rfl wr.heap.size 33 i0 (.int .u32 0) 1 4 Try.underlying22 hi0 hz0 hz1 hz2 rfl (by decide) _ (Nt.limbs x).length ((Nt.limbs x).map (Value.int .u32)) rfl (hown.alloc _) ⟨w2.heap.size, 0, none⟩ 1 1 [.int .u32 0] rfl rfl (Kt.cell_one _ _ _) (ints_oneCell .u32 [0]) (by unfold maxLen; omega) (by omega) (by simp; omega) ?_)
      intro v' w3 hown3 hgrow _
      have hOwn : Kt.Own w3 wr.heap.size 33 .u32 v' (Nt.limbs x ++ [0]) := Kt.Own.snoc (by simpa using hown3)
      have hblk3 : Kt.IBlk w3 w1.heap.size 33 .u32 q := Kt.Blk.grown (hblk2.alloc _) hgrow (fun e => by have := Kt.own_block_ne hown _ e.symm; omega)
      have bw3 : Below w.heap.size w w3 := (Bel_alloc' bw2 _).grown hgrow (by have := bw2.size; simp; omega) (fun g hg => by have h8 := Kt.own_block_ne hown _ hg; have h9 := bw.size; omega)
      obtain ⟨g', c', rfl, hc', _, hrow'⟩ := Kt.Row.at _ (Kt.Row.of_own hOwn) (by simp)
      have hb1 := bad_snoc (Nt.limbs x)
      have hb2 : (Nt.limbs x ++ [0]).length ≤ 101 := by rw [List.length_append, List.length_singleton]; omega
      have hq1 := bad_long (l := q) (by rw [hlq.out]; omega)
      have hq2 : q.length ≤ 1125 := by rw [hlq.out]; omega
      have hrq := hblk3.rowAt
      generalize Nt.limbs x ++ [0] = lb at hb1 hb2 hrow' hc' ⊢
      clear hown hown3 hgrow hOwn hblk hblk2 hblk3 hb bw bw2 b3 zl1 zl2 hgl hbs hi0 hz0 hz1 hz2 hx
      obtain ⟨wq, rfl⟩ : ∃ wo : World, wo = wr := ⟨_, rfl⟩
      go_wp2_with fail
      have HB1 := Lib.hid hb1
      have HQ1 := Lib.hid hq1
      clear hb1 hq1
      go_loopw [53] (fun i wr => ∃ (k : Nat), k ≤ 2 ∧ i = .int .i64 k ∧ Kt.RowAt wr g' .u32 lb ∧ Kt.RowAt wr w1.heap.size .u32 q ∧ Kt.Blk wr w3.heap.size 22 #[.slice (some ⟨g', 0, none⟩) lb.length c', .slice (some ⟨w1.heap.size, 0, none⟩) (1025 + K) (1025 + K)] ∧ Below w.heap.size w wr) (fun i _ => 2 - (intOf i).toNat)
      case atStart => exact ⟨0, Nat.zero_le _, rfl, hrow'.alloc _, hrq.alloc _, Kt.Blk.new _ _ _, Bel_alloc' bw3 _⟩
      case round =>
        obtain ⟨k, hk, rfl, hr1, hr2, hS, hb⟩ := hrel
        by_cases hlt : k < 2
        · have hS0 := hS.cell 0
          have hS1 := hS.cell 1
          have hex : ∃ gb cb ln lz, wr.cell? ⟨w3.heap.size, k, none⟩ = some (.slice (some ⟨gb, 0, none⟩) ln cb) ∧ Kt.RowAt wr gb .u32 lz ∧ Hid (lz.length = ln) ∧ Hid (rightB lz = false) ∧ ln ≤ 1125 ∧ ln ≤ cb := by
            rcases (show k = 0 ∨ k = 1 by omega) with rfl | rfl
            · exact ⟨g', c', lb.length, lb, hS0, hr1, Lib.hid rfl, HB1, by omega, hc'⟩
            · exact ⟨w1.heap.size, 1025 + K, 1025 + K, q, hS1, hr2, hlq, HQ1, by omega, Nat.le_refl _⟩
          obtain ⟨gb, cb, ln, lz, hcell, hrow, hln, hbad, hl1, hl2⟩ := hex
          clear hS0 hS1
          have hRow := hrow.row (lo := 0) (Nat.zero_le _) ln cb hln.out hl2
          have hlz : lz.length ≤ 4096 := by rw [hln.out]; omega
          go_wp2_with fail
          refine (uint_bad hRow hbad.out hlz).mono ?_
          rintro e w' ⟨rfl, rfl⟩
          go_wp2_with fail
          refine (right_bad hRow hlz).mono ?_
          rw [hbad.out]
          rintro e w' ⟨rfl, rfl⟩
          go_wp2_with fail
          obtain ⟨wo, rfl⟩ : ∃ wo : World, wo = wr := ⟨_, rfl⟩
          clear hcell
          go_loopw [75] (fun i wr => ∃ (k : Nat), k ≤ 2 ∧ i = .int .i64 k ∧ Kt.RowAt wr gb .u32 lz ∧ Kt.RowAt wr wo.heap.size .u32 [1] ∧ Kt.RowAt wr (wo.heap.size + 1) .u32 [1] ∧ Kt.Blk wr (wo.heap.size + 2) 51 #[.slice (some ⟨gb, 0, none⟩) ln cb, .slice (some ⟨wo.heap.size, 0, none⟩) 1 1, .slice (some ⟨wo.heap.size + 1, 0, none⟩) 1 1, .slice (some ⟨gb, 0, none⟩) ln cb] ∧ Below wo.heap.size wo wr) (fun i _ => 2 - (intOf i).toNat)
          case atStart => exact ⟨0, Nat.zero_le _, rfl, ((hrow.alloc _).alloc _).alloc _, (((show Kt.IBlk (wo.alloc _) wo.heap.size 33 .u32 [1] from Kt.Blk.new _ _ _).rowAt).alloc _).alloc _, ((show Kt.IBlk ((wo.alloc _).alloc _) (wo.heap.size + 1) 33 .u32 [1] from Kt.Blk.new' _ _ _ _ (by simp)).rowAt).alloc _, Kt.Blk.new' _ _ _ _ (by simp), Bel_alloc' (Bel_alloc' (Bel_alloc' (Below.refl _ _) _) _) _⟩
          case round =>
            obtain ⟨k3, hk3, rfl, hi1, hi2, hi3, hX, hbi⟩ := hrel
            have hB := hi1.row (lo := 0) (Nat.zero_le _) ln cb hln.out hl2
            have hO1 := hi2.row (lo := 0) (Nat.zero_le _) 1 1 rfl (Nat.le_refl _)
            have hO2 := hi3.row (lo := 0) (Nat.zero_le _) 1 1 rfl (Nat.le_refl _)
            have hx0 := hX.cell 0
            have hx1 := hX.cell 1
            have hx2 := hX.cell 2
            have hx3 := hX.cell 3
            by_cases hlt3 : k3 < 2
            · rcases (show k3 = 0 ∨ k3 = 1 by omega) with rfl | rfl
              · go_wp2_with fail
                refine (cmp_bad (hB.alloc _) (hO1.alloc _) (.inl hbad.out) hlz (by decide)).mono ?_
                rintro e w' ⟨rfl, rfl⟩
                go_wp2_with fail
                refine (add_bad (hB.alloc _) (hO1.alloc _) (.inl hbad.out) hlz (by decide)).mono ?_
                rintro e w' ⟨rfl, rfl⟩
                go_wp2_with fail
                refine (sub_bad (hB.alloc _) (hO1.alloc _) (.inl hbad.out) hlz (by decide)).mono ?_
                rintro e w' ⟨rfl, rfl⟩
                go_wp2_with fail
                refine (mul_bad (hB.alloc _) (hO1.alloc _) (.inl hbad.out) hlz (by decide)).mono ?_
                rintro e w' ⟨rfl, rfl⟩
                go_wp2_with fail
                refine (dm_bad (hB.alloc _) (hO1.alloc _) (.inl hbad.out) hlz (by decide)).mono ?_
                rintro e w' ⟨rfl, rfl⟩
                go_wp2_with fail
                go_roundw
                case rel => exact ⟨1, by omega, by go_num, hi1.alloc _, hi2.alloc _, hi3.alloc _, hX.alloc _, Bel_alloc' hbi _⟩
                case measure => simp [intOf]
              · go_wp2_with fail
                refine (cmp_bad (hO2.alloc _) (hB.alloc _) (.inr ⟨right_one, hbad.out⟩) (by decide) hlz).mono ?_
                rintro e w' ⟨rfl, rfl⟩
                go_wp2_with fail
                refine (add_bad (hO2.alloc _) (hB.alloc _) (.inr ⟨right_one, hbad.out⟩) (by decide) hlz).mono ?_
                rintro e w' ⟨rfl, rfl⟩
                go_wp2_with fail
                refine (sub_bad (hO2.alloc _) (hB.alloc _) (.inr ⟨right_one, hbad.out⟩) (by decide) hlz).mono ?_
                rintro e w' ⟨rfl, rfl⟩
                go_wp2_with fail
                refine (mul_bad (hO2.alloc _) (hB.alloc _) (.inr ⟨right_one, hbad.out⟩) (by decide) hlz).mono ?_
                rintro e w' ⟨rfl, rfl⟩
                go_wp2_with fail
                refine (dm_bad (hO2.alloc _) (hB.alloc _) (.inr ⟨right_one, hbad.out⟩) (by decide) hlz).mono ?_
                rintro e w' ⟨rfl, rfl⟩
                go_wp2_with fail
                go_roundw
                case rel => exact ⟨2, by omega, by go_num, hi1.alloc _, hi2.alloc _, hi3.alloc _, hX.alloc _, Bel_alloc' hbi _⟩
                case measure => simp [intOf]
            · obtain rfl : k3 = 2 := by omega
              go_wp2_with fail
              refine (pow_bad hB hbad.out hlz).mono ?_
              rintro e w' ⟨rfl, rfl⟩
              go_wp2_with fail
              refine (text_bad hB hbad.out hlz).mono ?_
              rintro e w' ⟨rfl, rfl⟩
              go_wp2_with fail
              go_roundw
              case rel => exact ⟨k + 1, by omega, by go_num, hr1.on hbi, hr2.on hbi, hS.on hbi, hb.trans (hbi.mono hb.size)⟩
              case measure => simp [intOf]; omega
        · obtain rfl : k = 2 := by omega
          go_wp2_with fail
          have zl3 := (zl.below hb).more hb.size
          refine (number_any Al _ cl l 100 _ rfl zl3 KL.out lcl OKL.out rl (by omega)).mono ?_
          rintro e w5 ⟨va, xa, rfl, na, ha, b5⟩
          have b6 := Kt.next hb b5
          go_wp2_with fail
          refine (pow_less (-1 - many) na (by omega) (by omega)).mono ?_
          rintro e w6 ⟨rfl, rfl⟩
          go_wp2
          go_ret
          exact ⟨rfl, b6⟩
end Go.Proofs.Ytfjdhclpcbgdbaa
