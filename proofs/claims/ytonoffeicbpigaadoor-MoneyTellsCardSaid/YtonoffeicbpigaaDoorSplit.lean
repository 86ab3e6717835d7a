/- What Split of package money returns: its walk. -/
import Derived.Test.YtonoffeicbpigaaDoorSum
import Derived.Test.YtonoffeicbpigaaDoorSplitM
namespace Go.Proofs.YtonoffeicbpigaaDoor
open Go Go.RowKit

theorem Tryd.infoInt : (Tryd.prog.info? 3).map (fun i => (i.zero, i.size, i.bytes)) = some (some (.int .i64 0), 1, 8) := by kernel_rfl

theorem split_many (c : Int) (A : Option Addr) (n cp : Nat) (w : World) (hn : 4096 < n) :
    Calls Tryd.prog 7 #[.int .i64 c, .slice A n cp] w fun e w' => e = .returned (.tuple #[.slice none 0 0, .int .i64 5]) ∧ w = w' := by
  go_enter Tryd.func7, Tryd.ntmps7
  go_wp2
  go_ret2
  exact ⟨rfl, rfl⟩
theorem split_notAmount (c : Int) (A : Option Addr) (n cp : Nat) (w : World) (hn : n ≤ 4096) (h : c < -1000000000000000 ∨ 1000000000000000 < c) :
    Calls Tryd.prog 7 #[.int .i64 c, .slice A n cp] w fun e w' => e = .returned (.tuple #[.slice none 0 0, .int .i64 2]) ∧ w = w' := by
  go_enter Tryd.func7, Tryd.ntmps7
  go_wp2_with (go_at_call 13; refine (right_no _ _ h).mono ?_; rintro e w' ⟨rfl, rfl⟩)
  go_ret2
  exact ⟨rfl, rfl⟩
set_option maxHeartbeats 400000 in
theorem split_notWeights (c : Int) (A : Option Addr) (cp : Nat) (ws : List Int) (w : World) (hz : Kt.Ints w w.heap.size .i64 A ws) (hn : ws.length ≤ 4096) (h1 : -1000000000000000 ≤ c) (h2 : c ≤ 1000000000000000)
    (hbad : (ws.all Mny.wOk && (Ls.isum ws != 0)) = false) :
    Calls Tryd.prog 7 #[.int .i64 c, .slice A ws.length cp] w fun e w' => e = .returned (.tuple #[.slice none 0 0, .int .i64 2]) ∧ w = w' := by
  have HB := Lib.hid hbad
  clear hbad
  go_enter Tryd.func7, Tryd.ntmps7
  go_wp2_with (go_at_call 13; refine (right_yes _ _ h1 h2).mono ?_; rintro e w' ⟨rfl, rfl⟩)
  go_loop [6, 23] (fun s i => ∃ k : Nat, k ≤ ws.length ∧ i = .int .i64 k ∧ s = .int .i64 (Ls.isum (ws.take k)) ∧ Hid ((ws.take k).all Mny.wOk = true)) (fun _ i => ws.length - (intOf i).toNat)
  case atStart => exact ⟨0, Nat.zero_le _, rfl, rfl, by simp [Hid]⟩
  case round =>
    obtain ⟨k, hk, rfl, rfl, hall⟩ := hrel
    by_cases hlt : k < ws.length
    · obtain ⟨b, off, rfl, hb, hc⟩ := hz (by omega)
      have hcell := hc k hlt
      have hbd := Mny.ws_take_bd (by omega) hall.out
      by_cases hlo : Ls.nth ws k < 0
      · go_wp2
        go_ret2
        exact ⟨rfl, rfl⟩
      · by_cases hhi : 1000000 < Ls.nth ws k
        · go_wp2
          go_ret2
          exact ⟨rfl, rfl⟩
        · have hx : Mny.wOk (Ls.nth ws k) = true := by simp [Mny.wOk]; omega
          have HA := Lib.hid (Mny.wall_take hlt hall.out hx)
          have HT := Lib.hid (Ls.isum_take ws k hlt)
          clear hx
          go_wp2
          go_round
          case rel => exact ⟨k + 1, by omega, by go_num, by rw [HT.out], HA.out⟩
          case measure => simp [intOf]; omega
    · obtain rfl : k = ws.length := by omega
      have hall2 : ws.all Mny.wOk = true := by have := hall.out; rwa [List.take_length] at this
      have HE : Hid (Ls.isum (ws.take ws.length) = Ls.isum ws) := by rw [List.take_length]; exact Lib.hid rfl
      have hz0 : Ls.isum ws = 0 := by
        have := HB.out
        rw [hall2] at this
        simpa using this
      rw [HE.out, hz0]
      clear hz0 hall2
      go_wp2
      go_ret2
      exact ⟨rfl, rfl⟩

set_option maxHeartbeats 1000000 in
theorem split_yes (c : Int) (A : Option Addr) (cp : Nat) (ws : List Int) (w : World) (hz : Kt.Ints w w.heap.size .i64 A ws) (hn : ws.length ≤ 4096) (h1 : -1000000000000000 ≤ c) (h2 : c ≤ 1000000000000000)
    (hall : ws.all Mny.wOk = true) (hS : 0 < Ls.isum ws) :
    Calls Tryd.prog 7 #[.int .i64 c, .slice A ws.length cp] w fun e w' => e = .returned (.tuple #[.slice (some ⟨w.heap.size, 0, none⟩) ws.length ws.length, .int .i64 0]) ∧ Kt.IBlk w' w.heap.size 3 .i64 (Mny.outL c ws) ∧ Below w.heap.size w w' := by
  obtain ⟨i0, hi0, hz0, hz1, hz2⟩ := info_parts Tryd.infoInt
  have hmk := fun W => Kt.run_make_ints (P := Tryd.prog) 22 3 i0 .i64 Tryd.underlying22 hi0 hz0 hz1 (by omega) ws.length (by omega) W
  have HALL := Lib.hid hall
  have hSb : Ls.isum ws ≤ 4096000000 := by
    have := Mny.ws_take_bd (ws := ws) (k := ws.length) hn (by rw [List.take_length]; exact hall)
    rw [List.take_length] at this; exact this.2
  have hSne : (Ls.isum ws == 0) = false := by simp; omega
  clear hall hi0 hz0 hz1 hz2
  go_enter Tryd.func7, Tryd.ntmps7
  go_wp2_with (go_at_call 13; refine (right_yes _ _ h1 h2).mono ?_; rintro e w' ⟨rfl, rfl⟩)
  go_loop [6, 23] (fun s i => ∃ k : Nat, k ≤ ws.length ∧ i = .int .i64 k ∧ s = .int .i64 (Ls.isum (ws.take k))) (fun _ i => ws.length - (intOf i).toNat)
  case atStart => exact ⟨0, Nat.zero_le _, rfl, rfl⟩
  case round =>
    obtain ⟨k, hk, rfl, rfl⟩ := hrel
    by_cases hlt : k < ws.length
    · obtain ⟨b, off, rfl, hb, hc⟩ := hz (by omega)
      have hcell := hc k hlt
      have hallk : (ws.take k).all Mny.wOk = true := List.all_eq_true.2 fun x hx => List.all_eq_true.1 HALL.out x (List.mem_of_mem_take hx)
      have hbd := Mny.ws_take_bd (by omega) hallk
      have hw := Mny.ws_all HALL.out _ (Ls.nth_mem ws k hlt)
      obtain ⟨hw1, hw2, hw3⟩ := hw
      have HT := Lib.hid (Ls.isum_take ws k hlt)
      clear hallk hc
      go_wp2
      go_round
      case rel => exact ⟨k + 1, by omega, by go_num, by rw [HT.out]⟩
      case measure => simp [intOf]; omega
    · obtain rfl : k = ws.length := by omega
      have HE : Hid (Ls.isum (ws.take ws.length) = Ls.isum ws) := by rw [List.take_length]; exact Lib.hid rfl
      rw [HE.out]
      go_wp2
      clear hmk
      go_loopw [10, 45] (fun l i wr => ∃ k : Nat, k ≤ ws.length ∧ i = .int .i64 k ∧ l = .int .i64 (c - Ls.isum ((Mny.parts c (Ls.isum ws) ws).take k)) ∧
          Kt.IBlk wr w.heap.size 3 .i64 (Ls.mix (Mny.parts c (Ls.isum ws) ws) (Ls.zeros ws.length) k) ∧ Below w.heap.size w wr) (fun _ i _ => ws.length - (intOf i).toNat)
      case atStart => exact ⟨0, Nat.zero_le _, rfl, by simp [Ls.isum], by rw [Ls.mix_zero]; exact Kt.IBlk.new _ _ _ _, (Below.refl _ _).alloc (Nat.le_refl _) _⟩
      case round =>
        obtain ⟨k, hk, rfl, rfl, hblk, hbel⟩ := hrel
        by_cases hlt : k < ws.length
        · obtain ⟨b, off, rfl, hb, hc⟩ := hz (by omega)
          have hcell := (hbel.cell (p := ⟨b, off + k, none⟩) hb).trans (hc k hlt)
          have hw := Mny.ws_all HALL.out _ (Ls.nth_mem ws k hlt)
          obtain ⟨hw1, hw2, hw3⟩ := hw
          have hown := hblk.cell k (by rw [Ls.mix_len _ _ _ (by rw [Mny.parts_len, Ls.zeros_len]), Mny.parts_len]; exact hlt)
          have hfz := hblk.frozen k
          have hws := Mny.ws_all HALL.out
          have hp := Mny.part1_bd c (Ls.nth ws k) (Ls.isum ws) h1 h2 hw1 hw3 hS
          have hb1 := Mny.parts_sum_bd c (Ls.isum ws) ws k (by omega) h1 h2 hS hws
          obtain ⟨hp1, hp2⟩ := hp
          obtain ⟨hb2, hb3⟩ := hb1
          have hlen : (Mny.parts c (Ls.isum ws) ws).length = ws.length := Mny.parts_len _ _ _
          have HT : Hid (Ls.isum ((Mny.parts c (Ls.isum ws) ws).take (k + 1)) = Ls.isum ((Mny.parts c (Ls.isum ws) ws).take k) + c * Ls.nth ws k / Ls.isum ws) :=
            Lib.hid (by rw [Ls.isum_take _ k (by rw [hlen]; exact hlt), Mny.parts_nth _ _ _ _ hlt])
          have HM : Hid ((Ls.mix (Mny.parts c (Ls.isum ws) ws) (Ls.zeros ws.length) k).set k (c * Ls.nth ws k / Ls.isum ws) = Ls.mix (Mny.parts c (Ls.isum ws) ws) (Ls.zeros ws.length) (k + 1)) :=
            Lib.hid (by rw [← Mny.parts_nth c (Ls.isum ws) ws k hlt]; exact Ls.mix_set _ _ _ (by rw [hlen]; exact hlt) (by rw [hlen, Ls.zeros_len]))
          clear hc hws hlen
          go_wp2_with (go_at_call 22; refine (part_any _ _ _ _ (by omega) (by omega) (by omega) (by omega) (by omega) (by omega) (by omega)).mono ?_; rintro e w' ⟨rfl, n, rfl⟩)
          go_roundw
          case rel =>
            refine ⟨k + 1, by omega, by go_num, by rw [HT.out]; congr 1; omega, ?_, (Kt.below_drewN hbel _).setCell (Nat.le_refl _) _⟩
            have := (hblk.drewN n).set_ k (c * Ls.nth ws k / Ls.isum ws)
            rwa [HM.out] at this
          case measure => simp [intOf]; omega
        · obtain rfl : k = ws.length := by omega
          have hlen : (Mny.parts c (Ls.isum ws) ws).length = ws.length := Mny.parts_len _ _ _
          have HE2 : Hid (c - Ls.isum ((Mny.parts c (Ls.isum ws) ws).take ws.length) = Mny.gleft (Mny.left0 c (Ls.isum ws) ws) ws 0) := by
            have : (Mny.parts c (Ls.isum ws) ws).take ws.length = Mny.parts c (Ls.isum ws) ws := List.take_of_length_le (by omega)
            rw [this]; exact Lib.hid rfl
          have hb1 := Mny.parts_sum_bd c (Ls.isum ws) ws ws.length hn h1 h2 hS (Mny.ws_all HALL.out)
          have hl0 : -4097000000000000000 ≤ Mny.left0 c (Ls.isum ws) ws ∧ Mny.left0 c (Ls.isum ws) ws ≤ 4097000000000000000 := by
            have := HE2.out
            simp only [Mny.gleft] at this
            omega
          rw [HE2.out]
          rw [Ls.mix_full _ _ _ (by omega) (by rw [Ls.zeros_len]; exact Nat.le_refl _)] at hblk
          clear hb1 hlen
          obtain ⟨wo, rfl⟩ : ∃ wo : World, wo = wr := ⟨_, rfl⟩
          go_wp2
          go_loopw [10, 69] (fun l i wr => ∃ k : Nat, k ≤ ws.length ∧ i = .int .i64 k ∧ l = .int .i64 (Mny.gleft (Mny.left0 c (Ls.isum ws) ws) ws k) ∧
              Kt.IBlk wr w.heap.size 3 .i64 (Ls.mix (Mny.outL c ws) (Mny.parts c (Ls.isum ws) ws) k) ∧ Below w.heap.size w wr) (fun _ i _ => ws.length - (intOf i).toNat)
          case atStart => exact ⟨0, Nat.zero_le _, rfl, rfl, by rw [Ls.mix_zero]; exact hblk, hbel⟩
          case round =>
            obtain ⟨k, hk, rfl, rfl, hblk, hbel⟩ := hrel
            by_cases hlt : k < ws.length
            · obtain ⟨b, off, rfl, hb, hc⟩ := hz (by omega)
              have hcell := (hbel.cell (p := ⟨b, off + k, none⟩) hb).trans (hc k hlt)
              have hlen : (Mny.outL c ws).length = ws.length := Mny.outL_len _ _
              have hlen2 : (Mny.outL c ws).length = (Mny.parts c (Ls.isum ws) ws).length := by rw [hlen, Mny.parts_len]
              have hown := hblk.cell k (by rw [Ls.mix_len _ _ _ hlen2, hlen]; exact hlt)
              rw [Ls.mix_nth _ _ _ (by rw [hlen]; exact hlt) hlen2, Mny.parts_nth _ _ _ _ hlt] at hown
              have hw := Mny.ws_all HALL.out _ (Ls.nth_mem ws k hlt)
              obtain ⟨hw1, hw2, hw3⟩ := hw
              have hp := Mny.part1_bd c (Ls.nth ws k) (Ls.isum ws) h1 h2 hw1 hw3 hS
              obtain ⟨hp1, hp2⟩ := hp
              have hfz := hblk.frozen k
              have hg1 := Mny.gleft_le (Mny.left0 c (Ls.isum ws) ws) ws k
              have hg2 : -4097000000000000000 ≤ Mny.gleft (Mny.left0 c (Ls.isum ws) ws) ws k := by
                rcases Mny.gleft_ge (Mny.left0 c (Ls.isum ws) ws) ws k with h | h <;> omega
              obtain ⟨hl1, hl2⟩ := hl0
              by_cases hgive : 0 < Mny.gleft (Mny.left0 c (Ls.isum ws) ws) ws k ∧ Ls.nth ws k ≠ 0
              · obtain ⟨hgl, hgw⟩ := hgive
                obtain ⟨o1, o2⟩ := Mny.out_add hlt hgl hgw
                have HM : Hid ((Ls.mix (Mny.outL c ws) (Mny.parts c (Ls.isum ws) ws) k).set k (c * Ls.nth ws k / Ls.isum ws + 1) = Ls.mix (Mny.outL c ws) (Mny.parts c (Ls.isum ws) ws) (k + 1)) :=
                  Lib.hid (by rw [← Mny.parts_nth c (Ls.isum ws) ws k hlt, ← o1]; exact Ls.mix_set _ _ _ (by rw [hlen]; exact hlt) hlen2)
                have O2 := Lib.hid o2
                have hne : (Ls.nth ws k != 0) = true := by simp [hgw]
                clear o1 o2 hlen hlen2 hc hgw
                go_wp2
                go_roundw
                case rel =>
                  refine ⟨k + 1, by omega, by go_num, by rw [O2.out], ?_, hbel.setCell (Nat.le_refl _) _⟩
                  have := hblk.set_ k (c * Ls.nth ws k / Ls.isum ws + 1)
                  rwa [HM.out] at this
                case measure => simp [intOf]; omega
              · obtain ⟨o1, o2⟩ := Mny.out_keep hlt hgive
                have HM : Hid (Ls.mix (Mny.outL c ws) (Mny.parts c (Ls.isum ws) ws) k = Ls.mix (Mny.outL c ws) (Mny.parts c (Ls.isum ws) ws) (k + 1)) :=
                  Lib.hid (Ls.mix_keep _ _ _ (by rw [hlen]; exact hlt) hlen2 o1)
                have O2 := Lib.hid o2
                clear o1 o2 hlen hlen2 hc
                by_cases hgl : 0 < Mny.gleft (Mny.left0 c (Ls.isum ws) ws) ws k
                · have hne : (Ls.nth ws k != 0) = false := by
                    have : Ls.nth ws k = 0 := Classical.byContradiction fun h => hgive ⟨hgl, h⟩
                    simp [this]
                  clear hgive
                  go_wp2
                  go_roundw
                  case rel => exact ⟨k + 1, by omega, by go_num, by rw [O2.out], by rw [← HM.out]; exact hblk, hbel⟩
                  case measure => simp [intOf]; omega
                · clear hgive
                  go_wp2
                  go_roundw
                  case rel => exact ⟨k + 1, by omega, by go_num, by rw [O2.out], by rw [← HM.out]; exact hblk, hbel⟩
                  case measure => simp [intOf]; omega
            · obtain rfl : k = ws.length := by omega
              rw [Ls.mix_full _ _ _ (by rw [Mny.outL_len]; exact Nat.le_refl _) (by rw [Mny.parts_len]; exact Nat.le_refl _)] at hblk
              go_wp2
              go_ret2
              exact ⟨rfl, hblk, hbel⟩

end Go.Proofs.YtonoffeicbpigaaDoor
