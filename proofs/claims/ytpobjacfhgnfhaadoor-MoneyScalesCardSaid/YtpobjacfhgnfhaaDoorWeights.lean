/- What the laws' function weights returns: its walk. -/
import Derived.Test.YtpobjacfhgnfhaaDoorLawKit2
import Derived.Test.YtpobjacfhgnfhaaDoorKit2
namespace Go.Proofs.YtpobjacfhgnfhaaDoor
open Go Go.RowKit

def wts (l : List Int) : List Int := (l.take 4096).map fun x => x % 1000001
def weightsOf (l : List Int) : List Int := if Ls.isum (wts l) = 0 then [1] else wts l
theorem wts_len (l : List Int) : (wts l).length = min 4096 l.length := by simp [wts]
theorem wts_nth (l : List Int) (k : Nat) (h : k < l.length) (h' : k < 4096) : Ls.nth (wts l) k = Ls.nth l k % 1000001 := by
  have e : (wts l)[k]? = some (Ls.nth l k % 1000001) := by
    unfold wts
    rw [List.getElem?_map, List.getElem?_take, if_pos h', Ls.nth_of h]; rfl
  simp only [Ls.nth, List.getD, e, Option.getD_some]
theorem wts_bd (l : List Int) : ∀ x ∈ wts l, 0 ≤ x ∧ x ≤ 1000000 := by
  intro x hx
  obtain ⟨y, _, rfl⟩ := List.mem_map.1 hx
  omega
theorem wts_sum (l : List Int) (k : Nat) (hk : k ≤ 4096) : 0 ≤ Ls.isum ((wts l).take k) ∧ Ls.isum ((wts l).take k) ≤ 4096000000 :=
  Mny.ws_take_bd hk (List.all_eq_true.2 fun x hx => by
    have := wts_bd l x (List.mem_of_mem_take hx)
    simp [Mny.wOk, this])

/-- A call that returns a new slice of these numbers. -/
def NewInts (ws : List Int) (w : World) (e : Ending) (w' : World) : Prop := ∃ A c, e = .returned (.slice A ws.length c) ∧ Kt.Ints w' w'.heap.size .i64 A ws ∧ Below w.heap.size w w'

theorem Tryd.infoU32 : (Tryd.prog.info? 61).map (fun i => (i.zero, i.size, i.bytes)) = some (some (.int .u32 0), 1, 4) := by kernel_rfl

set_option maxRecDepth 100000 in
set_option maxHeartbeats 4000000 in
theorem weights_any (A : Option Addr) (cp : Nat) (l : List Int) (w : World) (hz : Kt.Ints w w.heap.size .u32 A l) (hu : ∀ x ∈ l, 0 ≤ x ∧ x ≤ 4294967295) (hn : l.length ≤ 140737488351232) :
    Calls Tryd.prog 15 #[.slice A l.length cp] w (NewInts (weightsOf l) w) := by
  obtain ⟨i0, hi0, hz0, hz1, hz2⟩ := info_parts Tryd.infoInt
  go_enter Tryd.func15, Tryd.ntmps15
  go_wp2
  go_loopw [3, 4, 5] (fun v s i wr => ∃ k : Nat, k ≤ l.length ∧ k ≤ 4096 ∧ i = .int .i64 k ∧ s = .int .i64 (Ls.isum ((wts l).take k)) ∧ Kt.Own wr w.heap.size 3 .i64 v ((wts l).take k) ∧ Below w.heap.size w wr) (fun _ _ i _ => l.length - (intOf i).toNat)
  case atStart => exact ⟨0, Nat.zero_le _, by omega, rfl, rfl, Kt.Own.nil _ _ _ _, Below.refl _ _⟩
  case round =>
    obtain ⟨k, hk, hk2, rfl, rfl, hown, hbel⟩ := hrel
    by_cases hlt : k < l.length
    · by_cases hlt2 : k < 4096
      · obtain ⟨b, off, rfl, hb, hc⟩ := hz (by omega)
        have hcell := (hbel.cell (p := ⟨b, off + k, none⟩) hb).trans (hc k hlt)
        have hlen : ((wts l).take k).length = k := by rw [List.length_take, wts_len]; omega
        have hx := hu _ (Ls.nth_mem l k hlt)
        obtain ⟨hx1, hx2⟩ := hx
        have hs := wts_sum l k hk2
        obtain ⟨hs1, hs2⟩ := hs
        have HN := Lib.hid (wts_nth l k hlt hlt2)
        have hlw : k < (wts l).length := by rw [wts_len]; omega
        have HT := Lib.hid (Ls.take_nth (wts l) k hlw)
        have HI := Lib.hid (Ls.isum_take (wts l) k hlw)
        have HLEN := Lib.hid hlen
        have hgrown : w.heap.size ≤ wr.heap.size := hbel.size
        have hown2 : wr.ownsRow w.heap.size 3 1 u3 k (((wts l).take k).map (Value.int .i64)) := by have := hown; unfold Kt.Own at this; rwa [hlen] at this
        clear hc hlen hlw
        go_wp2_with (at_builtin; refine wpList_append_own _ rfl (.tmp 16) (.tmp 23) 33 rfl w.heap.size 3 i0 (.int .i64 0) 1 8 Tryd.underlying33 hi0 hz0 hz1 hz2 rfl (by decide) _ _ _ rfl (hown2.alloc _) ⟨wr.heap.size, 0, none⟩ 1 1 [.int .i64 (Ls.nth l k % 1000001)] rfl rfl (Kt.cell_one _ _ _) (ints_oneCell .i64 [Ls.nth l k % 1000001]) (by unfold maxLen; omega) (by omega) (by simp; omega) ?_)
        intro v' w1 hown' hgrow _
        have hown3 : Kt.Own w1 w.heap.size 3 .i64 v' ((wts l).take (k + 1)) := by
          rw [HT.out, HN.out]
          apply Kt.Own.snoc
          rw [HLEN.out, List.map_take]
          exact hown'
        have hbel1 : Below w.heap.size w w1 := (hbel.alloc hgrown _).grown hgrow (by simp; omega) (fun g hg => Kt.own_block_ne hown g hg)
        have hlen3 : ((wts l).take (k + 1)).length = k + 1 := by rw [HT.out, List.length_append, HLEN.out]; rfl
        obtain ⟨g, c, hv, hgc, hgb, hgl, hcells, hfz⟩ := hown3.block (by omega)
        have hcell2 : w1.cell? ⟨g, k, none⟩ = some (.int .i64 (Ls.nth l k % 1000001)) := by
          rw [hcells k (by omega), Ls.nth_take _ _ _ (by omega), HN.out]
        rw [hlen3] at hv
        rw [hv]
        rw [hv] at hown3
        clear hown' hgrow hown hown2 hcells hv hcell hfz hbel hlen3
        go_wp2
        go_roundw
        case rel => exact ⟨k + 1, by omega, by omega, by go_num, by rw [HI.out, HN.out], hown3, hbel1⟩
        case measure => simp [intOf]; omega
      · have hkk : k = min 4096 l.length := by omega
        have HA : Hid ((wts l).take k = wts l) := Lib.hid (List.take_of_length_le (by rw [wts_len]; omega))
        rw [HA.out] at hown ⊢
        obtain ⟨A', c', hv, _, hi⟩ := hown.shape
        clear hkk
        by_cases h0 : Ls.isum (wts l) = 0
        · have HW : Hid (weightsOf l = [1]) := Lib.hid (by simp [weightsOf, h0])
          have h0b : (Ls.isum (wts l) == 0) = true := by simp [h0]
          clear h0
          go_wp2
          go_ret
          refine ⟨_, _, by rw [HW.out]; rfl, by rw [HW.out]; exact Kt.ints_lit _ _ .i64 [1] _ rfl, hbel.alloc hbel.size _⟩
        · have HW : Hid (weightsOf l = wts l) := Lib.hid (by simp [weightsOf, h0])
          have h0b : (Ls.isum (wts l) == 0) = false := by simp [h0]
          clear h0
          go_wp2
          go_ret
          exact ⟨A', c', by rw [HW.out]; exact congrArg Ending.returned hv, by rw [HW.out]; exact hi, hbel⟩
    · have hkk : k = min 4096 l.length := by omega
      have HA : Hid ((wts l).take k = wts l) := Lib.hid (List.take_of_length_le (by rw [wts_len]; omega))
      rw [HA.out] at hown ⊢
      obtain ⟨A', c', hv, _, hi⟩ := hown.shape
      clear hkk
      by_cases h0 : Ls.isum (wts l) = 0
      · have HW : Hid (weightsOf l = [1]) := Lib.hid (by simp [weightsOf, h0])
        have h0b : (Ls.isum (wts l) == 0) = true := by simp [h0]
        clear h0
        go_wp2
        go_ret
        refine ⟨_, _, by rw [HW.out]; rfl, by rw [HW.out]; exact Kt.ints_lit _ _ .i64 [1] _ rfl, hbel.alloc hbel.size _⟩
      · have HW : Hid (weightsOf l = wts l) := Lib.hid (by simp [weightsOf, h0])
        have h0b : (Ls.isum (wts l) == 0) = false := by simp [h0]
        clear h0
        go_wp2
        go_ret
        exact ⟨A', c', by rw [HW.out]; exact congrArg Ending.returned hv, by rw [HW.out]; exact hi, hbel⟩

/-- Weights are right. -/
theorem weightsOf_ok (l : List Int) : (weightsOf l).all Mny.wOk = true ∧ 0 < Ls.isum (weightsOf l) ∧ (weightsOf l).length ≤ 4096 ∧ Ls.isum (weightsOf l) ≤ 4096000000 := by
  by_cases h0 : Ls.isum (wts l) = 0
  · have : weightsOf l = [1] := by simp [weightsOf, h0]
    rw [this]; decide
  · have e : weightsOf l = wts l := by simp [weightsOf, h0]
    rw [e]
    have hb := wts_sum l 4096 (Nat.le_refl _)
    rw [List.take_of_length_le (by rw [wts_len]; omega)] at hb
    exact ⟨List.all_eq_true.2 fun x hx => by have := wts_bd l x hx; simp [Mny.wOk, this], by omega, by rw [wts_len]; omega, hb.2⟩
theorem sum_ws {ws : List Int} (hall : ws.all Mny.wOk = true) (hs : Ls.isum ws ≤ 4096000000) : sumV ws = Ls.isum ws ∧ sumE ws = 0 := by
  have h0 : 0 ≤ Ls.isum ws := Ls.isum_nonneg ws (fun x hx => (Mny.wOk_bd (List.all_eq_true.1 hall x hx)).1)
  refine sum_ok (all_inR fun x hx => ?_) (inR_mk (by omega) (by omega))
  have := Mny.wOk_bd (List.all_eq_true.1 hall x hx)
  omega

end Go.Proofs.YtpobjacfhgnfhaaDoor
