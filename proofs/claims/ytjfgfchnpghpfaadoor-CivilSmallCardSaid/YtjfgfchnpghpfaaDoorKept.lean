/- Slices that were lent are as they were: KeptInts: its walk. -/
import Derived.Test.YtjfgfchnpghpfaaDoorLent
import Derived.IntWalk
namespace Go.Proofs.YtjfgfchnpghpfaaDoor
open Go Go.RowKit

theorem own_cells {w : World} {base g m c : Nat} {T : TypeId} {k : IntKind} {zs : List Int} (h : Kt.Own w base T k (.slice (some ⟨g, 0, none⟩) m c) zs) : ∀ j, j < zs.length → w.cell? ⟨g, j, none⟩ = some (.int k (Ls.nth zs j)) := by
  intro j hj
  obtain ⟨g2, c2, e, _, _, _, hc, _⟩ := h.block (by omega)
  injection e with e _ _
  injection e with e
  injection e with e _ _
  subst e
  exact hc j hj
set_option maxHeartbeats 300000 in
theorem kept_any (g : Nat) (base : Nat) (B : Option Addr) (n cb : Nat) (l : List Int) (w : World) (hl : l.length = n) (ho : Kt.Own w base 3 .i64 (.slice (some ⟨g, 0, none⟩) (n + 12) (n + 12)) (l ++ Ls.mks 12)) (hz : Kt.Ints w w.heap.size .i64 B l) (hn : n ≤ 5000) :
    Calls Tryd.prog 35 #[.slice (some ⟨g, 0, none⟩) n (n + 12), .slice B n cb] w fun e w' => e = .returned (.bool true) ∧ ∃ q, w' = w.drewN q := by
  have hlen : (l ++ Ls.mks 12).length = n + 12 := by rw [List.length_append, Ls.mks_len, hl]
  have hcells := own_cells ho
  rw [hlen] at hcells
  have HL := Lib.hid hl
  have HC := Lib.hid hcells
  clear hl hlen hcells ho
  go_enter Tryd.func35, Tryd.ntmps35
  go_wp2
  go_loopw [6] (fun i wr => ∃ k : Nat, k ≤ n + 12 ∧ i = .int .i64 k ∧ ∃ q, wr = w.drewN q) (fun i _ => n + 12 - (intOf i).toNat)
  case atStart => exact ⟨0, by omega, rfl, 0, rfl⟩
  case round =>
    obtain ⟨k, hk, rfl, q, rfl⟩ := hrel
    by_cases hlt : k < n + 12
    · have hcell := HC.out k hlt
      by_cases hltn : k < n
      · obtain ⟨b2, o2, rfl, hb2, hc2⟩ := hz (by have := HL.out; omega)
        have hcell2 := hc2 k (by have := HL.out; omega)
        rw [Ls.lent_left l 12 k (by have := HL.out; omega)] at hcell
        clear hc2
        have hge : decide (n ≤ k) = false := by simp; omega
        go_wp2
        go_quiet (fail)
        go_wp2
        go_roundw
        case rel => exact ⟨k + 1, by omega, by go_num, _, by first | rfl | exact World.drewN_drewN _ _ _⟩
        case measure => simp [intOf]; omega
      · rw [Ls.lent_right l 12 k (by have := HL.out; omega) (by have := HL.out; omega), HL.out] at hcell
        have hltd : decide (k < n) = false := by simp; omega
        have hge0 : n ≤ k := by omega
        have hge : decide (n ≤ k) = true := by simp; omega
        have hm := fun W => mark_any 1 ((k : Int) - n) W (by omega) (by omega) (by omega) (by omega)
        have HM := Lib.hid hm
        have hw : IntKind.i64.wrap ((k : Int) - n) = (k : Int) - n := IntWalk.i64_in _ (by omega)
        clear hm
        go_wp2
        go_quiet ((go_at_call 53; first | exact Kt.quiet_add_left (HM.out _) | exact Kt.quiet_left (HM.out _)))
        clear hw
        go_wp2
        go_roundw
        case rel => exact ⟨k + 1, by omega, by go_num, _, by first | rfl | exact World.drewN_drewN _ _ _⟩
        case measure => simp [intOf]; omega
    · go_wp2
      go_ret
      exact ⟨rfl, q, rfl⟩

theorem own_ints {w : World} {base g m c : Nat} {T : TypeId} {l1 l2 : List Int} (h : Kt.Own w base T .i64 (.slice (some ⟨g, 0, none⟩) m c) (l1 ++ l2)) : Kt.Ints w w.heap.size .i64 (some ⟨g, 0, none⟩) l1 := fun hp => by
  have hc := own_cells h
  obtain ⟨g2, c2, e, _, _, hg, _, _⟩ := h.block (by rw [List.length_append]; omega)
  injection e with e _ _
  injection e with e
  injection e with e _ _
  subst e
  exact ⟨g, 0, rfl, hg, fun j hj => by rw [Nat.zero_add, hc j (by rw [List.length_append]; omega), Ls.nth_append_left _ _ _ hj]⟩
end Go.Proofs.YtjfgfchnpghpfaaDoor
