/- Slices that are lent with marks behind them: LentInts, KeptInts: their walks. -/
import Derived.Test.YtjfgfchnpghpfaaDoorCivilReadsW
import Derived.Test.YtjfgfchnpghpfaaDoorCivO
import Derived.Laws.AppendOwnNone
namespace Ls
def mks (j : Nat) : List Int := (List.range j).map fun i : Nat => 8000024 + (i : Int)
theorem mks_succ (j : Nat) : mks (j + 1) = mks j ++ [8000024 + (j : Int)] := by simp [mks, List.range_succ]
theorem mks_len (j : Nat) : (mks j).length = j := by simp [mks]
theorem mks_nth (j i : Nat) (h : i < j) : nth (mks j) i = 8000024 + (i : Int) := by
  unfold nth mks
  rw [List.getD, List.getElem?_map, List.getElem?_range h]
  rfl
theorem lent_left (l : List Int) (j i : Nat) (h : i < l.length) : nth (l ++ mks j) i = nth l i := nth_append_left l _ i h
theorem lent_right (l : List Int) (j i : Nat) (h1 : l.length ≤ i) (h2 : i < l.length + j) : nth (l ++ mks j) i = 8000024 + ((i : Int) - l.length) := by
  unfold nth
  rw [List.getD, List.getElem?_append_right h1]
  have := mks_nth j (i - l.length) (by omega)
  unfold nth at this
  rw [List.getD] at this
  rw [this]
  omega
end Ls
namespace Go.Proofs.YtjfgfchnpghpfaaDoor
open Go Go.RowKit

theorem mark_any (k i : Int) (w : World) (h0 : 0 ≤ k) (h1 : k ≤ 1000) (h2 : 0 ≤ i) (h3 : i ≤ 1000000) :
    Calls Tryd.prog 53 #[.int .i64 k, .int .i64 i] w fun e w' => e = .returned (.int .i64 (1000003 * (k + 7) + i)) ∧ w = w' := by
  go_enter Tryd.func53, Tryd.ntmps53
  go_wp2
  go_ret
  exact ⟨rfl, rfl⟩

theorem ints_news {w : World} {B : Nat} {a : Addr} {l : List Int} {k : IntKind} (hz : Kt.Ints w B k (some a) l) : ∀ j u, (l.map (Value.int k))[j]? = some u → w.cell? (a.add j) = some u := by
  intro j u hj
  have hlt : j < l.length := by
    rcases Nat.lt_or_ge j l.length with h | h
    · exact h
    · rw [List.getElem?_eq_none (by simpa using h)] at hj; cases hj
  obtain ⟨b, off, e, _, hc⟩ := hz (by omega)
  injection e with e
  subst e
  rw [List.getElem?_map, Ls.nth_of hlt] at hj
  have := hc j hlt
  simp only [Option.map_some, Option.some.injEq] at hj
  rw [← hj, Addr.add_lit]
  exact this

set_option maxHeartbeats 1000000 in
set_option maxRecDepth 100000 in
theorem lent_any (A : Option Addr) (n cp : Nat) (l : List Int) (w : World) (hl : l.length = n) (hz : Kt.Ints w w.heap.size .i64 A l) (hA : A = none → n = 0 ∧ cp = 0) (hn : n ≤ 5000) :
    Calls Tryd.prog 24 #[.slice A n cp] w fun e w' => e = .returned (.slice (some ⟨w.heap.size, 0, none⟩) n (n + 12)) ∧ Kt.Own w' w.heap.size 3 .i64 (.slice (some ⟨w.heap.size, 0, none⟩) (n + 12) (n + 12)) (l ++ Ls.mks 12) ∧ Below w.heap.size w w' := by
  have HL := Lib.hid hl
  have HA := Lib.hid hA
  have HZ := Lib.hid hz
  clear hl hA
  obtain ⟨i0, hi0, hz0, hz1, hz2⟩ := info_parts Tryd.infoI64
  go_enter Tryd.func24, Tryd.ntmps24
  go_wp2_with (at_make; refine wpList_make_own _ rfl _ _ 22 rfl w.heap.size 3 i0 (.int .i64 0) 1 Tryd.underlying22 hi0 hz0 hz1 .i64 .i64 _ (n + 12) rfl rfl (by omega) (by rw [hz2]; omega) (by unfold maxLen; omega) (Nat.le_refl _) ?_)
  intro w1 hown1 hgrow1
  have hb1 : Below w.heap.size w w1 := (Below.refl _ _).grown hgrow1 (Nat.le_refl _) (fun g hg => by cases hg)
  have hz1' : Kt.Ints w1 w.heap.size .i64 A l := hz.below hb1
  clear hgrow1
  go_wp2_with (at_builtin; refine wpList_append_fits_any _ rfl (.tmp 9) (.tmp 10) 22 rfl w.heap.size 3 i0 1 Tryd.underlying22 hi0 hz1 w.heap.size 0 (n + 12) [] rfl hown1 A n cp (l.map (Value.int .i64)) rfl (by rw [List.length_map, HL.out, Nat.mul_one]) HA.out (fun ad had => by subst had; exact ints_news hz1') (ints_oneCell .i64 l) (by omega) ?_)
  intro w2 hown2 hgrow2
  have hb2 : Below w.heap.size w w2 := hb1.grown hgrow2 (by exact hb1.size) (fun g hg => by injection hg with hg; omega)
  try simp only [Nat.zero_add, List.nil_append] at hown2
  have HO2 : Hid (w2.ownsRow w.heap.size 3 1 (.slice (some ⟨w.heap.size, 0, none⟩) (n + 0) (n + 12)) (n + 0) ((l ++ Ls.mks 0).map (Value.int .i64))) := Lib.hid (by
    have e : l ++ Ls.mks 0 = l := by simp [Ls.mks]
    rw [e]; exact hown2)
  clear hgrow2 hz1' hown1 hb1 hown2 hz
  go_wp2_with fail
  go_loopw [3, 4] (fun v i wr => ∃ j : Nat, j ≤ 12 ∧ i = .int .i64 j ∧ v = .slice (some ⟨w.heap.size, 0, none⟩) (n + j) (n + 12) ∧ Hid (wr.ownsRow w.heap.size 3 1 (.slice (some ⟨w.heap.size, 0, none⟩) (n + j) (n + 12)) (n + j) ((l ++ Ls.mks j).map (Value.int .i64))) ∧ Below w.heap.size w wr) (fun _ i _ => 12 - (intOf i).toNat)
  case atStart => exact ⟨0, by omega, rfl, rfl, HO2, hb2⟩
  case round =>
    obtain ⟨j, hj, rfl, rfl, hown, hbel⟩ := hrel
    by_cases hlt : j < 12
    · have hown' := hown.out
      have hgs : w.heap.size ≤ wr.heap.size := hbel.size
      go_wp2_with fail
      refine (mark_any 1 j _ (by omega) (by omega) (by omega) (by omega)).mono ?_
      rintro e w' ⟨rfl, rfl⟩
      go_wp2_with (at_builtin; refine wpList_append_fits _ rfl (.tmp 16) (.tmp 19) 22 rfl w.heap.size 3 i0 1 Tryd.underlying22 hi0 hz1 w.heap.size (n + j) (n + 12) _ rfl (hown'.alloc _) ⟨wr.heap.size, 0, none⟩ 1 1 [.int .i64 (8000024 + (j : Int))] rfl rfl (Kt.cell_one _ _ _) (ints_oneCell .i64 [8000024 + (j : Int)]) (by omega) ?_)
      intro w3 hown3 hgrow3
      have hb3 : Below w.heap.size w w3 := (hbel.alloc hgs _).grown hgrow3 (by simp; omega) (fun g hg => by injection hg with hg; omega)
      have HO3 : Hid (w3.ownsRow w.heap.size 3 1 (.slice (some ⟨w.heap.size, 0, none⟩) (n + (j + 1)) (n + 12)) (n + (j + 1)) ((l ++ Ls.mks (j + 1)).map (Value.int .i64))) := Lib.hid (by
        rw [Ls.mks_succ, List.map_append, List.map_append]; exact hown3)
      clear hown3 hgrow3 hown'
      go_wp2
      go_roundw
      case rel => exact ⟨j + 1, by omega, by go_num, rfl, HO3, hb3⟩
      case measure => simp [intOf]; omega
    · obtain rfl : j = 12 := by omega
      go_wp2
      go_ret
      refine ⟨rfl, ?_, hbel⟩
      have h := hown.out
      unfold Kt.Own
      have e : (l ++ Ls.mks 12).length = n + 12 := by rw [List.length_append, Ls.mks_len, HL.out]
      rw [e]; exact h

end Go.Proofs.YtjfgfchnpghpfaaDoor
