/- What Read of package money returns: its walk. -/
import Derived.Test.YtonoffeicbpigaaDoorText
namespace Go.Proofs.YtonoffeicbpigaaDoor
open Go Go.RowKit

theorem btake (s : ByteArray) (k : Nat) (h : k < s.size) : s.data.toList.take (k + 1) = s.data.toList.take k ++ [s[k]] := by
  rw [List.take_succ_eq_append_getElem (by simpa using h)]; rfl

theorem read_long (s : ByteArray) (w : World) (h : 18 < s.size) :
    Calls Tryd.prog 10 #[.string s] w fun e w' => e = .returned (.tuple #[.int .i64 (Mny.readRV s.data.toList), .int .i64 (Mny.readRE s.data.toList)]) ∧ Below w.heap.size w w' := by
  have E := Lib.hid (Mny.read_bad3 (l := s.data.toList) (by simpa using h))
  go_enter Tryd.func10, Tryd.ntmps10
  go_wp2
  go_ret2
  exact ⟨Kt.ret_ii E.out.1 E.out.2, Below.refl _ _⟩

theorem rval_take (s : ByteArray) (k : Nat) (h : k < s.size) : Mny.rval (s.data.toList.take (k + 1)) = Mny.rstep (Mny.rval (s.data.toList.take k)) s[k] := by
  rw [btake s k h, Mny.rval_snoc]

set_option maxHeartbeats 1000000 in
theorem read_short (s : ByteArray) (w : World) (hs : s.size ≤ 18) (ht : Tab w) :
    Calls Tryd.prog 10 #[.string s] w fun e w' => e = .returned (.tuple #[.int .i64 (Mny.readRV s.data.toList), .int .i64 (Mny.readRE s.data.toList)]) ∧ Below w.heap.size w w' := by
  have HT := Lib.hid ht
  clear ht
  go_enter Tryd.func10, Tryd.ntmps10
  go_wp2
  go_loop [4, 5] (fun n i => ∃ k : Nat, k ≤ s.size ∧ i = .int .i64 k ∧ n = .int .i64 (Mny.rval (s.data.toList.take k))) (fun _ i => s.size - (intOf i).toNat)
  case atStart => exact ⟨0, Nat.zero_le _, rfl, rfl⟩
  case round =>
    obtain ⟨k, hk, rfl, rfl⟩ := hrel
    by_cases hlt : k < s.size
    · have hl : (s.data.toList.take k).length ≤ 17 := by have := List.length_take_le k s.data.toList; omega
      have hb := Mny.rval_smaller _ hl
      have HR := Lib.hid (rval_take s k hlt)
      obtain ⟨hb1, hb2⟩ := hb
      clear hl
      by_cases hd : 48 ≤ s[k].toNat ∧ s[k].toNat ≤ 57
      · have HS : Hid (Mny.rstep (Mny.rval (s.data.toList.take k)) s[k] = Mny.rval (s.data.toList.take k) * 10 + ((s[k].toNat : Int) - 48)) := Lib.hid (by simp [Mny.rstep, hd])
        obtain ⟨hd1, hd2⟩ := hd
        have hd3 : 48 ≤ (s[k].toNat : Int) := by omega
        have hd4 : (s[k].toNat : Int) ≤ 57 := by omega
        go_wp2
        go_round
        case rel => exact ⟨k + 1, by omega, by go_num, by rw [HR.out, HS.out]⟩
        case measure => simp [intOf]; omega
      · have HS : Hid (Mny.rstep (Mny.rval (s.data.toList.take k)) s[k] = Mny.rval (s.data.toList.take k)) := Lib.hid (by simp only [Mny.rstep]; rw [if_neg hd])
        by_cases hd1 : (s[k].toNat : Int) < 48
        · clear hd
          go_wp2
          go_round
          case rel => exact ⟨k + 1, by omega, by go_num, by rw [HR.out, HS.out]⟩
          case measure => simp [intOf]; omega
        · have hd2 : 57 < (s[k].toNat : Int) := by omega
          clear hd
          go_wp2
          go_round
          case rel => exact ⟨k + 1, by omega, by go_num, by rw [HR.out, HS.out]⟩
          case measure => simp [intOf]; omega
    · obtain rfl : k = s.size := by omega
      have hall : s.data.toList.take s.size = s.data.toList := List.take_of_length_le (by simp)
      rw [hall]
      have hb := Mny.rval_small s.data.toList (by simpa using hs)
      obtain ⟨hb1, hb2⟩ := hb
      clear hall
      have hsl : s.data.toList.length ≤ 18 := by simpa using hs
      by_cases hp : 0 < s.size
      · by_cases hm : s[0].toNat = 45
        · have hm1 : ((s[0].toNat : Int) == 45) = true := by simp [hm]
          have V := Lib.hid (Mny.readV_minus s hp hm)
          clear hm
          go_wp2_with fail
          by_cases hr : Mny.rval s.data.toList ≤ 1000000000000000
          · refine (text_yes _ _ (by omega) (by omega) HT.out).mono ?_
            rintro e w1 ⟨rfl, hbel⟩
            cases ht : (Mny.textB (-Mny.rval s.data.toList) == s.toList)
            · have E : Hid _ := Lib.hid (Mny.read_bad1 V.out (by rw [ByteArray.toList_eq] at ht; exact ht))
              go_wp2
              go_ret2
              exact ⟨Kt.ret_ii E.out.1 E.out.2, hbel⟩
            · have E : Hid _ := Lib.hid (Mny.read_good V.out hsl (by omega) (by omega) (by rw [ByteArray.toList_eq] at ht; exact ht))
              go_wp2
              go_ret2
              exact ⟨Kt.ret_ii E.out.1 E.out.2, hbel⟩
          · have E : Hid _ := Lib.hid (Mny.read_bad2 V.out (by omega))
            refine (text_no _ _ (by omega)).mono ?_
            rintro e w1 ⟨rfl, hbel⟩
            go_wp2
            go_ret2
            exact ⟨Kt.ret_ii E.out.1 E.out.2, hbel⟩
        · have hm1 : ((s[0].toNat : Int) == 45) = false := by simp; omega
          have V := Lib.hid (Mny.readV_plus s hp hm)
          clear hm
          go_wp2_with fail
          by_cases hr : Mny.rval s.data.toList ≤ 1000000000000000
          · refine (text_yes _ _ (by omega) (by omega) HT.out).mono ?_
            rintro e w1 ⟨rfl, hbel⟩
            cases ht : (Mny.textB (Mny.rval s.data.toList) == s.toList)
            · have E : Hid _ := Lib.hid (Mny.read_bad1 V.out (by rw [ByteArray.toList_eq] at ht; exact ht))
              go_wp2
              go_ret2
              exact ⟨Kt.ret_ii E.out.1 E.out.2, hbel⟩
            · have E : Hid _ := Lib.hid (Mny.read_good V.out hsl (by omega) (by omega) (by rw [ByteArray.toList_eq] at ht; exact ht))
              go_wp2
              go_ret2
              exact ⟨Kt.ret_ii E.out.1 E.out.2, hbel⟩
          · have E : Hid _ := Lib.hid (Mny.read_bad2 V.out (by omega))
            refine (text_no _ _ (by omega)).mono ?_
            rintro e w1 ⟨rfl, hbel⟩
            go_wp2
            go_ret2
            exact ⟨Kt.ret_ii E.out.1 E.out.2, hbel⟩
      · have V := Lib.hid (Mny.readV_empty s hp)
        go_wp2_with fail
        by_cases hr : Mny.rval s.data.toList ≤ 1000000000000000
        · refine (text_yes _ _ (by omega) (by omega) HT.out).mono ?_
          rintro e w1 ⟨rfl, hbel⟩
          cases ht : (Mny.textB (Mny.rval s.data.toList) == s.toList)
          · have E : Hid _ := Lib.hid (Mny.read_bad1 V.out (by rw [ByteArray.toList_eq] at ht; exact ht))
            go_wp2
            go_ret2
            exact ⟨Kt.ret_ii E.out.1 E.out.2, hbel⟩
          · have E : Hid _ := Lib.hid (Mny.read_good V.out hsl (by omega) (by omega) (by rw [ByteArray.toList_eq] at ht; exact ht))
            go_wp2
            go_ret2
            exact ⟨Kt.ret_ii E.out.1 E.out.2, hbel⟩
        · have E : Hid _ := Lib.hid (Mny.read_bad2 V.out (by omega))
          refine (text_no _ _ (by omega)).mono ?_
          rintro e w1 ⟨rfl, hbel⟩
          go_wp2
          go_ret2
          exact ⟨Kt.ret_ii E.out.1 E.out.2, hbel⟩

theorem read_any (s : ByteArray) (w : World) (ht : Tab w) :
    Calls Tryd.prog 10 #[.string s] w fun e w' => e = .returned (.tuple #[.int .i64 (Mny.readRV s.data.toList), .int .i64 (Mny.readRE s.data.toList)]) ∧ Below w.heap.size w w' := by
  by_cases h : s.size ≤ 18
  · exact read_short s w h ht
  · exact read_long s w (by omega)

end Go.Proofs.YtonoffeicbpigaaDoor
