/- What Text and Read of package money return: their walks. -/
import Derived.Test.YtonoffeicbpigaaDoorBase
import Derived.Test.YtonoffeicbpigaaDoorShelf
import Derived.Test.YtonoffeicbpigaaDoorLists
import Derived.Test.YtonoffeicbpigaaDoorTextM
namespace Go.Proofs.YtonoffeicbpigaaDoor
open Go Go.RowKit

/-- The library's table of powers of ten is as its initialiser lays it. -/
def Tab (w : World) : Prop := Lib.TabIs Tryd.prog w "internal/strconv.uint64pow10" .u64 Lib.pow10Tab
theorem Tab.on {w w' : World} (h : Tab w) (hb : Below w.heap.size w w') : Tab w' := (Lib.tabBelow_of_tabIs h) w' hb

theorem itoa_any (n : Int) (w : World) (h0 : -9223372036854775808 ≤ n) (h1 : n ≤ 9223372036854775807) (ht : Tab w) :
    Calls Tryd.prog 28 #[.int .i64 n] w fun e w' => e = .returned (.string ⟨(Lib.itoa n).toArray⟩) ∧ Below w.heap.size w w' :=
  (Tryd.strconv_Itoa n h0 h1 w ht).mono fun _ _ ⟨he, k, os, hw⟩ => ⟨he, by rw [hw]; exact Kt.below_grow w k os⟩

theorem text_no (c : Int) (w : World) (h : c < -1000000000000000 ∨ 1000000000000000 < c) :
    Calls Tryd.prog 9 #[.int .i64 c] w fun e w' => e = .returned (.tuple #[.string ⟨#[]⟩, .int .i64 2]) ∧ Below w.heap.size w w' := by
  go_enter Tryd.func9, Tryd.ntmps9
  go_wp2_with (go_at_call 13; refine (right_no _ _ h).mono ?_; rintro e w' ⟨rfl, rfl⟩)
  go_ret2
  exact ⟨rfl, Below.refl _ _⟩

theorem ret_si {a b : ByteArray} {n : Int} (h : a = b) : Ending.returned (.tuple #[.string a, .int .i64 n]) = .returned (.tuple #[.string b, .int .i64 n]) := by rw [h]
theorem text_pos (c : Int) (w : World) (h1 : 0 ≤ c) (h2 : c ≤ 1000000000000000) (ht : Tab w) :
    Calls Tryd.prog 9 #[.int .i64 c] w fun e w' => e = .returned (.tuple #[.string ⟨(Mny.textB c).toArray⟩, .int .i64 0]) ∧ Below w.heap.size w w' := by
  have HT := Lib.hid ht
  clear ht
  go_enter Tryd.func9, Tryd.ntmps9
  go_wp2_with (go_at_call 13; refine (right_yes _ _ (by omega) (by omega)).mono ?_; rintro e w' ⟨rfl, rfl⟩)
  refine (itoa_any _ _ (by omega) (by omega) HT.out).mono ?_
  rintro e w1 ⟨rfl, hb1⟩
  have HT1 := Lib.hid (HT.out.on hb1)
  have l1 := Lib.itoa_length_le (c % 100) (by omega) (by omega)
  have l2 := Lib.itoa_length_le (c / 100) (by omega) (by omega)
  by_cases hl : ((Lib.itoa (c % 100)).length : Int) < 2
  · have E := Lib.hid (Mny.text_a c h1 hl)
    go_wp2_with fail
    refine (itoa_any _ _ (by omega) (by omega) HT1.out).mono ?_
    rintro e w2 ⟨rfl, hb2⟩
    go_wp2
    go_ret2
    exact ⟨ret_si E.out, Kt.next hb1 hb2⟩
  · have E := Lib.hid (Mny.text_b c h1 (by omega))
    go_wp2_with fail
    refine (itoa_any _ _ (by omega) (by omega) HT1.out).mono ?_
    rintro e w2 ⟨rfl, hb2⟩
    go_wp2
    go_ret2
    exact ⟨ret_si E.out, Kt.next hb1 hb2⟩
theorem text_neg (c : Int) (w : World) (h1 : 0 < c) (h2 : c ≤ 1000000000000000) (ht : Tab w) :
    Calls Tryd.prog 9 #[.int .i64 (-c)] w fun e w' => e = .returned (.tuple #[.string ⟨(Mny.textB (-c)).toArray⟩, .int .i64 0]) ∧ Below w.heap.size w w' := by
  have HT := Lib.hid ht
  clear ht
  go_enter Tryd.func9, Tryd.ntmps9
  go_wp2_with (go_at_call 13; refine (right_yes _ _ (by omega) (by omega)).mono ?_; rintro e w' ⟨rfl, rfl⟩)
  refine (itoa_any _ _ (by omega) (by omega) HT.out).mono ?_
  rintro e w1 ⟨rfl, hb1⟩
  have HT1 := Lib.hid (HT.out.on hb1)
  have l1 := Lib.itoa_length_le (c % 100) (by omega) (by omega)
  have l2 := Lib.itoa_length_le (c / 100) (by omega) (by omega)
  by_cases hl : ((Lib.itoa (c % 100)).length : Int) < 2
  · have E := Lib.hid (Mny.text_c c h1 hl)
    go_wp2_with fail
    refine (itoa_any _ _ (by omega) (by omega) HT1.out).mono ?_
    rintro e w2 ⟨rfl, hb2⟩
    go_wp2
    go_ret2
    exact ⟨ret_si E.out, Kt.next hb1 hb2⟩
  · have E := Lib.hid (Mny.text_d c h1 (by omega))
    go_wp2_with fail
    refine (itoa_any _ _ (by omega) (by omega) HT1.out).mono ?_
    rintro e w2 ⟨rfl, hb2⟩
    go_wp2
    go_ret2
    exact ⟨ret_si E.out, Kt.next hb1 hb2⟩
theorem text_yes (c : Int) (w : World) (h1 : -1000000000000000 ≤ c) (h2 : c ≤ 1000000000000000) (ht : Tab w) :
    Calls Tryd.prog 9 #[.int .i64 c] w fun e w' => e = .returned (.tuple #[.string ⟨(Mny.textB c).toArray⟩, .int .i64 0]) ∧ Below w.heap.size w w' := by
  by_cases h : 0 ≤ c
  · exact text_pos c w h h2 ht
  · have := text_neg (-c) w (by omega) (by omega) ht
    rwa [Int.neg_neg] at this

end Go.Proofs.YtonoffeicbpigaaDoor
