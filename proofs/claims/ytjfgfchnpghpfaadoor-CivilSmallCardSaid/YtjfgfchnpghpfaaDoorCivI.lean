/- The contracts of package civil at values that are known: dates, texts, days ahead. -/
import Derived.Test.YtjfgfchnpghpfaaDoorCivH
namespace Cv
theorem isDateB {d y : Int} {m : Nat} {k : Int} (h : (decide (2001 ≤ y) && decide (y ≤ 4000) && decide (1 ≤ m) && decide (m ≤ 12) && decide (1 ≤ k) && decide (k ≤ md (leap y) m) && decide (d = ys y + cum (leap y) m + k - 1)) = true) : IsDate d y m k := by
  simp only [Bool.and_eq_true, decide_eq_true_eq] at h
  exact ⟨h.1.1.1.1.1.1, h.1.1.1.1.1.2, h.1.1.1.1.2, h.1.1.1.2, h.1.1.2, h.1.2, h.2⟩
theorem ahead_uniq {last : Int} {H : List Int} (h : asc last H = true) {d e : Int} (hd : 0 ≤ d) (he : 0 ≤ e) (hc : cnt H d = cnt H e) (h1 : wk H d = true) (h2 : wk H e = true) : d = e := by
  rcases Int.lt_trichotomy d e with c | c | c
  · have a := cnt_step h d hd
    have b := cnt_mono h (show 0 ≤ d + 1 by omega) (show d + 1 ≤ e by omega)
    rw [h1] at a
    simp at a
    omega
  · exact c
  · have a := cnt_step h e he
    have b := cnt_mono h (show 0 ≤ e + 1 by omega) (show e + 1 ≤ d by omega)
    rw [h2] at a
    simp at a
    omega
end Cv
namespace Go.Proofs.YtjfgfchnpghpfaaDoor
open Go Go.RowKit
section
variable {w : World}
theorem day_val {d y m k : Int} (M : Nat) (hm : m = (M : Int)) (h : Cv.IsDate d y M k) :
    Calls Tryd.prog 9 #[.int .i64 y, .int .i64 m, .int .i64 k] w fun e w' => e = .returned (.tuple #[.int .i64 d, .int .i64 0]) ∧ Below w.heap.size w w' := by
  subst hm
  exact day_ok d y M k w h
theorem date_val {d y m k : Int} (M : Nat) (hm : m = (M : Int)) (h : Cv.IsDate d y M k) :
    Calls Tryd.prog 14 #[.int .i64 d] w fun e w' => e = .returned (.tuple #[.int .i64 y, .int .i64 m, .int .i64 k, .int .i64 0]) ∧ Below w.heap.size w w' := by
  subst hm
  refine (date_ok d w h.bd.1 h.bd.2).mono ?_
  rintro e w' ⟨⟨y', m', k', rfl, h'⟩, hb⟩
  obtain ⟨rfl, rfl, rfl⟩ := h.uniq h'
  exact ⟨rfl, hb⟩
theorem text_val {d : Int} {l : List UInt8} (Y M K : Nat) (h : Cv.IsDate d Y M K) (hl : Cv.dateL Y M K = l) (ht : Tab w) :
    Calls Tryd.prog 18 #[.int .i64 d] w fun e w' => e = .returned (.tuple #[.string ⟨l.toArray⟩, .int .i64 0]) ∧ Below w.heap.size w w' := by
  subst hl
  refine (text_ok d w h.bd.1 h.bd.2 ht).mono ?_
  rintro e w' ⟨⟨y', m', k', rfl, h'⟩, hb⟩
  obtain ⟨h1, rfl, h3⟩ := h.uniq h'
  obtain rfl : Y = y' := by omega
  obtain rfl : K = k' := by omega
  exact ⟨rfl, hb⟩
theorem readtime_val {s : ByteArray} {v : Int} (hm : s.size ≤ maxLen) (hv : tV s = v) (he : tE s = 0) :
    Calls Tryd.prog 38 #[.string s] w fun e w' => e = .returned (.tuple #[.int .i64 v, .int .i64 0]) ∧ Below w.heap.size w w' := by
  have h := readtime_any s w hm
  rwa [hv, he] at h
theorem yearly_val {d a b : Int} {y k : Int} {v : Bool} (M : Nat) (h : Cv.IsDate d y M k) (ia : a ≤ 9223372036854775807) (ib : b ≤ 9223372036854775807) (ha : Cv.ydB a = true) (hb : Cv.ydB b = true) (hv : Cv.yrV (100 * (M : Int) + k) a b = v) :
    Calls Tryd.prog 33 #[.int .i64 d, .int .i64 a, .int .i64 b] w fun e w' => e = .returned (.tuple #[.bool v, .int .i64 0]) ∧ Below w.heap.size w w' := by
  subst hv
  refine (yearly_ok d a b w h.bd.1 h.bd.2 ia ib ha hb).mono ?_
  rintro e w' ⟨⟨y', m', k', rfl, h'⟩, hb2⟩
  obtain ⟨rfl, rfl, rfl⟩ := h.uniq h'
  exact ⟨rfl, hb2⟩
theorem ahead_val {A : Option Addr} {n cp : Nat} {H : List Int} (a k d : Int) (hl : H.length = n) (hz : Kt.Ints w w.heap.size .i64 A H) (hr : Cv.rightH H = true) (h0 : 0 ≤ a) (had : a ≤ d) (h1 : d ≤ 730484) (hk : 0 ≤ k) (hw : Cv.wk H d = true) (hc : Cv.cnt H d - Cv.cnt H a = k) :
    Calls Tryd.prog 31 #[.int .i64 a, .int .i64 k, .slice A n cp] w fun e w' => e = .returned (.tuple #[.int .i64 d, .int .i64 0]) ∧ Below w.heap.size w w' := by
  have hr2 := Cv.rightH_asc hr
  have hs := Cv.cnt_step hr2.2 d (by omega)
  rw [hw] at hs
  simp only [if_true] at hs
  have hm := Cv.cnt_mono hr2.2 (show 0 ≤ d + 1 by omega) (show d + 1 ≤ 730485 by omega)
  refine (ahead_ok a k hl hz hr h0 (by omega) hk (by omega)).mono ?_
  rintro e w' ⟨⟨d', rfl, g1, g2, g3, g4⟩, hb⟩
  have := Cv.ahead_uniq hr2.2 (d := d) (e := d') (by omega) (by omega) (by omega) hw g4
  subst this
  exact ⟨rfl, hb⟩
theorem between_val {A : Option Addr} {n cp : Nat} {H : List Int} (a b v : Int) (hl : H.length = n) (hz : Kt.Ints w w.heap.size .i64 A H) (hr : Cv.rightH H = true) (h0 : 0 ≤ a) (hab : a ≤ b) (h1 : b ≤ 730484) (hv : Cv.cnt H b - Cv.cnt H a = v) :
    Calls Tryd.prog 29 #[.int .i64 a, .int .i64 b, .slice A n cp] w fun e w' => e = .returned (.tuple #[.int .i64 v, .int .i64 0]) ∧ Below w.heap.size w w' := by
  subst hv
  exact between_ok a b hl hz hr h0 hab h1
end
theorem ts_val : tV ⟨#[50, 48, 48, 49, 45, 48, 49, 45, 48, 50, 32, 48, 48, 58, 48, 49]⟩ = 1441 ∧ tE ⟨#[50, 48, 48, 49, 45, 48, 49, 45, 48, 50, 32, 48, 48, 58, 48, 49]⟩ = 0 := by decide +kernel
set_option maxRecDepth 100000 in
set_option maxHeartbeats 4000000 in
theorem awake_any (w : World) (ht : Tab w) : Calls Tryd.prog 13 #[] w fun e w' => e = .returned (.bool true) ∧ Below w.heap.size w w' := by
  have HT := Lib.hid ht
  clear ht
  go_enter Tryd.func13, Tryd.ntmps13
  go_wp2_with fail
  refine (day_val (d := 0) 1 rfl (Cv.isDateB (by decide +kernel))).mono ?_
  rintro e w1 ⟨rfl, b1⟩
  go_wp2_with fail
  refine (day_val (d := 1154) 2 rfl (Cv.isDateB (by decide +kernel))).mono ?_
  rintro e w2 ⟨rfl, b2⟩
  replace b2 := Kt.next b1 b2
  go_wp2_with fail
  refine (day_bad 2100 2 29 _ (by decide +kernel)).mono ?_
  rintro e w3 ⟨rfl, b3⟩
  replace b3 := Kt.next b2 b3
  go_wp2_with fail
  refine (date_val (d := 1461) (y := 2005) (m := 1) (k := 1) 1 rfl (Cv.isDateB (by decide +kernel))).mono ?_
  rintro e w4 ⟨rfl, b4⟩
  replace b4 := Kt.next b3 b4
  go_wp2_with fail
  refine (week_ok 5 _ (by omega) (by omega)).mono ?_
  rintro e w' ⟨rfl, rfl⟩
  go_wp2_with fail
  refine (text_val (d := 59) (l := [50, 48, 48, 49, 45, 48, 51, 45, 48, 49]) 2001 3 1 (Cv.isDateB (by decide +kernel)) (by decide +kernel) (HT.out.on b4)).mono ?_
  rintro e w5 ⟨rfl, b5⟩
  replace b5 := Kt.next b4 b5
  go_wp2_with fail
  refine (readtime_val (v := 1441) (by unfold maxLen; decide) ts_val.1 ts_val.2).mono ?_
  rintro e w6 ⟨rfl, b6⟩
  replace b6 := Kt.next b5 b6
  go_wp2_with fail
  refine (between_val (H := [1]) 0 7 4 rfl (Kt.ints_lit _ _ _ _ _ rfl) (by decide +kernel) (by omega) (by omega) (by omega) (by decide +kernel)).mono ?_
  rintro e w7 ⟨rfl, b7⟩
  replace b7 := Kt.next (b6.alloc b6.size _) b7
  go_wp2_with fail
  refine (ahead_val (H := [1]) 0 1 2 rfl (Kt.ints_lit _ _ _ _ _ rfl) (by decide +kernel) (by omega) (by omega) (by omega) (by omega) (by decide +kernel) (by decide +kernel)).mono ?_
  rintro e w8 ⟨rfl, b8⟩
  replace b8 := Kt.next (b7.alloc b7.size _) b8
  go_wp2_with fail
  refine (ahead_val (H := []) 5 0 7 rfl Kt.Ints.nil (by decide +kernel) (by omega) (by omega) (by omega) (by omega) (by decide +kernel) (by decide +kernel)).mono ?_
  rintro e w9 ⟨rfl, b9⟩
  replace b9 := Kt.next b8 b9
  go_wp2_with fail
  refine (yearly_val (d := 364) (y := 2001) (k := 31) (v := true) 12 (Cv.isDateB (by decide +kernel)) (by omega) (by omega) (by decide +kernel) (by decide +kernel) (by decide +kernel)).mono ?_
  rintro e w10 ⟨rfl, b10⟩
  replace b10 := Kt.next b9 b10
  go_wp2_with fail
  refine (yearly_val (d := 59) (y := 2001) (k := 1) (v := false) 3 (Cv.isDateB (by decide +kernel)) (by omega) (by omega) (by decide +kernel) (by decide +kernel) (by decide +kernel)).mono ?_
  rintro e w11 ⟨rfl, b11⟩
  replace b11 := Kt.next b10 b11
  go_wp2_with fail
  go_ret
  exact ⟨rfl, b11⟩
end Go.Proofs.YtjfgfchnpghpfaaDoor
