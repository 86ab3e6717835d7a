/- What padded, Text and TimeText of package civil return: their walks. -/
import Derived.Test.YtjfgfchnpghpfaaDoorCivC
import Derived.Test.YtjfgfchnpghpfaaDoorCivT
import Derived.Test.YtjfgfchnpghpfaaDoorShelf
namespace Go.Proofs.YtjfgfchnpghpfaaDoor
open Go Go.RowKit
/-- The library's table of powers of ten is as its initialiser lays it. -/
def Tab (w : World) : Prop := Lib.TabIs Tryd.prog w "internal/strconv.uint64pow10" .u64 Lib.pow10Tab
theorem Tab.on {w w' : World} (h : Tab w) (hb : Below w.heap.size w w') : Tab w' := (Lib.tabBelow_of_tabIs h) w' hb
theorem itoa_any (n : Int) (w : World) (h0 : -9223372036854775808 ≤ n) (h1 : n ≤ 9223372036854775807) (ht : Tab w) :
    Calls Tryd.prog 59 #[.int .i64 n] w fun e w' => e = .returned (.string ⟨(Lib.itoa n).toArray⟩) ∧ Below w.heap.size w w' :=
  (Tryd.strconv_Itoa n h0 h1 w ht).mono fun _ _ ⟨he, k, os, hw⟩ => ⟨he, by rw [hw]; exact Kt.below_grow w k os⟩
theorem pad_any (n k : Nat) (w : World) (h : n < 10 ^ k) (hk : 0 < k) (hk2 : k ≤ 4) (ht : Tab w) :
    Calls Tryd.prog 47 #[.int .i64 n, .int .i64 k] w fun e w' => e = .returned (.string ⟨(Cv.dgs k n).toArray⟩) ∧ Below w.heap.size w w' := by
  have hn : n < 10000 := by
    have : 10 ^ k ≤ 10 ^ 4 := Nat.pow_le_pow_right (by omega) hk2
    omega
  have HT := Lib.hid ht
  have HN := Lib.hid h
  have hlen := (Cv.pad_eq k n h hk).1
  obtain ⟨m, hm⟩ : ∃ m, Hid ((Lib.decDigits n).length = m) := ⟨_, Lib.hid rfl⟩
  rw [hm.out] at hlen
  clear ht h
  go_enter Tryd.func47, Tryd.ntmps47
  go_wp2_with fail
  refine (itoa_any n _ (by omega) (by omega) HT.out).mono ?_
  rw [Lib.itoa_nonneg]
  rintro e w1 ⟨rfl, b1⟩
  go_wp2_with fail
  go_loopw [5] (fun s wr => ∃ (j : Nat) (L : List UInt8), s = .string ⟨L.toArray⟩ ∧ Hid (L = List.replicate j 48 ++ Lib.decDigits n) ∧ Hid (L.length = j + m) ∧ j + m ≤ k ∧ w1 = wr) (fun s _ => match s with | .string b => k - b.size | _ => 0)
  case atStart => exact ⟨0, _, rfl, Lib.hid rfl, Lib.hid (by rw [hm.out]; omega), by omega, rfl⟩
  case round =>
    obtain ⟨j, L, rfl, hL, hl, hjk, rfl⟩ := hrel
    obtain ⟨q, hq⟩ : ∃ q, L.length = q := ⟨_, rfl⟩
    have hqj : q = j + m := by rw [← hq]; exact hl.out
    by_cases hlt : q < k
    · go_wp2_with fail
      go_roundw
      case rel => exact ⟨j + 1, 48 :: L, by rw [show (⟨#[48]⟩ : ByteArray) = ⟨([48] : List UInt8).toArray⟩ from rfl, Cv.bapp]; rfl, Lib.hid (by rw [hL.out, List.replicate_succ]; rfl), Lib.hid (by rw [List.length_cons, hl.out]; omega), by omega, by trivial⟩
      case measure =>
        show k - (⟨#[48]⟩ ++ ⟨L.toArray⟩ : ByteArray).size < k - (⟨L.toArray⟩ : ByteArray).size
        rw [ByteArray.size_append]
        have e1 : (⟨L.toArray⟩ : ByteArray).size = q := hq
        have e2 : (⟨#[48]⟩ : ByteArray).size = 1 := rfl
        rw [e1, e2]
        omega
    · have E : Hid (L = Cv.dgs k n) := Lib.hid (by rw [hL.out]; exact Cv.pad_mono HN.out hk j (by rw [hm.out]; omega))
      go_wp2_with fail
      go_ret
      exact ⟨Kt.ret_str E.out, b1⟩
theorem ret_si {a b : ByteArray} {n : Int} (h : a = b) : Ending.returned (.tuple #[.string a, .int .i64 n]) = .returned (.tuple #[.string b, .int .i64 n]) := by rw [h]
theorem text_bad (d c : Int) (w : World) (hc : (d < 0 ∧ c = 2) ∨ (730484 < d ∧ c = 3)) :
    Calls Tryd.prog 18 #[.int .i64 d] w fun e w' => e = .returned (.tuple #[.string ⟨#[]⟩, .int .i64 c]) ∧ w = w' := by
  have hc0 : c = 2 ∨ c = 3 := by omega
  have HD := Lib.hid (date_bad d c w hc)
  clear hc
  go_enter Tryd.func18, Tryd.ntmps18
  go_wp2_with fail
  refine HD.out.mono ?_
  rintro e w' ⟨rfl, rfl⟩
  rcases hc0 with rfl | rfl
  all_goals
    go_wp2
    go_ret2
    exact ⟨rfl, rfl⟩
theorem date_bytes (y m k : Nat) : (⟨(Cv.dgs 4 y).toArray⟩ ++ ⟨#[45]⟩ ++ ⟨(Cv.dgs 2 m).toArray⟩ ++ ⟨#[45]⟩ ++ ⟨(Cv.dgs 2 k).toArray⟩ : ByteArray) = ⟨(Cv.dateL y m k).toArray⟩ := by
  rw [show (⟨#[45]⟩ : ByteArray) = ⟨([45] : List UInt8).toArray⟩ from rfl, Cv.bapp, Cv.bapp, Cv.bapp, Cv.bapp]
  simp [Cv.dateL]
theorem time_bytes (y m k h n : Nat) : (⟨(Cv.dateL y m k).toArray⟩ ++ ⟨#[32]⟩ ++ ⟨(Cv.dgs 2 h).toArray⟩ ++ ⟨#[58]⟩ ++ ⟨(Cv.dgs 2 n).toArray⟩ : ByteArray) = ⟨(Cv.timeL y m k h n).toArray⟩ := by
  rw [show (⟨#[32]⟩ : ByteArray) = ⟨([32] : List UInt8).toArray⟩ from rfl, show (⟨#[58]⟩ : ByteArray) = ⟨([58] : List UInt8).toArray⟩ from rfl, Cv.bapp, Cv.bapp, Cv.bapp, Cv.bapp]
  simp [Cv.timeL]
def TextR (w : World) (d : Int) (e : Ending) (w' : World) : Prop := (∃ y m k : Nat, e = .returned (.tuple #[.string ⟨(Cv.dateL y m k).toArray⟩, .int .i64 0]) ∧ Cv.IsDate d y m k) ∧ Below w.heap.size w w'
theorem text_ok (d : Int) (w : World) (h0 : 0 ≤ d) (h1 : d ≤ 730484) (ht : Tab w) : Calls Tryd.prog 18 #[.int .i64 d] w (TextR w d) := by
  have HT := Lib.hid ht
  clear ht
  go_enter Tryd.func18, Tryd.ntmps18
  go_wp2_with fail
  refine (date_ok d _ h0 h1).mono ?_
  rintro e w1 ⟨⟨y, m, k, rfl, hd⟩, b1⟩
  have hy0 := hd.y0
  have hy1 := hd.y1
  have hm0 := hd.m0
  have hm1 := hd.m1
  have hk0 := hd.k0
  have hk1 := hd.k1
  have hk2 := (Cv.md_bd (Cv.leap y) hm0 hm1).2
  obtain ⟨Y, rfl⟩ := Int.eq_ofNat_of_zero_le (show 0 ≤ y by omega)
  obtain ⟨K, rfl⟩ := Int.eq_ofNat_of_zero_le (show 0 ≤ k by omega)
  have hK : K < 100 := by omega
  have HD := Lib.hid hd
  have HT1 := Lib.hid (HT.out.on b1)
  clear hd hk1 hk2
  go_wp2_with fail
  refine (pad_any Y 4 _ (by omega) (by omega) (by omega) HT1.out).mono ?_
  rintro e w2 ⟨rfl, b2⟩
  have HT2 := Lib.hid (HT1.out.on b2)
  have l4 : (Cv.dgs 4 Y).length = 4 := Cv.dgs_len 4 Y
  have l2 : (Cv.dgs 2 m).length = 2 := Cv.dgs_len 2 m
  have l2' : (Cv.dgs 2 K).length = 2 := Cv.dgs_len 2 K
  go_wp2_with fail
  refine (pad_any m 2 _ (by omega) (by omega) (by omega) HT2.out).mono ?_
  rintro e w3 ⟨rfl, b3⟩
  have HT3 := Lib.hid (HT2.out.on b3)
  go_wp2_with fail
  refine (pad_any K 2 _ (by omega) (by omega) (by omega) HT3.out).mono ?_
  rintro e w4 ⟨rfl, b4⟩
  go_wp2_with fail
  go_ret2
  exact ⟨⟨Y, m, K, ret_si (date_bytes Y m K), HD.out⟩, Kt.next (Kt.next (Kt.next b1 b2) b3) b4⟩
theorem timetext_bad (t c : Int) (w : World) (hc : (t < 0 ∧ c = 2) ∨ (1051898399 < t ∧ c = 3)) :
    Calls Tryd.prog 51 #[.int .i64 t] w fun e w' => e = .returned (.tuple #[.string ⟨#[]⟩, .int .i64 c]) ∧ w = w' := by
  have hc0 : c = 2 ∨ c = 3 := by omega
  have HD := Lib.hid (split_no t c w hc)
  clear hc
  go_enter Tryd.func51, Tryd.ntmps51
  go_wp2_with fail
  refine HD.out.mono ?_
  rintro e w' ⟨rfl, rfl⟩
  rcases hc0 with rfl | rfl
  all_goals
    go_wp2
    go_ret2
    exact ⟨rfl, rfl⟩
def TimeR (w : World) (t : Int) (e : Ending) (w' : World) : Prop := (∃ y m k h n : Nat, e = .returned (.tuple #[.string ⟨(Cv.timeL y m k h n).toArray⟩, .int .i64 0]) ∧ Cv.IsDate (t / 1440) y m k ∧ (h : Int) = t % 1440 / 60 ∧ (n : Int) = t % 1440 % 60) ∧ Below w.heap.size w w'
theorem timetext_ok (t : Int) (w : World) (h0 : 0 ≤ t) (h1 : t ≤ 1051898399) (ht : Tab w) : Calls Tryd.prog 51 #[.int .i64 t] w (TimeR w t) := by
  have HT := Lib.hid ht
  clear ht
  obtain ⟨D, hD⟩ : ∃ D, Hid (t / 1440 = D) := ⟨_, Lib.hid rfl⟩
  obtain ⟨h, hh⟩ : ∃ h : Nat, Hid ((h : Int) = t % 1440 / 60) := ⟨(t % 1440 / 60).toNat, Lib.hid (by omega)⟩
  obtain ⟨n, hn⟩ : ∃ n : Nat, Hid ((n : Int) = t % 1440 % 60) := ⟨(t % 1440 % 60).toNat, Lib.hid (by omega)⟩
  obtain ⟨M, hM⟩ : ∃ M, Hid (t % 1440 = M) := ⟨_, Lib.hid rfl⟩
  have hD0 : 0 ≤ D := by rw [← hD.out]; omega
  have hD1 : D ≤ 730484 := by rw [← hD.out]; omega
  have hM0 : 0 ≤ M := by rw [← hM.out]; omega
  have hM1 : M < 1440 := by rw [← hM.out]; omega
  have h24 : h < 24 := by have := hh.out; omega
  have n60 : n < 60 := by have := hn.out; omega
  have HS : Hid (Calls Tryd.prog 49 #[.int .i64 t] w fun e w' => e = .returned (.tuple #[.int .i64 D, .int .i64 M, .int .i64 0]) ∧ w = w') := Lib.hid (by rw [← hD.out, ← hM.out]; exact split_ok t w h0 h1)
  have e1 : M / 60 = (h : Int) := by rw [← hM.out]; exact hh.out.symm
  have e2 : M % 60 = (n : Int) := by rw [← hM.out]; exact hn.out.symm
  have E1 := Lib.hid e1
  have E2 := Lib.hid e2
  clear e1 e2
  go_enter Tryd.func51, Tryd.ntmps51
  go_wp2_with fail
  refine HS.out.mono ?_
  rintro e w' ⟨rfl, rfl⟩
  go_wp2_with fail
  refine (text_ok D _ hD0 hD1 HT.out).mono ?_
  rintro e w1 ⟨⟨y, m, k, rfl, hd⟩, b1⟩
  have HD := Lib.hid hd
  have HT1 := Lib.hid (HT.out.on b1)
  have l1 : (Cv.dateL y m k).length = 10 := Cv.dateL_len y m k
  clear hd
  go_wp2_with fail
  rw [E1.out]
  refine (pad_any h 2 _ (by omega) (by omega) (by omega) HT1.out).mono ?_
  rintro e w2 ⟨rfl, b2⟩
  have HT2 := Lib.hid (HT1.out.on b2)
  have l2 : (Cv.dgs 2 h).length = 2 := Cv.dgs_len 2 h
  have l3 : (Cv.dgs 2 n).length = 2 := Cv.dgs_len 2 n
  go_wp2_with fail
  rw [E2.out]
  refine (pad_any n 2 _ (by omega) (by omega) (by omega) HT2.out).mono ?_
  rintro e w3 ⟨rfl, b3⟩
  go_wp2_with fail
  go_ret2
  exact ⟨⟨y, m, k, h, n, ret_si (time_bytes y m k h n), by rw [hD.out]; exact HD.out, hh.out, hn.out⟩, Kt.next (Kt.next b1 b2) b3⟩
end Go.Proofs.YtjfgfchnpghpfaaDoor
