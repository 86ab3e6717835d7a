/- The reference implementation of amounts: texts. -/
import Derived.Test.YtonoffeicbpigaaDoorRefs
import Derived.Test.YtonoffeicbpigaaDoorText
import Derived.Test.YtonoffeicbpigaaDoorTextL
namespace Go.Proofs.YtonoffeicbpigaaDoor
open Go Go.RowKit

theorem rtext_no (c : Int) (w : World) (h : inR c = false) :
    Calls Tryd.prog 20 #[.int .i64 c] w fun e w' => e = .returned (.tuple #[.string ⟨#[]⟩, .int .i64 2]) ∧ w = w' := by
  go_enter Tryd.func20, Tryd.ntmps20
  go_wp2_with fail
  refine (rright_any c _).mono ?_
  rintro e w' ⟨rfl, rfl⟩
  rw [h]
  go_wp2
  go_ret2
  exact ⟨rfl, rfl⟩
theorem conv2 (w : World) (x y : Int) (hx0 : 0 ≤ x) (hx1 : x ≤ 255) (hy0 : 0 ≤ y) (hy1 : y ≤ 255) :
    (Go.convert 57 9 (.slice (some ⟨w.heap.size, 0, none⟩) 2 2)).run Tryd.prog (w.alloc (.cells #[.int .u8 x, .int .u8 y] 5)) = .ok (.string ⟨[UInt8.ofNat x.toNat, UInt8.ofNat y.toNat].toArray⟩) (w.alloc (.cells #[.int .u8 x, .int .u8 y] 5)) :=
  run_convert_bytes_back (P := Tryd.prog) (w.alloc (.cells #[.int .u8 x, .int .u8 y] 5)) 57 9 5 ⟨w.heap.size, 0, none⟩ 2 [UInt8.ofNat x.toNat, UInt8.ofNat y.toNat] Tryd.underlying57 Tryd.underlying5 Tryd.underlying9 (fun j hj => by
    match j, hj with
    | 0, _ => simp [Addr.add]; omega
    | 1, _ => simp [Addr.add]; omega)
theorem conv1 (w : World) (x : Int) (hx0 : 0 ≤ x) (hx1 : x ≤ 255) :
    (Go.convert 57 9 (.slice (some ⟨w.heap.size, 0, none⟩) 1 1)).run Tryd.prog (w.alloc (.cells #[.int .u8 x] 5)) = .ok (.string ⟨[UInt8.ofNat x.toNat].toArray⟩) (w.alloc (.cells #[.int .u8 x] 5)) :=
  run_convert_bytes_back (P := Tryd.prog) (w.alloc (.cells #[.int .u8 x] 5)) 57 9 5 ⟨w.heap.size, 0, none⟩ 1 [UInt8.ofNat x.toNat] Tryd.underlying57 Tryd.underlying5 Tryd.underlying9 (fun j hj => by
    match j, hj with
    | 0, _ => simp [Addr.add]; omega)
theorem blist (a b : ByteArray) : (a ++ b).data.toList = a.data.toList ++ b.data.toList := by
  rw [ByteArray.data_append, Array.toList_append]
theorem text_first (c : Int) (h0 : 0 ≤ c) : Lib.decDigits (c / 100).toNat ++ ((⟨#[46]⟩ : ByteArray) ++ ⟨#[UInt8.ofNat (48 + c / 10 % 10).toNat, UInt8.ofNat (48 + c % 10).toNat]⟩).data.toList =
    Lib.decDigits (c.natAbs / 100) ++ 46 :: Mny.dig2 (c.natAbs % 100) := by
  have e1 : (c / 100).toNat = c.natAbs / 100 := by omega
  have e2 : (48 + c / 10 % 10).toNat = 48 + c.natAbs % 100 / 10 := by omega
  have e3 : (48 + c % 10).toNat = 48 + c.natAbs % 100 % 10 := by omega
  rw [blist, e1, e2, e3]; rfl
theorem text_more (N : Int) (h : 9 < N) (X : ByteArray) : Lib.decDigits (N / 10).toNat ++ ((⟨#[UInt8.ofNat (48 + N % 10).toNat]⟩ : ByteArray) ++ X).data.toList = Lib.decDigits N.toNat ++ X.data.toList := by
  have e1 : (N / 10).toNat = N.toNat / 10 := by omega
  have e2 : (48 + N % 10).toNat = 48 + N.toNat % 10 := by omega
  rw [blist, e1, e2, Mny.dec_big (u := N.toNat) (by omega), List.append_assoc]
theorem text_last (N : Int) (h0 : 0 ≤ N) (h : N ≤ 9) (X : ByteArray) : (⟨#[]⟩ : ByteArray) ++ ⟨#[UInt8.ofNat (48 + N).toNat]⟩ ++ X = ⟨(Lib.decDigits N.toNat ++ X.data.toList).toArray⟩ := by
  have e2 : (48 + N).toNat = 48 + N.toNat := by omega
  rw [e2, Lib.decDigits_one (by omega)]
  apply ByteArray.ext
  apply Array.ext'
  rw [blist, blist]; rfl
theorem rtext_pos (c : Int) (w : World) (h : inR c = true) (h0 : 0 ≤ c) (h1 : c ≤ 1000000000000000) :
    Calls Tryd.prog 20 #[.int .i64 c] w fun e w' => e = .returned (.tuple #[.string ⟨(Mny.textB c).toArray⟩, .int .i64 0]) ∧ Below w.heap.size w w' := by
  go_enter Tryd.func20, Tryd.ntmps20
  go_wp2_with fail
  refine (rright_any c _).mono ?_
  rintro e w' ⟨rfl, rfl⟩
  rw [h]
  have hcv := conv2 w (48 + c / 10 % 10) (48 + c % 10) (by omega) (by omega) (by omega) (by omega)
  go_wp2_with fail
  go_loopw [5, 6] (fun v n wr => ∃ (X : ByteArray) (N : Int), v = .string X ∧ n = .int .i64 N ∧ 0 ≤ N ∧ N ≤ 10000000000000 ∧ Hid (Lib.decDigits N.toNat ++ X.data.toList = Mny.textB c) ∧ Below w.heap.size w wr) (fun _ n _ => (intOf n).toNat)
  case atStart => exact ⟨_, _, rfl, rfl, by omega, by omega, Lib.hid (by
    rw [Mny.textB_pos c h0]
    exact text_first c h0), (Below.refl _ _).alloc (Nat.le_refl _) _⟩
  case round =>
    obtain ⟨X, N, rfl, rfl, hN0, hN1, hT, hbel⟩ := hrel
    have hX : X.size ≤ 18 := by
      have a := Mny.text_short c (by omega) h1
      rw [← hT.out, List.length_append] at a
      have b : X.data.toList.length = X.size := by rw [Array.length_toList]; rfl
      omega
    by_cases hlt : 9 < N
    · have hcv := conv1 wr (48 + N % 10) (by omega) (by omega)
      go_wp2_with fail
      go_roundw
      case rel => exact ⟨_, _, rfl, rfl, by omega, by omega, Lib.hid (by
        rw [← hT.out]
        exact text_more N hlt X), hbel.alloc hbel.size _⟩
      case measure => simp [intOf]; omega
    · have hcv := conv1 wr (48 + N) (by omega) (by omega)
      go_wp2_with fail
      go_ret2
      refine ⟨?_, hbel.alloc hbel.size _⟩
      exact ret_si (by
        have e := hT.out
        rw [← e]
        exact text_last N hN0 (by omega) X)
theorem text_last2 (N : Int) (h0 : 0 ≤ N) (h : N ≤ 9) (X : ByteArray) : (⟨#[45]⟩ : ByteArray) ++ ⟨#[UInt8.ofNat (48 + N).toNat]⟩ ++ X = ⟨(45 :: (Lib.decDigits N.toNat ++ X.data.toList)).toArray⟩ := by
  have e2 : (48 + N).toNat = 48 + N.toNat := by omega
  rw [e2, Lib.decDigits_one (by omega)]
  apply ByteArray.ext
  apply Array.ext'
  rw [blist, blist]; rfl
theorem rtext_neg (c : Int) (w : World) (h : inR (-c) = true) (h0 : 0 < c) (h1 : c ≤ 1000000000000000) :
    Calls Tryd.prog 20 #[.int .i64 (-c)] w fun e w' => e = .returned (.tuple #[.string ⟨(45 :: Mny.textB c).toArray⟩, .int .i64 0]) ∧ Below w.heap.size w w' := by
  go_enter Tryd.func20, Tryd.ntmps20
  go_wp2_with fail
  refine (rright_any (-c) _).mono ?_
  rintro e w' ⟨rfl, rfl⟩
  rw [h]
  have hcv := conv2 w (48 + c / 10 % 10) (48 + c % 10) (by omega) (by omega) (by omega) (by omega)
  go_wp2_with fail
  go_loopw [5, 6] (fun v n wr => ∃ (X : ByteArray) (N : Int), v = .string X ∧ n = .int .i64 N ∧ 0 ≤ N ∧ N ≤ 10000000000000 ∧ Hid (Lib.decDigits N.toNat ++ X.data.toList = Mny.textB c) ∧ Below w.heap.size w wr) (fun _ n _ => (intOf n).toNat)
  case atStart => exact ⟨_, _, rfl, rfl, by omega, by omega, Lib.hid (by
    rw [Mny.textB_pos c (by omega)]
    exact text_first c (by omega)), (Below.refl _ _).alloc (Nat.le_refl _) _⟩
  case round =>
    obtain ⟨X, N, rfl, rfl, hN0, hN1, hT, hbel⟩ := hrel
    have hX : X.size ≤ 18 := by
      have a := Mny.text_short c (by omega) h1
      rw [← hT.out, List.length_append] at a
      have b : X.data.toList.length = X.size := by rw [Array.length_toList]; rfl
      omega
    by_cases hlt : 9 < N
    · have hcv := conv1 wr (48 + N % 10) (by omega) (by omega)
      go_wp2_with fail
      go_roundw
      case rel => exact ⟨_, _, rfl, rfl, by omega, by omega, Lib.hid (by
        rw [← hT.out]
        exact text_more N hlt X), hbel.alloc hbel.size _⟩
      case measure => simp [intOf]; omega
    · have hcv := conv1 wr (48 + N) (by omega) (by omega)
      go_wp2_with fail
      go_ret2
      refine ⟨?_, hbel.alloc hbel.size _⟩
      exact ret_si (by
        have e := hT.out
        rw [← e]
        exact text_last2 N hN0 (by omega) X)
theorem rtext_yes (c : Int) (w : World) (h1 : -1000000000000000 ≤ c) (h2 : c ≤ 1000000000000000) :
    Calls Tryd.prog 20 #[.int .i64 c] w fun e w' => e = .returned (.tuple #[.string ⟨(Mny.textB c).toArray⟩, .int .i64 0]) ∧ Below w.heap.size w w' := by
  by_cases h : 0 ≤ c
  · exact rtext_pos c w (by simp [inR, h1, h2]) h h2
  · obtain ⟨d, rfl⟩ : ∃ d, c = -d := ⟨-c, by omega⟩
    have e : Mny.textB (-d) = 45 :: Mny.textB d := by
      rw [Mny.textB_pos d (by omega), Mny.textB, if_pos (by omega), Int.natAbs_neg]; rfl
    rw [e]
    exact rtext_neg d w (by simp [inR, h1, h2]) (by omega) (by omega)
theorem mark_any (k i : Int) (w : World) (h0 : 0 ≤ k) (h1 : k ≤ 1000) (h2 : 0 ≤ i) (h3 : i ≤ 1000000) :
    Calls Tryd.prog 29 #[.int .i64 k, .int .i64 i] w fun e w' => e = .returned (.int .i64 (1000003 * (k + 7) + i)) ∧ w = w' := by
  go_enter Tryd.func29, Tryd.ntmps29
  go_wp2
  go_ret
  exact ⟨rfl, rfl⟩

end Go.Proofs.YtonoffeicbpigaaDoor
