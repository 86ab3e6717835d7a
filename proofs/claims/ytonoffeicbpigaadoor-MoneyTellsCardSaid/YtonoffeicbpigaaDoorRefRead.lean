/- The reference's reading of amounts: its walk. -/
import Derived.Test.YtonoffeicbpigaaDoorRefReadM
import Derived.Test.YtonoffeicbpigaaDoorRefText
import Derived.Test.YtonoffeicbpigaaDoorRead
namespace Go.Proofs.YtonoffeicbpigaaDoor
open Go Go.RowKit

theorem rread_long (s : ByteArray) (w : World) (h : 18 < s.size) :
    Calls Tryd.prog 21 #[.string s] w fun e w' => e = .returned (.tuple #[.int .i64 (Mny.readRV s.data.toList), .int .i64 (Mny.readRE s.data.toList)]) ∧ Below w.heap.size w w' := by
  have E := Lib.hid (Mny.read_bad3 (l := s.data.toList) (by simpa using h))
  go_enter Tryd.func21, Tryd.ntmps21
  go_wp2
  go_ret2
  exact ⟨Kt.ret_ii E.out.1 E.out.2, Below.refl _ _⟩
theorem ref_bad1 {l : List UInt8} {v : Int} (hv : Mny.refV l = v) (h : (Mny.textB v == l) = false) : (0 : Int) = Mny.readRV l ∧ (20 : Int) = Mny.readRE l := by
  by_cases e : Mny.textB (Mny.readV l) = l
  · have := Mny.ref_same l (.inr e)
    rw [← hv, ← this] at h
    simp [e] at h
  · exact Mny.read_bad1 rfl (by simpa using e)
theorem ref_bad2 {l : List UInt8} {v : Int} (hv : Mny.refV l = v) (h : v < -1000000000000000 ∨ 1000000000000000 < v) : (0 : Int) = Mny.readRV l ∧ (20 : Int) = Mny.readRE l := by
  by_cases e : Mny.textB (Mny.readV l) = l
  · have := Mny.ref_same l (.inr e)
    exact Mny.read_bad2 (this.trans hv) h
  · exact Mny.read_bad1 rfl (by simpa using e)
theorem ref_good {l : List UInt8} {v : Int} (hv : Mny.refV l = v) (hl : l.length ≤ 18) (h1 : -1000000000000000 ≤ v) (h2 : v ≤ 1000000000000000) (h : (Mny.textB v == l) = true) : v = Mny.readRV l ∧ (0 : Int) = Mny.readRE l := by
  have e : Mny.textB (Mny.refV l) = l := by rw [hv]; simpa using h
  exact Mny.read_good ((Mny.ref_same l (.inl e)).trans hv) hl h1 h2 h
theorem mem_snoc (s : ByteArray) (k : Nat) (h : k < s.size) : decide ((45 : UInt8) ∈ s.data.toList.take (k + 1)) = (decide ((45 : UInt8) ∈ s.data.toList.take k) || decide (s[k].toNat = 45)) := by
  rw [btake s k h]
  have e : (45 : UInt8) = s[k] ↔ s[k].toNat = 45 := ⟨fun e => by rw [← e]; rfl, fun e => by apply UInt8.toNat_inj.1; rw [e]; rfl⟩
  rw [Bool.eq_iff_iff]
  simp [e]

set_option maxHeartbeats 1000000 in
theorem rread_short (s : ByteArray) (w : World) (hs : s.size ≤ 18) :
    Calls Tryd.prog 21 #[.string s] w fun e w' => e = .returned (.tuple #[.int .i64 (Mny.readRV s.data.toList), .int .i64 (Mny.readRE s.data.toList)]) ∧ Below w.heap.size w w' := by
  go_enter Tryd.func21, Tryd.ntmps21
  go_wp2
  go_loop [4, 5, 6] (fun n b i => ∃ (k : Nat) (m : Bool), k ≤ s.size ∧ i = .int .i64 k ∧ b = .bool m ∧ Hid (decide ((45 : UInt8) ∈ s.data.toList.take k) = m) ∧ n = .int .i64 (Mny.rval (s.data.toList.take k))) (fun _ _ i => s.size - (intOf i).toNat)
  case atStart => exact ⟨0, false, Nat.zero_le _, rfl, rfl, Lib.hid (by simp), rfl⟩
  case round =>
    obtain ⟨k, m, hk, rfl, rfl, hm, rfl⟩ := hrel
    by_cases hlt : k < s.size
    · have hl : (s.data.toList.take k).length ≤ 17 := by have := List.length_take_le k s.data.toList; omega
      have hb := Mny.rval_smaller _ hl
      have HR := Lib.hid (rval_take s k hlt)
      have HM := Lib.hid (mem_snoc s k hlt)
      obtain ⟨hb1, hb2⟩ := hb
      clear hl
      by_cases hd : 48 ≤ s[k].toNat ∧ s[k].toNat ≤ 57
      · have HS : Hid (Mny.rstep (Mny.rval (s.data.toList.take k)) s[k] = 10 * Mny.rval (s.data.toList.take k) + ((s[k].toNat : Int) - 48)) := Lib.hid (by simp [Mny.rstep, hd]; omega)
        have HN : Hid (decide ((45 : UInt8) ∈ s.data.toList.take (k + 1)) = m) := Lib.hid (by rw [HM.out, hm.out, decide_eq_false (by omega)]; simp)
        obtain ⟨hd1, hd2⟩ := hd
        have hd3 : 48 ≤ (s[k].toNat : Int) := by omega
        have hd4 : (s[k].toNat : Int) ≤ 57 := by omega
        have hd5 : ((s[k].toNat : Int) == 45) = false := by simp; omega
        go_wp2
        go_round
        case rel => exact ⟨k + 1, m, by omega, by go_num, rfl, HN, by rw [HR.out, HS.out]⟩
        case measure => simp [intOf]; omega
      · have HS : Hid (Mny.rstep (Mny.rval (s.data.toList.take k)) s[k] = Mny.rval (s.data.toList.take k)) := Lib.hid (by simp only [Mny.rstep]; rw [if_neg hd])
        by_cases h45 : s[k].toNat = 45
        · have HN : Hid (decide ((45 : UInt8) ∈ s.data.toList.take (k + 1)) = true) := Lib.hid (by rw [HM.out, decide_eq_true h45]; simp)
          have hd1 : (s[k].toNat : Int) < 48 := by omega
          have hd5 : ((s[k].toNat : Int) == 45) = true := by simp; omega
          clear hd h45
          go_wp2
          go_round
          case rel => exact ⟨k + 1, true, by omega, by go_num, rfl, HN, by rw [HR.out, HS.out]⟩
          case measure => simp [intOf]; omega
        · have HN : Hid (decide ((45 : UInt8) ∈ s.data.toList.take (k + 1)) = m) := Lib.hid (by rw [HM.out, hm.out, decide_eq_false h45]; simp)
          have hd5 : ((s[k].toNat : Int) == 45) = false := by simp; omega
          clear h45
          by_cases hd1 : (s[k].toNat : Int) < 48
          · clear hd
            go_wp2
            go_round
            case rel => exact ⟨k + 1, m, by omega, by go_num, rfl, HN, by rw [HR.out, HS.out]⟩
            case measure => simp [intOf]; omega
          · have hd2 : 57 < (s[k].toNat : Int) := by omega
            clear hd
            go_wp2
            go_round
            case rel => exact ⟨k + 1, m, by omega, by go_num, rfl, HN, by rw [HR.out, HS.out]⟩
            case measure => simp [intOf]; omega
    · obtain rfl : k = s.size := by omega
      have hall : s.data.toList.take s.size = s.data.toList := List.take_of_length_le (by simp)
      have hm2 := hm.out
      rw [hall] at hm2 ⊢
      have hb := Mny.rval_small s.data.toList (by simpa using hs)
      obtain ⟨hb1, hb2⟩ := hb
      have hsl : s.data.toList.length ≤ 18 := by simpa using hs
      have HSL := Lib.hid hsl
      clear hall hm hsl
      cases m
      · have V : Hid (Mny.refV s.data.toList = Mny.rval s.data.toList) := Lib.hid (by rw [Mny.refV, if_neg (by simpa using hm2)])
        clear hm2
        go_wp2_with fail
        by_cases hr : Mny.rval s.data.toList ≤ 1000000000000000
        · refine (rtext_yes _ _ (by omega) (by omega)).mono ?_
          rintro e w1 ⟨rfl, hbel⟩
          cases ht : (Mny.textB (Mny.rval s.data.toList) == s.toList)
          · have E : Hid _ := Lib.hid (ref_bad1 V.out (by rw [ByteArray.toList_eq] at ht; exact ht))
            go_wp2
            go_ret2
            exact ⟨Kt.ret_ii E.out.1 E.out.2, hbel⟩
          · have E : Hid _ := Lib.hid (ref_good V.out HSL.out (by omega) (by omega) (by rw [ByteArray.toList_eq] at ht; exact ht))
            go_wp2
            go_ret2
            exact ⟨Kt.ret_ii E.out.1 E.out.2, hbel⟩
        · have E : Hid _ := Lib.hid (ref_bad2 V.out (by omega))
          have hin : inR (Mny.rval s.data.toList) = false := by simp [inR]; omega
          refine (rtext_no _ _ hin).mono ?_
          rintro e w1 ⟨rfl, rfl⟩
          go_wp2
          go_ret2
          exact ⟨Kt.ret_ii E.out.1 E.out.2, Below.refl _ _⟩
      · have V : Hid (Mny.refV s.data.toList = -Mny.rval s.data.toList) := Lib.hid (by rw [Mny.refV, if_pos (by simpa using hm2)])
        clear hm2
        go_wp2_with fail
        by_cases hr : Mny.rval s.data.toList ≤ 1000000000000000
        · refine (rtext_yes _ _ (by omega) (by omega)).mono ?_
          rintro e w1 ⟨rfl, hbel⟩
          cases ht : (Mny.textB (-Mny.rval s.data.toList) == s.toList)
          · have E : Hid _ := Lib.hid (ref_bad1 V.out (by rw [ByteArray.toList_eq] at ht; exact ht))
            go_wp2
            go_ret2
            exact ⟨Kt.ret_ii E.out.1 E.out.2, hbel⟩
          · have E : Hid _ := Lib.hid (ref_good V.out HSL.out (by omega) (by omega) (by rw [ByteArray.toList_eq] at ht; exact ht))
            go_wp2
            go_ret2
            exact ⟨Kt.ret_ii E.out.1 E.out.2, hbel⟩
        · have E : Hid _ := Lib.hid (ref_bad2 V.out (by omega))
          have hin : inR (-Mny.rval s.data.toList) = false := by simp [inR]; omega
          refine (rtext_no _ _ hin).mono ?_
          rintro e w1 ⟨rfl, rfl⟩
          go_wp2
          go_ret2
          exact ⟨Kt.ret_ii E.out.1 E.out.2, Below.refl _ _⟩

theorem rread_any (s : ByteArray) (w : World) :
    Calls Tryd.prog 21 #[.string s] w fun e w' => e = .returned (.tuple #[.int .i64 (Mny.readRV s.data.toList), .int .i64 (Mny.readRE s.data.toList)]) ∧ Below w.heap.size w w' := by
  by_cases h : s.size ≤ 18
  · exact rread_short s w h
  · exact rread_long s w (by omega)

end Go.Proofs.YtonoffeicbpigaaDoor
