/- What digits of package civil returns: its walk; Day as one contract. -/
import Derived.Test.YtjfgfchnpghpfaaDoorText
import Derived.Deep.RegionWith
import Derived.Deep.DeepCutAuto
namespace Cv
instance (y m k : Int) : Decidable (Valid y m k) := by unfold Valid; infer_instance
def dayV (y m k : Int) : Int := if Valid y m k then dayOf y m.toNat k else 0
def dayE (y m k : Int) : Int := if Valid y m k then 0 else 10
theorem btake (s : ByteArray) (k : Nat) (h : k < s.size) : s.data.toList.take (k + 1) = s.data.toList.take k ++ [s[k]] := by
  rw [List.take_succ_eq_append_getElem (by simpa using h)]; rfl
theorem dval_no {l : List UInt8} {k : Nat} (hk : k < l.length) (h : isDig l[k] = false) : dval l = -1 := by
  have : l.all isDig = false := by
    rw [List.all_eq_false]
    exact ⟨_, List.getElem_mem hk, by simp [h]⟩
  unfold dval
  rw [this]
  rfl
theorem all_snoc {l : List UInt8} {c : UInt8} (h : l.all isDig = true) (h1 : 48 ≤ (c.toNat : Int)) (h2 : (c.toNat : Int) ≤ 57) : (l ++ [c]).all isDig = true := by
  rw [List.all_append, h]
  simp only [List.all_cons, List.all_nil, Bool.and_true, Bool.true_and, isDig, decide_eq_true_eq]
  omega
end Cv
namespace Go.Proofs.YtjfgfchnpghpfaaDoor
open Go Go.RowKit
theorem day_any (y m k : Int) (w : World) : Calls Tryd.prog 9 #[.int .i64 y, .int .i64 m, .int .i64 k] w fun e w' => e = .returned (.tuple #[.int .i64 (Cv.dayV y m k), .int .i64 (Cv.dayE y m k)]) ∧ Below w.heap.size w w' := by
  unfold Cv.dayV Cv.dayE
  by_cases h : Cv.Valid y m k
  · rw [if_pos h, if_pos h]
    have hd := h.date
    have hm := h.2.2.1
    have e := day_ok _ y m.toNat k w hd
    rwa [Int.toNat_of_nonneg (by omega)] at e
  · rw [if_neg h, if_neg h]
    exact day_bad y m k w h
theorem digits_any (s : ByteArray) (w : World) (hs : s.size ≤ 4) : Calls Tryd.prog 57 #[.string s] w fun e w' => e = .returned (.int .i64 (Cv.dval s.data.toList)) ∧ w = w' := by
  go_enter Tryd.func57, Tryd.ntmps57
  go_wp2
  go_loop [3, 4] (fun v i => ∃ (k : Nat) (n : Int), k ≤ s.size ∧ i = .int .i64 k ∧ v = .int .i64 n ∧ 0 ≤ n ∧ n < 10000 ∧ Hid (k < s.size → n < 1000) ∧ Hid (Cv.dv (s.data.toList.take k) = n) ∧ Hid ((s.data.toList.take k).all Cv.isDig = true)) (fun _ i => s.size - (intOf i).toNat)
  case atStart => exact ⟨0, 0, Nat.zero_le _, rfl, rfl, by omega, by omega, Lib.hid (by omega), Lib.hid (by simp [Cv.dv]), Lib.hid (by simp)⟩
  case round =>
    obtain ⟨k, n, hk, rfl, rfl, hn0, hn1, hn2, hv, hall⟩ := hrel
    by_cases hlt : k < s.size
    · by_cases h1 : (s[k].toNat : Int) < 48
      · have E : Hid (Cv.dval s.data.toList = -1) := Lib.hid (Cv.dval_no (k := k) (by simpa using hlt) (by
          show Cv.isDig s[k] = false
          simp only [Cv.isDig, decide_eq_false_iff_not]; omega))
        go_wp2
        go_ret
        exact ⟨Kt.ret_int E.out.symm, rfl⟩
      · by_cases h2 : 57 < (s[k].toNat : Int)
        · have E : Hid (Cv.dval s.data.toList = -1) := Lib.hid (Cv.dval_no (k := k) (by simpa using hlt) (by
            show Cv.isDig s[k] = false
            simp only [Cv.isDig, decide_eq_false_iff_not]; omega))
          go_wp2
          go_ret
          exact ⟨Kt.ret_int E.out.symm, rfl⟩
        · have hall2 := Cv.all_snoc hall.out (c := s[k]) (by omega) (by omega)
          rw [← Cv.btake s k hlt] at hall2
          have HALL := Lib.hid hall2
          have hv2 := Cv.dv_snoc (s.data.toList.take k) s[k]
          rw [← Cv.btake s k hlt, hv.out] at hv2
          have hn3 : n < 1000 := hn2.out hlt
          have hbd := Cv.dv_bd _ HALL.out
          rw [List.length_take, Nat.min_eq_left (by simp; omega)] at hbd
          have hbd2 : k + 1 < s.size → 10 * n + ((s[k].toNat : Int) - 48) < 1000 := fun h => by
            have h9 : (10 : Int) ^ (k + 1) ≤ 10 ^ 3 := by
              have : 10 ^ (k + 1) ≤ 10 ^ 3 := Nat.pow_le_pow_right (by omega) (by omega)
              have e : ((10 ^ (k + 1) : Nat) : Int) ≤ ((10 ^ 3 : Nat) : Int) := Int.ofNat_le.2 this
              simpa using e
            rw [← hv2]
            omega
          have HB := Lib.hid hbd2
          have HV := Lib.hid hv2
          clear hall2 hv2 hbd hbd2
          go_wp2
          go_round
          case rel => exact ⟨k + 1, 10 * n + ((s[k].toNat : Int) - 48), by omega, by go_num, by first | rfl | (congr 1; omega), by omega, by omega, HB, HV, HALL⟩
          case measure => simp [intOf]; omega
    · obtain rfl : k = s.size := by omega
      have E : Hid (Cv.dval s.data.toList = n) := Lib.hid (by
        have h1 := hv.out
        have h2 := hall.out
        rw [List.take_of_length_le (by simp)] at h1 h2
        unfold Cv.dval
        rw [h2, if_pos rfl, h1])
      go_wp2
      go_ret
      exact ⟨Kt.ret_int E.out.symm, rfl⟩
theorem below_drew_left {w w' : World} (h : Below w.drew.heap.size w.drew w') : Below w.heap.size w w' := ⟨h.os, h.tape, h.output, h.size, h.block⟩
/-- The value of a cut of a text. -/
def cut (s : ByteArray) (i j : Nat) : Int := Cv.dval (s.extract i j).data.toList
theorem cut_any (s : ByteArray) (i j : Nat) (h : j ≤ i + 4) (w : World) : Calls Tryd.prog 57 #[.string (s.extract i j)] w fun e w' => e = .returned (.int .i64 (cut s i j)) ∧ w = w' :=
  digits_any (s.extract i j) w (by rw [ByteArray.size_extract]; omega)
def readV (s : ByteArray) : Int := Cv.dayV (cut s 0 4) (cut s 5 7) (cut s 8 10)
def readE (s : ByteArray) : Int := if Cv.Valid (cut s 0 4) (cut s 5 7) (cut s 8 10) then 0 else 11
theorem read_in (s : ByteArray) (w : World) (hs : s.size = 10) (h4 : (s[4]'(by omega)).toNat = 45) (h7 : (s[7]'(by omega)).toNat = 45) :
    Calls Tryd.prog 36 #[.string s] w fun e w' => e = .returned (.tuple #[.int .i64 (readV s), .int .i64 (readE s)]) ∧ Below w.heap.size w w' := by
  have e4 : ((s[4]'(by omega)).toNat : Int) = 45 := by omega
  have e7 : ((s[7]'(by omega)).toNat : Int) = 45 := by omega
  clear h4 h7
  obtain ⟨Y, hY⟩ : ∃ Y, Hid (cut s 0 4 = Y) := ⟨_, Lib.hid rfl⟩
  obtain ⟨M, hM⟩ : ∃ Y, Hid (cut s 5 7 = Y) := ⟨_, Lib.hid rfl⟩
  obtain ⟨K, hK⟩ : ∃ Y, Hid (cut s 8 10 = Y) := ⟨_, Lib.hid rfl⟩
  have HY := Lib.hid (cut_any s 0 4 (by omega))
  have HM := Lib.hid (cut_any s 5 7 (by omega))
  have HK := Lib.hid (cut_any s 8 10 (by omega))
  rw [hY.out] at HY
  rw [hM.out] at HM
  rw [hK.out] at HK
  have EV : Hid (readV s = Cv.dayV Y M K) := Lib.hid (by unfold readV; rw [hY.out, hM.out, hK.out])
  have EE : Hid (readE s = if Cv.Valid Y M K then 0 else 11) := Lib.hid (by unfold readE; rw [hY.out, hM.out, hK.out])
  obtain ⟨v, hv⟩ : ∃ v, Hid (Cv.dayV Y M K = v) := ⟨_, Lib.hid rfl⟩
  obtain ⟨c, hc⟩ : ∃ c, Hid (Cv.dayE Y M K = c) := ⟨_, Lib.hid rfl⟩
  go_enter Tryd.func36, Tryd.ntmps36
  go_upto_region 3 with fail
  go_cut [4, 5] (fun s4 s5 wx => s4 = .int .i64 v ∧ s5 = .int .i64 c ∧ Below w.heap.size w wx)
  case first =>
    go_region_with (first
      | (go_at_call_of 57 (Value.string (s.extract 0 4)); refine (HY.out _).mono ?_; rintro e w' ⟨rfl, rfl⟩)
      | (go_at_call_of 57 (Value.string (s.extract 5 7)); refine (HM.out _).mono ?_; rintro e w' ⟨rfl, rfl⟩)
      | (go_at_call_of 57 (Value.string (s.extract 8 10)); refine (HK.out _).mono ?_; rintro e w' ⟨rfl, rfl⟩)
      | (go_at_call 9; refine (day_any Y M K _).mono ?_; rw [hv.out, hc.out]; rintro e w' ⟨rfl, hb⟩))
    all_goals
      go_wp2_with fail
      go_meet
      exact ⟨rfl, rfl, below_drew_left hb⟩
  case rest =>
    obtain ⟨rfl, rfl, hb⟩ := hcut
    clear HY HM HK
    by_cases h : Cv.Valid Y M K
    · have hc0 : c = 0 := by rw [← hc.out]; unfold Cv.dayE; rw [if_pos h]
      have E2 : Hid (readE s = 0) := Lib.hid (by rw [EE.out, if_pos h])
      subst hc0
      go_wp2_with fail
      go_ret2
      exact ⟨ret_ii (by rw [EV.out, hv.out]) E2.out.symm, hb⟩
    · have hc0 : c = 10 := by rw [← hc.out]; unfold Cv.dayE; rw [if_neg h]
      have E2 : Hid (readE s = 11) := Lib.hid (by rw [EE.out, if_neg h])
      have E1 : Hid (readV s = 0) := Lib.hid (by rw [EV.out]; unfold Cv.dayV; rw [if_neg h])
      subst hc0
      go_wp2_with fail
      go_ret2
      exact ⟨ret_ii E1.out.symm E2.out.symm, hb⟩
theorem read_size (s : ByteArray) (w : World) (hs : s.size ≠ 10) (_hm : s.size ≤ maxLen) :
    Calls Tryd.prog 36 #[.string s] w fun e w' => e = .returned (.tuple #[.int .i64 0, .int .i64 11]) ∧ w = w' := by
  have h1 : ((s.size : Int) != 10) = true := by simp; omega
  clear hs
  go_enter Tryd.func36, Tryd.ntmps36
  go_wp2
  go_ret2
  exact ⟨rfl, rfl⟩
theorem read_sep (s : ByteArray) (w : World) (hs : s.size = 10) (h : (s[4]'(by omega)).toNat ≠ 45 ∨ (s[7]'(by omega)).toNat ≠ 45) :
    Calls Tryd.prog 36 #[.string s] w fun e w' => e = .returned (.tuple #[.int .i64 0, .int .i64 11]) ∧ w = w' := by
  by_cases h4 : (s[4]'(by omega)).toNat = 45
  · have h7 : (s[7]'(by omega)).toNat ≠ 45 := by
      rcases h with h | h
      · exact absurd h4 h
      · exact h
    have e4 : ((s[4]'(by omega)).toNat : Int) = 45 := by omega
    have e7 : (((s[7]'(by omega)).toNat : Int) != 45) = true := by simp; omega
    clear h4 h7 h
    go_enter Tryd.func36, Tryd.ntmps36
    go_wp2
    go_ret2
    exact ⟨rfl, rfl⟩
  · have e4 : (((s[4]'(by omega)).toNat : Int) != 45) = true := by simp; omega
    clear h4 h
    go_enter Tryd.func36, Tryd.ntmps36
    go_wp2
    go_ret2
    exact ⟨rfl, rfl⟩
end Go.Proofs.YtjfgfchnpghpfaaDoor
