/- What the reference's number, Read and ReadTime return for any text: the same as the program's. Their walks. -/
import Derived.Test.YtjfgfchnpghpfaaDoorCivilTellsW
namespace Cv
open Go
theorem last_cut {l : List UInt8} {m : Nat} (h : l.length = m + 1) : ∃ G x, l = G ++ [x] ∧ G.length = m := by
  refine ⟨l.take m, l[m]'(by omega), ?_, by rw [List.length_take]; omega⟩
  rw [← List.take_succ_eq_append_getElem (by omega), List.take_of_length_le (by omega)]
/-- Digits are the digits of their value. -/
theorem dgs_of : ∀ (k : Nat) (l : List UInt8), l.length = k → l.all isDig = true → dgs k (dv l).toNat = l := by
  intro k
  induction k with
  | zero => intro l h _; rw [List.eq_nil_of_length_eq_zero h]; rfl
  | succ k ih =>
    intro l h ha
    obtain ⟨G, c, rfl, hG⟩ := last_cut h
    rw [List.all_append, Bool.and_eq_true] at ha
    have hc : isDig c = true := by simpa using ha.2
    simp only [isDig, decide_eq_true_eq] at hc
    have h0 := (dv_bd G ha.1).1
    rw [dv_snoc, dgs]
    have e1 : (10 * dv G + ((c.toNat : Int) - 48)).toNat / 10 = (dv G).toNat := by omega
    have e2 : 48 + (10 * dv G + ((c.toNat : Int) - 48)).toNat % 10 = c.toNat := by omega
    rw [e1, e2, ih G hG ha.1]
    congr 1
    congr 1
    apply UInt8.toNat_inj.1
    rw [UInt8.toNat_ofNat']
    have := c.toNat_lt
    omega
theorem dgs_dval_of {k : Nat} {l : List UInt8} (hl : l.length = k) (h : 0 ≤ dval l) : dgs k (dval l).toNat = l := by
  unfold dval at h ⊢
  cases ha : l.all isDig
  · rw [ha] at h; simp at h
  · rw [if_pos rfl]
    exact dgs_of k l hl ha
theorem six {L : List UInt8} (h : L.length = 10) : L = L.take 4 ++ L[4]'(by omega) :: ((L.drop 5).take 2 ++ L[7]'(by omega) :: (L.drop 8).take 2) := by
  have e1 : L = L.take 4 ++ L.drop 4 := (List.take_append_drop 4 L).symm
  have e2 : L.drop 4 = L[4]'(by omega) :: L.drop 5 := List.drop_eq_getElem_cons (by omega)
  have e3 : L.drop 5 = (L.drop 5).take 2 ++ L.drop 7 := by
    have := (List.take_append_drop 2 (L.drop 5)).symm
    rwa [List.drop_drop] at this
  have e4 : L.drop 7 = L[7]'(by omega) :: L.drop 8 := List.drop_eq_getElem_cons (by omega)
  have e5 : (L.drop 8).take 2 = L.drop 8 := List.take_of_length_le (by rw [List.length_drop]; omega)
  rw [e5, ← e4, ← e3, ← e2, ← e1]
end Cv
namespace Go.Proofs.YtjfgfchnpghpfaaDoor
open Go Go.RowKit
theorem at_get {L : List UInt8} {i : Nat} (h : i < L.length) : at' ⟨L.toArray⟩ i = ((L[i]'h).toNat : Int) := by
  rw [at_in (by show i < L.length; exact h)]
  rfl
theorem cut_get (L : List UInt8) (i j : Nat) : cut ⟨L.toArray⟩ i j = Cv.dval ((L.drop i).take (j - i)) := by
  unfold cut
  rw [Cv.ext_list]
/-- A text that has its signs at their places and numbers that are a date is the date's text. -/
theorem sep_text {s : ByteArray} (h : rOk s) (hv : Cv.Valid (cut s 0 4) (cut s 5 7) (cut s 8 10)) : (⟨(Cv.dateL (cut s 0 4).toNat (cut s 5 7).toNat (cut s 8 10).toNat).toArray⟩ : ByteArray) = s := by
  obtain ⟨L, rfl⟩ : ∃ L : List UInt8, s = ⟨L.toArray⟩ := ⟨s.data.toList, by apply ByteArray.ext; simp⟩
  obtain ⟨h1, h2, h3⟩ := h
  have hl : L.length = 10 := h1
  rw [at_get (by omega)] at h2 h3
  have b4 : L[4]'(by omega) = 45 := by apply UInt8.toNat_inj.1; show _ = 45; omega
  have b7 : L[7]'(by omega) = 45 := by apply UInt8.toNat_inj.1; show _ = 45; omega
  have hv0 := hv.1
  have hv1 := hv.2.2.1
  have hv2 := hv.2.2.2.2.1
  rw [cut_get] at hv0 hv1 hv2
  rw [cut_get, cut_get, cut_get]
  have d1 := Cv.dgs_dval_of (k := 4) (l := (L.drop 0).take (4 - 0)) (by simp; omega) (by omega)
  have d2 := Cv.dgs_dval_of (k := 2) (l := (L.drop 5).take (7 - 5)) (by simp; omega) (by omega)
  have d3 := Cv.dgs_dval_of (k := 2) (l := (L.drop 8).take (10 - 8)) (by simp; omega) (by omega)
  unfold Cv.dateL
  rw [d1, d2, d3]
  have e := Cv.six hl
  rw [b4, b7] at e
  rw [List.drop_zero]
  exact congrArg (fun l : List UInt8 => (⟨l.toArray⟩ : ByteArray)) e.symm
theorem rnum_any (s : ByteArray) (w : World) (hs : s.size ≤ 4) : Calls Tryd.prog 58 #[.string s] w fun e w' => e = .returned (.int .i64 (Cv.dval s.data.toList)) ∧ w = w' := by
  go_enter Tryd.func58, Tryd.ntmps58
  go_wp2
  go_loop [3, 4] (fun v i => ∃ (k : Nat) (n : Int), k ≤ s.size ∧ i = .int .i64 k ∧ v = .int .i64 n ∧ 0 ≤ n ∧ n < 10000 ∧ Hid (k < s.size → n < 1000) ∧ Hid (Cv.dv (s.data.toList.take k) = n) ∧ Hid ((s.data.toList.take k).all Cv.isDig = true)) (fun _ i => s.size - (intOf i).toNat)
  case atStart => exact ⟨0, 0, Nat.zero_le _, rfl, rfl, by omega, by omega, Lib.hid (by omega), Lib.hid (by simp [Cv.dv]), Lib.hid (by simp)⟩
  case round =>
    obtain ⟨k, n, hk, rfl, rfl, hn0, hn1, hn2, hv, hall⟩ := hrel
    by_cases hlt : k < s.size
    · by_cases h1 : (s[k].toNat : Int) < 48
      · have E : Hid (Cv.dval s.data.toList = -1) := Lib.hid (Cv.dval_no (k := k) (by simpa using hlt) (by
          show Cv.isDig s[k] = false
          simp only [Cv.isDig, decide_eq_false_iff_not]; omega))
        go_wp2
        go_ret
        exact ⟨Kt.ret_int E.out.symm, rfl⟩
      · by_cases h2 : 57 < (s[k].toNat : Int)
        · have E : Hid (Cv.dval s.data.toList = -1) := Lib.hid (Cv.dval_no (k := k) (by simpa using hlt) (by
            show Cv.isDig s[k] = false
            simp only [Cv.isDig, decide_eq_false_iff_not]; omega))
          go_wp2
          go_ret
          exact ⟨Kt.ret_int E.out.symm, rfl⟩
        · have hall2 := Cv.all_snoc hall.out (c := s[k]) (by omega) (by omega)
          rw [← Cv.btake s k hlt] at hall2
          have HALL := Lib.hid hall2
          have hv2 := Cv.dv_snoc (s.data.toList.take k) s[k]
          rw [← Cv.btake s k hlt, hv.out] at hv2
          have hn3 : n < 1000 := hn2.out hlt
          have hbd := Cv.dv_bd _ HALL.out
          rw [List.length_take, Nat.min_eq_left (by simp; omega)] at hbd
          have hbd2 : k + 1 < s.size → 10 * n + ((s[k].toNat : Int) - 48) < 1000 := fun h => by
            have h9 : (10 : Int) ^ (k + 1) ≤ 10 ^ 3 := by
              have : 10 ^ (k + 1) ≤ 10 ^ 3 := Nat.pow_le_pow_right (by omega) (by omega)
              have e : ((10 ^ (k + 1) : Nat) : Int) ≤ ((10 ^ 3 : Nat) : Int) := Int.ofNat_le.2 this
              simpa using e
            rw [← hv2]
            omega
          have HB := Lib.hid hbd2
          have HV := Lib.hid hv2
          clear hall2 hv2 hbd hbd2
          go_wp2
          go_round
          case rel => exact ⟨k + 1, 10 * n + ((s[k].toNat : Int) - 48), by omega, by go_num, by first | rfl | (congr 1; omega), by omega, by omega, HB, HV, HALL⟩
          case measure => simp [intOf]; omega
    · obtain rfl : k = s.size := by omega
      have E : Hid (Cv.dval s.data.toList = n) := Lib.hid (by
        have h1 := hv.out
        have h2 := hall.out
        rw [List.take_of_length_le (by simp)] at h1 h2
        unfold Cv.dval
        rw [h2, if_pos rfl, h1])
      go_wp2
      go_ret
      exact ⟨Kt.ret_int E.out.symm, rfl⟩
theorem below_drewN_left {w w' : World} {n : Nat} (h : Below (w.drewN n).heap.size (w.drewN n) w') : Below w.heap.size w w' := ⟨h.os, h.tape, h.output, h.size, h.block⟩
theorem rcut_any (s : ByteArray) (i j : Nat) (h : j ≤ i + 4) (w : World) : Calls Tryd.prog 58 #[.string (s.extract i j)] w fun e w' => e = .returned (.int .i64 (cut s i j)) ∧ w = w' :=
  rnum_any (s.extract i j) w (by rw [ByteArray.size_extract]; omega)
theorem rread_size (s : ByteArray) (w : World) (hs : s.size ≠ 10) :
    Calls Tryd.prog 37 #[.string s] w fun e w' => e = .returned (.tuple #[.int .i64 0, .int .i64 11]) ∧ w = w' := by
  have h1 : ((s.size : Int) != 10) = true := by simp; omega
  clear hs
  go_enter Tryd.func37, Tryd.ntmps37
  go_wp2
  go_ret2
  exact ⟨rfl, rfl⟩
set_option maxRecDepth 100000 in
theorem rread_ten (s : ByteArray) (w : World) (hs : s.size = 10) :
    Calls Tryd.prog 37 #[.string s] w fun e w' => e = .returned (.tuple #[.int .i64 (rV s), .int .i64 (rE s)]) ∧ Below w.heap.size w w' := by
  obtain ⟨Y, hY⟩ : ∃ Y, Hid (cut s 0 4 = Y) := ⟨_, Lib.hid rfl⟩
  obtain ⟨M, hM⟩ : ∃ Y, Hid (cut s 5 7 = Y) := ⟨_, Lib.hid rfl⟩
  obtain ⟨K, hK⟩ : ∃ Y, Hid (cut s 8 10 = Y) := ⟨_, Lib.hid rfl⟩
  have HY0 := rcut_any s 0 4 (by omega)
  have HM0 := rcut_any s 5 7 (by omega)
  have HK0 := rcut_any s 8 10 (by omega)
  rw [hY.out] at HY0
  rw [hM.out] at HM0
  rw [hK.out] at HK0
  have HY := Lib.hid (fun j => HY0 (w.drewN j))
  have HM := Lib.hid (fun j => HM0 (w.drewN j))
  have HK := Lib.hid (fun j => HK0 (w.drewN j))
  obtain ⟨v, hv⟩ : ∃ v, Hid (Cv.dayV Y M K = v) := ⟨_, Lib.hid rfl⟩
  obtain ⟨c, hc⟩ : ∃ c, Hid (Cv.dayE Y M K = c) := ⟨_, Lib.hid rfl⟩
  have HDY := Lib.hid (fun j => by have := rday_any Y M K (w.drewN j); rw [hv.out, hc.out] at this; exact this)
  clear HY0 HM0 HK0
  by_cases hval : Cv.Valid Y M K
  · have hc0 : c = 0 := by rw [← hc.out]; unfold Cv.dayE; rw [if_pos hval]
    subst hc0
    have hdt := hval.date
    have hve : Cv.dayOf Y M.toNat K = v := by rw [← hv.out]; unfold Cv.dayV; rw [if_pos hval]
    rw [hve] at hdt
    obtain ⟨y, rfl⟩ := Int.eq_ofNat_of_zero_le (show 0 ≤ Y by have := hval.1; omega)
    obtain ⟨k, rfl⟩ := Int.eq_ofNat_of_zero_le (show 0 ≤ K by have := hval.2.2.2.2.1; omega)
    have HDT := Lib.hid hdt
    obtain ⟨U, hU⟩ : ∃ U, Hid (Cv.dateL y M.toNat k = U) := ⟨_, Lib.hid rfl⟩
    have HRT := Lib.hid (fun (W : World) => rtext_val (w := W) y M.toNat k hdt hU.out)
    have EQ : Hid ((⟨U.toArray⟩ : ByteArray) = s → rV s = v ∧ rE s = 0) := Lib.hid (fun h => by
      rw [← h, ← hU.out]
      exact read_date hdt)
    have NE : Hid ((⟨U.toArray⟩ : ByteArray) ≠ s → rV s = 0 ∧ rE s = 11) := Lib.hid (fun h => by
      have hn : ¬ rOk s := fun hok => h (by
        have := sep_text hok (by rw [hY.out, hM.out, hK.out]; exact hval)
        rw [hY.out, hM.out, hK.out, Int.toNat_natCast, Int.toNat_natCast, hU.out] at this
        exact this)
      unfold rV rE
      rw [if_neg hn, if_neg hn]
      exact ⟨rfl, rfl⟩)
    clear hval hdt hve
    go_enter Tryd.func37, Tryd.ntmps37
    go_wp2_with fail
    go_quiet (first
      | (go_at_call_of 58 (Value.string (s.extract 0 4)); first | exact Kt.quiet_left (HY.out _) | exact Kt.quiet_add_left (HY.out _))
      | (go_at_call_of 58 (Value.string (s.extract 5 7)); first | exact Kt.quiet_left (HM.out _) | exact Kt.quiet_add_left (HM.out _))
      | (go_at_call_of 58 (Value.string (s.extract 8 10)); first | exact Kt.quiet_left (HK.out _) | exact Kt.quiet_add_left (HK.out _))
      | (go_at_call 10; first | exact Kt.quiet_left (HDY.out _) | exact Kt.quiet_add_left (HDY.out _)))
    go_wp2_with fail
    refine (HRT.out _).mono ?_
    rintro e w1 ⟨rfl, b1⟩
    have b2 := below_drewN_left b1
    cases hcmp : (U == s.toList)
    · have EE := Lib.hid (NE.out (fun h => by
        rw [← h, ByteArray.toList_eq] at hcmp
        simp at hcmp))
      have hcmp2 : (!U == s.toList) = true := by rw [hcmp]; rfl
      clear hcmp
      go_wp2_with fail
      go_ret2
      exact ⟨ret_ii EE.out.1.symm EE.out.2.symm, b2⟩
    · have EE := Lib.hid (EQ.out (by
        have e : U = s.toList := by simpa using hcmp
        rw [ByteArray.toList_eq] at e
        apply ByteArray.ext
        rw [e]))
      have hcmp2 : (!U == s.toList) = false := by rw [hcmp]; rfl
      clear hcmp
      go_wp2_with fail
      go_ret2
      exact ⟨ret_ii EE.out.1.symm EE.out.2.symm, b2⟩
  · have hc0 : c = 10 := by rw [← hc.out]; unfold Cv.dayE; rw [if_neg hval]
    have hv0 : v = 0 := by rw [← hv.out]; unfold Cv.dayV; rw [if_neg hval]
    subst hc0
    subst hv0
    have EE : Hid (rV s = 0 ∧ rE s = 11) := Lib.hid (by
      unfold rV rE readV readE Cv.dayV
      rw [hY.out, hM.out, hK.out, if_neg hval, if_neg hval]
      refine ⟨?_, ?_⟩ <;> split <;> rfl)
    clear hval
    go_enter Tryd.func37, Tryd.ntmps37
    go_wp2_with fail
    go_quiet (first
      | (go_at_call_of 58 (Value.string (s.extract 0 4)); first | exact Kt.quiet_left (HY.out _) | exact Kt.quiet_add_left (HY.out _))
      | (go_at_call_of 58 (Value.string (s.extract 5 7)); first | exact Kt.quiet_left (HM.out _) | exact Kt.quiet_add_left (HM.out _))
      | (go_at_call_of 58 (Value.string (s.extract 8 10)); first | exact Kt.quiet_left (HK.out _) | exact Kt.quiet_add_left (HK.out _))
      | (go_at_call 10; first | exact Kt.quiet_left (HDY.out _) | exact Kt.quiet_add_left (HDY.out _)))
    go_wp2_with fail
    go_ret2
    exact ⟨ret_ii EE.out.1.symm EE.out.2.symm, Kt.below_of_drewN _ _⟩
theorem rread_any (s : ByteArray) (w : World) :
    Calls Tryd.prog 37 #[.string s] w fun e w' => e = .returned (.tuple #[.int .i64 (rV s), .int .i64 (rE s)]) ∧ Below w.heap.size w w' := by
  by_cases h : s.size = 10
  · exact rread_ten s w h
  · have hn : ¬ rOk s := fun hk => h hk.1
    unfold rV rE
    rw [if_neg hn, if_neg hn]
    refine (rread_size s w h).mono ?_
    rintro e w' ⟨rfl, rfl⟩
    exact ⟨rfl, Below.refl _ _⟩
theorem rreadtime_size (s : ByteArray) (w : World) (hs : s.size ≠ 16) :
    Calls Tryd.prog 39 #[.string s] w fun e w' => e = .returned (.tuple #[.int .i64 0, .int .i64 11]) ∧ w = w' := by
  have h1 : ((s.size : Int) != 16) = true := by simp; omega
  clear hs
  go_enter Tryd.func39, Tryd.ntmps39
  go_wp2
  go_ret2
  exact ⟨rfl, rfl⟩
set_option maxRecDepth 100000 in
set_option maxHeartbeats 1000000 in
theorem rreadtime_in (s : ByteArray) (w : World) (hs : s.size = 16) :
    Calls Tryd.prog 39 #[.string s] w fun e w' => e = .returned (.tuple #[.int .i64 (tV s), .int .i64 (tE s)]) ∧ Below w.heap.size w w' := by
  obtain ⟨p, hp⟩ : ∃ p, Hid (((s[10]'(by omega)).toNat : Int) = p) := ⟨_, Lib.hid rfl⟩
  obtain ⟨q, hq⟩ : ∃ p, Hid (((s[13]'(by omega)).toNat : Int) = p) := ⟨_, Lib.hid rfl⟩
  have HOK : Hid (tOk s ↔ p = 32 ∧ q = 58 ∧ rE (s.extract 0 10) = 0 ∧ 0 ≤ cut s 11 13 ∧ cut s 11 13 ≤ 23 ∧ 0 ≤ cut s 14 16 ∧ cut s 14 16 ≤ 59) := Lib.hid (by
    unfold tOk
    rw [at_in (by omega), at_in (by omega), hp.out, hq.out]
    simp [hs])
  obtain ⟨D, hD⟩ : ∃ Y, Hid (rV (s.extract 0 10) = Y) := ⟨_, Lib.hid rfl⟩
  obtain ⟨c, hc⟩ : ∃ Y, Hid (rE (s.extract 0 10) = Y) := ⟨_, Lib.hid rfl⟩
  obtain ⟨H, hH⟩ : ∃ Y, Hid (cut s 11 13 = Y) := ⟨_, Lib.hid rfl⟩
  obtain ⟨K, hK⟩ : ∃ Y, Hid (cut s 14 16 = Y) := ⟨_, Lib.hid rfl⟩
  have HH := Lib.hid (rcut_any s 11 13 (by omega))
  have HK := Lib.hid (rcut_any s 14 16 (by omega))
  rw [hH.out] at HH HOK
  rw [hK.out] at HK HOK
  rw [hc.out] at HOK
  have hD0 := rV_bd (s.extract 0 10)
  rw [hD.out] at hD0
  obtain ⟨D0, D1⟩ := hD0
  have hc0 := rE_cases (s.extract 0 10)
  rw [hc.out] at hc0
  have HR := Lib.hid (rread_any (s.extract 0 10) w)
  rw [hD.out, hc.out] at HR
  have EV : Hid (tOk s → tV s = 1440 * D + 60 * H + K ∧ tE s = 0) := Lib.hid (fun h => by unfold tV tE; rw [if_pos h, if_pos h, hD.out, hH.out, hK.out]; exact ⟨by omega, rfl⟩)
  have EN : Hid (¬ tOk s → tV s = 0 ∧ tE s = 11) := Lib.hid (fun h => by unfold tV tE; rw [if_neg h, if_neg h]; exact ⟨rfl, rfl⟩)
  have HB : Hid (c ≠ 0 ∨ H < 0 ∨ 23 < H ∨ K < 0 ∨ 59 < K ∨ p ≠ 32 ∨ q ≠ 58 → tV s = 0 ∧ tE s = 11) := Lib.hid (fun h => EN.out (fun h2 => by have := (HOK.out).1 h2; omega))
  have HG : Hid (c = 0 → ¬ H < 0 → ¬ 23 < H → ¬ K < 0 → ¬ 59 < K → p = 32 → q = 58 → tV s = 1440 * D + 60 * H + K ∧ tE s = 0) := Lib.hid (fun h1 h2 h3 h4 h5 h6 h7 => EV.out ((HOK.out).2 ⟨h6, h7, h1, by omega, by omega, by omega, by omega⟩))
  clear EV EN HOK
  have hpp : ((s[10]'(by omega)).toNat : Int) = p := hp.out
  have hqq : ((s[13]'(by omega)).toNat : Int) = q := hq.out
  have hcs : (c ≠ 0) ∨ (c = 0 ∧ H < 0) ∨ (c = 0 ∧ 0 ≤ H ∧ 23 < H) ∨ (c = 0 ∧ 0 ≤ H ∧ H ≤ 23 ∧ K < 0) ∨ (c = 0 ∧ 0 ≤ H ∧ H ≤ 23 ∧ 59 < K) ∨ (c = 0 ∧ 0 ≤ H ∧ H ≤ 23 ∧ 0 ≤ K ∧ K ≤ 59 ∧ p ≠ 32) ∨ (c = 0 ∧ 0 ≤ H ∧ H ≤ 23 ∧ 0 ≤ K ∧ K ≤ 59 ∧ p = 32 ∧ q ≠ 58) ∨ (c = 0 ∧ 0 ≤ H ∧ H ≤ 23 ∧ 0 ≤ K ∧ K ≤ 59 ∧ p = 32 ∧ q = 58) := by omega
  rcases hcs with g0 | ⟨rfl, g1⟩ | ⟨rfl, g1, g2⟩ | ⟨rfl, g1, g2, g3⟩ | ⟨rfl, g1, g2, g3⟩ | ⟨rfl, g1, g2, g3, g4, g5⟩ | ⟨rfl, g1, g2, g3, g4, rfl, g6⟩ | ⟨rfl, g1, g2, g3, g4, rfl, rfl⟩
  · have EE := Lib.hid (HB.out (.inl g0))
    rcases hc0 with rfl | rfl
    · exact absurd rfl g0
    have g9 : ((11 : Int) != 0) = true := rfl
    clear HB HG hp hq
    go_enter Tryd.func39, Tryd.ntmps39
    go_wp2_with fail
    refine HR.out.mono ?_
    rintro e w1 ⟨rfl, b1⟩
    have HQH : Hid (∀ j, Calls Tryd.prog 58 #[.string (s.extract 11 13)] (w1.drewN j) fun e w' => e = .returned (.int .i64 H) ∧ w1.drewN j = w') := Lib.hid (fun j => HH.out _)
    have HQK : Hid (∀ j, Calls Tryd.prog 58 #[.string (s.extract 14 16)] (w1.drewN j) fun e w' => e = .returned (.int .i64 K) ∧ w1.drewN j = w') := Lib.hid (fun j => HK.out _)
    go_wp2_with fail
    go_quiet (first | (go_at_call_of 58 (Value.string (s.extract 11 13)); first | exact Kt.quiet_left (HQH.out _) | exact Kt.quiet_add_left (HQH.out _)) | (go_at_call_of 58 (Value.string (s.extract 14 16)); first | exact Kt.quiet_left (HQK.out _) | exact Kt.quiet_add_left (HQK.out _)))
    go_wp2_with fail
    go_ret2
    exact ⟨ret_ii EE.out.1.symm EE.out.2.symm, Kt.below_drewN b1 _⟩
  · have EE := Lib.hid (HB.out (.inr (.inl g1)))
    clear HB HG hp hq
    go_enter Tryd.func39, Tryd.ntmps39
    go_wp2_with fail
    refine HR.out.mono ?_
    rintro e w1 ⟨rfl, b1⟩
    have HQH : Hid (∀ j, Calls Tryd.prog 58 #[.string (s.extract 11 13)] (w1.drewN j) fun e w' => e = .returned (.int .i64 H) ∧ w1.drewN j = w') := Lib.hid (fun j => HH.out _)
    have HQK : Hid (∀ j, Calls Tryd.prog 58 #[.string (s.extract 14 16)] (w1.drewN j) fun e w' => e = .returned (.int .i64 K) ∧ w1.drewN j = w') := Lib.hid (fun j => HK.out _)
    go_wp2_with fail
    go_quiet (first | (go_at_call_of 58 (Value.string (s.extract 11 13)); first | exact Kt.quiet_left (HQH.out _) | exact Kt.quiet_add_left (HQH.out _)) | (go_at_call_of 58 (Value.string (s.extract 14 16)); first | exact Kt.quiet_left (HQK.out _) | exact Kt.quiet_add_left (HQK.out _)))
    go_wp2_with fail
    go_ret2
    exact ⟨ret_ii EE.out.1.symm EE.out.2.symm, Kt.below_drewN b1 _⟩
  · have EE := Lib.hid (HB.out (.inr (.inr (.inl g2))))
    clear HB HG hp hq
    go_enter Tryd.func39, Tryd.ntmps39
    go_wp2_with fail
    refine HR.out.mono ?_
    rintro e w1 ⟨rfl, b1⟩
    have HQH : Hid (∀ j, Calls Tryd.prog 58 #[.string (s.extract 11 13)] (w1.drewN j) fun e w' => e = .returned (.int .i64 H) ∧ w1.drewN j = w') := Lib.hid (fun j => HH.out _)
    have HQK : Hid (∀ j, Calls Tryd.prog 58 #[.string (s.extract 14 16)] (w1.drewN j) fun e w' => e = .returned (.int .i64 K) ∧ w1.drewN j = w') := Lib.hid (fun j => HK.out _)
    go_wp2_with fail
    go_quiet (first | (go_at_call_of 58 (Value.string (s.extract 11 13)); first | exact Kt.quiet_left (HQH.out _) | exact Kt.quiet_add_left (HQH.out _)) | (go_at_call_of 58 (Value.string (s.extract 14 16)); first | exact Kt.quiet_left (HQK.out _) | exact Kt.quiet_add_left (HQK.out _)))
    go_wp2_with fail
    go_ret2
    exact ⟨ret_ii EE.out.1.symm EE.out.2.symm, Kt.below_drewN b1 _⟩
  · have EE := Lib.hid (HB.out (.inr (.inr (.inr (.inl g3)))))
    clear HB HG hp hq
    go_enter Tryd.func39, Tryd.ntmps39
    go_wp2_with fail
    refine HR.out.mono ?_
    rintro e w1 ⟨rfl, b1⟩
    have HQH : Hid (∀ j, Calls Tryd.prog 58 #[.string (s.extract 11 13)] (w1.drewN j) fun e w' => e = .returned (.int .i64 H) ∧ w1.drewN j = w') := Lib.hid (fun j => HH.out _)
    have HQK : Hid (∀ j, Calls Tryd.prog 58 #[.string (s.extract 14 16)] (w1.drewN j) fun e w' => e = .returned (.int .i64 K) ∧ w1.drewN j = w') := Lib.hid (fun j => HK.out _)
    go_wp2_with fail
    go_quiet (first | (go_at_call_of 58 (Value.string (s.extract 11 13)); first | exact Kt.quiet_left (HQH.out _) | exact Kt.quiet_add_left (HQH.out _)) | (go_at_call_of 58 (Value.string (s.extract 14 16)); first | exact Kt.quiet_left (HQK.out _) | exact Kt.quiet_add_left (HQK.out _)))
    go_wp2_with fail
    go_ret2
    exact ⟨ret_ii EE.out.1.symm EE.out.2.symm, Kt.below_drewN b1 _⟩
  · have EE := Lib.hid (HB.out (.inr (.inr (.inr (.inr (.inl g3))))))
    clear HB HG hp hq
    go_enter Tryd.func39, Tryd.ntmps39
    go_wp2_with fail
    refine HR.out.mono ?_
    rintro e w1 ⟨rfl, b1⟩
    have HQH : Hid (∀ j, Calls Tryd.prog 58 #[.string (s.extract 11 13)] (w1.drewN j) fun e w' => e = .returned (.int .i64 H) ∧ w1.drewN j = w') := Lib.hid (fun j => HH.out _)
    have HQK : Hid (∀ j, Calls Tryd.prog 58 #[.string (s.extract 14 16)] (w1.drewN j) fun e w' => e = .returned (.int .i64 K) ∧ w1.drewN j = w') := Lib.hid (fun j => HK.out _)
    go_wp2_with fail
    go_quiet (first | (go_at_call_of 58 (Value.string (s.extract 11 13)); first | exact Kt.quiet_left (HQH.out _) | exact Kt.quiet_add_left (HQH.out _)) | (go_at_call_of 58 (Value.string (s.extract 14 16)); first | exact Kt.quiet_left (HQK.out _) | exact Kt.quiet_add_left (HQK.out _)))
    go_wp2_with fail
    go_ret2
    exact ⟨ret_ii EE.out.1.symm EE.out.2.symm, Kt.below_drewN b1 _⟩
  · have EE := Lib.hid (HB.out (.inr (.inr (.inr (.inr (.inr (.inl g5)))))))
    have hpn : (p != 32) = true := by simp; omega
    clear HB HG hp hq
    go_enter Tryd.func39, Tryd.ntmps39
    go_wp2_with fail
    refine HR.out.mono ?_
    rintro e w1 ⟨rfl, b1⟩
    have HQH : Hid (∀ j, Calls Tryd.prog 58 #[.string (s.extract 11 13)] (w1.drewN j) fun e w' => e = .returned (.int .i64 H) ∧ w1.drewN j = w') := Lib.hid (fun j => HH.out _)
    have HQK : Hid (∀ j, Calls Tryd.prog 58 #[.string (s.extract 14 16)] (w1.drewN j) fun e w' => e = .returned (.int .i64 K) ∧ w1.drewN j = w') := Lib.hid (fun j => HK.out _)
    go_wp2_with fail
    go_quiet (first | (go_at_call_of 58 (Value.string (s.extract 11 13)); first | exact Kt.quiet_left (HQH.out _) | exact Kt.quiet_add_left (HQH.out _)) | (go_at_call_of 58 (Value.string (s.extract 14 16)); first | exact Kt.quiet_left (HQK.out _) | exact Kt.quiet_add_left (HQK.out _)))
    go_wp2_with fail
    go_ret2
    exact ⟨ret_ii EE.out.1.symm EE.out.2.symm, Kt.below_drewN b1 _⟩
  · have EE := Lib.hid (HB.out (.inr (.inr (.inr (.inr (.inr (.inr g6)))))))
    have hqn : (q != 58) = true := by simp; omega
    clear HB HG hp hq
    go_enter Tryd.func39, Tryd.ntmps39
    go_wp2_with fail
    refine HR.out.mono ?_
    rintro e w1 ⟨rfl, b1⟩
    have HQH : Hid (∀ j, Calls Tryd.prog 58 #[.string (s.extract 11 13)] (w1.drewN j) fun e w' => e = .returned (.int .i64 H) ∧ w1.drewN j = w') := Lib.hid (fun j => HH.out _)
    have HQK : Hid (∀ j, Calls Tryd.prog 58 #[.string (s.extract 14 16)] (w1.drewN j) fun e w' => e = .returned (.int .i64 K) ∧ w1.drewN j = w') := Lib.hid (fun j => HK.out _)
    go_wp2_with fail
    go_quiet (first | (go_at_call_of 58 (Value.string (s.extract 11 13)); first | exact Kt.quiet_left (HQH.out _) | exact Kt.quiet_add_left (HQH.out _)) | (go_at_call_of 58 (Value.string (s.extract 14 16)); first | exact Kt.quiet_left (HQK.out _) | exact Kt.quiet_add_left (HQK.out _)))
    go_wp2_with fail
    go_ret2
    exact ⟨ret_ii EE.out.1.symm EE.out.2.symm, Kt.below_drewN b1 _⟩
  · have EE := Lib.hid (HG.out rfl (by omega) (by omega) (by omega) (by omega) rfl rfl)
    clear HB HG hp hq
    go_enter Tryd.func39, Tryd.ntmps39
    go_wp2_with fail
    refine HR.out.mono ?_
    rintro e w1 ⟨rfl, b1⟩
    have HQH : Hid (∀ j, Calls Tryd.prog 58 #[.string (s.extract 11 13)] (w1.drewN j) fun e w' => e = .returned (.int .i64 H) ∧ w1.drewN j = w') := Lib.hid (fun j => HH.out _)
    have HQK : Hid (∀ j, Calls Tryd.prog 58 #[.string (s.extract 14 16)] (w1.drewN j) fun e w' => e = .returned (.int .i64 K) ∧ w1.drewN j = w') := Lib.hid (fun j => HK.out _)
    go_wp2_with fail
    go_quiet (first | (go_at_call_of 58 (Value.string (s.extract 11 13)); first | exact Kt.quiet_left (HQH.out _) | exact Kt.quiet_add_left (HQH.out _)) | (go_at_call_of 58 (Value.string (s.extract 14 16)); first | exact Kt.quiet_left (HQK.out _) | exact Kt.quiet_add_left (HQK.out _)))
    go_wp2_with fail
    go_ret2
    exact ⟨ret_ii EE.out.1.symm EE.out.2.symm, Kt.below_drewN b1 _⟩
theorem rreadtime_any (s : ByteArray) (w : World) : Calls Tryd.prog 39 #[.string s] w fun e w' => e = .returned (.tuple #[.int .i64 (tV s), .int .i64 (tE s)]) ∧ Below w.heap.size w w' := by
  by_cases h1 : s.size = 16
  · exact rreadtime_in s w h1
  · have hn : ¬ tOk s := fun h => h1 h.1
    unfold tV tE
    rw [if_neg hn, if_neg hn]
    refine (rreadtime_size s w h1).mono ?_
    rintro e w' ⟨rfl, rfl⟩
    exact ⟨rfl, Below.refl _ _⟩
end Go.Proofs.YtjfgfchnpghpfaaDoor
