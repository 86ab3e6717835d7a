/- What the reference's Date, digits, Text and TimeText return (package letterbagref01): their walks. -/
import Derived.Test.YtjfgfchnpghpfaaDoorCivR
import Derived.Test.YtjfgfchnpghpfaaDoorCivP
namespace Go.Proofs.YtjfgfchnpghpfaaDoor
open Go Go.RowKit
theorem rdate_no (d c : Int) (w : World) (hc : (d < 0 ∧ c = 2) ∨ (730484 < d ∧ c = 3)) :
    Calls Tryd.prog 15 #[.int .i64 d] w fun e w' => e = .returned (.tuple #[.int .i64 0, .int .i64 0, .int .i64 0, .int .i64 c]) ∧ w = w' := by
  have hc0 : c = 2 ∨ c = 3 := by omega
  have H := Lib.hid (within_no d 730484 c w (by omega) hc)
  clear hc
  go_enter Tryd.func15, Tryd.ntmps15
  go_wp2_with fail
  refine H.out.mono ?_
  rintro e w' ⟨rfl, rfl⟩
  rcases hc0 with rfl | rfl
  all_goals
    go_wp2
    go_returns
    exact ⟨rfl, rfl⟩
set_option maxHeartbeats 2000000 in
theorem rdateof_ok (d : Int) (w : World) (h0 : 0 ≤ d) (h1 : d ≤ 730484) :
    Calls Tryd.prog 15 #[.int .i64 d] w fun e w' => (∃ (y : Int) (m : Nat) (k : Int), e = .returned (.tuple #[.int .i64 y, .int .i64 m, .int .i64 k, .int .i64 0]) ∧ Cv.IsDate d y m k) ∧ w = w' := by
  go_enter Tryd.func15, Tryd.ntmps15
  go_wp2_with fail
  refine (within_ok d 730484 _ h0 h1).mono ?_
  rintro e w' ⟨rfl, rfl⟩
  go_wp2_with fail
  go_loopw [0, 7] (fun t0 y wr => ∃ Y R : Int, y = .int .i64 Y ∧ t0 = .int .i64 R ∧ 2001 ≤ Y ∧ Y ≤ 4000 ∧ 0 ≤ R ∧ R ≤ 730484 ∧ Hid (R = d - Cv.ys Y) ∧ w = wr) (fun _ y _ => (4001 - intOf y).toNat)
  case atStart => exact ⟨2001, d, rfl, rfl, by omega, by omega, h0, h1, Lib.hid (by rw [Cv.ys_first]; omega), rfl⟩
  case round =>
    obtain ⟨Y, R, rfl, rfl, hY0, hY1, hR0, hR1, hR, rfl⟩ := hrel
    obtain ⟨l, hl⟩ : ∃ l, Hid (Cv.leap Y = l) := ⟨_, Lib.hid rfl⟩
    have hst := Cv.ys_step Y
    have hlpe : Cv.lp Y = if l then 1 else 0 := by unfold Cv.lp; rw [hl.out]
    rw [hlpe] at hst
    have hce := Cv.cum_end Y
    rw [hl.out, hlpe] at hce
    obtain ⟨n, hn⟩ : ∃ n : Int, (365 + if l then 1 else 0) = n := ⟨_, rfl⟩
    have HN : Hid (Cv.ys (Y + 1) = Cv.ys Y + n ∧ Cv.cum l 13 = n) := Lib.hid ⟨by omega, by omega⟩
    have hnv : n = if l then 366 else 365 := by rw [← hn]; cases l <;> rfl
    have hn1 : 365 ≤ n := by rw [← hn]; split <;> omega
    have hn2 : n ≤ 366 := by rw [← hn]; split <;> omega
    clear hst hlpe hce hn
    by_cases hlt : R < n
    · cases l
      · have hn3 : n = 365 := hnv
        have hlt2 : R < 365 := by omega
        clear hnv
        go_wp2_with fail
        refine (rleap_any Y _).mono ?_
        rw [hl.out]
        rintro e w' ⟨rfl, rfl⟩
        have HN3 := Lib.hid hn3
        clear hn3 hn1 hn2 hlt
        go_wp2_with fail
        go_loopw [0, 8] (fun t0 mo wr => ∃ (Q : Int) (m : Nat), t0 = .int .i64 Q ∧ mo = .int .i64 m ∧ 1 ≤ m ∧ m ≤ 12 ∧ 0 ≤ Q ∧ Q ≤ 730484 ∧ Hid (Q = R - Cv.cum false m) ∧ w = wr) (fun _ mo _ => (13 - intOf mo).toNat)
        case atStart => exact ⟨R, 1, rfl, rfl, by omega, by omega, hR0, hR1, Lib.hid (by rw [Cv.cum_one]; omega), rfl⟩
        case round =>
          obtain ⟨Q, m, rfl, rfl, hm1, hm2, hQ0, hQ1, hQ, rfl⟩ := hrel
          obtain ⟨v, hv⟩ : ∃ v, Hid (Cv.md false m = v) := ⟨_, Lib.hid rfl⟩
          have hvb := Cv.md_bd false hm1 hm2
          have hst := Cv.cum_step false hm1 hm2
          rw [hv.out] at hvb hst
          obtain ⟨v0, v1⟩ := hvb
          have HST := Lib.hid hst
          clear hst
          go_wp2_with fail
          refine (long_any Y m _ hm1 hm2).mono ?_
          rw [hl.out, hv.out]
          rintro e w' ⟨rfl, rfl⟩
          by_cases hge : v ≤ Q
          · have hm12 : m < 12 := by
              rcases Nat.lt_or_ge m 12 with h | h
              · exact h
              · exfalso
                have e : m = 12 := by omega
                have h1 := HST.out
                rw [e] at h1
                have h6 : Cv.cum false 13 = Cv.cum false 12 + v := h1
                have h5 := hQ.out
                rw [e] at h5
                have h7 := HN.out.2
                have h8 := HN3.out
                omega
            go_wp2_with fail
            refine (long_any Y m _ hm1 hm2).mono ?_
            rw [hl.out, hv.out]
            rintro e w' ⟨rfl, rfl⟩
            go_wp2_with fail
            go_roundw
            case rel => exact ⟨Q - v, m + 1, rfl, by go_num, by omega, by omega, by omega, by omega, Lib.hid (by have := hQ.out; have := HST.out; omega), by trivial⟩
            case measure => simp [intOf]; omega
          · have HD : Cv.IsDate d Y m (Q + 1) := ⟨hY0, hY1, hm1, hm2, by omega, by rw [hl.out, hv.out]; omega, by rw [hl.out]; have := hQ.out; have := hR.out; omega⟩
            have HDD := Lib.hid HD
            clear HD
            go_wp2_with fail
            go_returns
            exact ⟨⟨Y, m, Q + 1, rfl, HDD.out⟩, rfl⟩
      · have hn3 : n = 366 := hnv
        have hlt2 : R < 366 := by omega
        clear hnv
        go_wp2_with fail
        refine (rleap_any Y _).mono ?_
        rw [hl.out]
        rintro e w' ⟨rfl, rfl⟩
        have HN3 := Lib.hid hn3
        clear hn3 hn1 hn2 hlt
        go_wp2_with fail
        go_loopw [0, 8] (fun t0 mo wr => ∃ (Q : Int) (m : Nat), t0 = .int .i64 Q ∧ mo = .int .i64 m ∧ 1 ≤ m ∧ m ≤ 12 ∧ 0 ≤ Q ∧ Q ≤ 730484 ∧ Hid (Q = R - Cv.cum true m) ∧ w = wr) (fun _ mo _ => (13 - intOf mo).toNat)
        case atStart => exact ⟨R, 1, rfl, rfl, by omega, by omega, hR0, hR1, Lib.hid (by rw [Cv.cum_one]; omega), rfl⟩
        case round =>
          obtain ⟨Q, m, rfl, rfl, hm1, hm2, hQ0, hQ1, hQ, rfl⟩ := hrel
          obtain ⟨v, hv⟩ : ∃ v, Hid (Cv.md true m = v) := ⟨_, Lib.hid rfl⟩
          have hvb := Cv.md_bd true hm1 hm2
          have hst := Cv.cum_step true hm1 hm2
          rw [hv.out] at hvb hst
          obtain ⟨v0, v1⟩ := hvb
          have HST := Lib.hid hst
          clear hst
          go_wp2_with fail
          refine (long_any Y m _ hm1 hm2).mono ?_
          rw [hl.out, hv.out]
          rintro e w' ⟨rfl, rfl⟩
          by_cases hge : v ≤ Q
          · have hm12 : m < 12 := by
              rcases Nat.lt_or_ge m 12 with h | h
              · exact h
              · exfalso
                have e : m = 12 := by omega
                have h1 := HST.out
                rw [e] at h1
                have h6 : Cv.cum true 13 = Cv.cum true 12 + v := h1
                have h5 := hQ.out
                rw [e] at h5
                have h7 := HN.out.2
                have h8 := HN3.out
                omega
            go_wp2_with fail
            refine (long_any Y m _ hm1 hm2).mono ?_
            rw [hl.out, hv.out]
            rintro e w' ⟨rfl, rfl⟩
            go_wp2_with fail
            go_roundw
            case rel => exact ⟨Q - v, m + 1, rfl, by go_num, by omega, by omega, by omega, by omega, Lib.hid (by have := hQ.out; have := HST.out; omega), by trivial⟩
            case measure => simp [intOf]; omega
          · have HD : Cv.IsDate d Y m (Q + 1) := ⟨hY0, hY1, hm1, hm2, by omega, by rw [hl.out, hv.out]; omega, by rw [hl.out]; have := hQ.out; have := hR.out; omega⟩
            have HDD := Lib.hid HD
            clear HD
            go_wp2_with fail
            go_returns
            exact ⟨⟨Y, m, Q + 1, rfl, HDD.out⟩, rfl⟩
    · have hYn : Y < 4000 := by
        rcases Int.lt_or_le Y 4000 with h | h
        · exact h
        · exfalso
          have e : Y = 4000 := by omega
          have h8 := HN.out.1
          rw [e] at h8
          have h9 : Cv.ys (4000 + 1) = 730485 := Cv.ys_last
          have h10 := hR.out
          rw [e] at h10
          omega
      have HR2 : Hid (R - n = d - Cv.ys (Y + 1)) := Lib.hid (by have := hR.out; have := HN.out.1; omega)
      cases l
      · have hn3 : n = 365 := hnv
        subst hn3
        clear hnv hn1 hn2
        go_wp2_with fail
        refine (rleap_any Y _).mono ?_
        rw [hl.out]
        rintro e w' ⟨rfl, rfl⟩
        go_wp2_with fail
        go_roundw
        case rel => exact ⟨Y + 1, R - 365, rfl, rfl, by omega, by omega, by omega, by omega, HR2, by trivial⟩
        case measure => simp [intOf]; omega
      · have hn3 : n = 366 := hnv
        subst hn3
        clear hnv hn1 hn2
        go_wp2_with fail
        refine (rleap_any Y _).mono ?_
        rw [hl.out]
        rintro e w' ⟨rfl, rfl⟩
        go_wp2_with fail
        go_roundw
        case rel => exact ⟨Y + 1, R - 366, rfl, rfl, by omega, by omega, by omega, by omega, HR2, by trivial⟩
        case measure => simp [intOf]; omega
theorem conv_one (w : World) (b : Nat) (c : Int) (h0 : 0 ≤ c) (h1 : c ≤ 255) (hc : w.cell? ⟨b, 0, none⟩ = some (.int .u8 c)) :
    (Go.convert 27 9 (.slice (some ⟨b, 0, none⟩) 1 1)).run Tryd.prog w = .ok (.string ⟨[UInt8.ofNat c.toNat].toArray⟩) w :=
  run_convert_bytes_back (P := Tryd.prog) w 27 9 5 ⟨b, 0, none⟩ 1 [UInt8.ofNat c.toNat] Tryd.underlying27 Tryd.underlying5 Tryd.underlying9 (fun j hj => by
    have e : j = 0 := by simpa using hj
    subst e
    have e2 : (UInt8.ofNat c.toNat).toNat = c.toNat := by rw [UInt8.toNat_ofNat']; omega
    show w.cell? ⟨b, 0, none⟩ = some (.int .u8 ((UInt8.ofNat c.toNat).toNat : Int))
    rw [hc, e2]
    congr 2
    omega)
theorem rdig_any (N many : Nat) (w : World) (hN : N < 100000) (hm : many ≤ 4) :
    Calls Tryd.prog 48 #[.int .i64 N, .int .i64 many] w fun e w' => e = .returned (.string ⟨(Cv.dgs many N).toArray⟩) ∧ Below w.heap.size w w' := by
  go_enter Tryd.func48, Tryd.ntmps48
  go_wp2
  go_loopw [0, 5, 6] (fun t0 s i wr => ∃ (j q : Nat) (S : List UInt8), i = .int .i64 j ∧ t0 = .int .i64 q ∧ s = .string ⟨S.toArray⟩ ∧ j ≤ many ∧ q < 100000 ∧ S.length ≤ 4 ∧ Hid (S.length = j) ∧ Hid (Cv.dgs many N = Cv.dgs (many - j) q ++ S) ∧ Below w.heap.size w wr) (fun _ _ i _ => many - (intOf i).toNat)
  case atStart => exact ⟨0, N, [], rfl, rfl, rfl, Nat.zero_le _, hN, by simp, Lib.hid rfl, Lib.hid (by simp), Below.refl _ _⟩
  case round =>
    obtain ⟨j, q, S, rfl, rfl, rfl, hj, hq, hS, hSl, hdg, hbel⟩ := hrel
    by_cases hlt : j < many
    · have hstep := hdg.out
      rw [show many - j = (many - (j + 1)) + 1 from by omega, Cv.dgs, List.append_assoc] at hstep
      have HST := Lib.hid hstep
      clear hstep
      obtain ⟨c, hc⟩ : ∃ c : Nat, q % 10 = c := ⟨_, rfl⟩
      have hc9 : c ≤ 9 := by omega
      rw [hc] at HST
      have hqc : (q : Int) % 10 = (c : Int) := by omega
      have hcv := conv_one (wr.alloc (.cells #[.int .u8 (48 + (c : Int))] 5)) wr.heap.size (48 + (c : Int)) (by omega) (by omega) (by exact (Kt.Blk.new wr 5 #[.int .u8 (48 + (c : Int))]).cell 0)
      rw [show (48 + (c : Int)).toNat = 48 + c from by omega] at hcv
      obtain ⟨bb, hbb⟩ : ∃ bb, Hid (UInt8.ofNat (48 + c) = bb) := ⟨_, Lib.hid rfl⟩
      rw [hbb.out] at hcv HST
      go_wp2_with fail
      clear hcv
      go_roundw
      case rel => exact ⟨j + 1, q / 10, bb :: S, by go_num, by go_num, by rw [Cv.bapp]; rfl, by omega, by omega, by rw [List.length_cons, hSl.out]; omega, Lib.hid (by rw [List.length_cons, hSl.out]), HST, hbel.alloc hbel.size _⟩
      case measure => simp [intOf]; omega
    · have e : j = many := by omega
      have E : Hid (S = Cv.dgs many N) := Lib.hid (by rw [hdg.out, e, Nat.sub_self]; rfl)
      clear e
      go_wp2_with fail
      go_ret
      exact ⟨Kt.ret_str E.out, hbel⟩
theorem rtext_no (d c : Int) (w : World) (hc : (d < 0 ∧ c = 2) ∨ (730484 < d ∧ c = 3)) :
    Calls Tryd.prog 19 #[.int .i64 d] w fun e w' => e = .returned (.tuple #[.string ⟨#[]⟩, .int .i64 c]) ∧ w = w' := by
  have hc0 : c = 2 ∨ c = 3 := by omega
  have HD := Lib.hid (rdate_no d c w hc)
  clear hc
  go_enter Tryd.func19, Tryd.ntmps19
  go_wp2_with fail
  refine HD.out.mono ?_
  rintro e w' ⟨rfl, rfl⟩
  rcases hc0 with rfl | rfl
  all_goals
    go_wp2
    go_ret2
    exact ⟨rfl, rfl⟩
theorem rtext_ok (d : Int) (w : World) (h0 : 0 ≤ d) (h1 : d ≤ 730484) : Calls Tryd.prog 19 #[.int .i64 d] w (TextR w d) := by
  go_enter Tryd.func19, Tryd.ntmps19
  go_wp2_with fail
  refine (rdateof_ok d _ h0 h1).mono ?_
  rintro e w1 ⟨⟨y, m, k, rfl, hd⟩, rfl⟩
  have hy0 := hd.y0
  have hy1 := hd.y1
  have hm0 := hd.m0
  have hm1 := hd.m1
  have hk0 := hd.k0
  have hk1 := hd.k1
  have hk2 := (Cv.md_bd (Cv.leap y) hm0 hm1).2
  obtain ⟨Y, rfl⟩ := Int.eq_ofNat_of_zero_le (show 0 ≤ y by omega)
  obtain ⟨K, rfl⟩ := Int.eq_ofNat_of_zero_le (show 0 ≤ k by omega)
  have hK : K < 100 := by omega
  have HD := Lib.hid hd
  clear hd hk1 hk2
  go_wp2_with fail
  refine (rdig_any Y 4 _ (by omega) (by omega)).mono ?_
  rintro e w2 ⟨rfl, b2⟩
  have l4 : (Cv.dgs 4 Y).length = 4 := Cv.dgs_len 4 Y
  have l2 : (Cv.dgs 2 m).length = 2 := Cv.dgs_len 2 m
  have l2' : (Cv.dgs 2 K).length = 2 := Cv.dgs_len 2 K
  go_wp2_with fail
  refine (rdig_any m 2 _ (by omega) (by omega)).mono ?_
  rintro e w3 ⟨rfl, b3⟩
  go_wp2_with fail
  refine (rdig_any K 2 _ (by omega) (by omega)).mono ?_
  rintro e w4 ⟨rfl, b4⟩
  go_wp2_with fail
  go_ret2
  exact ⟨⟨Y, m, K, ret_si (date_bytes Y m K), HD.out⟩, Kt.next (Kt.next b2 b3) b4⟩
theorem rtimetext_no (t c : Int) (w : World) (hc : (t < 0 ∧ c = 2) ∨ (1051898399 < t ∧ c = 3)) :
    Calls Tryd.prog 52 #[.int .i64 t] w fun e w' => e = .returned (.tuple #[.string ⟨#[]⟩, .int .i64 c]) ∧ w = w' := by
  have hc0 : c = 2 ∨ c = 3 := by omega
  have HD := Lib.hid (rsplit_no t c w hc)
  clear hc
  go_enter Tryd.func52, Tryd.ntmps52
  go_wp2_with fail
  refine HD.out.mono ?_
  rintro e w' ⟨rfl, rfl⟩
  rcases hc0 with rfl | rfl
  all_goals
    go_wp2
    go_ret2
    exact ⟨rfl, rfl⟩
theorem rtimetext_ok (t : Int) (w : World) (h0 : 0 ≤ t) (h1 : t ≤ 1051898399) : Calls Tryd.prog 52 #[.int .i64 t] w (TimeR w t) := by
  obtain ⟨D, hD⟩ : ∃ D, Hid (t / 1440 = D) := ⟨_, Lib.hid rfl⟩
  obtain ⟨h, hh⟩ : ∃ h : Nat, Hid ((h : Int) = t % 1440 / 60) := ⟨(t % 1440 / 60).toNat, Lib.hid (by omega)⟩
  obtain ⟨n, hn⟩ : ∃ n : Nat, Hid ((n : Int) = t % 1440 % 60) := ⟨(t % 1440 % 60).toNat, Lib.hid (by omega)⟩
  obtain ⟨M, hM⟩ : ∃ M, Hid (t % 1440 = M) := ⟨_, Lib.hid rfl⟩
  have hD0 : 0 ≤ D := by rw [← hD.out]; omega
  have hD1 : D ≤ 730484 := by rw [← hD.out]; omega
  have hM0 : 0 ≤ M := by rw [← hM.out]; omega
  have hM1 : M < 1440 := by rw [← hM.out]; omega
  have h24 : h < 24 := by have := hh.out; omega
  have n60 : n < 60 := by have := hn.out; omega
  have HS : Hid (Calls Tryd.prog 50 #[.int .i64 t] w fun e w' => e = .returned (.tuple #[.int .i64 D, .int .i64 M, .int .i64 0]) ∧ w = w') := Lib.hid (by rw [← hD.out, ← hM.out]; exact rsplit_ok t w h0 h1)
  have e1 : M / 60 = (h : Int) := by rw [← hM.out]; exact hh.out.symm
  have e2 : M % 60 = (n : Int) := by rw [← hM.out]; exact hn.out.symm
  have E1 := Lib.hid e1
  have E2 := Lib.hid e2
  clear e1 e2
  go_enter Tryd.func52, Tryd.ntmps52
  go_wp2_with fail
  refine HS.out.mono ?_
  rintro e w' ⟨rfl, rfl⟩
  go_wp2_with fail
  refine (rtext_ok D _ hD0 hD1).mono ?_
  rintro e w1 ⟨⟨y, m, k, rfl, hd⟩, b1⟩
  have HD := Lib.hid hd
  have l1 : (Cv.dateL y m k).length = 10 := Cv.dateL_len y m k
  clear hd
  go_wp2_with fail
  rw [E1.out]
  refine (rdig_any h 2 _ (by omega) (by omega)).mono ?_
  rintro e w2 ⟨rfl, b2⟩
  have l2 : (Cv.dgs 2 h).length = 2 := Cv.dgs_len 2 h
  have l3 : (Cv.dgs 2 n).length = 2 := Cv.dgs_len 2 n
  go_wp2_with fail
  rw [E2.out]
  refine (rdig_any n 2 _ (by omega) (by omega)).mono ?_
  rintro e w3 ⟨rfl, b3⟩
  go_wp2_with fail
  go_ret2
  exact ⟨⟨y, m, k, h, n, ret_si (time_bytes y m k h n), by rw [hD.out]; exact HD.out, hh.out, hn.out⟩, Kt.next (Kt.next b1 b2) b3⟩
end Go.Proofs.YtjfgfchnpghpfaaDoor
