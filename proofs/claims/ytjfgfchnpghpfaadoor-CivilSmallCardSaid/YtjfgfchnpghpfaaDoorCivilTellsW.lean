/- The walk of CivilTells. -/
import Derived.Test.YtjfgfchnpghpfaaDoorCivS
namespace Go.Proofs.YtjfgfchnpghpfaaDoor
open Go Go.RowKit

section
variable {w : World}
theorem rdateof_val {d y m k : Int} (M : Nat) (hm : m = (M : Int)) (h : Cv.IsDate d y M k) :
    Calls Tryd.prog 15 #[.int .i64 d] w fun e w' => e = .returned (.tuple #[.int .i64 y, .int .i64 m, .int .i64 k, .int .i64 0]) ∧ w = w' := by
  subst hm
  refine (rdateof_ok d w h.bd.1 h.bd.2).mono ?_
  rintro e w' ⟨⟨y', m', k', rfl, h'⟩, hb⟩
  obtain ⟨rfl, rfl, rfl⟩ := h.uniq h'
  exact ⟨rfl, hb⟩
theorem rtext_val {d : Int} {l : List UInt8} (Y M K : Nat) (h : Cv.IsDate d Y M K) (hl : Cv.dateL Y M K = l) :
    Calls Tryd.prog 19 #[.int .i64 d] w fun e w' => e = .returned (.tuple #[.string ⟨l.toArray⟩, .int .i64 0]) ∧ Below w.heap.size w w' := by
  subst hl
  refine (rtext_ok d w h.bd.1 h.bd.2).mono ?_
  rintro e w' ⟨⟨y', m', k', rfl, h'⟩, hb⟩
  obtain ⟨h1, rfl, h3⟩ := h.uniq h'
  obtain rfl : Y = y' := by omega
  obtain rfl : K = k' := by omega
  exact ⟨rfl, hb⟩
theorem timetext_val {t : Int} {l : List UInt8} (Y M K h n : Nat) (h0 : 0 ≤ t) (h1 : t ≤ 1051898399) (hd : Cv.IsDate (t / 1440) Y M K) (hh : (h : Int) = t % 1440 / 60) (hn : (n : Int) = t % 1440 % 60) (hl : Cv.timeL Y M K h n = l) (ht : Tab w) :
    Calls Tryd.prog 51 #[.int .i64 t] w fun e w' => e = .returned (.tuple #[.string ⟨l.toArray⟩, .int .i64 0]) ∧ Below w.heap.size w w' := by
  subst hl
  refine (timetext_ok t w h0 h1 ht).mono ?_
  rintro e w' ⟨⟨y', m', k', h', n', rfl, hd', hh', hn'⟩, hb⟩
  obtain ⟨g1, rfl, g3⟩ := hd.uniq hd'
  obtain rfl : Y = y' := by omega
  obtain rfl : K = k' := by omega
  obtain rfl : h = h' := by omega
  obtain rfl : n = n' := by omega
  exact ⟨rfl, hb⟩
theorem rtimetext_val {t : Int} {l : List UInt8} (Y M K h n : Nat) (h0 : 0 ≤ t) (h1 : t ≤ 1051898399) (hd : Cv.IsDate (t / 1440) Y M K) (hh : (h : Int) = t % 1440 / 60) (hn : (n : Int) = t % 1440 % 60) (hl : Cv.timeL Y M K h n = l) :
    Calls Tryd.prog 52 #[.int .i64 t] w fun e w' => e = .returned (.tuple #[.string ⟨l.toArray⟩, .int .i64 0]) ∧ Below w.heap.size w w' := by
  subst hl
  refine (rtimetext_ok t w h0 h1).mono ?_
  rintro e w' ⟨⟨y', m', k', h', n', rfl, hd', hh', hn'⟩, hb⟩
  obtain ⟨g1, rfl, g3⟩ := hd.uniq hd'
  obtain rfl : Y = y' := by omega
  obtain rfl : K = k' := by omega
  obtain rfl : h = h' := by omega
  obtain rfl : n = n' := by omega
  exact ⟨rfl, hb⟩
end
theorem date_nat {d : Int} (h0 : 0 ≤ d) (h1 : d ≤ 730484) : ∃ Y M K : Nat, Cv.IsDate d Y M K := by
  obtain ⟨y, m, k, h⟩ := Cv.date_ex d h0 h1
  obtain ⟨Y, rfl⟩ := Int.eq_ofNat_of_zero_le (show 0 ≤ y by have := h.y0; omega)
  obtain ⟨K, rfl⟩ := Int.eq_ofNat_of_zero_le (show 0 ≤ k by have := h.k0; omega)
  exact ⟨Y, m, K, h⟩
theorem lawsplit_bad (t c : Int) (w : World) (hc : (t < 0 ∧ c = 2) ∨ (1051898399 < t ∧ c = 3)) :
    Calls Tryd.prog 22 #[.int .i64 t] w fun e w' => e = .returned (.bool true) ∧ Below w.heap.size w w' := by
  have HC := Lib.hid hc
  clear hc
  go_enter Tryd.func22, Tryd.ntmps22
  go_wp2_with fail
  refine (split_no t c _ HC.out).mono ?_
  rintro e w' ⟨rfl, rfl⟩
  go_wp2_with fail
  refine (rsplit_no t c _ HC.out).mono ?_
  rintro e w' ⟨rfl, rfl⟩
  go_wp2_with fail
  refine (timetext_bad t c _ HC.out).mono ?_
  rintro e w' ⟨rfl, rfl⟩
  go_wp2_with fail
  refine (rtimetext_no t c _ HC.out).mono ?_
  rintro e w' ⟨rfl, rfl⟩
  go_wp2_with fail
  go_ret
  exact ⟨by simp, Below.refl _ _⟩
theorem lawsplit_any (t : Int) (w : World) (ht : Tab w) :
    Calls Tryd.prog 22 #[.int .i64 t] w fun e w' => e = .returned (.bool true) ∧ Below w.heap.size w w' := by
  by_cases h0 : t < 0
  · exact lawsplit_bad t 2 w (.inl ⟨h0, rfl⟩)
  by_cases h1 : 1051898399 < t
  · exact lawsplit_bad t 3 w (.inr ⟨h1, rfl⟩)
  have h0' : 0 ≤ t := by omega
  have h1' : t ≤ 1051898399 := by omega
  obtain ⟨Y, M, K, hd⟩ := date_nat (d := t / 1440) (by omega) (by omega)
  obtain ⟨h, hh⟩ : ∃ h : Nat, (h : Int) = t % 1440 / 60 := ⟨(t % 1440 / 60).toNat, by omega⟩
  obtain ⟨n, hn⟩ : ∃ n : Nat, (n : Int) = t % 1440 % 60 := ⟨(t % 1440 % 60).toNat, by omega⟩
  obtain ⟨l, hl⟩ : ∃ l, Cv.timeL Y M K h n = l := ⟨_, rfl⟩
  have HA := Lib.hid (fun (W : World) (hT : Tab W) => timetext_val (w := W) Y M K h n h0' h1' hd hh hn hl hT)
  have HB := Lib.hid (fun (W : World) => rtimetext_val (w := W) Y M K h n h0' h1' hd hh hn hl)
  have HT := Lib.hid ht
  have HS1 := Lib.hid (fun (W : World) => split_ok t W h0' h1')
  have HS2 := Lib.hid (fun (W : World) => rsplit_ok t W h0' h1')
  obtain ⟨p, hp⟩ : ∃ p, t / 1440 = p := ⟨_, rfl⟩
  obtain ⟨q, hq⟩ : ∃ q, t % 1440 = q := ⟨_, rfl⟩
  rw [hp, hq] at HS1 HS2
  clear hd hh hn hl ht h0 h1 h0' h1' hp hq
  go_enter Tryd.func22, Tryd.ntmps22
  go_wp2_with fail
  refine (HS1.out _).mono ?_
  rintro e w' ⟨rfl, rfl⟩
  go_wp2_with fail
  refine (HS2.out _).mono ?_
  rintro e w' ⟨rfl, rfl⟩
  go_wp2_with fail
  refine (HA.out _ HT.out).mono ?_
  rintro e w1 ⟨rfl, b1⟩
  go_wp2_with fail
  refine (HB.out _).mono ?_
  rintro e w2 ⟨rfl, b2⟩
  go_wp2_with fail
  go_ret
  exact ⟨by simp, Kt.next b1 b2⟩
theorem lawdate_bad (d m c : Int) (w : World) (ht : Tab w) (hc : (d < 0 ∧ c = 2) ∨ (730484 < d ∧ c = 3)) :
    Calls Tryd.prog 5 #[.int .i64 d, .int .i64 m] w fun e w' => e = .returned (.bool true) ∧ Below w.heap.size w w' := by
  have HC := Lib.hid hc
  have HT := Lib.hid ht
  obtain ⟨x, hx⟩ : ∃ x, Hid (timeOf d m = x) := ⟨_, Lib.hid rfl⟩
  obtain ⟨z, hz⟩ : ∃ z, Hid (timeErr d m = z) := ⟨_, Lib.hid rfl⟩
  clear hc ht
  go_enter Tryd.func5, Tryd.ntmps5
  go_wp2_with fail
  refine (date_bad d c _ HC.out).mono ?_
  rintro e w' ⟨rfl, rfl⟩
  go_wp2_with fail
  refine (rdate_no d c _ HC.out).mono ?_
  rintro e w' ⟨rfl, rfl⟩
  go_wp2_with fail
  refine (week_no d c _ HC.out).mono ?_
  rintro e w' ⟨rfl, rfl⟩
  go_wp2_with fail
  refine (rweek_no d c _ HC.out).mono ?_
  rintro e w' ⟨rfl, rfl⟩
  go_wp2_with fail
  refine (text_bad d c _ HC.out).mono ?_
  rintro e w' ⟨rfl, rfl⟩
  go_wp2_with fail
  refine (rtext_no d c _ HC.out).mono ?_
  rintro e w' ⟨rfl, rfl⟩
  go_wp2_with fail
  refine (time_any d m _).mono ?_
  rw [hx.out, hz.out]
  rintro e w' ⟨rfl, rfl⟩
  go_wp2_with fail
  refine (rtime_any d m _).mono ?_
  rw [hx.out, hz.out]
  rintro e w' ⟨rfl, rfl⟩
  go_wp2_with fail
  refine (lawsplit_any x _ HT.out).mono ?_
  rintro e w1 ⟨rfl, b1⟩
  go_wp2_with fail
  refine (lawsplit_any d _ (HT.out.on b1)).mono ?_
  rintro e w2 ⟨rfl, b2⟩
  replace b2 := Kt.next b1 b2
  go_wp2_with fail
  refine (lawsplit_any m _ (HT.out.on b2)).mono ?_
  rintro e w3 ⟨rfl, b3⟩
  go_wp2_with fail
  go_ret
  exact ⟨rfl, Kt.next b2 b3⟩
theorem lawdate_any (d m : Int) (w : World) (ht : Tab w) :
    Calls Tryd.prog 5 #[.int .i64 d, .int .i64 m] w fun e w' => e = .returned (.bool true) ∧ Below w.heap.size w w' := by
  by_cases h0 : d < 0
  · exact lawdate_bad d m 2 w ht (.inl ⟨h0, rfl⟩)
  by_cases h1 : 730484 < d
  · exact lawdate_bad d m 3 w ht (.inr ⟨h1, rfl⟩)
  have h0' : 0 ≤ d := by omega
  have h1' : d ≤ 730484 := by omega
  obtain ⟨Y, M, K, hd⟩ := date_nat h0' h1'
  obtain ⟨l, hl⟩ : ∃ l, Cv.dateL Y M K = l := ⟨_, rfl⟩
  have HD := Lib.hid hd
  have HL := Lib.hid hl
  have HT := Lib.hid ht
  obtain ⟨x, hx⟩ : ∃ x, Hid (timeOf d m = x) := ⟨_, Lib.hid rfl⟩
  obtain ⟨z, hz⟩ : ∃ z, Hid (timeErr d m = z) := ⟨_, Lib.hid rfl⟩
  clear hd hl ht h0 h1
  go_enter Tryd.func5, Tryd.ntmps5
  go_wp2_with fail
  refine (date_val (m := (M : Int)) M rfl HD.out).mono ?_
  rintro e w1 ⟨rfl, b1⟩
  have HT1 := Lib.hid (HT.out.on b1)
  go_wp2_with fail
  refine (rdateof_val (m := (M : Int)) M rfl HD.out).mono ?_
  rintro e w' ⟨rfl, rfl⟩
  go_wp2_with fail
  refine (week_ok d _ h0' h1').mono ?_
  rintro e w' ⟨rfl, rfl⟩
  go_wp2_with fail
  refine (rweek_ok d _ h0' h1').mono ?_
  rintro e w' ⟨rfl, rfl⟩
  go_wp2_with fail
  refine (text_val Y M K HD.out HL.out HT1.out).mono ?_
  rintro e w2 ⟨rfl, b2⟩
  have HT2 := Lib.hid (HT1.out.on b2)
  replace b2 := Kt.next b1 b2
  go_wp2_with fail
  refine (rtext_val Y M K HD.out HL.out).mono ?_
  rintro e w3 ⟨rfl, b3⟩
  have HT3 := Lib.hid (HT2.out.on b3)
  replace b3 := Kt.next b2 b3
  go_wp2_with fail
  refine (time_any d m _).mono ?_
  rw [hx.out, hz.out]
  rintro e w' ⟨rfl, rfl⟩
  go_wp2_with fail
  refine (rtime_any d m _).mono ?_
  rw [hx.out, hz.out]
  rintro e w' ⟨rfl, rfl⟩
  go_wp2_with fail
  refine (lawsplit_any x _ HT3.out).mono ?_
  rintro e w4 ⟨rfl, b4⟩
  have HT4 := Lib.hid (HT3.out.on b4)
  replace b4 := Kt.next b3 b4
  go_wp2_with fail
  refine (lawsplit_any d _ HT4.out).mono ?_
  rintro e w5 ⟨rfl, b5⟩
  have HT5 := Lib.hid (HT4.out.on b5)
  replace b5 := Kt.next b4 b5
  go_wp2_with fail
  refine (lawsplit_any m _ HT5.out).mono ?_
  rintro e w6 ⟨rfl, b6⟩
  go_wp2_with fail
  go_ret
  exact ⟨rfl, Kt.next b5 b6⟩
set_option maxRecDepth 100000 in
set_option maxHeartbeats 4000000 in
theorem walk_CivilTells (y : Int) (_wy : (Lit.int .i64 y).wf = true) (m : Int) (_wm : (Lit.int .i64 m).wf = true) (k : Int) (_wk : (Lit.int .i64 k).wf = true) (n : Int) (_wn : (Lit.int .i64 n).wf = true) (t : Int) (_wt : (Lit.int .i64 t).wf = true) (w : World) (ht : Tab w) :
    Calls Tryd.prog 4 #[.int .i64 y, .int .i64 m, .int .i64 k, .int .i64 n, .int .i64 t] w fun e w' => e = .returned (.bool true) ∧ Below w.heap.size w w' := by
  have HT := Lib.hid ht
  obtain ⟨v, hv⟩ : ∃ x, Hid (Cv.dayV y m k = x) := ⟨_, Lib.hid rfl⟩
  obtain ⟨c, hc⟩ : ∃ x, Hid (Cv.dayE y m k = x) := ⟨_, Lib.hid rfl⟩
  obtain ⟨l, hl⟩ : ∃ l, Hid (Cv.leap y = l) := ⟨_, Lib.hid rfl⟩
  clear ht
  go_enter Tryd.func4, Tryd.ntmps4
  go_wp2_with fail
  refine (day_any y m k _).mono ?_
  rw [hv.out, hc.out]
  rintro e w1 ⟨rfl, b1⟩
  have HT1 := Lib.hid (HT.out.on b1)
  go_wp2_with fail
  refine (rday_any y m k _).mono ?_
  rw [hv.out, hc.out]
  rintro e w' ⟨rfl, rfl⟩
  go_wp2_with fail
  refine (leap_any y _).mono ?_
  rw [hl.out]
  rintro e w' ⟨rfl, rfl⟩
  go_wp2_with fail
  refine (rleap_any y _).mono ?_
  rw [hl.out]
  rintro e w' ⟨rfl, rfl⟩
  have hll : (l == l) = true := by simp
  go_wp2_with fail
  refine (lawdate_any n t _ HT1.out).mono ?_
  rintro e w2 ⟨rfl, b2⟩
  have HT2 := Lib.hid (HT1.out.on b2)
  replace b2 := Kt.next b1 b2
  go_wp2_with fail
  refine (awake_any _ HT2.out).mono ?_
  rintro e w3 ⟨rfl, b3⟩
  go_wp2_with fail
  go_ret
  exact ⟨rfl, Kt.next b2 b3⟩
end Go.Proofs.YtjfgfchnpghpfaaDoor
