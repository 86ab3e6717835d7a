/- What guess of the number package returns: its walk. -/
import Derived.Test.YtfjdhclpcbgdbaaNatKo
import Derived.IntWalk
namespace Go.Proofs.Ytfjdhclpcbgdbaa
open Go Go.RowKit

set_option maxHeartbeats 2000000 in
theorem guess_any (g o n c1 m c2 d : Nat) (u1 u0 um v1 v2 q : Int) (w : World) (hn : 3 ≤ n) (hn2 : n ≤ 4294967296) (hm : 2 ≤ m) (hm2 : m ≤ 4294967296)
    (a1 : w.cell? ⟨g, o + (n - 1), none⟩ = some (.int .u32 u1)) (a0 : w.cell? ⟨g, o + (n - 2), none⟩ = some (.int .u32 u0)) (am : w.cell? ⟨g, o + (n - 3), none⟩ = some (.int .u32 um))
    (d1 : w.cell? ⟨d, m - 1, none⟩ = some (.int .u32 v1)) (d2 : w.cell? ⟨d, m - 2, none⟩ = some (.int .u32 v2))
    (hu10 : 0 ≤ u1) (hu11 : u1 ≤ v1) (hu00 : 0 ≤ u0) (hu01 : u0 ≤ 4294967295) (hum0 : 0 ≤ um) (hum1 : um ≤ 4294967295) (hv10 : 2147483648 ≤ v1) (hv11 : v1 ≤ 4294967295) (hv20 : 0 ≤ v2) (hv21 : v2 ≤ 4294967295)
    (hq0 : 0 ≤ q) (hq1 : q ≤ 4294967295) (hq : q * (v1 * 4294967296 + v2) ≤ u1 * 18446744073709551616 + u0 * 4294967296 + um) :
    Calls Try.prog 43 #[.slice (some ⟨g, o, none⟩) n c1, .slice (some ⟨d, 0, none⟩) m c2] w fun e w' => ∃ dg : Int, e = .returned (.int .u64 dg) ∧ q ≤ dg ∧ dg ≤ 4294967295 ∧ dg * (v1 * 4294967296 + v2) ≤ u1 * 18446744073709551616 + u0 * 4294967296 + um ∧ ∃ k, w' = w.drewN k := by
  have HQ := Lib.hid hq
  have HF := Lib.hid (Nt.guess_first hv10 hu11 hu00 hu01 hum1 hv20 hq0 hq)
  have HO := Lib.hid (Nt.or_wide u1 u0 hu10 (by omega) hu00 hu01)
  clear hq
  have w1 : IntKind.i64.wrap ((n : Int) - 1) = (n : Int) - 1 := IntWalk.i64_in _ (by omega)
  have w2 : IntKind.i64.wrap ((n : Int) - 2) = (n : Int) - 2 := IntWalk.i64_in _ (by omega)
  have w3 : IntKind.i64.wrap ((m : Int) - 1) = (m : Int) - 1 := IntWalk.i64_in _ (by omega)
  have w4 : IntKind.i64.wrap ((m : Int) - 2) = (m : Int) - 2 := IntWalk.i64_in _ (by omega)
  have t1 : ((n : Int) - 1).toNat = n - 1 := by omega
  have t2 : ((n : Int) - 2).toNat = n - 2 := by omega
  have t3 : ((m : Int) - 1).toNat = m - 1 := by omega
  have t4 : ((m : Int) - 2).toNat = m - 2 := by omega
  have p1 : 0 ≤ (n : Int) - 1 := by omega
  have p2 : 0 ≤ (n : Int) - 2 := by omega
  have p3 : 0 ≤ (m : Int) - 1 := by omega
  have p4 : 0 ≤ (m : Int) - 2 := by omega
  have l1 : (n : Int) - 1 < (n : Int) := by omega
  have l2 : (n : Int) - 2 < (n : Int) := by omega
  have l3 : (m : Int) - 1 < (m : Int) := by omega
  have l4 : (m : Int) - 2 < (m : Int) := by omega
  go_enter Try.func43, Try.ntmps43
  go_wp2
  go_quiet (fail)
  go_wp2
  go_quiet (fail)
  go_wp2
  rw [HO.out]
  clear w1 w2 w3 w4 t1 t2 t3 t4 p1 p2 p3 p4 l1 l2 l3 l4 HO a1 a0 d1 d2
  have z0 : 0 ≤ u1 * 4294967296 + u0 := by omega
  have z1 : u1 * 4294967296 + u0 ≤ 18446744073709551615 := by omega
  obtain ⟨hf1, hf2⟩ := HF.out
  have r0 : 0 ≤ (u1 * 4294967296 + u0) % v1 := Int.emod_nonneg _ (by omega)
  have r1 : (u1 * 4294967296 + u0) % v1 < v1 := Int.emod_lt_of_pos _ (by omega)
  have hdm := Int.mul_ediv_add_emod (u1 * 4294967296 + u0) v1
  obtain ⟨z, hz⟩ : ∃ z, Hid (u1 * 4294967296 + u0 = z) := ⟨_, Lib.hid rfl⟩
  rw [hz.out] at hf1 hf2 z0 z1 r0 r1 hdm
  rw [hz.out]
  have HDM := Lib.hid hdm
  have y1 : 1 ≤ v1 := by omega
  have y0 : (v1 == 0) = false := beq_eq_false_iff_ne.2 (by omega)
  clear hdm
  go_quiet (fail)
  go_wp2
  have w3 : IntKind.i64.wrap ((n : Int) - 3) = (n : Int) - 3 := IntWalk.i64_in _ (by omega)
  have t3 : ((n : Int) - 3).toNat = n - 3 := by omega
  go_loop [10, 11] (fun u v => ∃ dg r : Int, u = .int .u64 dg ∧ v = .int .u64 r ∧ q ≤ dg ∧ dg ≤ 4294967297 ∧ 0 ≤ r ∧ r ≤ 4294967295 ∧ Hid (z = dg * v1 + r)) (fun _ v => (4294967296 - intOf v).toNat)
  case atStart => exact ⟨_, _, rfl, rfl, hf1, hf2, r0, by omega, Lib.hid (by have h9 := HDM.out; rw [Int.mul_comm v1] at h9; exact h9.symm)⟩
  case round =>
    obtain ⟨dg, r, rfl, rfl, hdq, hdb, hr0, hr1, hzz⟩ := hrel
    have hw : Hid (u1 * 4294967296 + u0 = dg * v1 + r) := Lib.hid (by rw [hz.out]; exact hzz.out)
    have HO := Lib.hid (Nt.or_wide r um hr0 hr1 hum0 hum1)
    have hstep : Hid (z = (dg - 1) * v1 + (r + v1)) := Lib.hid (by rw [hzz.out, Int.sub_mul, Int.one_mul]; omega)
    by_cases hbig : 4294967296 ≤ dg
    · have hb : (dg / 4294967296 != 0) = true := by rw [bne_iff_ne]; omega
      have hmore := Nt.guess_more (d := dg) (r := r) hw.out hq1 (by omega) HQ.out (.inl hbig)
      by_cases hbr : 4294967296 ≤ r + v1
      · have hb2 : ((r + v1) / 4294967296 != 0) = true := by rw [bne_iff_ne]; omega
        have HE := Lib.hid (Nt.guess_break hw.out hu11 hu01 hum0 hv20 hv21 (by omega) (by omega) hbr)
        go_wp2
        go_ret
        exact ⟨dg - 1, rfl, hmore, HE.out.1, HE.out.2, _, rfl⟩
      · have hb2 : ((r + v1) / 4294967296 != 0) = false := by rw [bne_eq_false_iff_eq]; omega
        go_wp2
        go_round
        case rel => first | exact ⟨by omega, by omega, by omega⟩ | exact ⟨dg - 1, r + v1, rfl, rfl, hmore, by omega, by omega, by omega, hstep⟩
        case measure => simp [intOf]; omega
    · have hb : (dg / 4294967296 != 0) = false := by rw [bne_eq_false_iff_eq]; omega
      have hp0 : 0 ≤ dg * v2 := Int.mul_nonneg (by omega) hv20
      have hp1 : dg * v2 ≤ 4294967295 * 4294967295 := Int.mul_le_mul (by omega) hv21 hv20 (by omega)
      by_cases hc : r * 4294967296 + um < dg * v2
      · have hb3 : decide (bits BinOp.or IntKind.u64 (r * 4294967296) um < dg * v2) = true := by rw [HO.out]; simpa using hc
        have hmore := Nt.guess_more (d := dg) (r := r) hw.out hq1 (by omega) HQ.out (.inr hc)
        by_cases hbr : 4294967296 ≤ r + v1
        · have hb2 : ((r + v1) / 4294967296 != 0) = true := by rw [bne_iff_ne]; omega
          have HE := Lib.hid (Nt.guess_break hw.out hu11 hu01 hum0 hv20 hv21 (by omega) (by omega) hbr)
          go_wp2
          go_ret
          exact ⟨dg - 1, rfl, hmore, HE.out.1, HE.out.2, _, rfl⟩
        · have hb2 : ((r + v1) / 4294967296 != 0) = false := by rw [bne_eq_false_iff_eq]; omega
          go_wp2
          go_round
          case rel => first | exact ⟨by omega, by omega, by omega⟩ | exact ⟨dg - 1, r + v1, rfl, rfl, hmore, by omega, by omega, by omega, hstep⟩
          case measure => simp [intOf]; omega
      · have hb3 : decide (bits BinOp.or IntKind.u64 (r * 4294967296) um < dg * v2) = false := by rw [HO.out]; simpa using hc
        have HE := Lib.hid (Nt.guess_end hw.out (by omega : dg * v2 ≤ r * 4294967296 + um))
        go_wp2
        go_ret
        exact ⟨dg, rfl, hdq, by omega, HE.out, _, rfl⟩
end Go.Proofs.Ytfjdhclpcbgdbaa
