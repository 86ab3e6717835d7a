/- The reference implementation of amounts: division downwards, and parts bit by bit. -/
import Derived.Test.YtonoffeicbpigaaDoorRefs
import Derived.Test.YtonoffeicbpigaaDoorSplitM
namespace Mny
open Go Go.RowKit

theorem div_of (x d q r : Int) (h : x = d * q + r) (h0 : 0 ≤ r) (h1 : r < d) : x / d = q ∧ x % d = r :=
  (Int.ediv_emod_unique (by omega)).2 ⟨by omega, h0, h1⟩
theorem q_bd (c wh q r : Int) (h : c = wh * q + r) (hr : 0 ≤ r) (hr2 : r < wh) (hw : 1 ≤ wh) (h1 : -1000000000000000 ≤ c) (h2 : c ≤ 1000000000000000) : -1000000000000001 ≤ q ∧ q ≤ 1000000000000001 := by
  by_cases hq : 0 ≤ q
  · have b := mul_pos_bd q 1 wh hq (by omega) (by omega)
    rw [Int.mul_comm q wh] at b
    omega
  · by_cases hq2 : q = -1
    · omega
    · have b := mul_neg_bd (q + 1) 1 wh (by omega) (by omega) (by omega)
      rw [Int.mul_comm (q + 1) wh, Int.mul_add, Int.mul_one] at b
      omega
theorem down_neg (c wh : Int) (h1 : -1000000000000000 ≤ c) (h2 : c ≤ 1000000000000000) (h6 : 1 ≤ wh) (h7 : wh ≤ 4096000000) (hneg : c.tmod wh < 0) :
    wrap64 (c.tdiv wh - 1) = c / wh ∧ wrap64 (c.tmod wh + wh) = c % wh := by
  have hd := tdm c wh
  have hl := lt_tm c wh (by omega)
  have h : c = wh * (c.tdiv wh - 1) + (c.tmod wh + wh) := by rw [Int.mul_sub]; omega
  have b := q_bd c wh _ _ h (by omega) (by omega) h6 h1 h2
  obtain ⟨e1, e2⟩ := div_of c wh _ _ h (by omega) (by omega)
  rw [w64 (c.tdiv wh - 1) (by omega) (by omega), w64 (c.tmod wh + wh) (by omega) (by omega)]
  exact ⟨e1.symm, e2.symm⟩
theorem down_pos (c wh : Int) (h6 : 1 ≤ wh) (hpos : 0 ≤ c.tmod wh) : c.tdiv wh = c / wh ∧ c.tmod wh = c % wh := by
  obtain ⟨e1, e2⟩ := div_of c wh _ _ (tdm c wh) hpos (tm_lt c wh (by omega))
  exact ⟨e1.symm, e2.symm⟩
/-- One bit more. -/
theorem bit_step (w B : Int) (hB : 1 ≤ B) : w / B = 2 * (w / (2 * B)) + w / B % 2 := by
  have e : w / (2 * B) = w / B / 2 := by rw [Int.mul_comm, Int.ediv_ediv_of_nonneg (by omega)]
  rw [e]; omega
theorem bit_eq {a d P Q R o m b z : Int} (h : a * P = d * Q + R) (h2 : a = d * o + m) (hb : b = 0 ∨ b = 1) (hz : z = 0 ∨ z = 1 ∨ z = 2) :
    a * (2 * P + b) = d * (2 * Q + b * o + z) + (2 * R + b * m - z * d) := by
  have e1 : a * (2 * P) = 2 * (a * P) := Int.mul_left_comm _ _ _
  have e2 : d * (2 * Q) = 2 * (d * Q) := Int.mul_left_comm _ _ _
  rw [Int.mul_add, Int.mul_add, Int.mul_add, e1, e2, h]
  rcases hb with rfl | rfl
  · rw [Int.mul_zero, Int.zero_mul, Int.zero_mul, Int.mul_zero]
    rcases hz with rfl | rfl | rfl <;> omega
  · rw [Int.mul_one, Int.one_mul, Int.one_mul]
    rcases hz with rfl | rfl | rfl <;> omega
theorem bit_to (b z : Int) {a d P Q R o m P2 Q2 R2 : Int} (h : a * P = d * Q + R) (h2 : a = d * o + m) (hb : b = 0 ∨ b = 1) (hz : z = 0 ∨ z = 1 ∨ z = 2) (hP : P2 = 2 * P + b) (hQ : Q2 = 2 * Q + b * o + z) (hR : R2 = 2 * R + b * m - z * d) :
    a * P2 = d * Q2 + R2 := by
  subst hP; subst hQ; subst hR
  exact bit_eq h h2 hb hz
/-- Where the bits stand: B is the next one, P is what was read. -/
def Bits (s B P : Int) : Prop := (B = 0 ∧ P = s) ∨ ∃ t : Nat, t ≤ 20 ∧ B = 2 ^ t ∧ P = s / (2 * B)
theorem bits_next {s B P : Int} (h : Bits s B P) (hB : 1 ≤ B) : Bits s (B / 2) (s / B) := by
  rcases h with ⟨h, _⟩ | ⟨t, ht, rfl, _⟩
  · omega
  · cases t with
    | zero => exact .inl ⟨by decide, by simp⟩
    | succ t =>
      have e : (2 : Int) ^ (t + 1) = 2 * 2 ^ t := by rw [Int.pow_succ]; omega
      refine .inr ⟨t, by omega, by omega, ?_⟩
      have e2 : (2 : Int) ^ (t + 1) / 2 = 2 ^ t := by omega
      rw [e2, e]
theorem bits_first (s : Int) (h0 : 0 ≤ s) (h1 : s ≤ 1000000) : Bits s 1048576 0 := .inr ⟨20, by omega, by decide, by omega⟩
theorem bits_last {s P : Int} (h : Bits s 0 P) : P = s := by
  rcases h with ⟨_, h⟩ | ⟨t, _, h, _⟩
  · exact h
  · have : (0 : Int) < 2 ^ t := Int.pow_pos (by omega)
    omega
theorem bits_prev {s B P : Int} (h : Bits s B P) (hB : 1 ≤ B) : s / B = 2 * P + s / B % 2 := by
  rcases h with ⟨h, _⟩ | ⟨t, ht, e, rfl⟩
  · omega
  · exact bit_step s B hB
end Mny
namespace Go.Proofs.YtonoffeicbpigaaDoor
open Go Go.RowKit

theorem rdown_any (c wh : Int) (w : World) (h1 : -1000000000000000 ≤ c) (h2 : c ≤ 1000000000000000) (h6 : 1 ≤ wh) (h7 : wh ≤ 4096000000) :
    Calls Tryd.prog 32 #[.int .i64 c, .int .i64 wh] w fun e w' => e = .returned (.tuple #[.int .i64 (c / wh), .int .i64 (c % wh)]) ∧ ∃ n, w' = w.drewN n := by
  by_cases h : c.tmod wh < 0
  · obtain ⟨e1, e2⟩ := Mny.down_neg c wh h1 h2 h6 h7 h
    have E1 := Lib.hid e1
    have E2 := Lib.hid e2
    clear e1 e2
    go_enter Tryd.func32, Tryd.ntmps32
    go_wp2
    go_quiet (fail)
    go_wp2
    go_ret2
    exact ⟨Kt.ret_ii E1.out E2.out, _, rfl⟩
  · obtain ⟨e1, e2⟩ := Mny.down_pos c wh h6 (by omega)
    have E1 := Lib.hid e1
    have E2 := Lib.hid e2
    clear e1 e2
    go_enter Tryd.func32, Tryd.ntmps32
    go_wp2
    go_quiet (fail)
    go_wp2
    go_ret2
    exact ⟨Kt.ret_ii E1.out E2.out, _, rfl⟩

theorem rpart_any (a s d : Int) (w : World) (h1 : -1000000000000000 ≤ a) (h2 : a ≤ 1000000000000000) (h3 : 0 ≤ s) (h4 : s ≤ d) (h5 : s ≤ 1000000) (h6 : 1 ≤ d) (h7 : d ≤ 4096000000) :
    Calls Tryd.prog 30 #[.int .i64 a, .int .i64 s, .int .i64 d] w fun e w' => e = .returned (.tuple #[.int .i64 (a * s / d), .int .i64 (a * s % d)]) ∧ ∃ n, w' = w.drewN n := by
  obtain ⟨o, HO⟩ : ∃ o, Hid (a / d = o) := ⟨_, Lib.hid rfl⟩
  obtain ⟨m, HM⟩ : ∃ m, Hid (a % d = m) := ⟨_, Lib.hid rfl⟩
  have ha : a = d * o + m := by rw [← HO.out, ← HM.out]; exact (Int.mul_ediv_add_emod a d).symm
  have hm : 0 ≤ m ∧ m < d := by rw [← HM.out]; exact ⟨Int.emod_nonneg _ (by omega), Int.emod_lt_of_pos _ (by omega)⟩
  obtain ⟨hm1, hm2⟩ := hm
  have ho := Mny.q_bd a d o m ha hm1 hm2 h6 h1 h2
  obtain ⟨ho1, ho2⟩ := ho
  have HA := Lib.hid ha
  clear ha
  go_enter Tryd.func30, Tryd.ntmps30
  go_wp2_with fail
  refine (rdown_any a d _ h1 h2 h6 h7).mono ?_
  rintro e w' ⟨rfl, nd, rfl⟩
  rw [HO.out, HM.out]
  go_wp2_with fail
  go_loop [10, 11, 12] (fun q r b => ∃ B P Q R : Int, q = .int .i64 Q ∧ r = .int .i64 R ∧ b = .int .i64 B ∧ 0 ≤ P ∧ P ≤ s ∧ Hid (a * P = d * Q + R) ∧ 0 ≤ R ∧ R < d ∧ Hid (Mny.Bits s B P) ∧ 0 ≤ B ∧ B ≤ 1048576) (fun _ _ b => (intOf b).toNat)
  case atStart => exact ⟨1048576, 0, 0, 0, rfl, rfl, rfl, by omega, by omega, Lib.hid (by simp), by omega, by omega, Lib.hid (Mny.bits_first s h3 h5), by omega, by omega⟩
  case round =>
    obtain ⟨B, P, Q, R, rfl, rfl, rfl, hP1, hP2, hE, hR1, hR2, hB, hB1, hB2⟩ := hrel
    have hQ : -1000000000000000 ≤ Q ∧ Q ≤ 1000000000000000 := by
      have e := (Mny.div_of (a * P) d Q R hE.out hR1 hR2).1
      rw [← e]
      exact Mny.part1_bd a P d h1 h2 hP1 (by omega) (by omega)
    obtain ⟨hQ1, hQ2⟩ := hQ
    by_cases hlt : 0 < B
    · have hPb := Mny.bits_prev hB.out (by omega)
      have hN := Lib.hid (Mny.bits_next hB.out (by omega))
      have hd0 : 0 ≤ s / B := Int.ediv_nonneg h3 (by omega)
      have hd1 : s / B ≤ s := Int.ediv_le_self _ h3
      obtain ⟨P2, HP2⟩ : ∃ P2, Hid (s / B = P2) := ⟨_, Lib.hid rfl⟩
      rw [HP2.out] at hPb hN hd0 hd1
      by_cases hb : P2 % 2 = 1
      · have hg : ((s / B).tmod 2 == 1) = true := by rw [HP2.out, Int.tmod_eq_emod_of_nonneg hd0]; simp [hb]
        rw [hb] at hPb
        have HPB := Lib.hid hPb
        clear hPb
        go_wp2_with fail
        go_loop [10, 11] (fun q r => (q = .int .i64 (2 * Q + o) ∧ r = .int .i64 (2 * R + m)) ∨ (q = .int .i64 (2 * Q + o + 1) ∧ r = .int .i64 (2 * R + m - d) ∧ d ≤ 2 * R + m) ∨ (q = .int .i64 (2 * Q + o + 1 + 1) ∧ r = .int .i64 (2 * R + m - d - d) ∧ 2 * d ≤ 2 * R + m)) (fun _ r => (intOf r).toNat)
        case atStart => exact .inl ⟨rfl, rfl⟩
        case round =>
          rcases hrel with ⟨rfl, rfl⟩ | ⟨rfl, rfl, hr⟩ | ⟨rfl, rfl, hr⟩
          · by_cases hc : 2 * R + m < d
            · go_wp2_with fail
              have E := Lib.hid (Mny.bit_to 1 0 (Q2 := 2 * Q + o) (R2 := 2 * R + m) hE.out HA.out (by omega) (by omega) HPB.out (by omega) (by omega))
              go_round
              case rel => exact ⟨B / 2, P2, 2 * Q + o, 2 * R + m, rfl, rfl, by go_num, by omega, by omega, E, by omega, by omega, hN, by omega, by omega⟩
              case measure => simp [intOf]; omega
            · go_wp2_with fail
              go_round
              case rel => exact .inr (.inl ⟨rfl, by go_num, by omega⟩)
              case measure => simp [intOf]; omega
          · by_cases hc : 2 * R + m - d < d
            · go_wp2_with fail
              have E := Lib.hid (Mny.bit_to 1 1 (Q2 := 2 * Q + o + 1) (R2 := 2 * R + m - d) hE.out HA.out (by omega) (by omega) HPB.out (by omega) (by omega))
              go_round
              case rel => exact ⟨B / 2, P2, 2 * Q + o + 1, 2 * R + m - d, rfl, rfl, by go_num, by omega, by omega, E, by omega, by omega, hN, by omega, by omega⟩
              case measure => simp [intOf]; omega
            · go_wp2_with fail
              go_round
              case rel => exact .inr (.inr ⟨rfl, by go_num, by omega⟩)
              case measure => simp [intOf]; omega
          · go_wp2_with fail
            have E := Lib.hid (Mny.bit_to 1 2 (Q2 := 2 * Q + o + 1 + 1) (R2 := 2 * R + m - d - d) hE.out HA.out (by omega) (by omega) HPB.out (by omega) (by omega))
            go_round
            case rel => exact ⟨B / 2, P2, 2 * Q + o + 1 + 1, 2 * R + m - d - d, rfl, rfl, by go_num, by omega, by omega, E, by omega, by omega, hN, by omega, by omega⟩
            case measure => simp [intOf]; omega
      · have hg : ((s / B).tmod 2 == 1) = false := by rw [HP2.out, Int.tmod_eq_emod_of_nonneg hd0]; simp [hb]
        have hb0 : P2 % 2 = 0 := by omega
        rw [hb0] at hPb
        have HPB := Lib.hid hPb
        clear hPb
        go_wp2_with fail
        go_loop [10, 11] (fun q r => (q = .int .i64 (2 * Q) ∧ r = .int .i64 (2 * R)) ∨ (q = .int .i64 (2 * Q + 1) ∧ r = .int .i64 (2 * R - d) ∧ d ≤ 2 * R) ∨ (q = .int .i64 (2 * Q + 1 + 1) ∧ r = .int .i64 (2 * R - d - d) ∧ 2 * d ≤ 2 * R)) (fun _ r => (intOf r).toNat)
        case atStart => exact .inl ⟨rfl, rfl⟩
        case round =>
          rcases hrel with ⟨rfl, rfl⟩ | ⟨rfl, rfl, hr⟩ | ⟨rfl, rfl, hr⟩
          · by_cases hc : 2 * R < d
            · go_wp2_with fail
              have E := Lib.hid (Mny.bit_to 0 0 (Q2 := 2 * Q) (R2 := 2 * R) hE.out HA.out (by omega) (by omega) HPB.out (by omega) (by omega))
              go_round
              case rel => exact ⟨B / 2, P2, 2 * Q, 2 * R, rfl, rfl, by go_num, by omega, by omega, E, by omega, by omega, hN, by omega, by omega⟩
              case measure => simp [intOf]; omega
            · go_wp2_with fail
              go_round
              case rel => exact .inr (.inl ⟨rfl, by go_num, by omega⟩)
              case measure => simp [intOf]; omega
          · by_cases hc : 2 * R - d < d
            · go_wp2_with fail
              have E := Lib.hid (Mny.bit_to 0 1 (Q2 := 2 * Q + 1) (R2 := 2 * R - d) hE.out HA.out (by omega) (by omega) HPB.out (by omega) (by omega))
              go_round
              case rel => exact ⟨B / 2, P2, 2 * Q + 1, 2 * R - d, rfl, rfl, by go_num, by omega, by omega, E, by omega, by omega, hN, by omega, by omega⟩
              case measure => simp [intOf]; omega
            · exfalso; omega
          · exfalso; omega
    · obtain rfl : B = 0 := by omega
      obtain rfl := Mny.bits_last hB.out
      have HD := Lib.hid (Mny.div_of (a * P) d Q R hE.out hR1 hR2)
      go_wp2
      go_ret2
      exact ⟨Kt.ret_ii HD.out.1.symm HD.out.2.symm, _, rfl⟩
end Go.Proofs.YtonoffeicbpigaaDoor
