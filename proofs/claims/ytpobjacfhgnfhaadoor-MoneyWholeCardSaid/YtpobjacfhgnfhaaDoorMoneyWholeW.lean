/- The walk of MoneyWhole. -/
import Derived.Test.YtpobjacfhgnfhaaDoorWeights
import Derived.Test.YtpobjacfhgnfhaaDoorWholeM
namespace Go.Proofs.YtpobjacfhgnfhaaDoor
open Go Go.RowKit

set_option maxRecDepth 100000 in
set_option maxHeartbeats 8000000 in
theorem walk_MoneyWhole (w : World) (n : Int) (_wn : (Lit.int .i64 n).wf = true) (A : Option Addr) (cp : Nat) (l : List Int) (_hlc : l.length ≤ cp) (_hcm : cp ≤ maxLen) (hz : Kt.Ints w w.heap.size .u32 A l) (hw : ∀ x ∈ l, (Lit.int .u32 x).wf = true) (hn : l.length * 4 ≤ 140737488351232) (ht : Tab w) :
    Calls Tryd.prog 7 #[.int .i64 n, .slice A l.length cp] w fun e w' => e = .returned (.bool true) ∧ Below w.heap.size w w' := by
  have HT := Lib.hid ht
  clear ht
  obtain ⟨hc1, hc2⟩ := amountOf_bd n
  obtain ⟨c, HC⟩ : ∃ c, Hid (amountOf n = c) := ⟨_, Lib.hid rfl⟩
  rw [HC.out] at hc1 hc2
  obtain ⟨hall, hS, hlen, hSb⟩ := weightsOf_ok l
  obtain ⟨ws, HW⟩ : ∃ ws, Hid (weightsOf l = ws) := ⟨_, Lib.hid rfl⟩
  rw [HW.out] at hall hS hlen hSb
  have HV := Lib.hid (sum_ws hall hSb)
  have HALL := Lib.hid hall
  have hu : ∀ x ∈ l, 0 ≤ x ∧ x ≤ 4294967295 := fun x hx => by
    have := hw x hx
    have hmin : IntKind.u32.min = 0 := rfl
    have hmax : IntKind.u32.max = 4294967295 := rfl
    simp only [Lit.wf, Bool.and_eq_true, decide_eq_true_eq] at this
    omega
  have HU := Lib.hid hu
  clear hall hw hu
  go_enter Tryd.func7, Tryd.ntmps7
  go_wp2_with fail
  refine (awake_any _ HT.out).mono ?_
  rintro e w0 ⟨rfl, hb0⟩
  go_wp2_with fail
  refine (amount_val n c _ HC.out).mono ?_
  rintro e w' ⟨rfl, rfl⟩
  go_wp2_with fail
  refine (weights_any A cp l _ (hz.on hb0) HU.out (by omega)).mono ?_
  rw [HW.out]
  rintro e w1 ⟨A1, c1, rfl, hi1, hb1⟩
  go_wp2_with fail
  refine (split_yes c A1 c1 ws _ hi1 hlen hc1 hc2 HALL.out hS).mono ?_
  rintro e w2 ⟨rfl, hout, hb2⟩
  go_wp2_with fail
  refine (sum_val A1 c1 ws (Ls.isum ws) 0 _ (hi1.on hb2) hlen HV.out.1 HV.out.2).mono ?_
  rintro e w' ⟨rfl, rfl⟩
  have hbw : Below w.heap.size w w2 := Kt.next (Kt.next hb0 hb1) hb2
  have hi2 := hi1.on hb2
  clear hb0 hb1 hb2 hi1 hz
  go_wp2_with fail
  go_loopw [11, 12, 45] (fun s m i wr => ∃ (k : Nat) (b : Bool), k ≤ ws.length ∧ i = .int .i64 k ∧ s = .int .i64 (Ls.isum ((Mny.outL c ws).take k)) ∧ m = .bool b ∧ Hid (0 < Mny.gleft (Mny.left0 c (Ls.isum ws) ws) ws k → b = true) ∧ ∃ nd, wr = w2.drewN nd) (fun _ _ i _ => ws.length - (intOf i).toNat)
  case atStart => exact ⟨0, true, Nat.zero_le _, rfl, rfl, rfl, Lib.hid (fun _ => rfl), 0, rfl⟩
  case round =>
    obtain ⟨k, b, hk, rfl, rfl, rfl, hmore, nd, rfl⟩ := hrel
    by_cases hlt : k < ws.length
    · obtain ⟨b2, o2, rfl, hb2, hcx⟩ := hi2 (by omega)
      have hcell := hcx k hlt
      have hown := hout.cell k (by rw [Mny.outL_len]; exact hlt)
      have hsb := Mny.out_sum_bd c ws k (by omega) hc1 hc2 HALL.out hS
      have hob := Mny.out_bd c ws k hc1 hc2 HALL.out hS hlt
      have hwb := Mny.ws_all HALL.out _ (Ls.nth_mem ws k hlt)
      obtain ⟨hsb1, hsb2⟩ := hsb
      obtain ⟨hob1, hob2⟩ := hob
      obtain ⟨hwb1, hwb2, hwb3⟩ := hwb
      have HT := Lib.hid (Ls.isum_take (Mny.outL c ws) k (by rw [Mny.outL_len]; exact hlt))
      clear hcx
      by_cases h0 : Ls.nth ws k = 0
      · obtain ⟨z1, z2⟩ := Mny.out_zero c ws k hlt h0
        rw [z1] at hown
        rw [h0] at hcell
        have Z1 := Lib.hid z1
        have Z2 := Lib.hid z2
        clear z1 z2 h0 hob1 hob2 hwb1 hwb2 hwb3
        go_wp2
        go_roundw
        case rel => exact ⟨k + 1, b, by omega, by go_num, by rw [HT.out, Z1.out]; congr 1; omega, rfl, Lib.hid (by rw [Z2.out]; exact hmore.out), nd, rfl⟩
        case measure => simp [intOf]; omega
      · have h0b : (Ls.nth ws k == 0) = false := by simp [h0]
        obtain ⟨d, HD⟩ : ∃ d, Hid (Ls.nth (Mny.outL c ws) k * Ls.isum ws - c * Ls.nth ws k = d) := ⟨_, Lib.hid rfl⟩
        have D := Mny.diff_bd c ws k hS hlt
        rw [HD.out] at D
        obtain ⟨d1, d2, d3⟩ := D
        have HE := Lib.hid (Mny.mod64 _ _ _ _ d HD.out (by omega) (by omega))
        by_cases hg : Mny.gadd (Mny.left0 c (Ls.isum ws) ws) ws k = 1
        · have hd : 0 < d := d3.2 hg
          obtain rfl : b = true := hmore.out (Mny.gadd_one.1 hg).1
          clear d3 hg h0
          go_wp2
          go_quiet (fail)
          rw [HE.out]
          go_wp2
          go_roundw
          case rel => exact ⟨k + 1, true, by omega, by go_num, by rw [HT.out], rfl, Lib.hid (fun _ => rfl), _, by first | rfl | exact World.drewN_drewN _ _ _⟩
          case measure => simp [intOf]; omega
        · have hd : d ≤ 0 := by
            have : ¬ 0 < d := fun h => hg (d3.1 h)
            omega
          have HN : Hid (¬ 0 < Mny.gleft (Mny.left0 c (Ls.isum ws) ws) ws (k + 1)) := Lib.hid (by
            have := Mny.gleft_dec (Mny.left0 c (Ls.isum ws) ws) ws k
            have : ¬ 0 < Mny.gleft (Mny.left0 c (Ls.isum ws) ws) ws k := fun h => hg (Mny.gadd_one.2 ⟨h, h0⟩)
            omega)
          clear d3 hg h0
          cases b
          all_goals
            go_wp2
            go_quiet (fail)
            rw [HE.out]
            go_wp2
            go_roundw
            case rel => exact ⟨k + 1, false, by omega, by go_num, by rw [HT.out], rfl, Lib.hid (fun h => absurd h (by have := HN.out; omega)), _, by first | rfl | exact World.drewN_drewN _ _ _⟩
            case measure => simp [intOf]; omega
    · obtain rfl : k = ws.length := by omega
      have HF : Hid (Ls.isum ((Mny.outL c ws).take ws.length) = c) := Lib.hid (by rw [List.take_of_length_le (by rw [Mny.outL_len]; exact Nat.le_refl _)]; exact Mny.out_sum c ws hS)
      rw [HF.out]
      go_wp2
      go_ret
      exact ⟨Kt.ret_bool (by simp), Kt.below_drewN hbw _⟩

end Go.Proofs.YtpobjacfhgnfhaaDoor
