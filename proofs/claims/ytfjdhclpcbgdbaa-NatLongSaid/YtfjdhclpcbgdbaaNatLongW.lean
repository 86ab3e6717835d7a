/- The walk of NatLong. -/
import Derived.Test.YtfjdhclpcbgdbaaNatLi
namespace Go.Proofs.Ytfjdhclpcbgdbaa
open Go Go.RowKit
set_option maxRecDepth 100000 in
set_option maxHeartbeats 8000000 in
theorem walk_NatLong (m : Int) (wfm : (Lit.int .u16 m).wf = true) (n : Int) (wfn : (Lit.int .u16 n).wf = true) (x : Int) (wfx : (Lit.int .u32 x).wf = true) (y : Int) (wfy : (Lit.int .u32 y).wf = true) (w : World) :
    Calls Try.prog 5 #[.int .u16 m, .int .u16 n, .int .u32 x, .int .u32 y] w fun e w' => e = .returned (.bool true) ∧ Below w.heap.size w w' := by
  obtain ⟨m0, m1⟩ := bd_u16 wfm
  obtain ⟨n0, n1⟩ := bd_u16 wfn
  obtain ⟨x0, x1⟩ := bd_u32 wfx
  obtain ⟨y0, y1⟩ := bd_u32 wfy
  clear wfm wfn wfx wfy
  obtain ⟨i, hi⟩ : ∃ i : Nat, m % 1024 = (i : Int) := ⟨(m % 1024).toNat, by omega⟩
  obtain ⟨k, hk⟩ : ∃ i : Nat, n % 1024 = (i : Int) := ⟨(n % 1024).toNat, by omega⟩
  have hi2 : i < 1024 := by omega
  have hk2 : k < 1024 := by omega
  obtain ⟨i0, hi0, hz0, hz1, hz2⟩ := info_parts Try.infoU32
  have hmk1 := fun W => Kt.run_make_ints (P := Try.prog) 22 33 i0 .u32 Try.underlying22 hi0 hz0 hz1 (by omega) i (by omega) W
  have hmk2 := fun W => Kt.run_make_ints (P := Try.prog) 22 33 i0 .u32 Try.underlying22 hi0 hz0 hz1 (by omega) k (by omega) W
  go_enter Try.func5, Try.ntmps5
  go_wp2_with fail
  refine (awake_any _).mono ?_
  rintro e w1 ⟨rfl, b1⟩
  go_upto_region 5 with fail
  have hX : 1 ≤ max x 1 ∧ max x 1 ≤ 4294967295 := by omega
  have hY : 1 ≤ max y 1 ∧ max y 1 ≤ 4294967295 := by omega
  rw [hi, hk]
  generalize max x 1 = X at hX ⊢
  generalize max y 1 = Y at hY ⊢
  obtain ⟨hX0, hX1⟩ := hX
  obtain ⟨hY0, hY1⟩ := hY
  obtain ⟨a, ha, hav⟩ := Nt.long_num i X hX0 hX1
  obtain ⟨b, hb, hbv⟩ := Nt.long_num k Y hY0 hY1
  have HA := Lib.hid ha
  have HB := Lib.hid hb
  have HAV := Lib.hid hav
  have HBV := Lib.hid hbv
  clear hi hk m0 m1 n0 n1 x0 x1 y0 y1 ha hb hav hbv
  go_cut [11, 12] (fun s11 s12 wx => Kt.Num wx w1.heap.size s11 a ∧ Kt.Num wx w1.heap.size s12 b ∧ Below w.heap.size w wx)
  case first =>
    refine Kt.region_inv (LI _ w1 i k a b X Y) (by kernel_rfl) ?hg (LI.start (Nat.le_of_ble_eq_true rfl)) ?hstep ?hdone
    case hg =>
      intro j o ho
      rcases j with _ | _ | _ | _ | _ | _ | _ | _ | _ | _ | _ | _ | j
      all_goals first | (cases Option.some.inj ho; rfl) | (exfalso; simp at ho)
    case hstep =>
      intro listed act w2 j o hI ho hn hpre
      have hf := hI.facts
      have hfr := hI.frame
      rcases j with _ | _ | _ | _ | _ | _ | _ | _ | _ | _ | _ | _ | j
      · cases Option.some.inj ho
        exact Kt.op_move rfl (hI.step (by decide) rfl (Below.refl _ _) (hfr.val_out (by decide)))
      · cases Option.some.inj ho
        have h0 := hf 0 (by decide) (hpre ⟨0, .data⟩ (by simp) rfl)
        exact Kt.op_make rfl h0 h0 (hmk1 w2) (hI.step (by decide) rfl (Bel_alloc (Below.refl _ _) _) ⟨_, rfl, Kt.Blk.new _ _ _⟩)
      · cases Option.some.inj ho
        exact Kt.op_move rfl (hI.step (by decide) rfl (Below.refl _ _) (hfr.val_out (by decide)))
      · cases Option.some.inj ho
        have h0 := hf 2 (by decide) (hpre ⟨2, .data⟩ (by simp) rfl)
        exact op_build 32 rfl h0 (hI.step (by decide) rfl (Bel_alloc (Below.refl _ _) _) ⟨_, rfl, Kt.Blk.new _ _ _⟩)
      · cases Option.some.inj ho
        obtain ⟨g1, h1, h2⟩ := hf 1 (by decide) (hpre ⟨1, .data⟩ (by simp) rfl)
        obtain ⟨g3, h3, h4⟩ := hf 3 (by decide) (hpre ⟨3, .data⟩ (by simp) rfl)
        refine op_append rfl 31 33 rfl i g1 g3 X hi2 h1 h3 h2 h4 fun v' w' hown hg => ?_
        exact hI.step (by decide) rfl (below_none hg) (num_long hown HA.out hI.below.size)
      · cases Option.some.inj ho
        exact Kt.op_move rfl (hI.step (by decide) rfl (Below.refl _ _) (hfr.val_out (by decide)))
      · cases Option.some.inj ho
        have h0 := hf 5 (by decide) (hpre ⟨5, .data⟩ (by simp) rfl)
        exact Kt.op_make rfl h0 h0 (hmk2 w2) (hI.step (by decide) rfl (Bel_alloc (Below.refl _ _) _) ⟨_, rfl, Kt.Blk.new _ _ _⟩)
      · cases Option.some.inj ho
        exact Kt.op_move rfl (hI.step (by decide) rfl (Below.refl _ _) (hfr.val_out (by decide)))
      · cases Option.some.inj ho
        have h0 := hf 7 (by decide) (hpre ⟨7, .data⟩ (by simp) rfl)
        exact op_build 37 rfl h0 (hI.step (by decide) rfl (Bel_alloc (Below.refl _ _) _) ⟨_, rfl, Kt.Blk.new _ _ _⟩)
      · cases Option.some.inj ho
        obtain ⟨g1, h1, h2⟩ := hf 6 (by decide) (hpre ⟨6, .data⟩ (by simp) rfl)
        obtain ⟨g3, h3, h4⟩ := hf 8 (by decide) (hpre ⟨8, .data⟩ (by simp) rfl)
        refine op_append rfl 36 38 rfl k g1 g3 Y hk2 h1 h3 h2 h4 fun v' w' hown hg => ?_
        exact hI.step (by decide) rfl (below_none hg) (num_long hown HB.out hI.below.size)
      · cases Option.some.inj ho
        have h0 := hf 4 (by decide) (hpre ⟨4, .data⟩ (by simp) rfl)
        exact Kt.op_assign rfl (hI.step (by decide) rfl (Below.refl _ _) h0)
      · cases Option.some.inj ho
        have h0 := hf 9 (by decide) (hpre ⟨9, .data⟩ (by simp) rfl)
        exact Kt.op_assign rfl (hI.step (by decide) rfl (Below.refl _ _) h0)
      · exfalso; simp at ho
    case hdone =>
      intro listed act w2 hI hr
      have hup := Kt.all_up (fun j o ho => by
        rcases j with _ | _ | _ | _ | _ | _ | _ | _ | _ | _ | _ | _ | j
        all_goals first | (cases Option.some.inj ho; decide) | (exfalso; simp at ho)) hI.size hr
      have n1 := hI.facts 10 (by decide) (hup 10 (by decide))
      have n2 := hI.facts 11 (by decide) (hup 11 (by decide))
      have hb := hI.below
      rw [hI.frame.out]
      simp only [slots, Kt.sets]
      change Kt.Num w2 w1.heap.size (Kt.val act 11) a at n1
      change Kt.Num w2 w1.heap.size (Kt.val act 12) b at n2
      have b3 : Below w.heap.size w w2 := b1.trans (hb.mono b1.size)
      clear hI hr hup hb
      generalize Kt.val act 11 = v11 at n1 ⊢
      generalize Kt.val act 12 = v12 at n2 ⊢
      generalize Kt.val act 30 = v30
      generalize Kt.val act 31 = v31
      generalize Kt.val act 32 = v32
      generalize Kt.val act 33 = v33
      generalize Kt.val act 34 = v34
      generalize Kt.val act 35 = v35
      generalize Kt.val act 36 = v36
      generalize Kt.val act 37 = v37
      generalize Kt.val act 38 = v38
      generalize Kt.val act 39 = v39
      simp only [List.setIfInBounds_toArray, List.set_cons_zero, List.set_cons_succ]
      go_wp2_with fail
      go_meet
      exact ⟨n1, n2, b3⟩
  case rest =>
    obtain ⟨na, nb, b2⟩ := hcut
    have hla : (Nt.limbs a).length ≤ 1024 := by rw [HA.out, List.length_append, Ls.zeros_len, List.length_singleton]; omega
    have hlb : (Nt.limbs b).length ≤ 1024 := by rw [HB.out, List.length_append, Ls.zeros_len, List.length_singleton]; omega
    have HM := Lib.hid (Nt.long_mul HAV.out HBV.out hX0 hX1 hY0 hY1)
    obtain ⟨m0, m1⟩ := Nt.mul_bd (x := X) (y := Y) (by omega) hX1 (by omega) hY1
    clear hmk1 hmk2 hi0 hz0 hz1 hz2
    go_wp2_with fail
    refine (mul_num na nb hla hlb).mono ?_
    rintro e w2 ⟨hgot, b3⟩
    have b4 := Kt.next b2 b3
    clear na nb b1 b2 b3
    by_cases hw : 4294967296 ≤ X * Y
    · have hm := HM.out
      rw [if_pos hw] at hm
      have hlen : (Nt.limbs (a * b)).length = i + k + 2 := by rw [hm, List.length_append, Ls.zeros_len]; rfl
      have hw2 : decide (0 < X * Y / 4294967296) = true := by simp; omega
      rcases hgot with ⟨hfit, r, rfl, hr⟩ | ⟨hlong, rfl⟩
      · obtain ⟨g, c, rfl, hc, _, hrow⟩ := Kt.Row.at _ hr (by rw [hlen]; omega)
        rw [hlen] at hfit
        rw [hm] at hrow
        have c1 := hrow.cell (i + k) (by rw [List.length_append, Ls.zeros_len]; simp)
        rw [Nt.nth_append_right _ _ _ (by rw [Ls.zeros_len]; omega), Ls.zeros_len, Nat.sub_self] at c1
        change _ = some (Value.int .u32 (X * Y % 4294967296)) at c1
        have c2 := hrow.cell (i + k + 1) (by rw [List.length_append, Ls.zeros_len]; simp)
        rw [Nt.nth_append_right _ _ _ (by rw [Ls.zeros_len]; omega), Ls.zeros_len, show i + k + 1 - (i + k) = 1 from by omega] at c2
        change _ = some (Value.int .u32 (X * Y / 4294967296)) at c2
        have hz1 : X * Y / 4294967296 ≤ 4294967295 := by omega
        have hz0 : 0 ≤ X * Y / 4294967296 := by omega
        have hz : ∀ j, j < i + k → w2.cell? ⟨g, j, none⟩ = some (.int .u32 0) := fun j hj => by
          have h9 := hrow.cell j (by rw [List.length_append, Ls.zeros_len]; omega)
          rwa [Nt.nth_long hj] at h9
        have HZ := Lib.hid hz
        have HLEN := Lib.hid hlen
        clear hr hm hlen hrow hc hz
        rw [HLEN.out]
        go_wp2_with fail
        go_loop [17] (fun v => ∃ j : Nat, j ≤ i + k ∧ v = .int .i64 j) (fun v => i + k - (intOf v).toNat)
        case atStart => exact ⟨0, Nat.zero_le _, rfl⟩
        case round =>
          obtain ⟨j, hj, rfl⟩ := hrel
          by_cases hlt : j < i + k
          · have hcell := HZ.out j hlt
            go_wp2
            go_round
            case rel => first | exact ⟨j + 1, by omega, by go_num⟩ | omega
            case measure => simp [intOf]; omega
          · obtain rfl : j = i + k := by omega
            go_wp2
            go_ret
            exact ⟨rfl, b4⟩
      · rw [hlen] at hlong
        clear hm hlen
        go_wp2
        go_ret
        exact ⟨rfl, b4⟩
    · have hm := HM.out
      rw [if_neg hw] at hm
      have hlen : (Nt.limbs (a * b)).length = i + k + 1 := by rw [hm, List.length_append, Ls.zeros_len]; rfl
      have hw2 : decide (0 < X * Y / 4294967296) = false := by simp; omega
      rcases hgot with ⟨hfit, r, rfl, hr⟩ | ⟨hlong, rfl⟩
      · obtain ⟨g, c, rfl, hc, _, hrow⟩ := Kt.Row.at _ hr (by rw [hlen]; omega)
        rw [hlen] at hfit
        rw [hm] at hrow
        have c1 := hrow.cell (i + k) (by rw [List.length_append, Ls.zeros_len]; simp)
        rw [Nt.nth_append_right _ _ _ (by rw [Ls.zeros_len]; omega), Ls.zeros_len, Nat.sub_self] at c1
        change _ = some (Value.int .u32 (X * Y)) at c1
        have hz : ∀ j, j < i + k → w2.cell? ⟨g, j, none⟩ = some (.int .u32 0) := fun j hj => by
          have h9 := hrow.cell j (by rw [List.length_append, Ls.zeros_len]; omega)
          rwa [Nt.nth_long hj] at h9
        have HZ := Lib.hid hz
        have HLEN := Lib.hid hlen
        clear hr hm hlen hrow hc hz
        rw [HLEN.out]
        go_wp2_with fail
        go_loop [17] (fun v => ∃ j : Nat, j ≤ i + k ∧ v = .int .i64 j) (fun v => i + k - (intOf v).toNat)
        case atStart => exact ⟨0, Nat.zero_le _, rfl⟩
        case round =>
          obtain ⟨j, hj, rfl⟩ := hrel
          by_cases hlt : j < i + k
          · have hcell := HZ.out j hlt
            go_wp2
            go_round
            case rel => first | exact ⟨j + 1, by omega, by go_num⟩ | omega
            case measure => simp [intOf]; omega
          · obtain rfl : j = i + k := by omega
            go_wp2
            go_ret
            exact ⟨rfl, b4⟩
      · rw [hlen] at hlong
        clear hm hlen
        go_wp2
        go_ret
        exact ⟨rfl, b4⟩
end Go.Proofs.Ytfjdhclpcbgdbaa
