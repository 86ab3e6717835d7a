/- The walk of NatWords. -/
import Derived.Test.YtfjdhclpcbgdbaaNatM
import Derived.Test.YtfjdhclpcbgdbaaNatKv
namespace Go.Proofs.Ytfjdhclpcbgdbaa
open Go Go.RowKit

set_option maxRecDepth 100000 in
set_option maxHeartbeats 8000000 in
theorem walk_NatWords (x : Int) (wfx : (Lit.int .u64 x).wf = true) (y : Int) (wfy : (Lit.int .u64 y).wf = true) (w : World) :
    Calls Try.prog 10 #[.int .u64 x, .int .u64 y] w fun e w' => e = .returned (.bool true) ∧ Below w.heap.size w w' := by
  obtain ⟨x0, x1⟩ := bd_u64 wfx
  clear wfx
  obtain ⟨y0, y1⟩ := bd_u64 wfy
  clear wfy
  go_enter Try.func10, Try.ntmps10
  obtain ⟨X, rfl⟩ := Int.eq_ofNat_of_zero_le x0
  obtain ⟨Y, rfl⟩ := Int.eq_ofNat_of_zero_le y0
  clear x0 y0
  have hX : X ≤ 18446744073709551615 := by omega
  have hY : Y ≤ 18446744073709551615 := by omega
  have ha := word_len hX
  have hb := word_len hY
  go_wp2_with fail
  refine (awake_any _).mono ?_
  rintro e w1 ⟨rfl, b1⟩
  go_wp2_with fail
  refine (of_word _ (X) _ (rfl) (by omega)).mono ?_
  rintro e w2 ⟨⟨va, rfl, na⟩, b2⟩
  replace b2 := Kt.next b1 b2
  clear b1
  go_wp2_with fail
  refine (of_word _ (Y) _ (rfl) (by omega)).mono ?_
  rintro e w3 ⟨⟨vb, rfl, nb⟩, b3⟩
  replace na := na.on b3
  replace b3 := Kt.next b2 b3
  clear b2
  obtain ⟨Aa, ca, rfl, _, _⟩ := num_ok na
  go_wp2_with fail
  refine (uint_val (X) na (by omega) (rfl)).mono ?_
  rintro e w4 ⟨rfl, b4⟩
  replace na := na.on b4
  replace nb := nb.on b4
  replace b4 := Kt.next b3 b4
  clear b3
  go_wp2_with fail
  refine (right_yes na (by omega)).mono ?_
  rintro e w5 ⟨rfl, b5⟩
  replace na := na.on b5
  replace nb := nb.on b5
  replace b5 := Kt.next b4 b5
  clear b4
  obtain ⟨X1, hX1⟩ : ∃ q, Hid (X / 2 = q) := ⟨_, Lib.hid rfl⟩
  obtain ⟨Y1, hY1⟩ : ∃ q, Hid (Y / 2 = q) := ⟨_, Lib.hid rfl⟩
  obtain ⟨X2, hX2⟩ : ∃ q, Hid (X / 4294967296 = q) := ⟨_, Lib.hid rfl⟩
  obtain ⟨Y2, hY2⟩ : ∃ q, Hid (Y / 4294967296 = q) := ⟨_, Lib.hid rfl⟩
  have eX1 : (X : Int) / 2 = X1 := by have := hX1.out; omega
  have eY1 : (Y : Int) / 2 = Y1 := by have := hY1.out; omega
  have eX2 : (X : Int) / 4294967296 = X2 := by have := hX2.out; omega
  have eY2 : (Y : Int) / 4294967296 = Y2 := by have := hY2.out; omega
  have lX1 : X1 ≤ 9223372036854775807 := by omega
  have lY1 : Y1 ≤ 9223372036854775807 := by omega
  have lX2 : X2 ≤ 4294967295 := by omega
  have lY2 : Y2 ≤ 4294967295 := by omega
  have lP : X2 * Y2 ≤ 4294967295 * 4294967295 := Nat.mul_le_mul lX2 lY2
  have eP : ((X2 * Y2 : Nat) : Int) = (X2 : Int) * Y2 := Int.natCast_mul _ _
  have lQ : (X2 : Int) * Y2 ≤ 18446744065119617025 := by omega
  have lQ0 : 0 ≤ (X2 : Int) * Y2 := by omega
  have HEP := Lib.hid eP
  clear eP
  have hx1 := word_len (x := X1) (by omega)
  have hy1 := word_len (x := Y1) (by omega)
  have hs := word_len (x := X1 + Y1) (by omega)
  have hx2 := word_len (x := X2) (by omega)
  have hy2 := word_len (x := Y2) (by omega)
  have hp := word_len (x := X2 * Y2) (by omega)
  go_wp2_with fail
  refine (of_word _ (X1) _ (rfl) (by omega)).mono ?_
  rintro e w6 ⟨⟨vx1, rfl, nx1⟩, b6⟩
  replace na := na.on b6
  replace nb := nb.on b6
  replace b6 := Kt.next b5 b6
  clear b5
  go_wp2_with fail
  refine (of_word _ (Y1) _ (rfl) (by omega)).mono ?_
  rintro e w7 ⟨⟨vy1, rfl, ny1⟩, b7⟩
  replace na := na.on b7
  replace nb := nb.on b7
  replace nx1 := nx1.on b7
  replace b7 := Kt.next b6 b7
  clear b6
  go_wp2_with fail
  refine (add_ok nx1 ny1 (by omega) (by omega) (by omega)).mono ?_
  rintro e w8 ⟨⟨vs, rfl, ns⟩, b8⟩
  replace na := na.on b8
  replace nb := nb.on b8
  replace nx1 := nx1.on b8
  replace ny1 := ny1.on b8
  replace b8 := Kt.next b7 b8
  clear b7
  clear nx1
  clear ny1
  go_wp2_with fail
  refine (of_word _ (X2) _ (rfl) (by omega)).mono ?_
  rintro e w9 ⟨⟨vx2, rfl, nx2⟩, b9⟩
  replace na := na.on b9
  replace nb := nb.on b9
  replace ns := ns.on b9
  replace b9 := Kt.next b8 b9
  clear b8
  go_wp2_with fail
  refine (of_word _ (Y2) _ (rfl) (by omega)).mono ?_
  rintro e w10 ⟨⟨vy2, rfl, ny2⟩, b10⟩
  replace na := na.on b10
  replace nb := nb.on b10
  replace ns := ns.on b10
  replace nx2 := nx2.on b10
  replace b10 := Kt.next b9 b10
  clear b9
  go_wp2_with fail
  refine (mul_ok nx2 ny2 (by omega) (by omega) (by omega)).mono ?_
  rintro e w11 ⟨⟨vp, rfl, np⟩, b11⟩
  replace na := na.on b11
  replace nb := nb.on b11
  replace ns := ns.on b11
  replace nx2 := nx2.on b11
  replace ny2 := ny2.on b11
  replace b11 := Kt.next b10 b11
  clear b10
  clear nx2
  clear ny2
  go_wp2_with fail
  refine (uint_val ((X1 : Int) + Y1) ns (by omega) (by simp)).mono ?_
  rintro e w12 ⟨rfl, b12⟩
  replace na := na.on b12
  replace nb := nb.on b12
  replace ns := ns.on b12
  replace np := np.on b12
  replace b12 := Kt.next b11 b12
  clear b11
  go_wp2_with fail
  refine (uint_val ((X2 : Int) * Y2) np (by omega) (HEP.out.symm)).mono ?_
  rintro e w13 ⟨rfl, b13⟩
  replace na := na.on b13
  replace nb := nb.on b13
  replace ns := ns.on b13
  replace np := np.on b13
  replace b13 := Kt.next b12 b13
  clear b12
  clear ns
  clear np
  go_wp2_with fail
  clear eX1 eY1 eX2 eY2 hX1 hY1 hX2 hY2 lX1 lX2 lY1 lY2 lP lQ lQ0 HEP
  have hab : X < Y ∨ X = Y ∨ Y < X := by omega
  rcases hab with hlt | rfl | hgt
  · -- lt
    refine (cmp_val (-1) na nb (by omega) (by omega) (Nt.cmp_lt (by omega))).mono ?_
    rintro e w14 ⟨rfl, b14⟩
    replace na := na.on b14
    replace nb := nb.on b14
    replace b14 := Kt.next b13 b14
    clear b13
    have d1 : decide ((X : Int) < (Y : Int)) = true := by simp; omega
    have d2 : ((X : Int) == (Y : Int)) = false := beq_eq_false_iff_ne.2 (by omega)
    rcases Nat.eq_zero_or_pos Y with hz | hpos
    · omega
    · have hb0 : (((Y : Nat) : Int) == 0) = false := beq_eq_false_iff_ne.2 (by omega)
      have hq1 : X / Y ≤ 18446744073709551615 := Nat.le_trans (Nat.div_le_self _ _) hX
      have hr1 : X % Y ≤ 18446744073709551615 := Nat.le_trans (Nat.mod_le _ _) hX
      go_wp2_with fail
      refine (dm_num na nb (by omega) (by omega) (by omega)).mono ?_
      rintro e w15 ⟨vq, vr, rfl, nq, nr, b15⟩
      have eQ : (X : Int) / (Y : Int) = ((X / Y : Nat) : Int) := by simp
      have eR : (X : Int) % (Y : Int) = ((X % Y : Nat) : Int) := by simp
      generalize X / Y = Q at nq hq1 eQ
      generalize X % Y = R at nr hr1 eR
      replace na := na.on b15
      replace nb := nb.on b15
      replace b15 := Kt.next b14 b15
      clear b14
      go_wp2_with fail
      refine (uint_val (Q) nq (by omega) (rfl)).mono ?_
      rintro e w16 ⟨rfl, b16⟩
      replace na := na.on b16
      replace nb := nb.on b16
      replace nq := nq.on b16
      replace nr := nr.on b16
      replace b16 := Kt.next b15 b16
      clear b15
      go_wp2_with fail
      refine (uint_val (R) nr (by omega) (rfl)).mono ?_
      rintro e w17 ⟨rfl, b17⟩
      replace na := na.on b17
      replace nb := nb.on b17
      replace nq := nq.on b17
      replace nr := nr.on b17
      replace b17 := Kt.next b16 b17
      clear b16
      go_wp2
      go_ret
      exact ⟨rfl, b17⟩
  · -- eq
    refine (cmp_val (0) na nb (by omega) (by omega) (Nt.cmp_eq rfl)).mono ?_
    rintro e w14 ⟨rfl, b14⟩
    replace na := na.on b14
    replace nb := nb.on b14
    replace b14 := Kt.next b13 b14
    clear b13
    rcases Nat.eq_zero_or_pos X with hz | hpos
    · subst hz
      go_wp2
      go_ret
      exact ⟨rfl, b14⟩
    · have hb0 : (((X : Nat) : Int) == 0) = false := beq_eq_false_iff_ne.2 (by omega)
      have hq1 : X / X ≤ 18446744073709551615 := Nat.le_trans (Nat.div_le_self _ _) hX
      have hr1 : X % X ≤ 18446744073709551615 := Nat.le_trans (Nat.mod_le _ _) hX
      go_wp2_with fail
      refine (dm_num na nb (by omega) (by omega) (by omega)).mono ?_
      rintro e w15 ⟨vq, vr, rfl, nq, nr, b15⟩
      have eQ : (X : Int) / (X : Int) = ((X / X : Nat) : Int) := by simp
      have eR : (X : Int) % (X : Int) = ((X % X : Nat) : Int) := by simp
      generalize X / X = Q at nq hq1 eQ
      generalize X % X = R at nr hr1 eR
      replace na := na.on b15
      replace nb := nb.on b15
      replace b15 := Kt.next b14 b15
      clear b14
      obtain rfl : R = 0 := by have h9 := eR; simp at h9; omega
      go_wp2_with fail
      refine (uint_val (Q) nq (by omega) (rfl)).mono ?_
      rintro e w16 ⟨rfl, b16⟩
      replace na := na.on b16
      replace nb := nb.on b16
      replace nq := nq.on b16
      replace nr := nr.on b16
      replace b16 := Kt.next b15 b16
      clear b15
      go_wp2_with fail
      refine (uint_val (0) nr (by omega) (rfl)).mono ?_
      rintro e w17 ⟨rfl, b17⟩
      replace na := na.on b17
      replace nb := nb.on b17
      replace nq := nq.on b17
      replace nr := nr.on b17
      replace b17 := Kt.next b16 b17
      clear b16
      go_wp2
      go_ret
      exact ⟨rfl, b17⟩
  · -- gt
    refine (cmp_val (1) na nb (by omega) (by omega) (Nt.cmp_gt (by omega))).mono ?_
    rintro e w14 ⟨rfl, b14⟩
    replace na := na.on b14
    replace nb := nb.on b14
    replace b14 := Kt.next b13 b14
    clear b13
    have d1 : decide ((X : Int) < (Y : Int)) = false := by simp; omega
    have d2 : ((X : Int) == (Y : Int)) = false := beq_eq_false_iff_ne.2 (by omega)
    rcases Nat.eq_zero_or_pos Y with hz | hpos
    · subst hz
      clear d1 d2
      have d2 : ((X : Int) == 0) = false := beq_eq_false_iff_ne.2 (by omega)
      have d3 : ((X : Int) < 0) = False := by simp
      go_wp2
      go_ret
      exact ⟨rfl, b14⟩
    · have hb0 : (((Y : Nat) : Int) == 0) = false := beq_eq_false_iff_ne.2 (by omega)
      have hq1 : X / Y ≤ 18446744073709551615 := Nat.le_trans (Nat.div_le_self _ _) hX
      have hr1 : X % Y ≤ 18446744073709551615 := Nat.le_trans (Nat.mod_le _ _) hX
      go_wp2_with fail
      refine (dm_num na nb (by omega) (by omega) (by omega)).mono ?_
      rintro e w15 ⟨vq, vr, rfl, nq, nr, b15⟩
      have eQ : (X : Int) / (Y : Int) = ((X / Y : Nat) : Int) := by simp
      have eR : (X : Int) % (Y : Int) = ((X % Y : Nat) : Int) := by simp
      generalize X / Y = Q at nq hq1 eQ
      generalize X % Y = R at nr hr1 eR
      replace na := na.on b15
      replace nb := nb.on b15
      replace b15 := Kt.next b14 b15
      clear b14
      go_wp2_with fail
      refine (uint_val (Q) nq (by omega) (rfl)).mono ?_
      rintro e w16 ⟨rfl, b16⟩
      replace na := na.on b16
      replace nb := nb.on b16
      replace nq := nq.on b16
      replace nr := nr.on b16
      replace b16 := Kt.next b15 b16
      clear b15
      go_wp2_with fail
      refine (uint_val (R) nr (by omega) (rfl)).mono ?_
      rintro e w17 ⟨rfl, b17⟩
      replace na := na.on b17
      replace nb := nb.on b17
      replace nq := nq.on b17
      replace nr := nr.on b17
      replace b17 := Kt.next b16 b17
      clear b16
      go_wp2
      go_ret
      exact ⟨rfl, b17⟩

end Go.Proofs.Ytfjdhclpcbgdbaa
