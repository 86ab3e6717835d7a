/- The walk of NatOrder. -/
import Derived.Test.YtfjdhclpcbgdbaaNatM
namespace Go.Proofs.Ytfjdhclpcbgdbaa
open Go Go.RowKit

set_option maxRecDepth 100000 in
set_option maxHeartbeats 12000000 in
theorem walk_NatOrder (w : World) (Ax : Option Addr) (cx : Nat) (x : List Int) (lcx : x.length ≤ cx) (_mx : cx ≤ maxLen) (zx : Kt.Ints w w.heap.size .u32 Ax x) (wfx : ∀ i ∈ x, (Lit.int .u32 i).wf = true) (rx : x.length * 4 ≤ 140737488351232) (kx : Ax = none → cx = 0) (Ay : Option Addr) (cy : Nat) (y : List Int) (lcy : y.length ≤ cy) (_my : cy ≤ maxLen) (zy : Kt.Ints w w.heap.size .u32 Ay y) (wfy : ∀ i ∈ y, (Lit.int .u32 i).wf = true) (ry : y.length * 4 ≤ 140737488351232) (ky : Ay = none → cy = 0) (Az : Option Addr) (cz : Nat) (z : List Int) (lcz : z.length ≤ cz) (_mz : cz ≤ maxLen) (zz : Kt.Ints w w.heap.size .u32 Az z) (wfz : ∀ i ∈ z, (Lit.int .u32 i).wf = true) (rz : z.length * 4 ≤ 140737488351232) (kz : Az = none → cz = 0) :
    Calls Try.prog 9 #[.slice Ax x.length cx, .slice Ay y.length cy, .slice Az z.length cz] w fun e w' => e = .returned (.bool true) ∧ Below w.heap.size w w' := by
  have okx := ok_of_wf wfx
  clear wfx
  have oky := ok_of_wf wfy
  clear wfy
  have okz := ok_of_wf wfz
  clear wfz
  go_enter Try.func9, Try.ntmps9
  go_wp2_with fail
  refine (awake_any _).mono ?_
  rintro e w1 ⟨rfl, b1⟩
  replace zx := zx.on b1
  replace zy := zy.on b1
  replace zz := zz.on b1
  go_wp2_with fail
  refine (number_any Ax _ cx x 500 _ rfl zx kx lcx okx rx (by omega)).mono ?_
  rintro e w2 ⟨va, xa, rfl, na, ha, b2⟩
  replace zx := zx.on b2
  replace zy := zy.on b2
  replace zz := zz.on b2
  replace b2 := Kt.next b1 b2
  clear b1
  go_wp2_with fail
  refine (number_any Ay _ cy y 500 _ rfl zy ky lcy oky ry (by omega)).mono ?_
  rintro e w3 ⟨vb, xb, rfl, nb, hb, b3⟩
  replace na := na.on b3
  replace zy := zy.on b3
  replace zz := zz.on b3
  replace b3 := Kt.next b2 b3
  clear b2
  go_wp2_with fail
  refine (number_any Az _ cz z 500 _ rfl zz kz lcz okz rz (by omega)).mono ?_
  rintro e w4 ⟨vc, xc, rfl, nc, hc, b4⟩
  replace na := na.on b4
  replace nb := nb.on b4
  replace zz := zz.on b4
  replace b4 := Kt.next b3 b4
  clear b3
  obtain ⟨Ac, cc, rfl, _, _⟩ := num_ok nc
  have hc0 : xc = 0 ∨ 0 < xc := by omega
  have hab : xa < xb ∨ xa = xb ∨ xb < xa := by omega
  rcases hc0 with rfl | hc0 <;> rcases hab with hlt | rfl | hgt
  · -- zero, lt
    go_wp2_with fail
    refine (cmp_val (-1) na nb (by omega) (by omega) (Nt.cmp_lt (by omega))).mono ?_
    rintro e w5 ⟨rfl, b5⟩
    replace na := na.on b5
    replace nb := nb.on b5
    replace nc := nc.on b5
    replace b5 := Kt.next b4 b5
    clear b4
    go_wp2_with fail
    refine (cmp_val (1) nb na (by omega) (by omega) (Nt.cmp_gt (by omega))).mono ?_
    rintro e w6 ⟨rfl, b6⟩
    replace na := na.on b6
    replace nb := nb.on b6
    replace nc := nc.on b6
    replace b6 := Kt.next b5 b6
    clear b5
    go_wp2_with fail
    refine (same_not na nb (by omega) (by omega)).mono ?_
    rintro e w7 ⟨rfl, b7⟩
    replace na := na.on b7
    replace nb := nb.on b7
    replace nc := nc.on b7
    replace b7 := Kt.next b6 b7
    clear b6
    go_wp2_with fail
    refine (sub_num_less na nb (by omega) (by omega) (by omega)).mono ?_
    rintro e w8 ⟨rfl, b8⟩
    replace na := na.on b8
    replace nb := nb.on b8
    replace nc := nc.on b8
    replace b8 := Kt.next b7 b8
    clear b7
    have hs : (Nt.limbs (xa + 0)).length ≤ 501 := Nt.len_add _ _ 500 (by omega) (by omega)
    go_wp2_with fail
    refine (add_ok na nc (by omega) (by omega) (by omega)).mono ?_
    rintro e w9 ⟨⟨vs, rfl, ns⟩, b9⟩
    replace na := na.on b9
    replace nb := nb.on b9
    replace nc := nc.on b9
    replace b9 := Kt.next b8 b9
    clear b8
    have ht : (Nt.limbs (xb + 0)).length ≤ 501 := Nt.len_add _ _ 500 (by omega) (by omega)
    go_wp2_with fail
    refine (add_ok nb nc (by omega) (by omega) (by omega)).mono ?_
    rintro e w10 ⟨⟨vt, rfl, nt⟩, b10⟩
    replace na := na.on b10
    replace nb := nb.on b10
    replace nc := nc.on b10
    replace ns := ns.on b10
    replace b10 := Kt.next b9 b10
    clear b9
    have hp : (Nt.limbs (xa * 0)).length ≤ 1000 := Nt.len_mul _ _ 500 500 (by omega) (by omega)
    go_wp2_with fail
    refine (mul_ok na nc (by omega) (by omega) (by omega)).mono ?_
    rintro e w11 ⟨⟨vp, rfl, np⟩, b11⟩
    replace na := na.on b11
    replace nb := nb.on b11
    replace nc := nc.on b11
    replace ns := ns.on b11
    replace nt := nt.on b11
    replace b11 := Kt.next b10 b11
    clear b10
    have hq : (Nt.limbs (xb * 0)).length ≤ 1000 := Nt.len_mul _ _ 500 500 (by omega) (by omega)
    go_wp2_with fail
    refine (mul_ok nb nc (by omega) (by omega) (by omega)).mono ?_
    rintro e w12 ⟨⟨vq, rfl, nq⟩, b12⟩
    replace na := na.on b12
    replace nb := nb.on b12
    replace nc := nc.on b12
    replace ns := ns.on b12
    replace nt := nt.on b12
    replace np := np.on b12
    replace b12 := Kt.next b11 b12
    clear b11
    go_wp2_with fail
    refine (cmp_val (-1) ns nt (by omega) (by omega) (Nt.cmp_lt (by omega))).mono ?_
    rintro e w13 ⟨rfl, b13⟩
    replace na := na.on b13
    replace nb := nb.on b13
    replace nc := nc.on b13
    replace ns := ns.on b13
    replace nt := nt.on b13
    replace np := np.on b13
    replace nq := nq.on b13
    replace b13 := Kt.next b12 b13
    clear b12
    go_wp2_with fail
    refine (cmp_val (0) np nq (by omega) (by omega) (Nt.cmp_eq rfl)).mono ?_
    rintro e w14 ⟨rfl, b14⟩
    replace na := na.on b14
    replace nb := nb.on b14
    replace nc := nc.on b14
    replace ns := ns.on b14
    replace nt := nt.on b14
    replace np := np.on b14
    replace nq := nq.on b14
    replace b14 := Kt.next b13 b14
    clear b13
    go_wp2_with fail
    refine (of_word 1 1 _ rfl (by omega)).mono ?_
    rintro e w15 ⟨⟨vo, rfl, no⟩, b15⟩
    replace na := na.on b15
    replace nb := nb.on b15
    replace nc := nc.on b15
    replace ns := ns.on b15
    replace nt := nt.on b15
    replace np := np.on b15
    replace nq := nq.on b15
    replace b15 := Kt.next b14 b15
    clear b14
    have ho : (Nt.limbs 1).length ≤ 1 := by decide
    have hup : (Nt.limbs (xa + 1)).length ≤ 501 := Nt.len_add _ _ 500 (by omega) (by omega)
    go_wp2_with fail
    refine (add_ok na no (by omega) (by omega) (by omega)).mono ?_
    rintro e w16 ⟨⟨vup, rfl, nup⟩, b16⟩
    replace na := na.on b16
    replace nb := nb.on b16
    replace nc := nc.on b16
    replace ns := ns.on b16
    replace nt := nt.on b16
    replace np := np.on b16
    replace nq := nq.on b16
    replace no := no.on b16
    replace b16 := Kt.next b15 b16
    clear b15
    go_wp2_with fail
    refine (less_yes na nup (by omega) (by omega) (by omega)).mono ?_
    rintro e w17 ⟨rfl, b17⟩
    replace na := na.on b17
    replace nb := nb.on b17
    replace nc := nc.on b17
    replace ns := ns.on b17
    replace nt := nt.on b17
    replace np := np.on b17
    replace nq := nq.on b17
    replace no := no.on b17
    replace nup := nup.on b17
    replace b17 := Kt.next b16 b17
    clear b16
    go_wp2
    go_ret
    exact ⟨rfl, b17⟩
  · -- zero, eq
    go_wp2_with fail
    refine (cmp_val (0) na nb (by omega) (by omega) (Nt.cmp_eq rfl)).mono ?_
    rintro e w5 ⟨rfl, b5⟩
    replace na := na.on b5
    replace nb := nb.on b5
    replace nc := nc.on b5
    replace b5 := Kt.next b4 b5
    clear b4
    go_wp2_with fail
    refine (cmp_val (0) nb na (by omega) (by omega) (Nt.cmp_eq rfl)).mono ?_
    rintro e w6 ⟨rfl, b6⟩
    replace na := na.on b6
    replace nb := nb.on b6
    replace nc := nc.on b6
    replace b6 := Kt.next b5 b6
    clear b5
    go_wp2_with fail
    refine (same_yes na nb (by omega) rfl).mono ?_
    rintro e w7 ⟨rfl, b7⟩
    replace na := na.on b7
    replace nb := nb.on b7
    replace nc := nc.on b7
    replace b7 := Kt.next b6 b7
    clear b6
    go_wp2_with fail
    refine (sub_zero na nb (by omega) rfl).mono ?_
    rintro e w8 ⟨Ad, cd, rfl, b8⟩
    replace na := na.on b8
    replace nb := nb.on b8
    replace nc := nc.on b8
    replace b8 := Kt.next b7 b8
    clear b7
    have hs : (Nt.limbs (xa + 0)).length ≤ 501 := Nt.len_add _ _ 500 (by omega) (by omega)
    go_wp2_with fail
    refine (add_ok na nc (by omega) (by omega) (by omega)).mono ?_
    rintro e w9 ⟨⟨vs, rfl, ns⟩, b9⟩
    replace na := na.on b9
    replace nb := nb.on b9
    replace nc := nc.on b9
    replace b9 := Kt.next b8 b9
    clear b8
    have ht : (Nt.limbs (xa + 0)).length ≤ 501 := Nt.len_add _ _ 500 (by omega) (by omega)
    go_wp2_with fail
    refine (add_ok nb nc (by omega) (by omega) (by omega)).mono ?_
    rintro e w10 ⟨⟨vt, rfl, nt⟩, b10⟩
    replace na := na.on b10
    replace nb := nb.on b10
    replace nc := nc.on b10
    replace ns := ns.on b10
    replace b10 := Kt.next b9 b10
    clear b9
    have hp : (Nt.limbs (xa * 0)).length ≤ 1000 := Nt.len_mul _ _ 500 500 (by omega) (by omega)
    go_wp2_with fail
    refine (mul_ok na nc (by omega) (by omega) (by omega)).mono ?_
    rintro e w11 ⟨⟨vp, rfl, np⟩, b11⟩
    replace na := na.on b11
    replace nb := nb.on b11
    replace nc := nc.on b11
    replace ns := ns.on b11
    replace nt := nt.on b11
    replace b11 := Kt.next b10 b11
    clear b10
    have hq : (Nt.limbs (xa * 0)).length ≤ 1000 := Nt.len_mul _ _ 500 500 (by omega) (by omega)
    go_wp2_with fail
    refine (mul_ok nb nc (by omega) (by omega) (by omega)).mono ?_
    rintro e w12 ⟨⟨vq, rfl, nq⟩, b12⟩
    replace na := na.on b12
    replace nb := nb.on b12
    replace nc := nc.on b12
    replace ns := ns.on b12
    replace nt := nt.on b12
    replace np := np.on b12
    replace b12 := Kt.next b11 b12
    clear b11
    go_wp2_with fail
    refine (cmp_val (0) ns nt (by omega) (by omega) (Nt.cmp_eq rfl)).mono ?_
    rintro e w13 ⟨rfl, b13⟩
    replace na := na.on b13
    replace nb := nb.on b13
    replace nc := nc.on b13
    replace ns := ns.on b13
    replace nt := nt.on b13
    replace np := np.on b13
    replace nq := nq.on b13
    replace b13 := Kt.next b12 b13
    clear b12
    go_wp2_with fail
    refine (cmp_val (0) np nq (by omega) (by omega) (Nt.cmp_eq rfl)).mono ?_
    rintro e w14 ⟨rfl, b14⟩
    replace na := na.on b14
    replace nb := nb.on b14
    replace nc := nc.on b14
    replace ns := ns.on b14
    replace nt := nt.on b14
    replace np := np.on b14
    replace nq := nq.on b14
    replace b14 := Kt.next b13 b14
    clear b13
    go_wp2_with fail
    refine (of_word 1 1 _ rfl (by omega)).mono ?_
    rintro e w15 ⟨⟨vo, rfl, no⟩, b15⟩
    replace na := na.on b15
    replace nb := nb.on b15
    replace nc := nc.on b15
    replace ns := ns.on b15
    replace nt := nt.on b15
    replace np := np.on b15
    replace nq := nq.on b15
    replace b15 := Kt.next b14 b15
    clear b14
    have ho : (Nt.limbs 1).length ≤ 1 := by decide
    have hup : (Nt.limbs (xa + 1)).length ≤ 501 := Nt.len_add _ _ 500 (by omega) (by omega)
    go_wp2_with fail
    refine (add_ok na no (by omega) (by omega) (by omega)).mono ?_
    rintro e w16 ⟨⟨vup, rfl, nup⟩, b16⟩
    replace na := na.on b16
    replace nb := nb.on b16
    replace nc := nc.on b16
    replace ns := ns.on b16
    replace nt := nt.on b16
    replace np := np.on b16
    replace nq := nq.on b16
    replace no := no.on b16
    replace b16 := Kt.next b15 b16
    clear b15
    go_wp2_with fail
    refine (less_yes na nup (by omega) (by omega) (by omega)).mono ?_
    rintro e w17 ⟨rfl, b17⟩
    replace na := na.on b17
    replace nb := nb.on b17
    replace nc := nc.on b17
    replace ns := ns.on b17
    replace nt := nt.on b17
    replace np := np.on b17
    replace nq := nq.on b17
    replace no := no.on b17
    replace nup := nup.on b17
    replace b17 := Kt.next b16 b17
    clear b16
    go_wp2
    go_ret
    exact ⟨rfl, b17⟩
  · -- zero, gt
    go_wp2_with fail
    refine (cmp_val (1) na nb (by omega) (by omega) (Nt.cmp_gt (by omega))).mono ?_
    rintro e w5 ⟨rfl, b5⟩
    replace na := na.on b5
    replace nb := nb.on b5
    replace nc := nc.on b5
    replace b5 := Kt.next b4 b5
    clear b4
    go_wp2_with fail
    refine (cmp_val (-1) nb na (by omega) (by omega) (Nt.cmp_lt (by omega))).mono ?_
    rintro e w6 ⟨rfl, b6⟩
    replace na := na.on b6
    replace nb := nb.on b6
    replace nc := nc.on b6
    replace b6 := Kt.next b5 b6
    clear b5
    go_wp2_with fail
    refine (same_not na nb (by omega) (by omega)).mono ?_
    rintro e w7 ⟨rfl, b7⟩
    replace na := na.on b7
    replace nb := nb.on b7
    replace nc := nc.on b7
    replace b7 := Kt.next b6 b7
    clear b6
    go_wp2_with fail
    refine (sub_num na nb (by omega) (by omega) (by omega)).mono ?_
    rintro e w8 ⟨⟨vd, rfl, _⟩, b8⟩
    replace na := na.on b8
    replace nb := nb.on b8
    replace nc := nc.on b8
    replace b8 := Kt.next b7 b8
    clear b7
    have hs : (Nt.limbs (xa + 0)).length ≤ 501 := Nt.len_add _ _ 500 (by omega) (by omega)
    go_wp2_with fail
    refine (add_ok na nc (by omega) (by omega) (by omega)).mono ?_
    rintro e w9 ⟨⟨vs, rfl, ns⟩, b9⟩
    replace na := na.on b9
    replace nb := nb.on b9
    replace nc := nc.on b9
    replace b9 := Kt.next b8 b9
    clear b8
    have ht : (Nt.limbs (xb + 0)).length ≤ 501 := Nt.len_add _ _ 500 (by omega) (by omega)
    go_wp2_with fail
    refine (add_ok nb nc (by omega) (by omega) (by omega)).mono ?_
    rintro e w10 ⟨⟨vt, rfl, nt⟩, b10⟩
    replace na := na.on b10
    replace nb := nb.on b10
    replace nc := nc.on b10
    replace ns := ns.on b10
    replace b10 := Kt.next b9 b10
    clear b9
    have hp : (Nt.limbs (xa * 0)).length ≤ 1000 := Nt.len_mul _ _ 500 500 (by omega) (by omega)
    go_wp2_with fail
    refine (mul_ok na nc (by omega) (by omega) (by omega)).mono ?_
    rintro e w11 ⟨⟨vp, rfl, np⟩, b11⟩
    replace na := na.on b11
    replace nb := nb.on b11
    replace nc := nc.on b11
    replace ns := ns.on b11
    replace nt := nt.on b11
    replace b11 := Kt.next b10 b11
    clear b10
    have hq : (Nt.limbs (xb * 0)).length ≤ 1000 := Nt.len_mul _ _ 500 500 (by omega) (by omega)
    go_wp2_with fail
    refine (mul_ok nb nc (by omega) (by omega) (by omega)).mono ?_
    rintro e w12 ⟨⟨vq, rfl, nq⟩, b12⟩
    replace na := na.on b12
    replace nb := nb.on b12
    replace nc := nc.on b12
    replace ns := ns.on b12
    replace nt := nt.on b12
    replace np := np.on b12
    replace b12 := Kt.next b11 b12
    clear b11
    go_wp2_with fail
    refine (cmp_val (1) ns nt (by omega) (by omega) (Nt.cmp_gt (by omega))).mono ?_
    rintro e w13 ⟨rfl, b13⟩
    replace na := na.on b13
    replace nb := nb.on b13
    replace nc := nc.on b13
    replace ns := ns.on b13
    replace nt := nt.on b13
    replace np := np.on b13
    replace nq := nq.on b13
    replace b13 := Kt.next b12 b13
    clear b12
    go_wp2_with fail
    refine (cmp_val (0) np nq (by omega) (by omega) (Nt.cmp_eq rfl)).mono ?_
    rintro e w14 ⟨rfl, b14⟩
    replace na := na.on b14
    replace nb := nb.on b14
    replace nc := nc.on b14
    replace ns := ns.on b14
    replace nt := nt.on b14
    replace np := np.on b14
    replace nq := nq.on b14
    replace b14 := Kt.next b13 b14
    clear b13
    go_wp2_with fail
    refine (of_word 1 1 _ rfl (by omega)).mono ?_
    rintro e w15 ⟨⟨vo, rfl, no⟩, b15⟩
    replace na := na.on b15
    replace nb := nb.on b15
    replace nc := nc.on b15
    replace ns := ns.on b15
    replace nt := nt.on b15
    replace np := np.on b15
    replace nq := nq.on b15
    replace b15 := Kt.next b14 b15
    clear b14
    have ho : (Nt.limbs 1).length ≤ 1 := by decide
    have hup : (Nt.limbs (xa + 1)).length ≤ 501 := Nt.len_add _ _ 500 (by omega) (by omega)
    go_wp2_with fail
    refine (add_ok na no (by omega) (by omega) (by omega)).mono ?_
    rintro e w16 ⟨⟨vup, rfl, nup⟩, b16⟩
    replace na := na.on b16
    replace nb := nb.on b16
    replace nc := nc.on b16
    replace ns := ns.on b16
    replace nt := nt.on b16
    replace np := np.on b16
    replace nq := nq.on b16
    replace no := no.on b16
    replace b16 := Kt.next b15 b16
    clear b15
    go_wp2_with fail
    refine (less_yes na nup (by omega) (by omega) (by omega)).mono ?_
    rintro e w17 ⟨rfl, b17⟩
    replace na := na.on b17
    replace nb := nb.on b17
    replace nc := nc.on b17
    replace ns := ns.on b17
    replace nt := nt.on b17
    replace np := np.on b17
    replace nq := nq.on b17
    replace no := no.on b17
    replace nup := nup.on b17
    replace b17 := Kt.next b16 b17
    clear b16
    go_wp2
    go_ret
    exact ⟨rfl, b17⟩
  · -- pos, lt
    have hcl : 0 < (Nt.limbs xc).length := by have := Nt.len_zero_iff xc; omega
    have hcb : (((Nt.limbs xc).length : Int) == 0) = false := beq_eq_false_iff_ne.2 (by omega)
    go_wp2_with fail
    refine (cmp_val (-1) na nb (by omega) (by omega) (Nt.cmp_lt (by omega))).mono ?_
    rintro e w5 ⟨rfl, b5⟩
    replace na := na.on b5
    replace nb := nb.on b5
    replace nc := nc.on b5
    replace b5 := Kt.next b4 b5
    clear b4
    go_wp2_with fail
    refine (cmp_val (1) nb na (by omega) (by omega) (Nt.cmp_gt (by omega))).mono ?_
    rintro e w6 ⟨rfl, b6⟩
    replace na := na.on b6
    replace nb := nb.on b6
    replace nc := nc.on b6
    replace b6 := Kt.next b5 b6
    clear b5
    go_wp2_with fail
    refine (same_not na nb (by omega) (by omega)).mono ?_
    rintro e w7 ⟨rfl, b7⟩
    replace na := na.on b7
    replace nb := nb.on b7
    replace nc := nc.on b7
    replace b7 := Kt.next b6 b7
    clear b6
    go_wp2_with fail
    refine (sub_num_less na nb (by omega) (by omega) (by omega)).mono ?_
    rintro e w8 ⟨rfl, b8⟩
    replace na := na.on b8
    replace nb := nb.on b8
    replace nc := nc.on b8
    replace b8 := Kt.next b7 b8
    clear b7
    have hs : (Nt.limbs (xa + xc)).length ≤ 501 := Nt.len_add _ _ 500 (by omega) (by omega)
    go_wp2_with fail
    refine (add_ok na nc (by omega) (by omega) (by omega)).mono ?_
    rintro e w9 ⟨⟨vs, rfl, ns⟩, b9⟩
    replace na := na.on b9
    replace nb := nb.on b9
    replace nc := nc.on b9
    replace b9 := Kt.next b8 b9
    clear b8
    have ht : (Nt.limbs (xb + xc)).length ≤ 501 := Nt.len_add _ _ 500 (by omega) (by omega)
    go_wp2_with fail
    refine (add_ok nb nc (by omega) (by omega) (by omega)).mono ?_
    rintro e w10 ⟨⟨vt, rfl, nt⟩, b10⟩
    replace na := na.on b10
    replace nb := nb.on b10
    replace nc := nc.on b10
    replace ns := ns.on b10
    replace b10 := Kt.next b9 b10
    clear b9
    have hp : (Nt.limbs (xa * xc)).length ≤ 1000 := Nt.len_mul _ _ 500 500 (by omega) (by omega)
    go_wp2_with fail
    refine (mul_ok na nc (by omega) (by omega) (by omega)).mono ?_
    rintro e w11 ⟨⟨vp, rfl, np⟩, b11⟩
    replace na := na.on b11
    replace nb := nb.on b11
    replace nc := nc.on b11
    replace ns := ns.on b11
    replace nt := nt.on b11
    replace b11 := Kt.next b10 b11
    clear b10
    have hq : (Nt.limbs (xb * xc)).length ≤ 1000 := Nt.len_mul _ _ 500 500 (by omega) (by omega)
    go_wp2_with fail
    refine (mul_ok nb nc (by omega) (by omega) (by omega)).mono ?_
    rintro e w12 ⟨⟨vq, rfl, nq⟩, b12⟩
    replace na := na.on b12
    replace nb := nb.on b12
    replace nc := nc.on b12
    replace ns := ns.on b12
    replace nt := nt.on b12
    replace np := np.on b12
    replace b12 := Kt.next b11 b12
    clear b11
    go_wp2_with fail
    refine (cmp_val (-1) ns nt (by omega) (by omega) (Nt.cmp_lt (by omega))).mono ?_
    rintro e w13 ⟨rfl, b13⟩
    replace na := na.on b13
    replace nb := nb.on b13
    replace nc := nc.on b13
    replace ns := ns.on b13
    replace nt := nt.on b13
    replace np := np.on b13
    replace nq := nq.on b13
    replace b13 := Kt.next b12 b13
    clear b12
    go_wp2_with fail
    refine (cmp_val (-1) np nq (by omega) (by omega) (Nt.cmp_lt (Nat.mul_lt_mul_of_pos_right hlt hc0))).mono ?_
    rintro e w14 ⟨rfl, b14⟩
    replace na := na.on b14
    replace nb := nb.on b14
    replace nc := nc.on b14
    replace ns := ns.on b14
    replace nt := nt.on b14
    replace np := np.on b14
    replace nq := nq.on b14
    replace b14 := Kt.next b13 b14
    clear b13
    go_wp2_with fail
    refine (of_word 1 1 _ rfl (by omega)).mono ?_
    rintro e w15 ⟨⟨vo, rfl, no⟩, b15⟩
    replace na := na.on b15
    replace nb := nb.on b15
    replace nc := nc.on b15
    replace ns := ns.on b15
    replace nt := nt.on b15
    replace np := np.on b15
    replace nq := nq.on b15
    replace b15 := Kt.next b14 b15
    clear b14
    have ho : (Nt.limbs 1).length ≤ 1 := by decide
    have hup : (Nt.limbs (xa + 1)).length ≤ 501 := Nt.len_add _ _ 500 (by omega) (by omega)
    go_wp2_with fail
    refine (add_ok na no (by omega) (by omega) (by omega)).mono ?_
    rintro e w16 ⟨⟨vup, rfl, nup⟩, b16⟩
    replace na := na.on b16
    replace nb := nb.on b16
    replace nc := nc.on b16
    replace ns := ns.on b16
    replace nt := nt.on b16
    replace np := np.on b16
    replace nq := nq.on b16
    replace no := no.on b16
    replace b16 := Kt.next b15 b16
    clear b15
    go_wp2_with fail
    refine (less_yes na nup (by omega) (by omega) (by omega)).mono ?_
    rintro e w17 ⟨rfl, b17⟩
    replace na := na.on b17
    replace nb := nb.on b17
    replace nc := nc.on b17
    replace ns := ns.on b17
    replace nt := nt.on b17
    replace np := np.on b17
    replace nq := nq.on b17
    replace no := no.on b17
    replace nup := nup.on b17
    replace b17 := Kt.next b16 b17
    clear b16
    go_wp2
    go_ret
    exact ⟨rfl, b17⟩
  · -- pos, eq
    have hcl : 0 < (Nt.limbs xc).length := by have := Nt.len_zero_iff xc; omega
    have hcb : (((Nt.limbs xc).length : Int) == 0) = false := beq_eq_false_iff_ne.2 (by omega)
    go_wp2_with fail
    refine (cmp_val (0) na nb (by omega) (by omega) (Nt.cmp_eq rfl)).mono ?_
    rintro e w5 ⟨rfl, b5⟩
    replace na := na.on b5
    replace nb := nb.on b5
    replace nc := nc.on b5
    replace b5 := Kt.next b4 b5
    clear b4
    go_wp2_with fail
    refine (cmp_val (0) nb na (by omega) (by omega) (Nt.cmp_eq rfl)).mono ?_
    rintro e w6 ⟨rfl, b6⟩
    replace na := na.on b6
    replace nb := nb.on b6
    replace nc := nc.on b6
    replace b6 := Kt.next b5 b6
    clear b5
    go_wp2_with fail
    refine (same_yes na nb (by omega) rfl).mono ?_
    rintro e w7 ⟨rfl, b7⟩
    replace na := na.on b7
    replace nb := nb.on b7
    replace nc := nc.on b7
    replace b7 := Kt.next b6 b7
    clear b6
    go_wp2_with fail
    refine (sub_zero na nb (by omega) rfl).mono ?_
    rintro e w8 ⟨Ad, cd, rfl, b8⟩
    replace na := na.on b8
    replace nb := nb.on b8
    replace nc := nc.on b8
    replace b8 := Kt.next b7 b8
    clear b7
    have hs : (Nt.limbs (xa + xc)).length ≤ 501 := Nt.len_add _ _ 500 (by omega) (by omega)
    go_wp2_with fail
    refine (add_ok na nc (by omega) (by omega) (by omega)).mono ?_
    rintro e w9 ⟨⟨vs, rfl, ns⟩, b9⟩
    replace na := na.on b9
    replace nb := nb.on b9
    replace nc := nc.on b9
    replace b9 := Kt.next b8 b9
    clear b8
    have ht : (Nt.limbs (xa + xc)).length ≤ 501 := Nt.len_add _ _ 500 (by omega) (by omega)
    go_wp2_with fail
    refine (add_ok nb nc (by omega) (by omega) (by omega)).mono ?_
    rintro e w10 ⟨⟨vt, rfl, nt⟩, b10⟩
    replace na := na.on b10
    replace nb := nb.on b10
    replace nc := nc.on b10
    replace ns := ns.on b10
    replace b10 := Kt.next b9 b10
    clear b9
    have hp : (Nt.limbs (xa * xc)).length ≤ 1000 := Nt.len_mul _ _ 500 500 (by omega) (by omega)
    go_wp2_with fail
    refine (mul_ok na nc (by omega) (by omega) (by omega)).mono ?_
    rintro e w11 ⟨⟨vp, rfl, np⟩, b11⟩
    replace na := na.on b11
    replace nb := nb.on b11
    replace nc := nc.on b11
    replace ns := ns.on b11
    replace nt := nt.on b11
    replace b11 := Kt.next b10 b11
    clear b10
    have hq : (Nt.limbs (xa * xc)).length ≤ 1000 := Nt.len_mul _ _ 500 500 (by omega) (by omega)
    go_wp2_with fail
    refine (mul_ok nb nc (by omega) (by omega) (by omega)).mono ?_
    rintro e w12 ⟨⟨vq, rfl, nq⟩, b12⟩
    replace na := na.on b12
    replace nb := nb.on b12
    replace nc := nc.on b12
    replace ns := ns.on b12
    replace nt := nt.on b12
    replace np := np.on b12
    replace b12 := Kt.next b11 b12
    clear b11
    go_wp2_with fail
    refine (cmp_val (0) ns nt (by omega) (by omega) (Nt.cmp_eq rfl)).mono ?_
    rintro e w13 ⟨rfl, b13⟩
    replace na := na.on b13
    replace nb := nb.on b13
    replace nc := nc.on b13
    replace ns := ns.on b13
    replace nt := nt.on b13
    replace np := np.on b13
    replace nq := nq.on b13
    replace b13 := Kt.next b12 b13
    clear b12
    go_wp2_with fail
    refine (cmp_val (0) np nq (by omega) (by omega) (Nt.cmp_eq rfl)).mono ?_
    rintro e w14 ⟨rfl, b14⟩
    replace na := na.on b14
    replace nb := nb.on b14
    replace nc := nc.on b14
    replace ns := ns.on b14
    replace nt := nt.on b14
    replace np := np.on b14
    replace nq := nq.on b14
    replace b14 := Kt.next b13 b14
    clear b13
    go_wp2_with fail
    refine (of_word 1 1 _ rfl (by omega)).mono ?_
    rintro e w15 ⟨⟨vo, rfl, no⟩, b15⟩
    replace na := na.on b15
    replace nb := nb.on b15
    replace nc := nc.on b15
    replace ns := ns.on b15
    replace nt := nt.on b15
    replace np := np.on b15
    replace nq := nq.on b15
    replace b15 := Kt.next b14 b15
    clear b14
    have ho : (Nt.limbs 1).length ≤ 1 := by decide
    have hup : (Nt.limbs (xa + 1)).length ≤ 501 := Nt.len_add _ _ 500 (by omega) (by omega)
    go_wp2_with fail
    refine (add_ok na no (by omega) (by omega) (by omega)).mono ?_
    rintro e w16 ⟨⟨vup, rfl, nup⟩, b16⟩
    replace na := na.on b16
    replace nb := nb.on b16
    replace nc := nc.on b16
    replace ns := ns.on b16
    replace nt := nt.on b16
    replace np := np.on b16
    replace nq := nq.on b16
    replace no := no.on b16
    replace b16 := Kt.next b15 b16
    clear b15
    go_wp2_with fail
    refine (less_yes na nup (by omega) (by omega) (by omega)).mono ?_
    rintro e w17 ⟨rfl, b17⟩
    replace na := na.on b17
    replace nb := nb.on b17
    replace nc := nc.on b17
    replace ns := ns.on b17
    replace nt := nt.on b17
    replace np := np.on b17
    replace nq := nq.on b17
    replace no := no.on b17
    replace nup := nup.on b17
    replace b17 := Kt.next b16 b17
    clear b16
    go_wp2
    go_ret
    exact ⟨rfl, b17⟩
  · -- pos, gt
    have hcl : 0 < (Nt.limbs xc).length := by have := Nt.len_zero_iff xc; omega
    have hcb : (((Nt.limbs xc).length : Int) == 0) = false := beq_eq_false_iff_ne.2 (by omega)
    go_wp2_with fail
    refine (cmp_val (1) na nb (by omega) (by omega) (Nt.cmp_gt (by omega))).mono ?_
    rintro e w5 ⟨rfl, b5⟩
    replace na := na.on b5
    replace nb := nb.on b5
    replace nc := nc.on b5
    replace b5 := Kt.next b4 b5
    clear b4
    go_wp2_with fail
    refine (cmp_val (-1) nb na (by omega) (by omega) (Nt.cmp_lt (by omega))).mono ?_
    rintro e w6 ⟨rfl, b6⟩
    replace na := na.on b6
    replace nb := nb.on b6
    replace nc := nc.on b6
    replace b6 := Kt.next b5 b6
    clear b5
    go_wp2_with fail
    refine (same_not na nb (by omega) (by omega)).mono ?_
    rintro e w7 ⟨rfl, b7⟩
    replace na := na.on b7
    replace nb := nb.on b7
    replace nc := nc.on b7
    replace b7 := Kt.next b6 b7
    clear b6
    go_wp2_with fail
    refine (sub_num na nb (by omega) (by omega) (by omega)).mono ?_
    rintro e w8 ⟨⟨vd, rfl, _⟩, b8⟩
    replace na := na.on b8
    replace nb := nb.on b8
    replace nc := nc.on b8
    replace b8 := Kt.next b7 b8
    clear b7
    have hs : (Nt.limbs (xa + xc)).length ≤ 501 := Nt.len_add _ _ 500 (by omega) (by omega)
    go_wp2_with fail
    refine (add_ok na nc (by omega) (by omega) (by omega)).mono ?_
    rintro e w9 ⟨⟨vs, rfl, ns⟩, b9⟩
    replace na := na.on b9
    replace nb := nb.on b9
    replace nc := nc.on b9
    replace b9 := Kt.next b8 b9
    clear b8
    have ht : (Nt.limbs (xb + xc)).length ≤ 501 := Nt.len_add _ _ 500 (by omega) (by omega)
    go_wp2_with fail
    refine (add_ok nb nc (by omega) (by omega) (by omega)).mono ?_
    rintro e w10 ⟨⟨vt, rfl, nt⟩, b10⟩
    replace na := na.on b10
    replace nb := nb.on b10
    replace nc := nc.on b10
    replace ns := ns.on b10
    replace b10 := Kt.next b9 b10
    clear b9
    have hp : (Nt.limbs (xa * xc)).length ≤ 1000 := Nt.len_mul _ _ 500 500 (by omega) (by omega)
    go_wp2_with fail
    refine (mul_ok na nc (by omega) (by omega) (by omega)).mono ?_
    rintro e w11 ⟨⟨vp, rfl, np⟩, b11⟩
    replace na := na.on b11
    replace nb := nb.on b11
    replace nc := nc.on b11
    replace ns := ns.on b11
    replace nt := nt.on b11
    replace b11 := Kt.next b10 b11
    clear b10
    have hq : (Nt.limbs (xb * xc)).length ≤ 1000 := Nt.len_mul _ _ 500 500 (by omega) (by omega)
    go_wp2_with fail
    refine (mul_ok nb nc (by omega) (by omega) (by omega)).mono ?_
    rintro e w12 ⟨⟨vq, rfl, nq⟩, b12⟩
    replace na := na.on b12
    replace nb := nb.on b12
    replace nc := nc.on b12
    replace ns := ns.on b12
    replace nt := nt.on b12
    replace np := np.on b12
    replace b12 := Kt.next b11 b12
    clear b11
    go_wp2_with fail
    refine (cmp_val (1) ns nt (by omega) (by omega) (Nt.cmp_gt (by omega))).mono ?_
    rintro e w13 ⟨rfl, b13⟩
    replace na := na.on b13
    replace nb := nb.on b13
    replace nc := nc.on b13
    replace ns := ns.on b13
    replace nt := nt.on b13
    replace np := np.on b13
    replace nq := nq.on b13
    replace b13 := Kt.next b12 b13
    clear b12
    go_wp2_with fail
    refine (cmp_val (1) np nq (by omega) (by omega) (Nt.cmp_gt (Nat.mul_lt_mul_of_pos_right hgt hc0))).mono ?_
    rintro e w14 ⟨rfl, b14⟩
    replace na := na.on b14
    replace nb := nb.on b14
    replace nc := nc.on b14
    replace ns := ns.on b14
    replace nt := nt.on b14
    replace np := np.on b14
    replace nq := nq.on b14
    replace b14 := Kt.next b13 b14
    clear b13
    go_wp2_with fail
    refine (of_word 1 1 _ rfl (by omega)).mono ?_
    rintro e w15 ⟨⟨vo, rfl, no⟩, b15⟩
    replace na := na.on b15
    replace nb := nb.on b15
    replace nc := nc.on b15
    replace ns := ns.on b15
    replace nt := nt.on b15
    replace np := np.on b15
    replace nq := nq.on b15
    replace b15 := Kt.next b14 b15
    clear b14
    have ho : (Nt.limbs 1).length ≤ 1 := by decide
    have hup : (Nt.limbs (xa + 1)).length ≤ 501 := Nt.len_add _ _ 500 (by omega) (by omega)
    go_wp2_with fail
    refine (add_ok na no (by omega) (by omega) (by omega)).mono ?_
    rintro e w16 ⟨⟨vup, rfl, nup⟩, b16⟩
    replace na := na.on b16
    replace nb := nb.on b16
    replace nc := nc.on b16
    replace ns := ns.on b16
    replace nt := nt.on b16
    replace np := np.on b16
    replace nq := nq.on b16
    replace no := no.on b16
    replace b16 := Kt.next b15 b16
    clear b15
    go_wp2_with fail
    refine (less_yes na nup (by omega) (by omega) (by omega)).mono ?_
    rintro e w17 ⟨rfl, b17⟩
    replace na := na.on b17
    replace nb := nb.on b17
    replace nc := nc.on b17
    replace ns := ns.on b17
    replace nt := nt.on b17
    replace np := np.on b17
    replace nq := nq.on b17
    replace no := no.on b17
    replace nup := nup.on b17
    replace b17 := Kt.next b16 b17
    clear b16
    go_wp2
    go_ret
    exact ⟨rfl, b17⟩

end Go.Proofs.Ytfjdhclpcbgdbaa
