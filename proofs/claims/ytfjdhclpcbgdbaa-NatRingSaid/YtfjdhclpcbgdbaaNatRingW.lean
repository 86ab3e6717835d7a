/- The walk of NatRing. -/
import Derived.Test.YtfjdhclpcbgdbaaNatM
namespace Go.Proofs.Ytfjdhclpcbgdbaa
open Go Go.RowKit

set_option maxRecDepth 100000 in
set_option maxHeartbeats 4000000 in
theorem walk_NatRing (w : World) (Ax : Option Addr) (cx : Nat) (x : List Int) (lcx : x.length ≤ cx) (_mx : cx ≤ maxLen) (zx : Kt.Ints w w.heap.size .u32 Ax x) (wfx : ∀ i ∈ x, (Lit.int .u32 i).wf = true) (rx : x.length * 4 ≤ 140737488351232) (kx : Ax = none → cx = 0) (Ay : Option Addr) (cy : Nat) (y : List Int) (lcy : y.length ≤ cy) (_my : cy ≤ maxLen) (zy : Kt.Ints w w.heap.size .u32 Ay y) (wfy : ∀ i ∈ y, (Lit.int .u32 i).wf = true) (ry : y.length * 4 ≤ 140737488351232) (ky : Ay = none → cy = 0) (Az : Option Addr) (cz : Nat) (z : List Int) (lcz : z.length ≤ cz) (_mz : cz ≤ maxLen) (zz : Kt.Ints w w.heap.size .u32 Az z) (wfz : ∀ i ∈ z, (Lit.int .u32 i).wf = true) (rz : z.length * 4 ≤ 140737488351232) (kz : Az = none → cz = 0) :
    Calls Try.prog 7 #[.slice Ax x.length cx, .slice Ay y.length cy, .slice Az z.length cz] w fun e w' => e = .returned (.bool true) ∧ Below w.heap.size w w' := by
  have okx := ok_of_wf wfx
  clear wfx
  have oky := ok_of_wf wfy
  clear wfy
  have okz := ok_of_wf wfz
  clear wfz
  go_enter Try.func7, Try.ntmps7
  go_wp2_with fail
  refine (awake_any _).mono ?_
  rintro e w1 ⟨rfl, b1⟩
  replace zx := zx.on b1
  replace zy := zy.on b1
  replace zz := zz.on b1
  go_wp2_with fail
  refine (number_any Ax _ cx x 300 _ rfl zx kx lcx okx rx (by omega)).mono ?_
  rintro e w2 ⟨va, xa, rfl, na, ha, b2⟩
  replace zx := zx.on b2
  replace zy := zy.on b2
  replace zz := zz.on b2
  replace b2 := Kt.next b1 b2
  clear b1
  go_wp2_with fail
  refine (number_any Ay _ cy y 300 _ rfl zy ky lcy oky ry (by omega)).mono ?_
  rintro e w3 ⟨vb, xb, rfl, nb, hb, b3⟩
  replace na := na.on b3
  replace zy := zy.on b3
  replace zz := zz.on b3
  replace b3 := Kt.next b2 b3
  clear b2
  go_wp2_with fail
  refine (number_any Az _ cz z 300 _ rfl zz kz lcz okz rz (by omega)).mono ?_
  rintro e w4 ⟨vc, xc, rfl, nc, hc, b4⟩
  replace na := na.on b4
  replace nb := nb.on b4
  replace zz := zz.on b4
  replace b4 := Kt.next b3 b4
  clear b3
  have hab : (Nt.limbs (xa + xb)).length ≤ 301 := Nt.len_add _ _ 300 (by omega) (by omega)
  go_wp2_with fail
  refine (add_ok na nb (by omega) (by omega) (by omega)).mono ?_
  rintro e w5 ⟨⟨vab, rfl, nab⟩, b5⟩
  replace na := na.on b5
  replace nb := nb.on b5
  replace nc := nc.on b5
  replace b5 := Kt.next b4 b5
  clear b4
  have hba : (Nt.limbs (xb + xa)).length ≤ 301 := Nt.len_add _ _ 300 (by omega) (by omega)
  go_wp2_with fail
  refine (add_ok nb na (by omega) (by omega) (by omega)).mono ?_
  rintro e w6 ⟨⟨vba, rfl, nba⟩, b6⟩
  replace na := na.on b6
  replace nb := nb.on b6
  replace nc := nc.on b6
  replace nab := nab.on b6
  replace b6 := Kt.next b5 b6
  clear b5
  have habc : (Nt.limbs ((xa + xb) + xc)).length ≤ 302 := Nt.len_add _ _ 301 (by omega) (by omega)
  go_wp2_with fail
  refine (add_ok nab nc (by omega) (by omega) (by omega)).mono ?_
  rintro e w7 ⟨⟨vabc, rfl, nabc⟩, b7⟩
  replace na := na.on b7
  replace nb := nb.on b7
  replace nc := nc.on b7
  replace nab := nab.on b7
  replace nba := nba.on b7
  replace b7 := Kt.next b6 b7
  clear b6
  have hbc : (Nt.limbs (xb + xc)).length ≤ 301 := Nt.len_add _ _ 300 (by omega) (by omega)
  go_wp2_with fail
  refine (add_ok nb nc (by omega) (by omega) (by omega)).mono ?_
  rintro e w8 ⟨⟨vbc, rfl, nbc⟩, b8⟩
  replace na := na.on b8
  replace nb := nb.on b8
  replace nc := nc.on b8
  replace nab := nab.on b8
  replace nba := nba.on b8
  replace nabc := nabc.on b8
  replace b8 := Kt.next b7 b8
  clear b7
  have hot : (Nt.limbs (xa + (xb + xc))).length ≤ 302 := Nt.len_add _ _ 301 (by omega) (by omega)
  go_wp2_with fail
  refine (add_ok na nbc (by omega) (by omega) (by omega)).mono ?_
  rintro e w9 ⟨⟨vot, rfl, not⟩, b9⟩
  replace na := na.on b9
  replace nb := nb.on b9
  replace nc := nc.on b9
  replace nab := nab.on b9
  replace nba := nba.on b9
  replace nabc := nabc.on b9
  replace nbc := nbc.on b9
  replace b9 := Kt.next b8 b9
  clear b8
  have hbk : (Nt.limbs ((xa + xb) - xb)).length ≤ 301 := Nat.le_trans (Nt.len_mono (Nat.sub_le _ _)) hab
  go_wp2_with fail
  refine (sub_num nab nb (by omega) (by omega) (by omega)).mono ?_
  rintro e w10 ⟨⟨vbk, rfl, nbk⟩, b10⟩
  replace na := na.on b10
  replace nb := nb.on b10
  replace nc := nc.on b10
  replace nab := nab.on b10
  replace nba := nba.on b10
  replace nabc := nabc.on b10
  replace nbc := nbc.on b10
  replace not := not.on b10
  replace b10 := Kt.next b9 b10
  clear b9
  go_wp2_with fail
  refine (same_yes nab nba (by omega) (Nat.add_comm _ _)).mono ?_
  rintro e w11 ⟨rfl, b11⟩
  replace na := na.on b11
  replace nb := nb.on b11
  replace nc := nc.on b11
  replace nab := nab.on b11
  replace nba := nba.on b11
  replace nabc := nabc.on b11
  replace nbc := nbc.on b11
  replace not := not.on b11
  replace nbk := nbk.on b11
  replace b11 := Kt.next b10 b11
  clear b10
  clear nba
  go_wp2_with fail
  refine (same_yes nabc not (by omega) (Nat.add_assoc _ _ _)).mono ?_
  rintro e w12 ⟨rfl, b12⟩
  replace na := na.on b12
  replace nb := nb.on b12
  replace nc := nc.on b12
  replace nab := nab.on b12
  replace nabc := nabc.on b12
  replace nbc := nbc.on b12
  replace not := not.on b12
  replace nbk := nbk.on b12
  replace b12 := Kt.next b11 b12
  clear b11
  clear nabc
  clear not
  go_wp2_with fail
  refine (same_yes nbk na (by omega) (by omega)).mono ?_
  rintro e w13 ⟨rfl, b13⟩
  replace na := na.on b13
  replace nb := nb.on b13
  replace nc := nc.on b13
  replace nab := nab.on b13
  replace nbc := nbc.on b13
  replace nbk := nbk.on b13
  replace b13 := Kt.next b12 b13
  clear b12
  clear nbk
  clear nab
  have hp : (Nt.limbs (xa * xb)).length ≤ 600 := Nt.len_mul _ _ 300 300 (by omega) (by omega)
  go_wp2_with fail
  refine (mul_ok na nb (by omega) (by omega) (by omega)).mono ?_
  rintro e w14 ⟨⟨vp, rfl, np⟩, b14⟩
  replace na := na.on b14
  replace nb := nb.on b14
  replace nc := nc.on b14
  replace nbc := nbc.on b14
  replace b14 := Kt.next b13 b14
  clear b13
  have hq : (Nt.limbs (xb * xa)).length ≤ 600 := Nt.len_mul _ _ 300 300 (by omega) (by omega)
  go_wp2_with fail
  refine (mul_ok nb na (by omega) (by omega) (by omega)).mono ?_
  rintro e w15 ⟨⟨vq, rfl, nq⟩, b15⟩
  replace na := na.on b15
  replace nb := nb.on b15
  replace nc := nc.on b15
  replace nbc := nbc.on b15
  replace np := np.on b15
  replace b15 := Kt.next b14 b15
  clear b14
  have hpc : (Nt.limbs ((xa * xb) * xc)).length ≤ 900 := Nt.len_mul _ _ 600 300 (by omega) (by omega)
  go_wp2_with fail
  refine (mul_ok np nc (by omega) (by omega) (by omega)).mono ?_
  rintro e w16 ⟨⟨vpc, rfl, npc⟩, b16⟩
  replace na := na.on b16
  replace nb := nb.on b16
  replace nc := nc.on b16
  replace nbc := nbc.on b16
  replace np := np.on b16
  replace nq := nq.on b16
  replace b16 := Kt.next b15 b16
  clear b15
  have hr : (Nt.limbs (xb * xc)).length ≤ 600 := Nt.len_mul _ _ 300 300 (by omega) (by omega)
  go_wp2_with fail
  refine (mul_ok nb nc (by omega) (by omega) (by omega)).mono ?_
  rintro e w17 ⟨⟨vr, rfl, nr⟩, b17⟩
  replace na := na.on b17
  replace nb := nb.on b17
  replace nc := nc.on b17
  replace nbc := nbc.on b17
  replace np := np.on b17
  replace nq := nq.on b17
  replace npc := npc.on b17
  replace b17 := Kt.next b16 b17
  clear b16
  have har : (Nt.limbs (xa * (xb * xc))).length ≤ 900 := Nt.len_mul _ _ 300 600 (by omega) (by omega)
  go_wp2_with fail
  refine (mul_ok na nr (by omega) (by omega) (by omega)).mono ?_
  rintro e w18 ⟨⟨var, rfl, nar⟩, b18⟩
  replace na := na.on b18
  replace nb := nb.on b18
  replace nc := nc.on b18
  replace nbc := nbc.on b18
  replace np := np.on b18
  replace nq := nq.on b18
  replace npc := npc.on b18
  replace nr := nr.on b18
  replace b18 := Kt.next b17 b18
  clear b17
  go_wp2_with fail
  refine (same_yes np nq (by omega) (Nat.mul_comm _ _)).mono ?_
  rintro e w19 ⟨rfl, b19⟩
  replace na := na.on b19
  replace nb := nb.on b19
  replace nc := nc.on b19
  replace nbc := nbc.on b19
  replace np := np.on b19
  replace nq := nq.on b19
  replace npc := npc.on b19
  replace nr := nr.on b19
  replace nar := nar.on b19
  replace b19 := Kt.next b18 b19
  clear b18
  clear nq
  go_wp2_with fail
  refine (same_yes npc nar (by omega) (Nat.mul_assoc _ _ _)).mono ?_
  rintro e w20 ⟨rfl, b20⟩
  replace na := na.on b20
  replace nb := nb.on b20
  replace nc := nc.on b20
  replace nbc := nbc.on b20
  replace np := np.on b20
  replace npc := npc.on b20
  replace nr := nr.on b20
  replace nar := nar.on b20
  replace b20 := Kt.next b19 b20
  clear b19
  clear npc
  clear nar
  clear nr
  have hs : (Nt.limbs (xa * (xb + xc))).length ≤ 601 := Nt.len_mul _ _ 300 301 (by omega) (by omega)
  go_wp2_with fail
  refine (mul_ok na nbc (by omega) (by omega) (by omega)).mono ?_
  rintro e w21 ⟨⟨vs, rfl, ns⟩, b21⟩
  replace na := na.on b21
  replace nb := nb.on b21
  replace nc := nc.on b21
  replace nbc := nbc.on b21
  replace np := np.on b21
  replace b21 := Kt.next b20 b21
  clear b20
  have ht : (Nt.limbs (xa * xc)).length ≤ 600 := Nt.len_mul _ _ 300 300 (by omega) (by omega)
  go_wp2_with fail
  refine (mul_ok na nc (by omega) (by omega) (by omega)).mono ?_
  rintro e w22 ⟨⟨vt, rfl, nt⟩, b22⟩
  replace na := na.on b22
  replace nb := nb.on b22
  replace nc := nc.on b22
  replace nbc := nbc.on b22
  replace np := np.on b22
  replace ns := ns.on b22
  replace b22 := Kt.next b21 b22
  clear b21
  have hu : (Nt.limbs ((xa * xb) + (xa * xc))).length ≤ 601 := Nt.len_add _ _ 600 (by omega) (by omega)
  go_wp2_with fail
  refine (add_ok np nt (by omega) (by omega) (by omega)).mono ?_
  rintro e w23 ⟨⟨vu, rfl, nu⟩, b23⟩
  replace na := na.on b23
  replace nb := nb.on b23
  replace nc := nc.on b23
  replace nbc := nbc.on b23
  replace np := np.on b23
  replace ns := ns.on b23
  replace nt := nt.on b23
  replace b23 := Kt.next b22 b23
  clear b22
  go_wp2_with fail
  refine (of_word 1 1 _ rfl (by omega)).mono ?_
  rintro e w24 ⟨⟨vo, rfl, no⟩, b24⟩
  replace na := na.on b24
  replace nb := nb.on b24
  replace nc := nc.on b24
  replace nbc := nbc.on b24
  replace np := np.on b24
  replace ns := ns.on b24
  replace nt := nt.on b24
  replace nu := nu.on b24
  replace b24 := Kt.next b23 b24
  clear b23
  have ho : (Nt.limbs 1).length ≤ 1 := by decide
  have hone : (Nt.limbs (xa * 1)).length ≤ 301 := Nt.len_mul _ _ 300 1 (by omega) (by omega)
  go_wp2_with fail
  refine (mul_ok na no (by omega) (by omega) (by omega)).mono ?_
  rintro e w25 ⟨⟨vone, rfl, none⟩, b25⟩
  replace na := na.on b25
  replace nb := nb.on b25
  replace nc := nc.on b25
  replace nbc := nbc.on b25
  replace np := np.on b25
  replace ns := ns.on b25
  replace nt := nt.on b25
  replace nu := nu.on b25
  replace no := no.on b25
  replace b25 := Kt.next b24 b25
  clear b24
  clear no
  have nz := Kt.Num.zero w25 0
  have hz : (Nt.limbs 0).length ≤ 0 := by decide
  have hnone : (Nt.limbs (xa * 0)).length ≤ 300 := Nt.len_mul _ _ 300 0 (by omega) (by omega)
  go_wp2_with fail
  refine (mul_ok na nz (by omega) (by omega) (by omega)).mono ?_
  rintro e w26 ⟨⟨vnone, rfl, nnone⟩, b26⟩
  replace na := na.on b26
  replace nb := nb.on b26
  replace nc := nc.on b26
  replace nbc := nbc.on b26
  replace np := np.on b26
  replace ns := ns.on b26
  replace nt := nt.on b26
  replace nu := nu.on b26
  replace none := none.on b26
  replace nz := nz.on b26
  replace b26 := Kt.next b25 b26
  clear b25
  clear nz
  have nz := Kt.Num.zero w26 0
  have hz : (Nt.limbs 0).length ≤ 0 := by decide
  have hv : (Nt.limbs (xa + 0)).length ≤ 301 := Nt.len_add _ _ 300 (by omega) (by omega)
  go_wp2_with fail
  refine (add_ok na nz (by omega) (by omega) (by omega)).mono ?_
  rintro e w27 ⟨⟨vv, rfl, nv⟩, b27⟩
  replace na := na.on b27
  replace nb := nb.on b27
  replace nc := nc.on b27
  replace nbc := nbc.on b27
  replace np := np.on b27
  replace ns := ns.on b27
  replace nt := nt.on b27
  replace nu := nu.on b27
  replace none := none.on b27
  replace nnone := nnone.on b27
  replace nz := nz.on b27
  replace b27 := Kt.next b26 b27
  clear b26
  clear nz
  obtain ⟨Anone, cnone, rfl, _, _⟩ := num_ok nnone
  go_wp2_with fail
  refine (same_yes ns nu (by omega) (Nat.mul_add _ _ _)).mono ?_
  rintro e w28 ⟨rfl, b28⟩
  replace na := na.on b28
  replace nb := nb.on b28
  replace nc := nc.on b28
  replace nbc := nbc.on b28
  replace np := np.on b28
  replace ns := ns.on b28
  replace nt := nt.on b28
  replace nu := nu.on b28
  replace none := none.on b28
  replace nnone := nnone.on b28
  replace nv := nv.on b28
  replace b28 := Kt.next b27 b28
  clear b27
  go_wp2_with fail
  refine (same_yes none na (by omega) (Nat.mul_one _)).mono ?_
  rintro e w29 ⟨rfl, b29⟩
  replace na := na.on b29
  replace nb := nb.on b29
  replace nc := nc.on b29
  replace nbc := nbc.on b29
  replace np := np.on b29
  replace ns := ns.on b29
  replace nt := nt.on b29
  replace nu := nu.on b29
  replace none := none.on b29
  replace nnone := nnone.on b29
  replace nv := nv.on b29
  replace b29 := Kt.next b28 b29
  clear b28
  go_wp2_with fail
  refine (same_yes nv na (by omega) (Nat.add_zero _)).mono ?_
  rintro e w30 ⟨rfl, b30⟩
  replace na := na.on b30
  replace nb := nb.on b30
  replace nc := nc.on b30
  replace nbc := nbc.on b30
  replace np := np.on b30
  replace ns := ns.on b30
  replace nt := nt.on b30
  replace nu := nu.on b30
  replace none := none.on b30
  replace nnone := nnone.on b30
  replace nv := nv.on b30
  replace b30 := Kt.next b29 b30
  clear b29
  go_wp2
  go_ret
  exact ⟨rfl, b30⟩

end Go.Proofs.Ytfjdhclpcbgdbaa
