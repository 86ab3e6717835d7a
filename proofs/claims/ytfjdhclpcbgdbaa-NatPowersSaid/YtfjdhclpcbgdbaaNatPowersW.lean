/- The walk of NatPowers. -/
import Derived.Test.YtfjdhclpcbgdbaaNatM
namespace Go.Proofs.Ytfjdhclpcbgdbaa
open Go Go.RowKit

set_option maxRecDepth 100000 in
set_option maxHeartbeats 4000000 in
theorem walk_NatPowers (w : World) (Ax : Option Addr) (cx : Nat) (x : List Int) (lcx : x.length ≤ cx) (_mx : cx ≤ maxLen) (zx : Kt.Ints w w.heap.size .u32 Ax x) (wfx : ∀ i ∈ x, (Lit.int .u32 i).wf = true) (rx : x.length * 4 ≤ 140737488351232) (kx : Ax = none → cx = 0) (Ay : Option Addr) (cy : Nat) (y : List Int) (lcy : y.length ≤ cy) (_my : cy ≤ maxLen) (zy : Kt.Ints w w.heap.size .u32 Ay y) (wfy : ∀ i ∈ y, (Lit.int .u32 i).wf = true) (ry : y.length * 4 ≤ 140737488351232) (ky : Ay = none → cy = 0) (m : Int) (wfm : (Lit.int .u8 m).wf = true) (n : Int) (wfn : (Lit.int .u8 n).wf = true) :
    Calls Try.prog 4 #[.slice Ax x.length cx, .slice Ay y.length cy, .int .u8 m, .int .u8 n] w fun e w' => e = .returned (.bool true) ∧ Below w.heap.size w w' := by
  have okx := ok_of_wf wfx
  clear wfx
  have oky := ok_of_wf wfy
  clear wfy
  obtain ⟨m0, m1⟩ := bd_u8 wfm
  clear wfm
  obtain ⟨n0, n1⟩ := bd_u8 wfn
  clear wfn
  go_enter Try.func4, Try.ntmps4
  obtain ⟨i, hi⟩ : ∃ i : Nat, Hid (m % 21 = (i : Int)) := ⟨(m % 21).toNat, Lib.hid (by omega)⟩
  obtain ⟨k, hk⟩ : ∃ i : Nat, Hid (n % 21 = (i : Int)) := ⟨(n % 21).toNat, Lib.hid (by omega)⟩
  have hi2 : i ≤ 20 := by have := hi.out; omega
  have hk2 : k ≤ 20 := by have := hk.out; omega
  go_wp2_with fail
  refine (awake_any _).mono ?_
  rintro e w1 ⟨rfl, b1⟩
  replace zx := zx.on b1
  replace zy := zy.on b1
  go_wp2_with fail
  refine (number_any Ax _ cx x 8 _ rfl zx kx lcx okx rx (by omega)).mono ?_
  rintro e w2 ⟨va, xa, rfl, na, ha, b2⟩
  replace zx := zx.on b2
  replace zy := zy.on b2
  replace b2 := Kt.next b1 b2
  clear b1
  go_wp2_with fail
  refine (number_any Ay _ cy y 8 _ rfl zy ky lcy oky ry (by omega)).mono ?_
  rintro e w3 ⟨vb, xb, rfl, nb, hb, b3⟩
  replace na := na.on b3
  replace zy := zy.on b3
  replace b3 := Kt.next b2 b3
  clear b2
  have hp : (Nt.limbs (xa ^ (i))).length ≤ 161 := Nat.le_trans (Nt.len_pow xa 8 (i) (by omega)) (by omega)
  go_wp2_with fail
  refine (pow_val (k := i) _ na (by omega) (by omega) (by omega) (hi.out)).mono ?_
  rintro e w4 ⟨⟨vp, rfl, np⟩, b4⟩
  replace na := na.on b4
  replace nb := nb.on b4
  replace b4 := Kt.next b3 b4
  clear b3
  have hq : (Nt.limbs (xa ^ (k))).length ≤ 161 := Nat.le_trans (Nt.len_pow xa 8 (k) (by omega)) (by omega)
  go_wp2_with fail
  refine (pow_val (k := k) _ na (by omega) (by omega) (by omega) (hk.out)).mono ?_
  rintro e w5 ⟨⟨vq, rfl, nq⟩, b5⟩
  replace na := na.on b5
  replace nb := nb.on b5
  replace np := np.on b5
  replace b5 := Kt.next b4 b5
  clear b4
  have hbo : (Nt.limbs ((xa ^ (i)) * (xa ^ (k)))).length ≤ 322 := Nt.len_mul _ _ 161 161 (by omega) (by omega)
  go_wp2_with fail
  refine (mul_ok np nq (by omega) (by omega) (by omega)).mono ?_
  rintro e w6 ⟨⟨vbo, rfl, nbo⟩, b6⟩
  replace na := na.on b6
  replace nb := nb.on b6
  replace np := np.on b6
  replace nq := nq.on b6
  replace b6 := Kt.next b5 b6
  clear b5
  have hsu : (Nt.limbs (xa ^ (i + k))).length ≤ 321 := Nat.le_trans (Nt.len_pow xa 8 (i + k) (by omega)) (by omega)
  go_wp2_with fail
  refine (pow_val (k := i + k) _ na (by omega) (by omega) (by omega) (by have := hi.out; have := hk.out; omega)).mono ?_
  rintro e w7 ⟨⟨vsu, rfl, nsu⟩, b7⟩
  replace na := na.on b7
  replace nb := nb.on b7
  replace np := np.on b7
  replace nq := nq.on b7
  replace nbo := nbo.on b7
  replace b7 := Kt.next b6 b7
  clear b6
  go_wp2_with fail
  refine (same_yes nbo nsu (by omega) ((Nat.pow_add _ _ _).symm)).mono ?_
  rintro e w8 ⟨rfl, b8⟩
  replace na := na.on b8
  replace nb := nb.on b8
  replace np := np.on b8
  replace nq := nq.on b8
  replace nbo := nbo.on b8
  replace nsu := nsu.on b8
  replace b8 := Kt.next b7 b8
  clear b7
  clear nbo
  clear nsu
  clear nq
  have hab : (Nt.limbs (xa * xb)).length ≤ 16 := Nt.len_mul _ _ 8 8 (by omega) (by omega)
  go_wp2_with fail
  refine (mul_ok na nb (by omega) (by omega) (by omega)).mono ?_
  rintro e w9 ⟨⟨vab, rfl, nab⟩, b9⟩
  replace na := na.on b9
  replace nb := nb.on b9
  replace np := np.on b9
  replace b9 := Kt.next b8 b9
  clear b8
  have hr : (Nt.limbs ((xa * xb) ^ (i))).length ≤ 321 := Nat.le_trans (Nt.len_pow (xa * xb) 16 (i) (by omega)) (by omega)
  go_wp2_with fail
  refine (pow_val (k := i) _ nab (by omega) (by omega) (by omega) (hi.out)).mono ?_
  rintro e w10 ⟨⟨vr, rfl, nr⟩, b10⟩
  replace na := na.on b10
  replace nb := nb.on b10
  replace np := np.on b10
  replace nab := nab.on b10
  replace b10 := Kt.next b9 b10
  clear b9
  have hs : (Nt.limbs (xb ^ (i))).length ≤ 161 := Nat.le_trans (Nt.len_pow xb 8 (i) (by omega)) (by omega)
  go_wp2_with fail
  refine (pow_val (k := i) _ nb (by omega) (by omega) (by omega) (hi.out)).mono ?_
  rintro e w11 ⟨⟨vs, rfl, ns⟩, b11⟩
  replace na := na.on b11
  replace nb := nb.on b11
  replace np := np.on b11
  replace nab := nab.on b11
  replace nr := nr.on b11
  replace b11 := Kt.next b10 b11
  clear b10
  have ht : (Nt.limbs ((xa ^ (i)) * (xb ^ (i)))).length ≤ 322 := Nt.len_mul _ _ 161 161 (by omega) (by omega)
  go_wp2_with fail
  refine (mul_ok np ns (by omega) (by omega) (by omega)).mono ?_
  rintro e w12 ⟨⟨vt, rfl, nt⟩, b12⟩
  replace na := na.on b12
  replace nb := nb.on b12
  replace np := np.on b12
  replace nab := nab.on b12
  replace nr := nr.on b12
  replace ns := ns.on b12
  replace b12 := Kt.next b11 b12
  clear b11
  go_wp2_with fail
  refine (same_yes nr nt (by omega) (Nat.mul_pow _ _ _)).mono ?_
  rintro e w13 ⟨rfl, b13⟩
  replace na := na.on b13
  replace nb := nb.on b13
  replace np := np.on b13
  replace nab := nab.on b13
  replace nr := nr.on b13
  replace ns := ns.on b13
  replace nt := nt.on b13
  replace b13 := Kt.next b12 b13
  clear b12
  go_wp2
  go_ret
  exact ⟨rfl, b13⟩

end Go.Proofs.Ytfjdhclpcbgdbaa
