/- The walk of NatDivides. -/
import Derived.Test.YtfjdhclpcbgdbaaNatM
import Derived.Test.YtfjdhclpcbgdbaaNatKu
namespace Go.Proofs.Ytfjdhclpcbgdbaa
open Go Go.RowKit

set_option maxRecDepth 100000 in
set_option maxHeartbeats 4000000 in
theorem walk_NatDivides (w : World) (Ax : Option Addr) (cx : Nat) (x : List Int) (lcx : x.length ≤ cx) (_mx : cx ≤ maxLen) (zx : Kt.Ints w w.heap.size .u32 Ax x) (wfx : ∀ i ∈ x, (Lit.int .u32 i).wf = true) (rx : x.length * 4 ≤ 140737488351232) (kx : Ax = none → cx = 0) (Ay : Option Addr) (cy : Nat) (y : List Int) (lcy : y.length ≤ cy) (_my : cy ≤ maxLen) (zy : Kt.Ints w w.heap.size .u32 Ay y) (wfy : ∀ i ∈ y, (Lit.int .u32 i).wf = true) (ry : y.length * 4 ≤ 140737488351232) (ky : Ay = none → cy = 0) :
    Calls Try.prog 8 #[.slice Ax x.length cx, .slice Ay y.length cy] w fun e w' => e = .returned (.bool true) ∧ Below w.heap.size w w' := by
  have okx := ok_of_wf wfx
  clear wfx
  have oky := ok_of_wf wfy
  clear wfy
  go_enter Try.func8, Try.ntmps8
  go_wp2_with fail
  refine (awake_any _).mono ?_
  rintro e w1 ⟨rfl, b1⟩
  replace zx := zx.on b1
  replace zy := zy.on b1
  go_wp2_with fail
  refine (number_any Ax _ cx x 1024 _ rfl zx kx lcx okx rx (by omega)).mono ?_
  rintro e w2 ⟨va, xa, rfl, na, ha, b2⟩
  replace zx := zx.on b2
  replace zy := zy.on b2
  replace b2 := Kt.next b1 b2
  clear b1
  go_wp2_with fail
  refine (number_any Ay _ cy y 1024 _ rfl zy ky lcy oky ry (by omega)).mono ?_
  rintro e w3 ⟨vb, xb, rfl, nb, hb, b3⟩
  replace na := na.on b3
  replace zy := zy.on b3
  replace b3 := Kt.next b2 b3
  clear b2
  obtain ⟨Ab, cb, rfl, _, _⟩ := num_ok nb
  rcases Nat.eq_zero_or_pos xb with rfl | hpos
  · -- zero
    go_wp2_with fail
    refine (dm_zero na nb (by omega)).mono ?_
    rintro e w' ⟨rfl, rfl⟩
    go_wp2
    go_ret
    exact ⟨rfl, b3⟩
  · -- positive
    have hcl : 0 < (Nt.limbs xb).length := by have := Nt.len_zero_iff xb; omega
    have hcb : (((Nt.limbs xb).length : Int) == 0) = false := beq_eq_false_iff_ne.2 (by omega)
    have hml := Nat.mod_lt xa hpos
    have hdm := Nat.div_add_mod xa xb
    have hle : xa / xb * xb ≤ xa := Nat.div_mul_le_self _ _
    rw [Nat.mul_comm] at hdm
    obtain ⟨xq, hxq⟩ : ∃ q, Hid (xa / xb = q) := ⟨_, Lib.hid rfl⟩
    obtain ⟨xr, hxr⟩ : ∃ r, Hid (xa % xb = r) := ⟨_, Lib.hid rfl⟩
    rw [hxr.out] at hml hdm
    rw [hxq.out] at hdm hle
    have hq : (Nt.limbs xq).length ≤ 1024 := by rw [← hxq.out]; exact Nt.len_div _ _ _ ha
    have hr : (Nt.limbs xr).length ≤ 1024 := by rw [← hxr.out]; exact Nt.len_mod _ _ _ ha
    have hm : (Nt.limbs (xq * xb)).length ≤ 1024 := Nat.le_trans (Nt.len_mono hle) ha
    have hn : (Nt.limbs (xq * xb + xr)).length ≤ 1024 := by rw [hdm]; exact ha
    have HDM := Lib.hid hdm
    clear hdm hle
    go_wp2_with fail
    refine (dm_num na nb (by omega) (by omega) (by omega)).mono ?_
    rintro e w4 ⟨vq, vr, rfl, nq, nr, b4⟩
    rw [hxq.out] at nq
    rw [hxr.out] at nr
    replace na := na.on b4
    replace nb := nb.on b4
    replace b4 := Kt.next b3 b4
    clear b3
    go_wp2_with fail
    refine (mul_ok nq nb (by omega) (by omega) (by omega)).mono ?_
    rintro e w5 ⟨⟨vm, rfl, nm⟩, b5⟩
    replace na := na.on b5
    replace nb := nb.on b5
    replace nq := nq.on b5
    replace nr := nr.on b5
    replace b5 := Kt.next b4 b5
    clear b4
    go_wp2_with fail
    refine (add_ok nm nr (by omega) (by omega) (by omega)).mono ?_
    rintro e w6 ⟨⟨vn, rfl, nn⟩, b6⟩
    replace na := na.on b6
    replace nb := nb.on b6
    replace nq := nq.on b6
    replace nr := nr.on b6
    replace nm := nm.on b6
    replace b6 := Kt.next b5 b6
    clear b5
    go_wp2_with fail
    refine (right_yes nq (by omega)).mono ?_
    rintro e w7 ⟨rfl, b7⟩
    replace na := na.on b7
    replace nb := nb.on b7
    replace nq := nq.on b7
    replace nr := nr.on b7
    replace nm := nm.on b7
    replace nn := nn.on b7
    replace b7 := Kt.next b6 b7
    clear b6
    go_wp2_with fail
    refine (right_yes nr (by omega)).mono ?_
    rintro e w8 ⟨rfl, b8⟩
    replace na := na.on b8
    replace nb := nb.on b8
    replace nq := nq.on b8
    replace nr := nr.on b8
    replace nm := nm.on b8
    replace nn := nn.on b8
    replace b8 := Kt.next b7 b8
    clear b7
    go_wp2_with fail
    refine (less_yes nr nb (by omega) (by omega) hml).mono ?_
    rintro e w9 ⟨rfl, b9⟩
    replace na := na.on b9
    replace nb := nb.on b9
    replace nq := nq.on b9
    replace nr := nr.on b9
    replace nm := nm.on b9
    replace nn := nn.on b9
    replace b9 := Kt.next b8 b9
    clear b8
    go_wp2_with fail
    refine (same_yes nn na (by omega) (HDM.out)).mono ?_
    rintro e w10 ⟨rfl, b10⟩
    replace na := na.on b10
    replace nb := nb.on b10
    replace nq := nq.on b10
    replace nr := nr.on b10
    replace nm := nm.on b10
    replace nn := nn.on b10
    replace b10 := Kt.next b9 b10
    clear b9
    go_wp2
    go_ret
    exact ⟨rfl, b10⟩

end Go.Proofs.Ytfjdhclpcbgdbaa
