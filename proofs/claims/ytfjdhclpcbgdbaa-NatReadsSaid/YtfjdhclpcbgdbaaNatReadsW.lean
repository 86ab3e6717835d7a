/- The walk of NatReads. -/
import Derived.Test.YtfjdhclpcbgdbaaNatR
namespace Go.Proofs.Ytfjdhclpcbgdbaa
open Go Go.RowKit

set_option maxRecDepth 100000 in
set_option maxHeartbeats 4000000 in
theorem walk_NatReads (w : World) (Ax : Option Addr) (cx : Nat) (x : List Int) (lcx : x.length ≤ cx) (_mx : cx ≤ maxLen) (zx : Kt.Ints w w.heap.size .u32 Ax x) (wfx : ∀ i ∈ x, (Lit.int .u32 i).wf = true) (rx : x.length * 4 ≤ 140737488351232) (kx : Ax = none → cx = 0) (Ay : Option Addr) (cy : Nat) (y : List Int) (lcy : y.length ≤ cy) (_my : cy ≤ maxLen) (zy : Kt.Ints w w.heap.size .u32 Ay y) (wfy : ∀ i ∈ y, (Lit.int .u32 i).wf = true) (ry : y.length * 4 ≤ 140737488351232) (ky : Ay = none → cy = 0) :
    Calls Try.prog 6 #[.slice Ax x.length cx, .slice Ay y.length cy] w fun e w' => e = .returned (.bool true) ∧ Below w.heap.size w w' := by
  have okx := ok_of_wf wfx
  clear wfx
  have oky := ok_of_wf wfy
  clear wfy
  go_enter Try.func6, Try.ntmps6
  go_wp2_with fail
  refine (awake_any _).mono ?_
  rintro e w1 ⟨rfl, b1⟩
  replace zx := zx.on b1
  replace zy := zy.on b1
  go_wp2_with fail
  refine (number_any Ax _ cx x 200 _ rfl zx kx lcx okx rx (by omega)).mono ?_
  rintro e w2 ⟨va, xa, rfl, na, ha, b2⟩
  replace zx := zx.on b2
  replace zy := zy.on b2
  replace b2 := Kt.next b1 b2
  clear b1
  go_wp2_with fail
  refine (number_any Ay _ cy y 200 _ rfl zy ky lcy oky ry (by omega)).mono ?_
  rintro e w3 ⟨vb, xb, rfl, nb, hb, b3⟩
  replace na := na.on b3
  replace zy := zy.on b3
  replace b3 := Kt.next b2 b3
  clear b2
  obtain ⟨Aa, ca, rfl, _, _⟩ := num_ok na
  obtain ⟨S, hS⟩ : ∃ S, Hid (Lib.decDigits xa = S) := ⟨_, Lib.hid rfl⟩
  obtain ⟨T, hT⟩ : ∃ T, Hid (Lib.decDigits xb = T) := ⟨_, Lib.hid rfl⟩
  have hSl : S.length ≤ 1970 := by rw [← hS.out]; exact Nt.dec_short ha 70 1970 (by omega) (by omega)
  have hTl : T.length ≤ 1970 := by rw [← hT.out]; exact Nt.dec_short hb 70 1970 (by omega) (by omega)
  have HORD : Hid (S.length = T.length → Op.bytesLess S T = decide (xa < xb)) := Lib.hid (fun h => by rw [← hS.out, ← hT.out] at h ⊢; exact Nt.dec_order _ _ h)
  have HLT : Hid (S.length < T.length → xa < xb) := Lib.hid (fun h => by rw [← hS.out, ← hT.out] at h; exact Nt.dec_longer h)
  have HGT : Hid (T.length < S.length → xb < xa) := Lib.hid (fun h => by rw [← hS.out, ← hT.out] at h; exact Nt.dec_longer h)
  have HTEN : Hid (xa ≠ 0 → Lib.decDigits (xa * 10) = S ++ [48]) := Lib.hid (fun h => by rw [← hS.out]; exact Nt.dec_ten h)
  go_wp2_with fail
  refine (text_val na (by omega) hS.out).mono ?_
  rintro e w4 ⟨rfl, b4⟩
  replace na := na.on b4
  replace nb := nb.on b4
  replace b4 := Kt.next b3 b4
  clear b3
  go_wp2_with fail
  refine (text_val nb (by omega) hT.out).mono ?_
  rintro e w5 ⟨rfl, b5⟩
  replace na := na.on b5
  replace nb := nb.on b5
  replace b5 := Kt.next b4 b5
  clear b4
  go_wp2_with fail
  refine (read_val hS.out (by omega) (by omega)).mono ?_
  rintro e w6 ⟨⟨vk, rfl, nk⟩, b6⟩
  replace na := na.on b6
  replace nb := nb.on b6
  replace b6 := Kt.next b5 b6
  clear b5
  have hk : (Nt.limbs xa).length ≤ 200 := ha
  go_wp2_with fail
  refine (of_word 10 10 _ rfl (by omega)).mono ?_
  rintro e w7 ⟨⟨vo, rfl, no⟩, b7⟩
  replace na := na.on b7
  replace nb := nb.on b7
  replace nk := nk.on b7
  replace b7 := Kt.next b6 b7
  clear b6
  have ho : (Nt.limbs 10).length ≤ 1 := by decide
  have hten : (Nt.limbs (xa * 10)).length ≤ 201 := Nt.len_mul _ _ 200 1 (by omega) (by omega)
  go_wp2_with fail
  refine (mul_ok na no (by omega) (by omega) (by omega)).mono ?_
  rintro e w8 ⟨⟨vten, rfl, nten⟩, b8⟩
  replace na := na.on b8
  replace nb := nb.on b8
  replace nk := nk.on b8
  replace no := no.on b8
  replace b8 := Kt.next b7 b8
  clear b7
  clear no
  have h0 : xa = 0 ∨ 0 < xa := by omega
  rcases h0 with rfl | h0
  · -- zero
    have hU : Lib.decDigits (0 * 10) = [48] := by rw [Nat.zero_mul, Lib.decDigits_one (by omega)]; rfl
    have hU2 := Lib.hid hU
    clear hU
    go_wp2_with fail
    refine (text_val nten (by omega) hU2.out).mono ?_
    rintro e w9 ⟨rfl, b9⟩
    replace na := na.on b9
    replace nb := nb.on b9
    replace nk := nk.on b9
    replace nten := nten.on b9
    replace b9 := Kt.next b8 b9
    clear b8
    go_wp2_with fail
    refine (same_yes nk na (by omega) (rfl)).mono ?_
    rintro e w10 ⟨rfl, b10⟩
    replace na := na.on b10
    replace nb := nb.on b10
    replace nk := nk.on b10
    replace nten := nten.on b10
    replace b10 := Kt.next b9 b10
    clear b9
    have hl3 : S.length < T.length ∨ T.length < S.length ∨ S.length = T.length := by omega
    rcases hl3 with h3 | h3 | h3
    · -- lt
      have h4 := HLT.out h3
      have h5 : ((S.length : Int) != (T.length : Int)) = true := by rw [bne_iff_ne]; omega
      go_wp2_with fail
      refine (less_yes na nb (by omega) (by omega) h4).mono ?_
      rintro e w11 ⟨rfl, b11⟩
      replace na := na.on b11
      replace nb := nb.on b11
      replace nk := nk.on b11
      replace nten := nten.on b11
      replace b11 := Kt.next b10 b11
      clear b10
      go_wp2
      go_ret
      first | exact ⟨rfl, b11⟩ | exact ⟨Kt.ret_bool (by simp; omega), b11⟩
    · -- gt
      have h4 := HGT.out h3
      omega
    · -- eq
      have h4 := Lib.hid (HORD.out h3)
      have h5 : ((S.length : Int) != (T.length : Int)) = false := by rw [bne_eq_false_iff_eq]; omega
      clear h3
      go_wp2_with fail
      refine (less_num na nb (by omega) (by omega)).mono ?_
      rintro e w11 ⟨rfl, b11⟩
      replace na := na.on b11
      replace nb := nb.on b11
      replace nk := nk.on b11
      replace nten := nten.on b11
      replace b11 := Kt.next b10 b11
      clear b10
      go_wp2
      go_ret
      exact ⟨Kt.ret_bool (by rw [h4.out]; simp), b11⟩
  · -- pos
    have hcl : 0 < (Nt.limbs xa).length := by have := Nt.len_zero_iff xa; omega
    have hcb : (((Nt.limbs xa).length : Int) == 0) = false := beq_eq_false_iff_ne.2 (by omega)
    have HB := Lib.hid (Nt.ten_bytes (HTEN.out (by omega)))
    go_wp2_with fail
    refine (text_bytes nten (by omega) HB.out).mono ?_
    rintro e w9 ⟨rfl, b9⟩
    replace na := na.on b9
    replace nb := nb.on b9
    replace nk := nk.on b9
    replace nten := nten.on b9
    replace b9 := Kt.next b8 b9
    clear b8
    go_wp2_with fail
    refine (same_yes nk na (by omega) (rfl)).mono ?_
    rintro e w10 ⟨rfl, b10⟩
    replace na := na.on b10
    replace nb := nb.on b10
    replace nk := nk.on b10
    replace nten := nten.on b10
    replace b10 := Kt.next b9 b10
    clear b9
    have hl3 : S.length < T.length ∨ T.length < S.length ∨ S.length = T.length := by omega
    rcases hl3 with h3 | h3 | h3
    · -- lt
      have h4 := HLT.out h3
      have h5 : ((S.length : Int) != (T.length : Int)) = true := by rw [bne_iff_ne]; omega
      go_wp2_with fail
      refine (less_yes na nb (by omega) (by omega) h4).mono ?_
      rintro e w11 ⟨rfl, b11⟩
      replace na := na.on b11
      replace nb := nb.on b11
      replace nk := nk.on b11
      replace nten := nten.on b11
      replace b11 := Kt.next b10 b11
      clear b10
      go_wp2
      go_ret
      first | exact ⟨rfl, b11⟩ | exact ⟨Kt.ret_bool (by simp; omega), b11⟩
    · -- gt
      have h4 := HGT.out h3
      have h5 : ((S.length : Int) != (T.length : Int)) = true := by rw [bne_iff_ne]; omega
      go_wp2_with fail
      refine (less_not na nb (by omega) (by omega) (by omega)).mono ?_
      rintro e w11 ⟨rfl, b11⟩
      replace na := na.on b11
      replace nb := nb.on b11
      replace nk := nk.on b11
      replace nten := nten.on b11
      replace b11 := Kt.next b10 b11
      clear b10
      go_wp2
      go_ret
      first | exact ⟨rfl, b11⟩ | exact ⟨Kt.ret_bool (by simp; omega), b11⟩
    · -- eq
      have h4 := Lib.hid (HORD.out h3)
      have h5 : ((S.length : Int) != (T.length : Int)) = false := by rw [bne_eq_false_iff_eq]; omega
      clear h3
      go_wp2_with fail
      refine (less_num na nb (by omega) (by omega)).mono ?_
      rintro e w11 ⟨rfl, b11⟩
      replace na := na.on b11
      replace nb := nb.on b11
      replace nk := nk.on b11
      replace nten := nten.on b11
      replace b11 := Kt.next b10 b11
      clear b10
      go_wp2
      go_ret
      exact ⟨Kt.ret_bool (by rw [h4.out]; simp), b11⟩

end Go.Proofs.Ytfjdhclpcbgdbaa
