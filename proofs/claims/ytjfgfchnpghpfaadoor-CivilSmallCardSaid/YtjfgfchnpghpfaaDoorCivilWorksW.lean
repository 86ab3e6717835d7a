/- The walk of CivilWorks. -/
import Derived.Test.YtjfgfchnpghpfaaDoorCivQ
namespace Go.Proofs.YtjfgfchnpghpfaaDoor
open Go Go.RowKit

def FewPost (n : Nat) (e : Ending) : Prop := ∃ r : Bool, e = .returned (.bool r) ∧ (r = true → n ≤ 60)
theorem few_any (A : Option Addr) (n cp : Nat) (a b k : Int) (w : World) :
    Calls Tryd.prog 23 #[.slice A n cp, .int .i64 a, .int .i64 b, .int .i64 k] w fun e w' => FewPost n e ∧ w = w' := by
  by_cases h : n ≤ 60
  · go_enter Tryd.func23, Tryd.ntmps23
    go_wp2
    all_goals
      go_ret
      exact ⟨⟨_, rfl, fun _ => h⟩, rfl⟩
  · go_enter Tryd.func23, Tryd.ntmps23
    go_wp2
    all_goals
      go_ret
      exact ⟨⟨false, rfl, fun e => by cases e⟩, rfl⟩

set_option maxRecDepth 100000 in
set_option maxHeartbeats 8000000 in
theorem works_law (A : Option Addr) (n cp : Nat) (l : List Int) (a b k s u : Int) (w : World) (hl : l.length = n) (hm : n ≤ 4611686018427387904) (hz : Kt.Ints w w.heap.size .i64 A l) (hA : A = none → n = 0 ∧ cp = 0)
    (ik : k ≤ 9223372036854775807) (is0 : -9223372036854775808 ≤ s) (is1 : s ≤ 9223372036854775807) (iu0 : -9223372036854775808 ≤ u) (iu1 : u ≤ 9223372036854775807) :
    Calls Tryd.prog 6 #[.slice A n cp, .int .i64 a, .int .i64 b, .int .i64 k, .int .i64 s, .int .i64 u] w fun e w' => e = .returned (.bool true) ∧ Below w.heap.size w w' := by
  obtain ⟨wv, we, pw0, rw0⟩ := both_works l (by omega) a
  obtain ⟨bv, be, pb0, rb0⟩ := both_between l (by omega) a b
  obtain ⟨av, ae, pa0, ra0⟩ := both_ahead l (by omega) a k ik
  obtain ⟨yv, ye, py0, ry0⟩ := both_yearly a s u is0 is1 iu0 iu1
  have PW := Lib.hid pw0
  have RW := Lib.hid rw0
  have PB := Lib.hid pb0
  have RB := Lib.hid rb0
  have PA := Lib.hid pa0
  have RA := Lib.hid ra0
  have PY := Lib.hid py0
  have RY := Lib.hid ry0
  have HL := Lib.hid hl
  have HA := Lib.hid hA
  have HM := Lib.hid hm
  obtain ⟨rb, hrb⟩ : ∃ v, Hid (Cv.rightH l = v) := ⟨_, Lib.hid rfl⟩
  clear pw0 rw0 pb0 rb0 pa0 ra0 py0 ry0 hl hA ik is0 is1 iu0 iu1
  go_enter Tryd.func6, Tryd.ntmps6
  go_wp2_with fail
  refine (few_any A n cp a b k _).mono ?_
  rintro e w' ⟨⟨r, rfl, hr⟩, rfl⟩
  cases r
  · go_wp2
    go_ret
    exact ⟨rfl, Below.refl _ _⟩
  have hn := hr rfl
  clear hr
  go_wp2_with fail
  refine (lent_any A n cp l _ HL.out hz HA.out (by omega)).mono ?_
  rintro e w1 ⟨rfl, ho1, b1⟩
  have hz1 := hz.on b1
  have hi1 := own_ints ho1
  go_wp2_with fail
  refine (PW.out _ _ n (n + 12) HL.out hi1).mono ?_
  rintro e w2 ⟨rfl, c2⟩
  replace hz1 := hz1.on c2
  replace hi1 := hi1.on c2
  replace ho1 := ho1.on c2
  replace b1 := Kt.next b1 c2
  clear c2
  go_wp2_with fail
  refine (RW.out _ A n cp HL.out hz1).mono ?_
  rintro e w3 ⟨rfl, c2⟩
  replace hz1 := hz1.on c2
  replace hi1 := hi1.on c2
  replace ho1 := ho1.on c2
  replace b1 := Kt.next b1 c2
  clear c2
  go_wp2_with fail
  refine (right_any _ n (n + 12) l _ HL.out hi1 HM.out).mono ?_
  rw [hrb.out]
  rintro e w' ⟨rfl, rfl⟩
  go_wp2_with fail
  refine (rright_any A n cp l _ HL.out hz1 HM.out).mono ?_
  rw [hrb.out]
  rintro e w4 ⟨rfl, q, rfl⟩
  have c2 := Kt.below_of_drewN w3 q
  replace hz1 := hz1.on c2
  replace hi1 := hi1.on c2
  replace ho1 := ho1.on c2
  replace b1 := Kt.next b1 c2
  clear c2
  go_wp2_with fail
  refine (PB.out _ _ n (n + 12) HL.out hi1).mono ?_
  rintro e w5 ⟨rfl, c2⟩
  replace hz1 := hz1.on c2
  replace hi1 := hi1.on c2
  replace ho1 := ho1.on c2
  replace b1 := Kt.next b1 c2
  clear c2
  go_wp2_with fail
  refine (RB.out _ A n cp HL.out hz1).mono ?_
  rintro e w6 ⟨rfl, c2⟩
  replace hz1 := hz1.on c2
  replace hi1 := hi1.on c2
  replace ho1 := ho1.on c2
  replace b1 := Kt.next b1 c2
  clear c2
  go_wp2_with fail
  refine (PA.out _ _ n (n + 12) HL.out hi1).mono ?_
  rintro e w7 ⟨rfl, c2⟩
  replace hz1 := hz1.on c2
  replace hi1 := hi1.on c2
  replace ho1 := ho1.on c2
  replace b1 := Kt.next b1 c2
  clear c2
  go_wp2_with fail
  refine (RA.out _ A n cp HL.out hz1).mono ?_
  rintro e w8 ⟨rfl, c2⟩
  replace hz1 := hz1.on c2
  replace hi1 := hi1.on c2
  replace ho1 := ho1.on c2
  replace b1 := Kt.next b1 c2
  clear c2
  go_wp2_with fail
  refine (PY.out _).mono ?_
  rintro e w9 ⟨rfl, c2⟩
  replace hz1 := hz1.on c2
  replace hi1 := hi1.on c2
  replace ho1 := ho1.on c2
  replace b1 := Kt.next b1 c2
  clear c2
  go_wp2_with fail
  refine (RY.out _).mono ?_
  rintro e w10 ⟨rfl, c2⟩
  replace hz1 := hz1.on c2
  replace hi1 := hi1.on c2
  replace ho1 := ho1.on c2
  replace b1 := Kt.next b1 c2
  clear c2
  go_wp2_with fail
  refine (kept_any _ _ A n cp l _ HL.out ho1 hz1 (by omega)).mono ?_
  rintro e w11 ⟨rfl, q2, rfl⟩
  replace b1 := Kt.below_drewN b1 q2
  clear ho1 hz1 hi1
  go_wp2
  go_ret
  exact ⟨rfl, b1⟩

end Go.Proofs.YtjfgfchnpghpfaaDoor
