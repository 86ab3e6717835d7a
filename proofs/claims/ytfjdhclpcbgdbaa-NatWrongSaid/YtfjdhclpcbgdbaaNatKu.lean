/- What DivMod of the number package returns, for every divisor; and where it refuses. -/
import Derived.Test.YtfjdhclpcbgdbaaNatKt
namespace Go.Proofs.Ytfjdhclpcbgdbaa
open Go Go.RowKit
theorem dm_num {w : World} {l1 l2 : Nat} {u v : Value} {x y : Nat} (hx : Kt.Num w l1 u x) (hy : Kt.Num w l2 v y) (h1 : (Nt.limbs x).length ≤ 1024) (h2 : (Nt.limbs y).length ≤ 1024) (hy0 : y ≠ 0) :
    Calls Try.prog 24 #[u, v] w (GotDM w x y) := by
  obtain ⟨A, ca, rfl, _, _, _⟩ := hx.ints
  obtain ⟨B, cb, rfl, _, _, _⟩ := hy.ints
  rcases Nat.lt_or_ge x y with h | h
  · exact dm_less x y l1 l2 A B _ _ ca cb w hx hy rfl rfl h1 h2 h
  · have h3 : (Nt.limbs y).length ≠ 0 := fun e => hy0 ((Nt.len_zero_iff y).1 e)
    by_cases h4 : (Nt.limbs y).length = 1
    · rw [h4] at hy ⊢
      exact dm_one x y l1 l2 A B _ ca cb w hx hy rfl h4 h1 h
    · exact dm_many x y l1 l2 A B _ _ ca cb w hx hy rfl rfl h1 (by omega) h
theorem right_yes {w : World} {l1 : Nat} {u : Value} {x : Nat} (hx : Kt.Num w l1 u x) (h1 : (Nt.limbs x).length ≤ 1024) :
    Calls Try.prog 25 #[u] w fun e w' => e = .returned (.bool true) ∧ Below w.heap.size w w' := by
  obtain ⟨A, ca, rfl, _, _, ha⟩ := hx.ints
  refine (right_any A _ ca _ w rfl ha (by omega)).mono ?_
  rw [num_right h1]
  rintro e w' ⟨rfl, rfl⟩
  exact ⟨rfl, Below.refl _ _⟩
/-- By no limb at all: an error. -/
theorem dm_zero {w : World} {l1 l2 : Nat} {u v : Value} {x : Nat} (hx : Kt.Num w l1 u x) (hy : Kt.Num w l2 v 0) (h1 : (Nt.limbs x).length ≤ 1024) :
    Calls Try.prog 24 #[u, v] w fun e w' => e = .returned (.tuple #[.slice none 0 0, .slice none 0 0, .int .i64 2]) ∧ w = w' := by
  obtain ⟨A, ca, rfl, _, _, ha⟩ := hx.ints
  obtain ⟨B, cb, rfl, _, _, hb⟩ := hy.ints
  have hl0 : (Nt.limbs 0).length = 0 := rfl
  have HR1 := Lib.hid (num_right (x := x) (by omega))
  have HR2 := Lib.hid (num_right (x := 0) (by omega))
  rw [hl0]
  obtain ⟨n, hn⟩ : ∃ n, Hid ((Nt.limbs x).length = n) := ⟨_, Lib.hid rfl⟩
  rw [hn.out] at h1 ⊢
  clear hx hy hl0
  go_enter Try.func24, Try.ntmps24
  go_wp2_with fail
  refine (right_any A n ca _ _ hn.out ha (by omega)).mono ?_
  rw [HR1.out]
  rintro e w' ⟨rfl, rfl⟩
  go_wp2_with fail
  refine (right_any B 0 cb _ _ rfl hb (by omega)).mono ?_
  rw [HR2.out]
  rintro e w' ⟨rfl, rfl⟩
  go_wp2
  go_ret3
  exact ⟨rfl, rfl⟩
end Go.Proofs.Ytfjdhclpcbgdbaa
