/- What the number package's functions return for limbs that are no number. (Written by gen_bad.py.) -/
import Derived.Test.YtfjdhclpcbgdbaaNatKu
import Derived.Test.YtfjdhclpcbgdbaaNatI
import Derived.Test.YtfjdhclpcbgdbaaNatH
namespace Go.Proofs.Ytfjdhclpcbgdbaa
open Go Go.RowKit
section
variable {w : World} {l1 l2 : Nat} {u v : Value} {a b : List Int}
theorem cmp_bad (hx : Kt.Row w l1 .u32 u a) (hy : Kt.Row w l2 .u32 v b) (hr : rightB a = false ∨ (rightB a = true ∧ rightB b = false)) (h1 : a.length ≤ 4096) (h2 : b.length ≤ 4096) :
    Calls Try.prog 26 #[u, v] w fun e w' => e = .returned (.tuple #[.int .i64 0, .int .i64 2]) ∧ w = w' := by
  obtain ⟨A, ca, rfl, _, _, ha⟩ := hx.ints
  obtain ⟨B, cb, rfl, _, _, hb⟩ := hy.ints
  obtain ⟨n, hn⟩ : ∃ n, Hid (a.length = n) := ⟨_, Lib.hid rfl⟩
  obtain ⟨m, hm⟩ : ∃ n, Hid (b.length = n) := ⟨_, Lib.hid rfl⟩
  rw [hn.out] at h1 ⊢
  rw [hm.out] at h2 ⊢
  clear hx hy
  rcases hr with hr | ⟨hr, hs⟩
  · have HR := Lib.hid hr
    clear hr
    go_enter Try.func26, Try.ntmps26
    go_wp2_with fail
    refine (right_any A n ca a _ hn.out ha (by omega)).mono ?_
    rw [HR.out]
    rintro e w' ⟨rfl, rfl⟩
    go_wp2
    go_ret2
    exact ⟨rfl, rfl⟩
  · have HR := Lib.hid hr
    have HS := Lib.hid hs
    clear hr hs
    go_enter Try.func26, Try.ntmps26
    go_wp2_with fail
    refine (right_any A n ca a _ hn.out ha (by omega)).mono ?_
    rw [HR.out]
    rintro e w' ⟨rfl, rfl⟩
    go_wp2_with fail
    refine (right_any B m cb b _ hm.out hb (by omega)).mono ?_
    rw [HS.out]
    rintro e w' ⟨rfl, rfl⟩
    go_wp2
    go_ret2
    exact ⟨rfl, rfl⟩
theorem add_bad (hx : Kt.Row w l1 .u32 u a) (hy : Kt.Row w l2 .u32 v b) (hr : rightB a = false ∨ (rightB a = true ∧ rightB b = false)) (h1 : a.length ≤ 4096) (h2 : b.length ≤ 4096) :
    Calls Try.prog 22 #[u, v] w fun e w' => e = .returned (.tuple #[.slice none 0 0, .int .i64 2]) ∧ w = w' := by
  obtain ⟨A, ca, rfl, _, _, ha⟩ := hx.ints
  obtain ⟨B, cb, rfl, _, _, hb⟩ := hy.ints
  obtain ⟨n, hn⟩ : ∃ n, Hid (a.length = n) := ⟨_, Lib.hid rfl⟩
  obtain ⟨m, hm⟩ : ∃ n, Hid (b.length = n) := ⟨_, Lib.hid rfl⟩
  rw [hn.out] at h1 ⊢
  rw [hm.out] at h2 ⊢
  clear hx hy
  rcases hr with hr | ⟨hr, hs⟩
  · have HR := Lib.hid hr
    clear hr
    go_enter Try.func22, Try.ntmps22
    go_wp2_with fail
    refine (right_any A n ca a _ hn.out ha (by omega)).mono ?_
    rw [HR.out]
    rintro e w' ⟨rfl, rfl⟩
    go_wp2
    go_ret2
    exact ⟨rfl, rfl⟩
  · have HR := Lib.hid hr
    have HS := Lib.hid hs
    clear hr hs
    go_enter Try.func22, Try.ntmps22
    go_wp2_with fail
    refine (right_any A n ca a _ hn.out ha (by omega)).mono ?_
    rw [HR.out]
    rintro e w' ⟨rfl, rfl⟩
    go_wp2_with fail
    refine (right_any B m cb b _ hm.out hb (by omega)).mono ?_
    rw [HS.out]
    rintro e w' ⟨rfl, rfl⟩
    go_wp2
    go_ret2
    exact ⟨rfl, rfl⟩
theorem sub_bad (hx : Kt.Row w l1 .u32 u a) (hy : Kt.Row w l2 .u32 v b) (hr : rightB a = false ∨ (rightB a = true ∧ rightB b = false)) (h1 : a.length ≤ 4096) (h2 : b.length ≤ 4096) :
    Calls Try.prog 23 #[u, v] w fun e w' => e = .returned (.tuple #[.slice none 0 0, .int .i64 2]) ∧ w = w' := by
  obtain ⟨A, ca, rfl, _, _, ha⟩ := hx.ints
  obtain ⟨B, cb, rfl, _, _, hb⟩ := hy.ints
  obtain ⟨n, hn⟩ : ∃ n, Hid (a.length = n) := ⟨_, Lib.hid rfl⟩
  obtain ⟨m, hm⟩ : ∃ n, Hid (b.length = n) := ⟨_, Lib.hid rfl⟩
  rw [hn.out] at h1 ⊢
  rw [hm.out] at h2 ⊢
  clear hx hy
  rcases hr with hr | ⟨hr, hs⟩
  · have HR := Lib.hid hr
    clear hr
    go_enter Try.func23, Try.ntmps23
    go_wp2_with fail
    refine (right_any A n ca a _ hn.out ha (by omega)).mono ?_
    rw [HR.out]
    rintro e w' ⟨rfl, rfl⟩
    go_wp2
    go_ret2
    exact ⟨rfl, rfl⟩
  · have HR := Lib.hid hr
    have HS := Lib.hid hs
    clear hr hs
    go_enter Try.func23, Try.ntmps23
    go_wp2_with fail
    refine (right_any A n ca a _ hn.out ha (by omega)).mono ?_
    rw [HR.out]
    rintro e w' ⟨rfl, rfl⟩
    go_wp2_with fail
    refine (right_any B m cb b _ hm.out hb (by omega)).mono ?_
    rw [HS.out]
    rintro e w' ⟨rfl, rfl⟩
    go_wp2
    go_ret2
    exact ⟨rfl, rfl⟩
theorem mul_bad (hx : Kt.Row w l1 .u32 u a) (hy : Kt.Row w l2 .u32 v b) (hr : rightB a = false ∨ (rightB a = true ∧ rightB b = false)) (h1 : a.length ≤ 4096) (h2 : b.length ≤ 4096) :
    Calls Try.prog 16 #[u, v] w fun e w' => e = .returned (.tuple #[.slice none 0 0, .int .i64 2]) ∧ w = w' := by
  obtain ⟨A, ca, rfl, _, _, ha⟩ := hx.ints
  obtain ⟨B, cb, rfl, _, _, hb⟩ := hy.ints
  obtain ⟨n, hn⟩ : ∃ n, Hid (a.length = n) := ⟨_, Lib.hid rfl⟩
  obtain ⟨m, hm⟩ : ∃ n, Hid (b.length = n) := ⟨_, Lib.hid rfl⟩
  rw [hn.out] at h1 ⊢
  rw [hm.out] at h2 ⊢
  clear hx hy
  rcases hr with hr | ⟨hr, hs⟩
  · have HR := Lib.hid hr
    clear hr
    go_enter Try.func16, Try.ntmps16
    go_wp2_with fail
    refine (right_any A n ca a _ hn.out ha (by omega)).mono ?_
    rw [HR.out]
    rintro e w' ⟨rfl, rfl⟩
    go_wp2
    go_ret2
    exact ⟨rfl, rfl⟩
  · have HR := Lib.hid hr
    have HS := Lib.hid hs
    clear hr hs
    go_enter Try.func16, Try.ntmps16
    go_wp2_with fail
    refine (right_any A n ca a _ hn.out ha (by omega)).mono ?_
    rw [HR.out]
    rintro e w' ⟨rfl, rfl⟩
    go_wp2_with fail
    refine (right_any B m cb b _ hm.out hb (by omega)).mono ?_
    rw [HS.out]
    rintro e w' ⟨rfl, rfl⟩
    go_wp2
    go_ret2
    exact ⟨rfl, rfl⟩
theorem dm_bad (hx : Kt.Row w l1 .u32 u a) (hy : Kt.Row w l2 .u32 v b) (hr : rightB a = false ∨ (rightB a = true ∧ rightB b = false)) (h1 : a.length ≤ 4096) (h2 : b.length ≤ 4096) :
    Calls Try.prog 24 #[u, v] w fun e w' => e = .returned (.tuple #[.slice none 0 0, .slice none 0 0, .int .i64 2]) ∧ w = w' := by
  obtain ⟨A, ca, rfl, _, _, ha⟩ := hx.ints
  obtain ⟨B, cb, rfl, _, _, hb⟩ := hy.ints
  obtain ⟨n, hn⟩ : ∃ n, Hid (a.length = n) := ⟨_, Lib.hid rfl⟩
  obtain ⟨m, hm⟩ : ∃ n, Hid (b.length = n) := ⟨_, Lib.hid rfl⟩
  rw [hn.out] at h1 ⊢
  rw [hm.out] at h2 ⊢
  clear hx hy
  rcases hr with hr | ⟨hr, hs⟩
  · have HR := Lib.hid hr
    clear hr
    go_enter Try.func24, Try.ntmps24
    go_wp2_with fail
    refine (right_any A n ca a _ hn.out ha (by omega)).mono ?_
    rw [HR.out]
    rintro e w' ⟨rfl, rfl⟩
    go_wp2
    go_ret3
    exact ⟨rfl, rfl⟩
  · have HR := Lib.hid hr
    have HS := Lib.hid hs
    clear hr hs
    go_enter Try.func24, Try.ntmps24
    go_wp2_with fail
    refine (right_any A n ca a _ hn.out ha (by omega)).mono ?_
    rw [HR.out]
    rintro e w' ⟨rfl, rfl⟩
    go_wp2_with fail
    refine (right_any B m cb b _ hm.out hb (by omega)).mono ?_
    rw [HS.out]
    rintro e w' ⟨rfl, rfl⟩
    go_wp2
    go_ret3
    exact ⟨rfl, rfl⟩
theorem uint_bad (hx : Kt.Row w l1 .u32 u a) (hr : rightB a = false) (h1 : a.length ≤ 4096) :
    Calls Try.prog 27 #[u] w fun e w' => e = .returned (.tuple #[.int .u64 0, .bool false]) ∧ w = w' := by
  obtain ⟨A, ca, rfl, _, _, ha⟩ := hx.ints
  obtain ⟨n, hn⟩ : ∃ n, Hid (a.length = n) := ⟨_, Lib.hid rfl⟩
  rw [hn.out] at h1 ⊢
  clear hx
  have HR := Lib.hid hr
  clear hr
  go_enter Try.func27, Try.ntmps27
  go_wp2_with fail
  refine (right_any A n ca a _ hn.out ha (by omega)).mono ?_
  rw [HR.out]
  rintro e w' ⟨rfl, rfl⟩
  go_wp2
  go_ret2
  exact ⟨rfl, rfl⟩
theorem pow_bad (hx : Kt.Row w l1 .u32 u a) (hr : rightB a = false) (h1 : a.length ≤ 4096) :
    Calls Try.prog 15 #[u, .int .i64 0] w fun e w' => e = .returned (.tuple #[.slice none 0 0, .int .i64 2]) ∧ w = w' := by
  obtain ⟨A, ca, rfl, _, _, ha⟩ := hx.ints
  obtain ⟨n, hn⟩ : ∃ n, Hid (a.length = n) := ⟨_, Lib.hid rfl⟩
  rw [hn.out] at h1 ⊢
  clear hx
  have HR := Lib.hid hr
  clear hr
  go_enter Try.func15, Try.ntmps15
  go_wp2_with fail
  refine (right_any A n ca a _ hn.out ha (by omega)).mono ?_
  rw [HR.out]
  rintro e w' ⟨rfl, rfl⟩
  go_wp2
  go_ret2
  exact ⟨rfl, rfl⟩
theorem text_bad (hx : Kt.Row w l1 .u32 u a) (hr : rightB a = false) (h1 : a.length ≤ 4096) :
    Calls Try.prog 18 #[u] w fun e w' => e = .returned (.tuple #[.string ⟨#[]⟩, .int .i64 2]) ∧ w = w' := by
  obtain ⟨A, ca, rfl, _, _, ha⟩ := hx.ints
  obtain ⟨n, hn⟩ : ∃ n, Hid (a.length = n) := ⟨_, Lib.hid rfl⟩
  rw [hn.out] at h1 ⊢
  clear hx
  have HR := Lib.hid hr
  clear hr
  go_enter Try.func18, Try.ntmps18
  go_wp2_with fail
  refine (right_any A n ca a _ hn.out ha (by omega)).mono ?_
  rw [HR.out]
  rintro e w' ⟨rfl, rfl⟩
  go_wp2
  go_ret2
  exact ⟨rfl, rfl⟩
theorem right_bad (hx : Kt.Row w l1 .u32 u a) (h1 : a.length ≤ 4096) :
    Calls Try.prog 25 #[u] w fun e w' => e = .returned (.bool (rightB a)) ∧ w = w' := by
  obtain ⟨A, ca, rfl, _, _, ha⟩ := hx.ints
  exact right_any A _ ca a w rfl ha (by omega)
end
/-- A power with an exponent below zero. -/
theorem pow_less {w : World} {l1 : Nat} {u : Value} {x : Nat} (n : Int) (hx : Kt.Num w l1 u x) (h1 : (Nt.limbs x).length ≤ 1024) (hn : n < 0) :
    Calls Try.prog 15 #[u, .int .i64 n] w fun e w' => e = .returned (.tuple #[.slice none 0 0, .int .i64 2]) ∧ w = w' := by
  obtain ⟨A, ca, rfl, _, _, ha⟩ := hx.ints
  have HR := Lib.hid (num_right h1)
  obtain ⟨m, hm⟩ : ∃ n, Hid ((Nt.limbs x).length = n) := ⟨_, Lib.hid rfl⟩
  rw [hm.out] at h1 ⊢
  clear hx
  go_enter Try.func15, Try.ntmps15
  go_wp2_with fail
  refine (right_any A m ca _ _ hm.out ha (by omega)).mono ?_
  rw [HR.out]
  rintro e w' ⟨rfl, rfl⟩
  go_wp2
  go_ret2
  exact ⟨rfl, rfl⟩
end Go.Proofs.Ytfjdhclpcbgdbaa
