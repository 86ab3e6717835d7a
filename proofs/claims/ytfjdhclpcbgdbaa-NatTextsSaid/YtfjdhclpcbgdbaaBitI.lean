/- What Right, Text and Pow (the number package's and the reference's) return for limbs that are no number, and for exponents below zero, of a slice that came in. -/
import Derived.Test.YtfjdhclpcbgdbaaNatIn
import Derived.Test.YtfjdhclpcbgdbaaBitE
namespace Go.Proofs.Ytfjdhclpcbgdbaa
open Go Go.RowKit
theorem rright_any (A : Option Addr) (n cp : Nat) (l : List Int) (w : World) (hl : l.length = n) (hz : Kt.Ints w w.heap.size .u32 A l) (hn : n ≤ 4611686018427387904) :
    Calls Try.prog 46 #[.slice A n cp] w fun e w' => e = .returned (.bool (rightB l)) ∧ w = w' := by
  by_cases h1 : n ≤ 1024
  · by_cases h0 : 0 < n
    · obtain ⟨b, off, rfl, hb, hc⟩ := hz (by omega)
      have hcell := hc (n - 1) (by omega)
      clear hc
      obtain ⟨x, hx⟩ : ∃ x, Hid (Ls.nth l (n - 1) = x) := ⟨_, Lib.hid rfl⟩
      rw [hx.out] at hcell
      have E : Hid (rightB l = (x != 0)) := Lib.hid (by
        have e0 : decide (n ≤ 1024) = true := by simpa using h1
        have e1 : decide (n = 0) = false := by simp; omega
        rw [rightB, hl, hx.out, e0, e1]; rfl)
      clear hl
      have hb0 : ((n : Int) == 0) = false := by simp; omega
      cases hxb : (x != 0)
      · rw [hxb] at E
        go_enter Try.func46, Try.ntmps46
        go_wp2
        go_ret
        exact ⟨ret_bi E.out.symm, rfl⟩
      · rw [hxb] at E
        go_enter Try.func46, Try.ntmps46
        go_wp2
        go_ret
        exact ⟨ret_bi E.out.symm, rfl⟩
    · obtain rfl : n = 0 := by omega
      have E : Hid (rightB l = true) := Lib.hid (by rw [rightB, hl]; rfl)
      clear hl
      go_enter Try.func46, Try.ntmps46
      go_wp2
      go_ret
      exact ⟨ret_bi E.out.symm, rfl⟩
  · have E : Hid (rightB l = false) := Lib.hid (by
      have e0 : decide (n ≤ 1024) = false := by simp; omega
      rw [rightB, hl, e0]; rfl)
    clear hl
    go_enter Try.func46, Try.ntmps46
    go_wp2
    go_ret
    exact ⟨ret_bi E.out.symm, rfl⟩
section
variable {w : World} {A : Option Addr} {n ca : Nat} {a : List Int}
theorem text_no (hn : a.length = n) (ha : Kt.Ints w w.heap.size .u32 A a) (hr : rightB a = false) (h1 : n ≤ 4096) :
    Calls Try.prog 18 #[.slice A n ca] w fun e w' => e = .returned (.tuple #[.string ⟨#[]⟩, .int .i64 2]) ∧ w = w' := by
  have HR := Lib.hid hr
  have HN := Lib.hid hn
  clear hr hn
  go_enter Try.func18, Try.ntmps18
  go_wp2_with fail
  refine (right_any A n ca a _ HN.out ha (by omega)).mono ?_
  rw [HR.out]
  rintro e w' ⟨rfl, rfl⟩
  go_wp2
  go_ret2
  exact ⟨rfl, rfl⟩
theorem rtext_no (hn : a.length = n) (ha : Kt.Ints w w.heap.size .u32 A a) (hr : rightB a = false) (h1 : n ≤ 4096) :
    Calls Try.prog 28 #[.slice A n ca] w fun e w' => e = .returned (.tuple #[.string ⟨#[]⟩, .int .i64 2]) ∧ w = w' := by
  have HR := Lib.hid hr
  have HN := Lib.hid hn
  clear hr hn
  go_enter Try.func28, Try.ntmps28
  go_wp2_with fail
  refine (rright_any A n ca a _ HN.out ha (by omega)).mono ?_
  rw [HR.out]
  rintro e w' ⟨rfl, rfl⟩
  go_wp2
  go_ret2
  exact ⟨rfl, rfl⟩
theorem pow_no (k : Int) (hn : a.length = n) (ha : Kt.Ints w w.heap.size .u32 A a) (hr : rightB a = false ∨ (rightB a = true ∧ k < 0)) (h1 : n ≤ 4096) :
    Calls Try.prog 15 #[.slice A n ca, .int .i64 k] w fun e w' => e = .returned (.tuple #[.slice none 0 0, .int .i64 2]) ∧ w = w' := by
  have HN := Lib.hid hn
  clear hn
  rcases hr with hr | ⟨hr, hk⟩
  all_goals
    have HR := Lib.hid hr
    clear hr
    go_enter Try.func15, Try.ntmps15
    go_wp2_with fail
    refine (right_any A n ca a _ HN.out ha (by omega)).mono ?_
    rw [HR.out]
    rintro e w' ⟨rfl, rfl⟩
    go_wp2
    go_ret2
    exact ⟨rfl, rfl⟩
theorem rpow_no (k : Int) (hn : a.length = n) (ha : Kt.Ints w w.heap.size .u32 A a) (hr : rightB a = false ∨ (rightB a = true ∧ k < 0)) (h1 : n ≤ 4096) :
    Calls Try.prog 30 #[.slice A n ca, .int .i64 k] w fun e w' => e = .returned (.tuple #[.slice none 0 0, .int .i64 2]) ∧ w = w' := by
  have HN := Lib.hid hn
  clear hn
  rcases hr with hr | ⟨hr, hk⟩
  all_goals
    have HR := Lib.hid hr
    clear hr
    go_enter Try.func30, Try.ntmps30
    go_wp2_with fail
    refine (rright_any A n ca a _ HN.out ha (by omega)).mono ?_
    rw [HR.out]
    rintro e w' ⟨rfl, rfl⟩
    go_wp2
    go_ret2
    exact ⟨rfl, rfl⟩
end
end Go.Proofs.Ytfjdhclpcbgdbaa
