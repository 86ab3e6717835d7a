/- What the reference's functions on lists of bits return (package letterbagref03): trim, at. -/
import Derived.Test.YtfjdhclpcbgdbaaBitV
import Derived.Test.YtfjdhclpcbgdbaaNatE
namespace Go.Proofs.Ytfjdhclpcbgdbaa
open Go Go.RowKit
theorem rtrim_any (A : Option Addr) (n cp : Nat) (l : List Int) (w : World) (hl : l.length = n) (hz : Kt.Ints w w.heap.size .i64 A l) (hcp : n ≤ cp) (hn : n ≤ 4611686018427387904) :
    Calls Try.prog 59 #[.slice A n cp] w fun e w' => ∃ k, e = .returned (.slice A k cp) ∧ k ≤ n ∧ Bt.V (l.take k) = Bt.V l ∧ (k = 0 ∨ Ls.nth l (k - 1) ≠ 0) ∧ w = w' := by
  have HL := Lib.hid hl
  clear hl
  go_enter Try.func59, Try.ntmps59
  go_wp2
  go_loop [0] (fun v => ∃ k : Nat, k ≤ n ∧ v = .slice A k cp ∧ Hid (Bt.V (l.take k) = Bt.V l)) (fun v => match v with | .slice _ k _ => k | _ => 0)
  case atStart => exact ⟨n, Nat.le_refl _, rfl, Lib.hid (by rw [Bt.V_take_all _ _ (by rw [HL.out]; exact Nat.le_refl _)])⟩
  case round =>
    obtain ⟨k, hk, rfl, hv⟩ := hrel
    by_cases h0 : 0 < k
    · obtain ⟨b, off, rfl, hb, hc⟩ := hz (by have := HL.out; omega)
      have hcell := hc (k - 1) (by have := HL.out; omega)
      clear hc
      obtain ⟨x, hx⟩ : ∃ x, Hid (Ls.nth l (k - 1) = x) := ⟨_, Lib.hid rfl⟩
      rw [hx.out] at hcell
      cases hxb : (x == 0)
      · have HX : Hid (Ls.nth l (k - 1) ≠ 0) := Lib.hid (by rw [hx.out]; simpa using hxb)
        go_wp2
        go_ret
        exact ⟨k, rfl, hk, hv.out, .inr HX.out, rfl⟩
      · have HX : Hid (Bt.V (l.take (k - 1)) = Bt.V l) := Lib.hid (Bt.V_take_pred (k := k - 1) (by have := HL.out; omega) (by rw [show k - 1 + 1 = k from by omega]; exact hv.out) (by rw [hx.out]; simpa using hxb))
        go_wp2
        go_round
        case rel => exact ⟨k - 1, by omega, by first | rfl | (congr 1; omega), HX⟩
        case measure => simp; omega
    · obtain rfl : k = 0 := by omega
      go_wp2
      go_ret
      exact ⟨0, rfl, Nat.zero_le _, hv.out, .inl rfl, rfl⟩

theorem rat_any (A : Option Addr) (n cp : Nat) (l : List Int) (j : Nat) (w : World) (hl : l.length = n) (hz : Kt.Ints w w.heap.size .i64 A l) :
    Calls Try.prog 49 #[.slice A n cp, .int .i64 j] w fun e w' => e = .returned (.int .i64 (Ls.nth l j)) ∧ w = w' := by
  have HL := Lib.hid hl
  clear hl
  by_cases h : j < n
  · obtain ⟨b, off, rfl, hb, hc⟩ := hz (by have := HL.out; omega)
    have hcell := hc j (by have := HL.out; omega)
    clear hc
    go_enter Try.func49, Try.ntmps49
    go_wp2
    go_ret
    exact ⟨rfl, rfl⟩
  · have h0 := Bt.nth_out (l := l) (k := j) (by have := HL.out; omega)
    have H0 := Lib.hid h0
    clear h0
    go_enter Try.func49, Try.ntmps49
    go_wp2
    go_ret
    exact ⟨Kt.ret_int H0.out.symm, rfl⟩
end Go.Proofs.Ytfjdhclpcbgdbaa
