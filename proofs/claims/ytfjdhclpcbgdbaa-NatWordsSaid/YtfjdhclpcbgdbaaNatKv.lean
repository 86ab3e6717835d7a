/- What Uint of the number package returns. -/
import Derived.Test.YtfjdhclpcbgdbaaNatKu
import Derived.Test.YtfjdhclpcbgdbaaNatM
namespace Go.Proofs.Ytfjdhclpcbgdbaa
open Go Go.RowKit
theorem word_len {x : Nat} (h : x ≤ 18446744073709551615) : (Nt.limbs x).length ≤ 2 := (Nt.len_le_iff x 2).2 (by simp only [Nt.P]; omega)
set_option maxHeartbeats 1000000 in
theorem uint_val {w : World} {l1 : Nat} {u : Value} {x : Nat} (n : Int) (hx : Kt.Num w l1 u x) (h1 : x ≤ 18446744073709551615) (hn : n = (x : Int)) :
    Calls Try.prog 27 #[u] w fun e w' => e = .returned (.tuple #[.int .u64 n, .bool true]) ∧ Below w.heap.size w w' := by
  subst hn
  obtain ⟨A, ca, rfl, _, _, ha⟩ := hx.ints
  have hl2 := word_len h1
  have HR1 := Lib.hid (num_right (x := x) (by omega))
  have HV := Lib.hid (Nt.V_limbs x)
  have HO := Lib.hid (Nt.limbs_Ok x)
  obtain ⟨l, hl⟩ : ∃ l, Hid (Nt.limbs x = l) := ⟨_, Lib.hid rfl⟩
  rw [hl.out] at ha hl2 HR1 HV HO ⊢
  obtain ⟨n, hn⟩ : ∃ n, Hid (l.length = n) := ⟨_, Lib.hid rfl⟩
  rw [hn.out] at hl2 ⊢
  clear hx hl
  go_enter Try.func27, Try.ntmps27
  go_wp2_with fail
  refine (right_any A n ca _ _ hn.out ha (by omega)).mono ?_
  rw [HR1.out]
  rintro e w' ⟨rfl, rfl⟩
  go_wp2_with fail
  go_loop [4, 17] (fun v i => ∃ (k : Nat) (t : Int), k ≤ n ∧ v = .int .u64 t ∧ i = .int .i64 k ∧ Hid (Nt.V (l.take k) = t)) (fun _ i => n - (intOf i).toNat)
  case atStart => exact ⟨0, 0, Nat.zero_le _, rfl, rfl, Lib.hid (by simp [Nt.V])⟩
  case round =>
    obtain ⟨k, t, hk, rfl, rfl, ht⟩ := hrel
    by_cases hlt : k < n
    · obtain ⟨b, o, rfl, hb, hc⟩ := ha (by have := hn.out; omega)
      have hcell := hc k (by rw [hn.out]; exact hlt)
      obtain ⟨z, hz⟩ : ∃ z, Hid (Ls.nth l k = z) := ⟨_, Lib.hid rfl⟩
      have hzb := HO.out.nth_any k
      rw [hz.out] at hcell hzb
      obtain ⟨hz0, hz1⟩ := hzb
      have hstep := Nt.V_take_nth l k
      rw [hz.out, ht.out] at hstep
      clear hc
      have ht0 : 0 ≤ t := by rw [← ht.out]; exact Nt.V_nonneg (HO.out.take k)
      have ht1 : t < Nt.P k := by
        have h9 := Nt.V_lt (HO.out.take k)
        rw [ht.out, List.length_take, hn.out, Nat.min_eq_left hk] at h9
        exact h9
      rcases (show k = 0 ∨ k = 1 by omega) with rfl | rfl
      · simp only [Nt.P, Int.one_mul] at hstep ht1
        obtain rfl : t = 0 := by omega
        rw [Nat.add_zero] at hcell
        have HST := Lib.hid hstep
        clear hstep
        go_wp2_with fail
        go_round
        case rel => exact ⟨1, _, by omega, rfl, by go_num, Lib.hid (by rw [HST.out]; omega)⟩
        case measure => simp [intOf]; omega
      · simp only [Nt.P, Int.mul_one] at hstep ht1
        have HST := Lib.hid hstep
        clear hstep
        go_wp2_with fail
        go_round
        case rel => exact ⟨2, _, by omega, rfl, by go_num, Lib.hid (by rw [HST.out]; omega)⟩
        case measure => simp [intOf]; omega
    · obtain rfl : k = n := by omega
      have HT : Hid (t = (x : Int)) := Lib.hid (by rw [← ht.out, ← HV.out]; exact Nt.V_take_all _ _ (by rw [hn.out]; exact Nat.le_refl _))
      obtain rfl : t = (x : Int) := HT.out
      go_wp2
      go_ret2
      exact ⟨rfl, Below.refl _ _⟩
end Go.Proofs.Ytfjdhclpcbgdbaa
