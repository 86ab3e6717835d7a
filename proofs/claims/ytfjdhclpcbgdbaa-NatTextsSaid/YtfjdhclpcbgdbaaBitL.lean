/- What the reference's Pow returns: a power. -/
import Derived.Test.YtfjdhclpcbgdbaaBitK
namespace Bt
open Go
theorem len_pow (x k n : Nat) (hx : (limbs x).length ≤ k) : (limbs (x ^ n)).length ≤ k * n + 1 := by
  induction n with
  | zero => exact Nat.le_trans (by decide : (limbs 1).length ≤ 1) (by omega)
  | succ n ih =>
    by_cases h0 : n = 0
    · subst h0; simp only [Nat.zero_add, Nat.pow_one]; omega
    rw [Nat.pow_succ]
    have := len_mul _ _ _ _ ih hx
    rw [Nat.mul_succ]
    omega
theorem one : limbs 1 = [1] := by decide
theorem len_one {x : Nat} : (limbs x).length ≤ 1 ↔ x ≤ 1 := by rw [len_le_iff, P_pow]; omega
end Bt
namespace Kt
open Go Go.RowKit
theorem row_one (w : World) (T : TypeId) (cs : Array Value) (hcs : cs = IArr .i64 [1]) : Row (w.alloc (.cells cs T)) w.heap.size .i64 (.slice (some ⟨w.heap.size, 0, none⟩) 1 1) (Bt.limbs 1) := by
  subst hcs
  rw [Bt.one]
  exact Row.of_blk (IBlk.new w T .i64 [1]) (Nat.le_refl _) 1 _ rfl (by rfl) (Nat.le_refl _) (Nat.le_refl _)
theorem below_from {w w0 w1 w2 : World} {B : Nat} (_h1 : Below w0.heap.size w0 w1) (h : Below B w w2) : Below B w w2 := h
end Kt
namespace Go.Proofs.Ytfjdhclpcbgdbaa
open Go Go.RowKit
set_option maxHeartbeats 4000000 in
theorem rpow_in {w : World} {u : Value} {x k : Nat} (hx : Kt.In w u x) (h1 : (Nt.limbs x).length ≤ 3) (hk : k ≤ 30) :
    Calls Try.prog 30 #[u, .int .i64 k] w fun e w' => ∃ v, e = .returned (.tuple #[v, .int .i64 0]) ∧ Kt.Num w' w.heap.size v (x ^ k) ∧ Below w.heap.size w w' := by
  obtain ⟨A, ca, rfl, _, _, ha⟩ := hx
  obtain ⟨n, hn⟩ : ∃ n, Hid ((Nt.limbs x).length = n) := ⟨_, Lib.hid rfl⟩
  have hn1 : n ≤ 3 := by have := hn.out; omega
  have HR1 := Lib.hid (num_right (x := x) (by omega))
  rw [hn.out]
  have hlb := Bt.len_of (k := 3) h1
  have HLB := Lib.hid hlb
  have HLP : Hid (∀ j, j ≤ 30 → (Bt.limbs (x ^ j)).length ≤ 2881) := Lib.hid (fun j hj => by
    have h2 := Bt.len_pow x 96 j hlb
    omega)
  have HLP2 := Lib.hid (HLP.out k hk)
  have hkn : decide ((k : Int) < 0) = false := by simp
  clear h1 hlb
  go_enter Try.func30, Try.ntmps30
  go_wp2_with fail
  refine (rright_any A n ca _ _ hn.out ha (by omega)).mono ?_
  rw [HR1.out]
  rintro e w' ⟨rfl, rfl⟩
  go_wp2_with fail
  refine (rbits_any A n ca _ x _ hn.out (ha.up _) (Nt.limbs_Ok x) (Nt.V_limbs x) (by omega)).mono ?_
  rintro e w1 ⟨v, rfl, hv, hb1⟩
  have hb2 : Below w.heap.size w w1 := Kt.next ((Below.refl _ _).alloc (Nat.le_refl _) _) hb1
  obtain ⟨B, m, cb, rfl, hm, _, _⟩ := bits_at hv
  by_cases hsm : m ≤ 1 ∧ 1 < k
  · obtain ⟨hm1, hk1⟩ := hsm
    have hk1b : decide ((1 : Int) < (k : Int)) = true := by simp; omega
    have HPW : Hid (x ^ 1 = x ^ k) := Lib.hid (by
      have hx1 := Bt.len_one.1 (show (Bt.limbs x).length ≤ 1 by rw [hm.out]; exact hm1)
      rcases (show x = 0 ∨ x = 1 by omega) with rfl | rfl
      · rw [Nat.zero_pow (by omega), Nat.zero_pow (by omega)]
      · rw [Nat.one_pow, Nat.one_pow])
    go_wp2_with fail
    go_loopw [6, 8] (fun o i wr => ∃ j : Nat, j ≤ 1 ∧ i = .int .i64 j ∧ Kt.Row wr w.heap.size .i64 o (Bt.limbs (x ^ j)) ∧ Below w1.heap.size w1 wr ∧ Below w.heap.size w wr) (fun _ i _ => 1 - (intOf i).toNat)
    case atStart => exact ⟨0, Nat.zero_le _, rfl, by rw [Nat.pow_zero]; exact ((Kt.row_one _ _ _ rfl).on hb1), Below.refl _ _, hb2⟩
    case round =>
      obtain ⟨j, hj, rfl, hrow, hbel1, hbel⟩ := hrel
      by_cases hlt : j < 1
      · have hlj := HLP.out j (by omega)
        have hlj2 := HLP.out (j + 1) (by omega)
        have HJ := Lib.hid hlj
        have HJ2 := Lib.hid hlj2
        clear hlj hlj2
        go_wp2_with fail
        refine (rmul_val hrow (hv.on hbel1) (by have := HJ.out; have := HLB.out; omega)).mono ?_
        rintro e w' ⟨r, rfl, hr, hb3⟩
        rw [show x ^ j * x = x ^ (j + 1) from (Nat.pow_succ ..).symm] at hr
        obtain ⟨A', n', c', rfl, hn', _, _⟩ := bits_at hr
        have hn2 : n' ≤ 32768 := by have := hn'.out; have := HJ2.out; omega
        go_wp2_with fail
        go_roundw
        case rel => exact ⟨j + 1, by omega, by go_num, hr.less hbel.size, Kt.next hbel1 hb3, Kt.next hbel hb3⟩
        case measure => simp [intOf]; omega
      · obtain rfl : j = 1 := by omega
        rw [HPW.out] at hrow
        go_wp2_with fail
        refine (rlimbs_val hrow (by have := HLP2.out; omega)).mono ?_
        rintro e w' ⟨v2, rfl, hv2, hb3⟩
        go_wp2
        go_ret2
        exact ⟨_, rfl, hv2.less hbel.size, Kt.next hbel hb3⟩
  · by_cases hm1 : m ≤ 1
    · have hk1 : k ≤ 1 := by omega
      clear hsm
      go_wp2_with fail
      go_loopw [6, 8] (fun o i wr => ∃ j : Nat, j ≤ k ∧ i = .int .i64 j ∧ Kt.Row wr w.heap.size .i64 o (Bt.limbs (x ^ j)) ∧ Below w1.heap.size w1 wr ∧ Below w.heap.size w wr) (fun _ i _ => k - (intOf i).toNat)
      case atStart => exact ⟨0, Nat.zero_le _, rfl, by rw [Nat.pow_zero]; exact ((Kt.row_one _ _ _ rfl).on hb1), Below.refl _ _, hb2⟩
      case round =>
        obtain ⟨j, hj, rfl, hrow, hbel1, hbel⟩ := hrel
        by_cases hlt : j < k
        · have hlj := HLP.out j (by omega)
          have hlj2 := HLP.out (j + 1) (by omega)
          have HJ := Lib.hid hlj
          have HJ2 := Lib.hid hlj2
          clear hlj hlj2
          go_wp2_with fail
          refine (rmul_val hrow (hv.on hbel1) (by have := HJ.out; have := HLB.out; omega)).mono ?_
          rintro e w' ⟨r, rfl, hr, hb3⟩
          rw [show x ^ j * x = x ^ (j + 1) from (Nat.pow_succ ..).symm] at hr
          obtain ⟨A', n', c', rfl, hn', _, _⟩ := bits_at hr
          have hn2 : n' ≤ 32768 := by have := hn'.out; have := HJ2.out; omega
          go_wp2_with fail
          go_roundw
          case rel => exact ⟨j + 1, by omega, by go_num, hr.less hbel.size, Kt.next hbel1 hb3, Kt.next hbel hb3⟩
          case measure => simp [intOf]; omega
        · obtain rfl : j = k := by omega
          go_wp2_with fail
          refine (rlimbs_val hrow (by have := HLP2.out; omega)).mono ?_
          rintro e w' ⟨v2, rfl, hv2, hb3⟩
          go_wp2
          go_ret2
          exact ⟨_, rfl, hv2.less hbel.size, Kt.next hbel hb3⟩
    · clear hsm
      go_wp2_with fail
      go_loopw [6, 8] (fun o i wr => ∃ j : Nat, j ≤ k ∧ i = .int .i64 j ∧ Kt.Row wr w.heap.size .i64 o (Bt.limbs (x ^ j)) ∧ Below w1.heap.size w1 wr ∧ Below w.heap.size w wr) (fun _ i _ => k - (intOf i).toNat)
      case atStart => exact ⟨0, Nat.zero_le _, rfl, by rw [Nat.pow_zero]; exact ((Kt.row_one _ _ _ rfl).on hb1), Below.refl _ _, hb2⟩
      case round =>
        obtain ⟨j, hj, rfl, hrow, hbel1, hbel⟩ := hrel
        by_cases hlt : j < k
        · have hlj := HLP.out j (by omega)
          have hlj2 := HLP.out (j + 1) (by omega)
          have HJ := Lib.hid hlj
          have HJ2 := Lib.hid hlj2
          clear hlj hlj2
          go_wp2_with fail
          refine (rmul_val hrow (hv.on hbel1) (by have := HJ.out; have := HLB.out; omega)).mono ?_
          rintro e w' ⟨r, rfl, hr, hb3⟩
          rw [show x ^ j * x = x ^ (j + 1) from (Nat.pow_succ ..).symm] at hr
          obtain ⟨A', n', c', rfl, hn', _, _⟩ := bits_at hr
          have hn2 : n' ≤ 32768 := by have := hn'.out; have := HJ2.out; omega
          go_wp2_with fail
          go_roundw
          case rel => exact ⟨j + 1, by omega, by go_num, hr.less hbel.size, Kt.next hbel1 hb3, Kt.next hbel hb3⟩
          case measure => simp [intOf]; omega
        · obtain rfl : j = k := by omega
          go_wp2_with fail
          refine (rlimbs_val hrow (by have := HLP2.out; omega)).mono ?_
          rintro e w' ⟨v2, rfl, hv2, hb3⟩
          go_wp2
          go_ret2
          exact ⟨_, rfl, hv2.less hbel.size, Kt.next hbel hb3⟩
end Go.Proofs.Ytfjdhclpcbgdbaa
