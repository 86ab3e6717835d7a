/- What the reference's mul returns: the bits of a product. By value: trim, at, add. -/
import Derived.Test.YtfjdhclpcbgdbaaBitD
namespace Go.Proofs.Ytfjdhclpcbgdbaa
open Go Go.RowKit
section
variable {w : World} {l1 l2 : Nat} {u v : Value} {x y : Nat}
/-- A row of bits: its shape, and its bits. -/
theorem bits_at (hu : Kt.Row w l1 .i64 u (Bt.limbs x)) : ∃ A n c, u = .slice A n c ∧ Hid ((Bt.limbs x).length = n) ∧ n ≤ c ∧ Kt.Ints w w.heap.size .i64 A (Bt.limbs x) := by
  obtain ⟨A, c, e, hc, _, ha⟩ := hu.ints
  exact ⟨A, _, c, e, Lib.hid rfl, hc, ha⟩
theorem radd_val {z up : Nat} (hu : Kt.Row w l1 .i64 u (Bt.limbs x)) (hv : Kt.Row w l2 .i64 v (Bt.limbs y)) (hz : Bt.V (Bt.limbs x) + Bt.P up * Bt.V (Bt.limbs y) = (z : Int)) (h1 : (Bt.limbs x).length ≤ 100000) (h2 : (Bt.limbs y).length + up ≤ 100000) :
    Calls Try.prog 50 #[u, v, .int .i64 up] w fun e w' => ∃ r, e = .returned r ∧ Kt.Row w' w.heap.size .i64 r (Bt.limbs z) ∧ Below w.heap.size w w' := by
  obtain ⟨A, ca, rfl, _, _, ha⟩ := hu.ints
  obtain ⟨B, cb, rfl, _, _, hb⟩ := hv.ints
  exact radd_any A B _ _ ca cb up _ _ z w rfl rfl ha hb (Bt.limbs_Ok x) (Bt.limbs_Ok y) hz h1 h2
theorem rat_val (hu : Kt.Row w l1 .i64 u (Bt.limbs x)) (j : Nat) : Calls Try.prog 49 #[u, .int .i64 j] w fun e w' => e = .returned (.int .i64 (Ls.nth (Bt.limbs x) j)) ∧ w = w' := by
  obtain ⟨A, ca, rfl, _, _, ha⟩ := hu.ints
  exact rat_any A _ ca _ j w rfl ha
theorem rtrim_val (hu : Kt.Row w l1 .i64 u (Bt.limbs x)) (h1 : (Bt.limbs x).length ≤ 4611686018427387904) : Calls Try.prog 59 #[u] w fun e w' => e = .returned u ∧ w = w' := by
  obtain ⟨A, ca, rfl, hc, _, ha⟩ := hu.ints
  refine (rtrim_any A _ ca _ w rfl ha hc h1).mono ?_
  rintro e w' ⟨k, rfl, hk, hv, hl, rfl⟩
  have e := Bt.limbs_take (Bt.limbs_Ok x) (Bt.V_limbs x) hk hv hl
  have e2 : (Bt.limbs x).length = k := by
    have := congrArg List.length e
    rw [List.length_take] at this
    omega
  rw [e2]
  exact ⟨rfl, rfl⟩
theorem rbits_val (hu : Kt.Num w l1 u x) (h1 : (Nt.limbs x).length ≤ 1024) : Calls Try.prog 47 #[u] w fun e w' => ∃ v, e = .returned v ∧ Kt.Row w' w.heap.size .i64 v (Bt.limbs x) ∧ Below w.heap.size w w' := by
  obtain ⟨A, ca, rfl, _, _, ha⟩ := hu.ints
  exact rbits_any A _ ca _ x w rfl ha (Nt.limbs_Ok x) (Nt.V_limbs x) (by omega)
theorem rmul_val (hu : Kt.Row w l1 .i64 u (Bt.limbs x)) (hv : Kt.Row w l2 .i64 v (Bt.limbs y)) (hl : (Bt.limbs x).length + (Bt.limbs y).length ≤ 90000) :
    Calls Try.prog 51 #[u, v] w fun e w' => ∃ r, e = .returned r ∧ Kt.Row w' w.heap.size .i64 r (Bt.limbs (x * y)) ∧ Below w.heap.size w w' := by
  obtain ⟨A, n, ca, rfl, hn, _, ha⟩ := bits_at hu
  have HL := Lib.hid hl
  have hn1 : n ≤ 90000 := by have := hn.out; omega
  clear hl
  go_enter Try.func51, Try.ntmps51
  go_wp2
  go_loopw [5, 6] (fun o i wr => ∃ (k t : Nat), k ≤ n ∧ i = .int .i64 k ∧ Kt.Row wr w.heap.size .i64 o (Bt.limbs (t * y)) ∧ Hid (Bt.V ((Bt.limbs x).take k) = (t : Int)) ∧ Hid (t ≤ x) ∧ Below w.heap.size w wr) (fun _ i _ => n - (intOf i).toNat)
  case atStart => exact ⟨0, 0, Nat.zero_le _, rfl, by rw [Nat.zero_mul]; exact Kt.Row.nil _ _ _, Lib.hid (by simp [Bt.V]), Lib.hid (Nat.zero_le _), Below.refl _ _⟩
  case round =>
    obtain ⟨k, t, hk, rfl, hrow, ht, htx, hbel⟩ := hrel
    by_cases hlt : k < n
    · obtain ⟨b, o, rfl, hb, hc⟩ := ha (by have := hn.out; omega)
      have hcell := (hbel.cell (p := ⟨b, o + k, none⟩) hb).trans (hc k (by have := hn.out; omega))
      clear hc
      obtain ⟨p, hp⟩ : ∃ p, Hid (Ls.nth (Bt.limbs x) k = p) := ⟨_, Lib.hid rfl⟩
      have hpb := (Bt.limbs_Ok x).nth_any k
      rw [hp.out] at hcell hpb
      obtain ⟨hp0, hp1⟩ := hpb
      cases hpe : (p == 1)
      · have hu0 := Bt.mul_bit0 ht.out (by rw [hp.out]; simp at hpe; omega)
        have HU := Lib.hid hu0
        clear hu0
        go_wp2_with fail
        go_roundw
        case rel => exact ⟨k + 1, t, by omega, by go_num, hrow, HU, htx, hbel⟩
        case measure => simp [intOf]; omega
      · have HMB := Lib.hid (Bt.mul_bit (y := y) ht.out (by rw [hp.out]; simpa using hpe))
        obtain ⟨t', ht', hz⟩ := HMB.out
        have HT := Lib.hid ht'
        have HZ := Lib.hid hz
        have HTX : Hid (t' ≤ x) := Lib.hid (by obtain ⟨q, hq, hqx⟩ := Bt.take_nat x (k + 1); omega)
        clear HMB ht' hz
        go_wp2_with fail
        refine (radd_val hrow (hv.on hbel) HZ.out (by
          have h1 := Bt.len_mul t y _ _ (Nat.le_refl _) (Nat.le_refl _)
          have h2 := Bt.len_mono htx.out
          have := HL.out
          omega) (by have := HL.out; have := hn.out; omega)).mono ?_
        rintro e w' ⟨r, rfl, hr, hb2⟩
        go_wp2_with fail
        go_roundw
        case rel => exact ⟨k + 1, t', by omega, by go_num, hr.less hbel.size, HT, HTX, Kt.next hbel hb2⟩
        case measure => simp [intOf]; omega
    · obtain rfl : k = n := by omega
      have e : t = x := by
        have h1 := ht.out
        rw [Bt.V_take_all _ _ (by have := hn.out; omega), Bt.V_limbs] at h1
        omega
      rw [e] at hrow
      go_wp2_with fail
      go_ret
      exact ⟨_, rfl, hrow, hbel⟩
end
end Go.Proofs.Ytfjdhclpcbgdbaa
