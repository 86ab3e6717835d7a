/- What Div32 and divided do: division by one limb. -/
import Derived.Test.YtfjdhclpcbgdbaaNatE
import Derived.Laws.BitsLemmas
namespace Nt
open Go
theorem or_wide (h l : Int) (h0 : 0 ≤ h) (h1 : h ≤ 4294967295) (l0 : 0 ≤ l) (l1 : l ≤ 4294967295) : bits .or .u64 (h * 4294967296) l = h * 4294967296 + l :=
  bits_join .u64 64 (by decide) (fun n hn hn2 => by rw [IntKind.wrap_u64]; omega) 32 _ _ (by omega) (by omega) (by omega) l0 (by omega) (by omega)
theorem wide_div {h l y : Int} (h0 : 0 ≤ h) (h1 : h < y) (l0 : 0 ≤ l) (l1 : l ≤ 4294967295) : 0 ≤ (h * 4294967296 + l) / y ∧ (h * 4294967296 + l) / y ≤ 4294967295 := by
  refine ⟨Int.ediv_nonneg (by omega) (by omega), ?_⟩
  have : (h * 4294967296 + l) / y < 4294967296 := Int.ediv_lt_of_lt_mul (by omega) (by
    have : (h + 1) * 4294967296 ≤ y * 4294967296 := by omega
    omega)
  omega
/-- One limb of a division, from the highest on. -/
theorem V_div_step {a q : List Int} {k : Nat} {y r z : Int} (hk : k < a.length) (hq : q.length = a.length) (h : V (a.drop (k + 1)) = y * V (q.drop (k + 1)) + r) (hz : z = r * 4294967296 + Ls.nth a k) (hn : Ls.nth q k = z / y) :
    V (a.drop k) = y * V (q.drop k) + z % y := by
  rw [V_drop a k hk, V_drop q k (by omega), h, hn, Int.mul_add, Int.mul_add, Int.mul_left_comm y 4294967296]
  have e := Int.mul_ediv_add_emod z y
  generalize y * V (q.drop (k + 1)) = t
  omega
theorem drop_set {l : List Int} {k : Nat} (x : Int) : (l.set k x).drop (k + 1) = l.drop (k + 1) := by
  rw [List.drop_set, if_pos (by omega)]
end Nt
namespace Go.Proofs.Ytfjdhclpcbgdbaa
open Go Go.RowKit

theorem div32_any (h l y : Int) (w : World) (h0 : 0 ≤ h) (h1 : h < y) (l0 : 0 ≤ l) (l1 : l ≤ 4294967295) (y1 : y ≤ 4294967295) :
    Calls Try.prog 56 #[.int .u32 h, .int .u32 l, .int .u32 y] w fun e w' => e = .returned (.tuple #[.int .u32 ((h * 4294967296 + l) / y), .int .u32 ((h * 4294967296 + l) % y)]) ∧ ∃ q, w' = w.drewN q := by
  have hy : (y != 0) = true := by simp; omega
  have hle : decide (y ≤ h) = false := by simp; omega
  have HO := Lib.hid (Nt.or_wide h l h0 (by omega) l0 l1)
  obtain ⟨q0, q1⟩ := Nt.wide_div h0 h1 l0 l1
  have r0 : 0 ≤ (h * 4294967296 + l) % y := Int.emod_nonneg _ (by omega)
  have r1 : (h * 4294967296 + l) % y < y := Int.emod_lt_of_pos _ (by omega)
  go_enter Try.func56, Try.ntmps56
  go_wp2
  rw [HO.out]
  have z0 : 0 ≤ h * 4294967296 + l := by omega
  have z1 : h * 4294967296 + l ≤ 18446744073709551615 := by omega
  clear HO
  obtain ⟨z, hz⟩ : ∃ z, Hid (h * 4294967296 + l = z) := ⟨_, Lib.hid rfl⟩
  rw [hz.out] at q0 q1 r0 r1 z0 z1 ⊢
  clear hle h0 h1 l0 l1
  go_quiet (fail)
  go_wp2
  go_ret2
  exact ⟨Kt.ret_ii (by rw [hz.out]) (by rw [hz.out]), _, rfl⟩

set_option maxHeartbeats 400000 in
/-- divided: the limbs of block b become those of the quotient. -/
theorem divided_any (b n cp : Nat) (l : List Int) (y : Int) (w : World) (hl : l.length = n) (hz : Kt.RowAt w b .u32 l) (hok : Nt.Ok l) (hn : n ≤ 4611686018427387904) (y0 : 1 ≤ y) (y1 : y ≤ 4294967295) :
    Calls Try.prog 36 #[.slice (some ⟨b, 0, none⟩) n cp, .int .u32 y] w fun e w' => ∃ q : List Int, e = .returned (.int .u32 (Nt.V l % y)) ∧ q.length = n ∧ Nt.Ok q ∧ Nt.V q = Nt.V l / y ∧ Kt.RowAt w' b .u32 q ∧ Below b w w' := by
  have HL := Lib.hid hl
  have HO := Lib.hid hok
  clear hl hok
  go_enter Try.func36, Try.ntmps36
  go_wp2
  go_loopw [5, 6] (fun r i wr => ∃ (k : Nat) (rest : Int) (q : List Int), k ≤ n ∧ r = .int .u32 rest ∧ i = .int .i64 ((k : Int) - 1) ∧ 0 ≤ rest ∧ rest < y ∧ Kt.RowAt wr b .u32 q ∧ Hid (q.length = n) ∧ Hid (Nt.Ok q) ∧ Hid (Nt.V (l.drop k) = y * Nt.V (q.drop k) + rest) ∧ Hid (∀ j, j < k → Ls.nth q j = Ls.nth l j) ∧ Below b w wr) (fun _ i _ => (intOf i + 1).toNat)
  case atStart => exact ⟨n, 0, l, Nat.le_refl _, rfl, rfl, by omega, by omega, hz, HL, HO, Lib.hid (by rw [List.drop_of_length_le (by rw [HL.out]; exact Nat.le_refl _)]; simp [Nt.V]), Lib.hid (fun _ _ => rfl), Below.refl _ _⟩
  case round =>
    obtain ⟨k, rest, q, hk, rfl, rfl, hr0, hr1, hrow, hlq, hoq, hv, hsame, hbel⟩ := hrel
    by_cases h0 : 0 < k
    · obtain ⟨k, rfl⟩ : ∃ j, k = j + 1 := ⟨k - 1, by omega⟩
      rw [show ((k + 1 : Nat) : Int) - 1 = (k : Int) from by omega]
      have hcell := hrow.cell k (by rw [hlq.out]; omega)
      rw [hsame.out k (by omega)] at hcell
      have hfr := hrow.frozen k
      obtain ⟨x, hx⟩ : ∃ x, Hid (Ls.nth l k = x) := ⟨_, Lib.hid rfl⟩
      have hxb := HO.out.nth_any k
      rw [hx.out] at hcell hxb
      obtain ⟨hx0, hx1⟩ := hxb
      obtain ⟨d0, d1⟩ := Nt.wide_div hr0 hr1 hx0 hx1
      have m0 : 0 ≤ (rest * 4294967296 + x) % y := Int.emod_nonneg _ (by omega)
      have m1 : (rest * 4294967296 + x) % y < y := Int.emod_lt_of_pos _ (by omega)
      obtain ⟨z, hz2⟩ : ∃ z, Hid (rest * 4294967296 + x = z) := ⟨_, Lib.hid rfl⟩
      rw [hz2.out] at d0 d1 m0 m1
      go_wp2_with fail
      refine (div32_any rest x y _ hr0 hr1 hx0 hx1 y1).mono ?_
      rw [hz2.out]
      rintro e w' ⟨rfl, nd, rfl⟩
      go_wp2_with fail
      go_roundw
      case rel => exact ⟨k, z % y, q.set k (z / y), by omega, rfl, by first | rfl | go_num, m0, m1, (hrow.drewN nd).set k (by rw [hlq.out]; omega) _, Lib.hid (by rw [List.length_set]; exact hlq.out), Lib.hid (hoq.out.set _ d0 d1), Lib.hid (Nt.V_div_step (by rw [HL.out]; omega) (by rw [List.length_set, HL.out, hlq.out]) (by rw [Nt.drop_set]; exact hv.out) (by rw [hx.out]; exact hz2.out.symm) (Nt.nth_set_eq _ (by rw [hlq.out]; omega))), Lib.hid (fun j hj => by rw [Nt.nth_set_ne _ (by omega)]; exact hsame.out j (by omega)), (Kt.below_drewN hbel nd).setCell (Nat.le_refl _) _⟩
      case measure => simp [intOf]
    · obtain rfl : k = 0 := by omega
      have hv2 := hv.out
      rw [List.drop_zero, List.drop_zero] at hv2
      have HE : Hid (Nt.V l / y = Nt.V q ∧ Nt.V l % y = rest) := Lib.hid ((Int.ediv_emod_unique (by omega)).2 ⟨by omega, hr0, hr1⟩)
      clear hv2
      go_wp2
      go_ret
      exact ⟨q, Kt.ret_int HE.out.2.symm, hlq.out, hoq.out, HE.out.1.symm, hrow, hbel⟩
end Go.Proofs.Ytfjdhclpcbgdbaa
