/- What the reference's bits returns: the bits of limbs. -/
import Derived.Test.YtfjdhclpcbgdbaaBitA
import Derived.Test.YtfjdhclpcbgdbaaKit2
namespace Bt
open Go
theorem P_limb (i : Nat) : Nt.P i = P (32 * i) := by
  induction i with
  | zero => rfl
  | succ i ih => rw [Nt.P_succ, ih, show 32 * (i + 1) = 32 * i + 32 from by omega, P_add, Int.mul_comm]; rfl
theorem bit_step {s : List Int} {n : Nat} {x A : Int} (hs : s.length = n) (h : V s + P n * x = A) : V (s ++ [x % 2]) + P (n + 1) * (x / 2) = A := by
  rw [V_snoc, hs, P_succ]
  have e : P n * x = P n * (x % 2) + 2 * P n * (x / 2) := by
    rw [Int.mul_comm 2 (P n), Int.mul_assoc, ← Int.mul_add]
    congr 1
    omega
  omega
theorem half_lt {x : Int} {n : Nat} (h : x < P (n + 1)) : x / 2 < P n := by rw [P_succ] at h; omega
end Bt
namespace Go.Proofs.Ytfjdhclpcbgdbaa
open Go Go.RowKit
theorem Try.infoI64 : (Try.prog.info? 3).map (fun i => (i.zero, i.size, i.bytes)) = some (some (.int .i64 0), 1, 8) := by kernel_rfl
set_option maxHeartbeats 4000000 in
theorem rbits_any (A : Option Addr) (n cp : Nat) (l : List Int) (x : Nat) (w : World) (hl : l.length = n) (hz : Kt.Ints w w.heap.size .u32 A l) (hok : Nt.Ok l) (hx : Nt.V l = (x : Int)) (hn : n ≤ 4096) :
    Calls Try.prog 47 #[.slice A n cp] w fun e w' => ∃ v, e = .returned v ∧ Kt.Row w' w.heap.size .i64 v (Bt.limbs x) ∧ Below w.heap.size w w' := by
  have HL := Lib.hid hl
  have HO := Lib.hid hok
  have HX := Lib.hid hx
  clear hl hok hx
  obtain ⟨i0, hi0, hz0, hz1, hz2⟩ := info_parts Try.infoI64
  go_enter Try.func47, Try.ntmps47
  go_wp2
  go_loopw [3, 4] (fun v i wr => ∃ (k : Nat) (bs : List Int), k ≤ n ∧ i = .int .i64 k ∧ Kt.Own wr w.heap.size 3 .i64 v bs ∧ Hid (bs.length = 32 * k) ∧ Hid (Bt.Ok bs) ∧ Hid (Bt.V bs = Nt.V (l.take k)) ∧ Below w.heap.size w wr) (fun _ i _ => n - (intOf i).toNat)
  case atStart => exact ⟨0, [], Nat.zero_le _, rfl, Kt.Own.nil _ _ _ _, Lib.hid rfl, Lib.hid Bt.Ok.nil, Lib.hid (by simp [Nt.V, Bt.V]), Below.refl _ _⟩
  case round =>
    obtain ⟨k, bs, hk, rfl, hown, hlb, hob, hv, hbel⟩ := hrel
    by_cases hlt : k < n
    · obtain ⟨b, o, rfl, hb, hc⟩ := hz (by have := HL.out; omega)
      have hcell := (hbel.cell (p := ⟨b, o + k, none⟩) hb).trans (hc k (by have := HL.out; omega))
      clear hc
      obtain ⟨z, hzz⟩ : ∃ z, Hid (Ls.nth l k = z) := ⟨_, Lib.hid rfl⟩
      have hzb := HO.out.nth_any k
      rw [hzz.out] at hcell hzb
      obtain ⟨hz0', hz1'⟩ := hzb
      have HST : Hid (Bt.V bs + Bt.P (32 * k + 0) * z = Nt.V (l.take (k + 1))) := Lib.hid (by rw [Nt.V_take_nth, hzz.out, hv.out, Bt.P_limb]; rfl)
      obtain ⟨wo, rfl⟩ : ∃ wo : World, wo = wr := ⟨_, rfl⟩
      go_wp2_with fail
      go_loopw [3, 5, 6] (fun v y j wr => ∃ (j' : Nat) (t : Int) (bs : List Int), j' ≤ 32 ∧ y = .int .u32 t ∧ j = .int .i64 j' ∧ 0 ≤ t ∧ t ≤ 4294967295 ∧ Hid (t < Bt.P (32 - j')) ∧ Kt.Own wr w.heap.size 3 .i64 v bs ∧ Hid (bs.length = 32 * k + j') ∧ Hid (Bt.Ok bs) ∧ Hid (Bt.V bs + Bt.P (32 * k + j') * t = Nt.V (l.take (k + 1))) ∧ Below w.heap.size w wr) (fun _ _ j _ => 32 - (intOf j).toNat)
      case atStart => exact ⟨0, z, bs, Nat.zero_le _, rfl, rfl, hz0', hz1', Lib.hid (show z < 4294967296 by omega), hown, hlb, hob, HST, hbel⟩
      case round =>
        obtain ⟨j, t, bs, hj, rfl, rfl, ht0, ht1, htp, hown, hlb, hob, hv2, hbel⟩ := hrel
        by_cases hlj : j < 32
        · have hbl : bs.length ≤ 200000 := by rw [hlb.out]; omega
          go_wp2_with (at_builtin; refine wpList_append_own _ rfl (.tmp 21) (.tmp 25) 74 rfl w.heap.size 3 i0 (.int .i64 0) 1 8 Try.underlying74 hi0 hz0 hz1 hz2 rfl (by decide) _ bs.length (bs.map (Value.int .i64)) rfl (hown.alloc _) ⟨wr.heap.size, 0, none⟩ 1 1 [.int .i64 (t % 2)] rfl rfl (Kt.cell_one _ _ _) (ints_oneCell .i64 [t % 2]) (by unfold maxLen; omega) (by omega) (by have := hbel.size; simp; omega) ?_)
          intro v' w3 hown3 hgrow _
          have hown4 : Kt.Own w3 w.heap.size 3 .i64 v' (bs ++ [t % 2]) := Kt.Own.snoc (by simpa using hown3)
          have hbel3 : Below w.heap.size w w3 := (hbel.alloc hbel.size _).grown hgrow (by have := hbel.size; simp; omega) (fun g hg => Kt.own_block_ne hown _ hg)
          clear hown3 hgrow
          go_wp2_with fail
          go_roundw
          case rel => exact ⟨j + 1, t / 2, bs ++ [t % 2], by omega, rfl, by go_num, by omega, by omega, Lib.hid (Bt.half_lt (by rw [show 32 - (j + 1) + 1 = 32 - j from by omega]; exact htp.out)), hown4, Lib.hid (by rw [List.length_append, hlb.out]; rfl), Lib.hid (hob.out.append (Bt.Ok.one (by omega) (by omega))), Lib.hid (Bt.bit_step hlb.out hv2.out), hbel3⟩
          case measure => simp [intOf]; omega
        · obtain rfl : j = 32 := by omega
          have ht : t = 0 := by have := htp.out; rw [Nat.sub_self] at this; simp only [Bt.P] at this; omega
          have hv3 := hv2.out
          rw [ht, Int.mul_zero, Int.add_zero] at hv3
          have HV3 := Lib.hid hv3
          clear hv3
          go_wp2_with fail
          go_roundw
          case rel => exact ⟨k + 1, bs, by omega, by go_num, hown, Lib.hid (by rw [hlb.out]; omega), hob, HV3, hbel⟩
          case measure => simp [intOf]; omega
    · obtain rfl : k = n := by omega
      obtain ⟨A', c', rfl, hc', hi⟩ := Kt.Own.shape hown
      have HVX : Hid (Bt.V bs = (x : Int)) := Lib.hid (by rw [hv.out, Nt.V_take_all _ _ (by rw [HL.out]; exact Nat.le_refl _)]; exact HX.out)
      go_wp2_with fail
      refine (rtrim_any A' bs.length c' bs _ rfl hi hc' (by rw [hlb.out]; omega)).mono ?_
      rintro e w' ⟨t, rfl, ht, hvt, hlt', rfl⟩
      have e := Bt.limbs_take hob.out HVX.out ht hvt hlt'
      have E := Lib.hid e
      clear e hvt hlt'
      go_wp2
      go_ret
      refine ⟨_, rfl, ?_, hbel⟩
      rw [E.out]
      rcases Nat.eq_zero_or_pos bs.length with h0 | h0
      · have hb0 : bs = [] := List.eq_nil_of_length_eq_zero h0
        subst hb0
        obtain rfl : t = 0 := by simpa using ht
        exact Kt.Row.of_own hown
      · obtain ⟨g, c2, e2, hc2, hlo, hrow⟩ := Kt.Row.at _ (Kt.Row.of_own hown) h0
        injection e2 with e3 e4 e5
        subst e3
        subst e5
        exact (hrow.take t).row hlo t c' (by rw [List.length_take]; omega) (by omega)
end Go.Proofs.Ytfjdhclpcbgdbaa
