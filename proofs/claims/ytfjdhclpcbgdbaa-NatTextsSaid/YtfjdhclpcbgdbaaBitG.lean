/- What the reference's cmp and sub return, by value. -/
import Derived.Test.YtfjdhclpcbgdbaaBitE
namespace Bt
theorem cmp_lt {x y : Nat} (h : x < y) : cmpV x y = -1 := by rw [cmpV, if_pos h]
theorem cmp_gt {x y : Nat} (h : y < x) : cmpV x y = 1 := by rw [cmpV, if_neg (by omega), if_pos h]
theorem cmp_eq {x y : Nat} (h : x = y) : cmpV x y = 0 := by rw [cmpV, if_neg (by omega), if_neg (by omega)]
theorem cmp_short {x y : Nat} (h : (limbs x).length < (limbs y).length) : cmpV x y = -1 := by
  have := V_short (limbs_Ok x) (limbs_R y) h
  rw [V_limbs, V_limbs] at this
  exact cmp_lt (by omega)
theorem cmp_long {x y : Nat} (h : (limbs y).length < (limbs x).length) : cmpV x y = 1 := by
  have := V_short (limbs_Ok y) (limbs_R x) h
  rw [V_limbs, V_limbs] at this
  exact cmp_gt (by omega)
theorem cmp_at {x y k : Nat} {p q : Int} (hl : (limbs x).length = (limbs y).length) (hk : k < (limbs x).length) (hd : (limbs x).drop (k + 1) = (limbs y).drop (k + 1)) (hp : Ls.nth (limbs x) k = p) (hq : Ls.nth (limbs y) k = q) (hne : p ≠ q) : p - q = cmpV x y := by
  have h1 := (limbs_Ok x).nth hk
  have h2 := (limbs_Ok y).nth (by omega : k < (limbs y).length)
  rw [hp] at h1
  rw [hq] at h2
  rcases Int.lt_or_gt_of_ne hne with h | h
  · have := V_less_of (limbs_Ok x) (limbs_Ok y) hl hk hd (by rw [hp, hq]; exact h)
    rw [V_limbs, V_limbs] at this
    rw [cmp_lt (by omega)]; omega
  · have := V_less_of (limbs_Ok y) (limbs_Ok x) hl.symm (by omega) hd.symm (by rw [hp, hq]; exact h)
    rw [V_limbs, V_limbs] at this
    rw [cmp_gt (by omega)]; omega
theorem cmp_end {x y : Nat} (hd : (limbs x).drop 0 = (limbs y).drop 0) : cmpV x y = 0 := by
  rw [List.drop_zero, List.drop_zero] at hd
  exact cmp_eq (limbs_inj hd)
end Bt
namespace Go.Proofs.Ytfjdhclpcbgdbaa
open Go Go.RowKit
section
variable {w : World} {l1 l2 : Nat} {u v : Value} {x y : Nat}
theorem rcmp_val (hu : Kt.Row w l1 .i64 u (Bt.limbs x)) (hv : Kt.Row w l2 .i64 v (Bt.limbs y)) (h1 : (Bt.limbs x).length ≤ 100000) :
    Calls Try.prog 60 #[u, v] w fun e w' => e = .returned (.int .i64 (Bt.cmpV x y)) ∧ ∃ k, w' = w.drewN k := by
  obtain ⟨A, n, ca, rfl, hn, _, ha⟩ := bits_at hu
  obtain ⟨B, m, cb, rfl, hm, _, hb⟩ := bits_at hv
  have hn1 : n ≤ 100000 := by have := hn.out; omega
  clear h1 hu hv
  by_cases hl : n = m
  · have hne : ((n : Int) != (m : Int)) = false := by simp [hl]
    subst hl
    go_enter Try.func60, Try.ntmps60
    go_wp2
    go_loopw [5] (fun i wr => ∃ k : Nat, k ≤ n ∧ i = .int .i64 ((k : Int) - 1) ∧ Hid ((Bt.limbs x).drop k = (Bt.limbs y).drop k) ∧ ∃ q, wr = w.drewN q) (fun i _ => (intOf i + 1).toNat)
    case atStart => exact ⟨n, Nat.le_refl _, rfl, Lib.hid (by rw [List.drop_of_length_le (by rw [hn.out]; exact Nat.le_refl _), List.drop_of_length_le (by rw [hm.out]; exact Nat.le_refl _)]), 0, rfl⟩
    case round =>
      obtain ⟨k, hk, rfl, hd, q, rfl⟩ := hrel
      by_cases h0 : 0 < k
      · obtain ⟨k, rfl⟩ : ∃ j, k = j + 1 := ⟨k - 1, by omega⟩
        obtain ⟨b1, o1, rfl, hb1, hc1⟩ := ha (by have := hn.out; omega)
        obtain ⟨b2, o2, rfl, hb2, hc2⟩ := hb (by have := hm.out; omega)
        have hcell1 := hc1 k (by have := hn.out; omega)
        have hcell2 := hc2 k (by have := hm.out; omega)
        clear hc1 hc2
        rw [show ((k + 1 : Nat) : Int) - 1 = (k : Int) from by omega]
        obtain ⟨s, hs⟩ : ∃ s, Hid (Ls.nth (Bt.limbs x) k = s) := ⟨_, Lib.hid rfl⟩
        obtain ⟨t, ht⟩ : ∃ t, Hid (Ls.nth (Bt.limbs y) k = t) := ⟨_, Lib.hid rfl⟩
        have hsb := (Bt.limbs_Ok x).nth_any k
        have htb := (Bt.limbs_Ok y).nth_any k
        rw [hs.out] at hcell1 hsb
        rw [ht.out] at hcell2 htb
        obtain ⟨hs0, hs1⟩ := hsb
        obtain ⟨ht0, ht1⟩ := htb
        have hdw : IntKind.i64.wrap (s - t) = s - t := IntWalk.i64_in _ (by omega)
        by_cases hpq : s = t
        · have HD : Hid ((Bt.limbs x).drop k = (Bt.limbs y).drop k) := Lib.hid (Bt.drop_step (by rw [hn.out]; omega) (by rw [hn.out, hm.out]) hd.out (by rw [hs.out, ht.out]; exact hpq))
          go_wp2
          go_quiet (fail)
          go_wp2
          go_roundw
          case rel => exact ⟨k, by omega, rfl, HD, _, by first | rfl | exact World.drewN_drewN _ _ _ | (rw [World.drewN_drewN]; exact World.drewN_drewN _ _ _)⟩
          case measure => simp [intOf]
        · have HE : Hid (s - t = Bt.cmpV x y) := Lib.hid (Bt.cmp_at (by rw [hn.out, hm.out]) (by rw [hn.out]; omega) hd.out hs.out ht.out hpq)
          go_wp2
          go_quiet (fail)
          go_wp2
          go_quiet (fail)
          go_wp2
          go_ret
          exact ⟨Kt.ret_int HE.out, _, by first | rfl | exact World.drewN_drewN _ _ _ | (rw [World.drewN_drewN]; exact World.drewN_drewN _ _ _)⟩
      · obtain rfl : k = 0 := by omega
        have HE : Hid (Bt.cmpV x y = 0) := Lib.hid (Bt.cmp_end hd.out)
        go_wp2
        go_ret
        exact ⟨Kt.ret_int HE.out.symm, q, rfl⟩
  · have hne : ((n : Int) != (m : Int)) = true := by simp; omega
    by_cases hlt : n < m
    · have HE : Hid (Bt.cmpV x y = -1) := Lib.hid (Bt.cmp_short (by rw [hn.out, hm.out]; exact hlt))
      clear hl
      go_enter Try.func60, Try.ntmps60
      go_wp2
      go_ret
      exact ⟨Kt.ret_int HE.out.symm, 0, rfl⟩
    · have HE : Hid (Bt.cmpV x y = 1) := Lib.hid (Bt.cmp_long (by rw [hn.out, hm.out]; omega))
      clear hl
      go_enter Try.func60, Try.ntmps60
      go_wp2
      go_ret
      exact ⟨Kt.ret_int HE.out.symm, 0, rfl⟩
set_option maxHeartbeats 4000000 in
theorem rsub_val (hu : Kt.Row w l1 .i64 u (Bt.limbs x)) (hv : Kt.Row w l2 .i64 v (Bt.limbs y)) (hle : y ≤ x) (h1 : (Bt.limbs x).length ≤ 100000) :
    Calls Try.prog 61 #[u, v] w fun e w' => ∃ r, e = .returned r ∧ Kt.Row w' w.heap.size .i64 r (Bt.limbs (x - y)) ∧ Below w.heap.size w w' := by
  obtain ⟨A, n, ca, rfl, hn, _, ha⟩ := bits_at hu
  have hn1 : n ≤ 100000 := by have := hn.out; omega
  have HLE := Lib.hid hle
  clear h1 hle hu
  obtain ⟨i0, hi0, hz0, hz1, hz2⟩ := info_parts Try.infoI64
  go_enter Try.func61, Try.ntmps61
  go_wp2
  go_loopw [5, 6, 7] (fun o c i wr => ∃ (k : Nat) (cy : Int) (s : List Int), k ≤ n ∧ c = .int .i64 cy ∧ i = .int .i64 k ∧ 0 ≤ cy ∧ cy ≤ 1 ∧ Kt.Own wr w.heap.size 3 .i64 o s ∧ Hid (s.length = k) ∧ Hid (Bt.Ok s) ∧ Hid (Bt.V s - Bt.P k * cy = Bt.V ((Bt.limbs x).take k) - Bt.V ((Bt.limbs y).take k)) ∧ Below w.heap.size w wr) (fun _ _ i _ => n - (intOf i).toNat)
  case atStart => exact ⟨0, 0, [], Nat.zero_le _, rfl, rfl, by omega, by omega, Kt.Own.nil _ _ _ _, Lib.hid rfl, Lib.hid Bt.Ok.nil, Lib.hid (by simp [Bt.V]), Below.refl _ _⟩
  case round =>
    obtain ⟨k, cy, s, hk, rfl, rfl, hc0, hc1, hown, hlb, hob, hv2, hbel⟩ := hrel
    by_cases hlt : k < n
    · obtain ⟨b, o, rfl, hb, hc⟩ := ha (by have := hn.out; omega)
      have hcell := (hbel.cell (p := ⟨b, o + k, none⟩) hb).trans (hc k (by have := hn.out; omega))
      clear hc
      have hsl : s.length ≤ 100000 := by rw [hlb.out]; omega
      obtain ⟨p, hp⟩ : ∃ p, Hid (Ls.nth (Bt.limbs x) k = p) := ⟨_, Lib.hid rfl⟩
      obtain ⟨q, hq⟩ : ∃ q, Hid (Ls.nth (Bt.limbs y) k = q) := ⟨_, Lib.hid rfl⟩
      have hpb := (Bt.limbs_Ok x).nth_any k
      have hqb := (Bt.limbs_Ok y).nth_any k
      rw [hp.out] at hcell hpb
      rw [hq.out] at hqb
      obtain ⟨hp0, hp1⟩ := hpb
      obtain ⟨hq0, hq1⟩ := hqb
      have HST := Lib.hid (Bt.sub_step hlb.out hv2.out hp.out hq.out)
      have HAT : ∀ j, Calls Try.prog 49 #[v, .int .i64 k] (wr.drewN j) fun e w' => e = .returned (.int .i64 q) ∧ wr.drewN j = w' := fun j => by
        have := rat_val (w := wr.drewN j) ((hv.on hbel).drewN j) k
        rw [hq.out] at this
        exact this
      have HA := Lib.hid HAT
      clear HAT
      have w1 : IntKind.i64.wrap (2 + p) = 2 + p := IntWalk.i64_in _ (by omega)
      have w2 : IntKind.i64.wrap (2 + p - q) = 2 + p - q := IntWalk.i64_in _ (by omega)
      have w3 : IntKind.i64.wrap (2 + p - q - cy) = 2 + p - q - cy := IntWalk.i64_in _ (by omega)
      go_wp2_with fail
      go_quiet ((go_at_call 49; first | exact Kt.quiet_left (HA.out _) | exact Kt.quiet_add_left (HA.out _)))
      clear w1 w2 w3
      obtain ⟨wo, hwo⟩ : ∃ wo, wo = wr.drewN nq := ⟨_, rfl⟩
      have hown2 : Kt.Own wo w.heap.size 3 .i64 u5 s := by rw [hwo]; exact hown.drewN nq
      have hbel2 : Below w.heap.size w wo := by rw [hwo]; exact Kt.below_drewN hbel nq
      rw [← hwo]
      clear hwo hcell hbel hown HA
      go_wp2_with (at_builtin; refine wpList_append_own _ rfl (.tmp 26) (.tmp 29) 74 rfl w.heap.size 3 i0 (.int .i64 0) 1 8 Try.underlying74 hi0 hz0 hz1 hz2 rfl (by decide) _ s.length (s.map (Value.int .i64)) rfl (hown2.alloc _) ⟨wo.heap.size, 0, none⟩ 1 1 [.int .i64 ((2 + p - q - cy) % 2)] rfl rfl (Kt.cell_one _ _ _) (ints_oneCell .i64 [(2 + p - q - cy) % 2]) (by unfold maxLen; omega) (by omega) (by have := hbel2.size; simp; omega) ?_)
      intro v' w3 hown3 hgrow _
      have hown4 : Kt.Own w3 w.heap.size 3 .i64 v' (s ++ [(2 + p - q - cy) % 2]) := Kt.Own.snoc (by simpa using hown3)
      have hbel3 : Below w.heap.size w w3 := (hbel2.alloc hbel2.size _).grown hgrow (by have := hbel2.size; simp; omega) (fun g hg => Kt.own_block_ne hown2 _ hg)
      clear hown3 hgrow
      go_wp2_with fail
      go_roundw
      case rel => exact ⟨k + 1, 1 - (2 + p - q - cy) / 2, s ++ [(2 + p - q - cy) % 2], by omega, rfl, by go_num, by omega, by omega, hown4, Lib.hid (by rw [List.length_append, hlb.out]; rfl), Lib.hid (hob.out.append (Bt.Ok.one (by omega) (by omega))), HST, hbel3⟩
      case measure => simp [intOf]; omega
    · obtain rfl : k = n := by omega
      have hva : Bt.V s = ((x - y : Nat) : Int) := Bt.sub_all (by rw [hlb.out, hn.out]) hob.out hc0 HLE.out (by rw [hn.out]; exact hv2.out)
      have HVA := Lib.hid hva
      clear hva
      obtain ⟨A', c', rfl, hc', hi⟩ := Kt.Own.shape hown
      go_wp2_with fail
      refine (rtrim_any A' s.length c' s _ rfl hi hc' (by rw [hlb.out]; omega)).mono ?_
      rintro e w' ⟨t, rfl, ht, hvt, hlt', rfl⟩
      have hrow := own_cut hown hob.out HVA.out ht hvt hlt'
      clear hvt hlt'
      go_wp2
      go_ret
      exact ⟨_, rfl, hrow, hbel⟩
end
end Go.Proofs.Ytfjdhclpcbgdbaa
