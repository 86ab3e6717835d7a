/- What the reference's add returns: the bits of a sum, the second number moved up. -/
import Derived.Test.YtfjdhclpcbgdbaaBitB
import Derived.Test.YtfjdhclpcbgdbaaNatH
namespace Bt
open Go
theorem up_nth {b : List Int} {up i : Nat} : Ls.nth (Ls.zeros up ++ b) i = if up ≤ i then Ls.nth b (i - up) else 0 := by
  split
  · rw [Nt.nth_append_right _ _ _ (by rw [Ls.zeros_len]; omega), Ls.zeros_len]
  · rw [Ls.nth_append_left _ _ _ (by rw [Ls.zeros_len]; omega)]; exact nth_zeros _ _
theorem up_V (b : List Int) (up : Nat) : V (Ls.zeros up ++ b) = P up * V b := by rw [V_append, V_zeros, Ls.zeros_len, Int.zero_add]
theorem add_step {s a b : List Int} {n : Nat} {c : Int} (hs : s.length = n) (h : V s + P n * c = V (a.take n) + V (b.take n)) :
    V (s ++ [(Ls.nth a n + c + Ls.nth b n) % 2]) + P (n + 1) * ((Ls.nth a n + c + Ls.nth b n) / 2) = V (a.take (n + 1)) + V (b.take (n + 1)) := by
  rw [V_take_nth, V_take_nth, V_snoc, hs, P_succ]
  obtain ⟨t, ht⟩ : ∃ t, Ls.nth a n + c + Ls.nth b n = t := ⟨_, rfl⟩
  have e : P n * t = P n * (t % 2) + 2 * P n * (t / 2) := by
    rw [Int.mul_comm 2 (P n), Int.mul_assoc, ← Int.mul_add]
    congr 1
    omega
  have e2 : P n * t = P n * Ls.nth a n + P n * c + P n * Ls.nth b n := by rw [← ht, Int.mul_add, Int.mul_add]
  rw [ht]
  omega
end Bt
namespace Go.Proofs.Ytfjdhclpcbgdbaa
open Go Go.RowKit
/-- A list of bits of the call's own, cut behind its highest bit. -/
theorem own_cut {w : World} {base : Nat} {T : TypeId} {A : Option Addr} {n c t x : Nat} {bs : List Int} (h : Kt.Own w base T .i64 (.slice A n c) bs) (ho : Bt.Ok bs) (hv : Bt.V bs = (x : Int)) (ht : t ≤ bs.length) (he : Bt.V (bs.take t) = Bt.V bs) (hl : t = 0 ∨ Ls.nth bs (t - 1) ≠ 0) : Kt.Row w base .i64 (.slice A t c) (Bt.limbs x) := by
  rw [Bt.limbs_take ho hv ht he hl]
  rcases Nat.eq_zero_or_pos bs.length with h0 | h0
  · have hb0 : bs = [] := List.eq_nil_of_length_eq_zero h0
    subst hb0
    obtain rfl : t = 0 := by simpa using ht
    obtain ⟨A', c', e, _, _⟩ := Kt.Own.shape h
    injection e with _ e4 _
    subst e4
    exact Kt.Row.of_own h
  · obtain ⟨g, c2, e2, hc2, hlo, hrow⟩ := Kt.Row.at _ (Kt.Row.of_own h) h0
    injection e2 with e3 e4 e5
    subst e3
    subst e5
    exact (hrow.take t).row hlo t c (by rw [List.length_take]; omega) (by omega)
set_option maxHeartbeats 4000000 in
theorem radd_any (A B : Option Addr) (n m ca cb up : Nat) (a b : List Int) (x : Nat) (w : World) (hla : a.length = n) (hlb : b.length = m) (ha : Kt.Ints w w.heap.size .i64 A a) (hb : Kt.Ints w w.heap.size .i64 B b) (oa : Bt.Ok a) (ob : Bt.Ok b)
    (hx : Bt.V a + Bt.P up * Bt.V b = (x : Int)) (hn : n ≤ 100000) (hm : m + up ≤ 100000) :
    Calls Try.prog 50 #[.slice A n ca, .slice B m cb, .int .i64 up] w fun e w' => ∃ v, e = .returned v ∧ Kt.Row w' w.heap.size .i64 v (Bt.limbs x) ∧ Below w.heap.size w w' := by
  have HLA := Lib.hid hla
  have HLB := Lib.hid hlb
  have HOA := Lib.hid oa
  have HOB := Lib.hid ob
  have HX := Lib.hid hx
  clear hla hlb oa ob hx
  obtain ⟨i0, hi0, hz0, hz1, hz2⟩ := info_parts Try.infoI64
  go_enter Try.func50, Try.ntmps50
  go_wp2
  obtain ⟨N, hN⟩ : ∃ N, N = max n (m + up) := ⟨_, rfl⟩
  go_loopw [7, 8, 9] (fun v c i wr => ∃ (k : Nat) (cy : Int) (bs : List Int), (k ≤ N ∨ (k = N + 1 ∧ cy = 0)) ∧ c = .int .i64 cy ∧ i = .int .i64 k ∧ 0 ≤ cy ∧ cy ≤ 1 ∧ Kt.Own wr w.heap.size 3 .i64 v bs ∧ Hid (bs.length = k) ∧ Hid (Bt.Ok bs) ∧ Hid (Bt.V bs + Bt.P k * cy = Bt.V (a.take k) + Bt.V ((Ls.zeros up ++ b).take k)) ∧ Below w.heap.size w wr) (fun _ _ i _ => N + 2 - (intOf i).toNat)
  case atStart => exact ⟨0, 0, [], .inl (Nat.zero_le _), rfl, rfl, by omega, by omega, Kt.Own.nil _ _ _ _, Lib.hid rfl, Lib.hid Bt.Ok.nil, Lib.hid (by simp [Bt.V]), Below.refl _ _⟩
  case round =>
    obtain ⟨k, cy, bs, hk, rfl, rfl, hc0, hc1, hown, hlb, hob, hv, hbel⟩ := hrel
    have hbl : bs.length ≤ 200002 := by rw [hlb.out]; omega
    obtain ⟨p, hp⟩ : ∃ p, Hid (Ls.nth a k = p) := ⟨_, Lib.hid rfl⟩
    obtain ⟨q, hq⟩ : ∃ q, Hid (Ls.nth b (k - up) = q) := ⟨_, Lib.hid rfl⟩
    have hpb := HOA.out.nth_any k
    have hqb := HOB.out.nth_any (k - up)
    rw [hp.out] at hpb
    rw [hq.out] at hqb
    obtain ⟨hp0, hp1⟩ := hpb
    obtain ⟨hq0, hq1⟩ := hqb
    have hs0 := Bt.add_step hlb.out hv.out
    rw [Bt.up_nth, hp.out, hq.out] at hs0
    have HS0 := Lib.hid hs0
    clear hs0
    have HPN : Hid (n ≤ k → p = 0) := Lib.hid (fun h => by rw [← hp.out]; exact Bt.nth_out (by rw [HLA.out]; exact h))
    have HQN : Hid (m + up ≤ k → q = 0) := Lib.hid (fun h => by rw [← hq.out]; exact Bt.nth_out (by rw [HLB.out]; omega))
    by_cases hgo : k < n ∨ k < m + up ∨ 0 < cy
    · have hkN : k ≤ N := by omega
      by_cases h1 : k < n
      · clear hgo
        by_cases hu : up ≤ k
        · have HSTEP : Hid (_) := Lib.hid (by have h9 := HS0.out; rw [if_pos hu] at h9; exact h9)
          go_wp2_with fail
          refine (rat_any A n ca a k _ HLA.out (ha.on hbel)).mono ?_
          rw [hp.out]
          rintro e w' ⟨rfl, rfl⟩
          go_wp2_with fail
          rw [show ((k : Int) - (up : Int)) = ((k - up : Nat) : Int) from by omega]
          refine (rat_any B m cb b (k - up) _ HLB.out (hb.on hbel)).mono ?_
          rw [hq.out]
          rintro e w' ⟨rfl, rfl⟩
          go_wp2_with (at_builtin; refine wpList_append_own _ rfl (.tmp 44) (.tmp 47) 74 rfl w.heap.size 3 i0 (.int .i64 0) 1 8 Try.underlying74 hi0 hz0 hz1 hz2 rfl (by decide) _ bs.length (bs.map (Value.int .i64)) rfl (hown.alloc _) ⟨wr.heap.size, 0, none⟩ 1 1 [.int .i64 ((p + cy + q) % 2)] rfl rfl (Kt.cell_one _ _ _) (ints_oneCell .i64 [(p + cy + q) % 2]) (by unfold maxLen; omega) (by omega) (by have := hbel.size; simp; omega) ?_)
          intro v' w3 hown3 hgrow _
          have hown4 : Kt.Own w3 w.heap.size 3 .i64 v' (bs ++ [(p + cy + q) % 2]) := Kt.Own.snoc (by simpa using hown3)
          have hbel3 : Below w.heap.size w w3 := (hbel.alloc hbel.size _).grown hgrow (by have := hbel.size; simp; omega) (fun g hg => Kt.own_block_ne hown _ hg)
          clear hown3 hgrow
          go_wp2_with fail
          go_roundw
          case rel => exact ⟨k + 1, (p + cy + q) / 2, bs ++ [(p + cy + q) % 2], by have h8 := HPN.out; have h9 := HQN.out; omega, rfl, by go_num, by omega, by omega, hown4, Lib.hid (by rw [List.length_append, hlb.out]; rfl), Lib.hid (hob.out.append (Bt.Ok.one (by omega) (by omega))), Lib.hid (HSTEP.out), hbel3⟩
          case measure => simp [intOf]; omega
        · have HSTEP : Hid (_) := Lib.hid (by have h9 := HS0.out; rw [if_neg hu, Int.add_zero] at h9; exact h9)
          go_wp2_with fail
          refine (rat_any A n ca a k _ HLA.out (ha.on hbel)).mono ?_
          rw [hp.out]
          rintro e w' ⟨rfl, rfl⟩
          go_wp2_with (at_builtin; refine wpList_append_own _ rfl (.tmp 44) (.tmp 47) 74 rfl w.heap.size 3 i0 (.int .i64 0) 1 8 Try.underlying74 hi0 hz0 hz1 hz2 rfl (by decide) _ bs.length (bs.map (Value.int .i64)) rfl (hown.alloc _) ⟨wr.heap.size, 0, none⟩ 1 1 [.int .i64 ((p + cy) % 2)] rfl rfl (Kt.cell_one _ _ _) (ints_oneCell .i64 [(p + cy) % 2]) (by unfold maxLen; omega) (by omega) (by have := hbel.size; simp; omega) ?_)
          intro v' w3 hown3 hgrow _
          have hown4 : Kt.Own w3 w.heap.size 3 .i64 v' (bs ++ [(p + cy) % 2]) := Kt.Own.snoc (by simpa using hown3)
          have hbel3 : Below w.heap.size w w3 := (hbel.alloc hbel.size _).grown hgrow (by have := hbel.size; simp; omega) (fun g hg => Kt.own_block_ne hown _ hg)
          clear hown3 hgrow
          go_wp2_with fail
          go_roundw
          case rel => exact ⟨k + 1, (p + cy) / 2, bs ++ [(p + cy) % 2], by have h8 := HPN.out; have h9 := HQN.out; omega, rfl, by go_num, by omega, by omega, hown4, Lib.hid (by rw [List.length_append, hlb.out]; rfl), Lib.hid (hob.out.append (Bt.Ok.one (by omega) (by omega))), Lib.hid (HSTEP.out), hbel3⟩
          case measure => simp [intOf]; omega
      · by_cases h2 : k < m + up
        · clear hgo
          by_cases hu : up ≤ k
          · have HSTEP : Hid (_) := Lib.hid (by have h9 := HS0.out; rw [if_pos hu] at h9; exact h9)
            go_wp2_with fail
            refine (rat_any A n ca a k _ HLA.out (ha.on hbel)).mono ?_
            rw [hp.out]
            rintro e w' ⟨rfl, rfl⟩
            go_wp2_with fail
            rw [show ((k : Int) - (up : Int)) = ((k - up : Nat) : Int) from by omega]
            refine (rat_any B m cb b (k - up) _ HLB.out (hb.on hbel)).mono ?_
            rw [hq.out]
            rintro e w' ⟨rfl, rfl⟩
            go_wp2_with (at_builtin; refine wpList_append_own _ rfl (.tmp 44) (.tmp 47) 74 rfl w.heap.size 3 i0 (.int .i64 0) 1 8 Try.underlying74 hi0 hz0 hz1 hz2 rfl (by decide) _ bs.length (bs.map (Value.int .i64)) rfl (hown.alloc _) ⟨wr.heap.size, 0, none⟩ 1 1 [.int .i64 ((p + cy + q) % 2)] rfl rfl (Kt.cell_one _ _ _) (ints_oneCell .i64 [(p + cy + q) % 2]) (by unfold maxLen; omega) (by omega) (by have := hbel.size; simp; omega) ?_)
            intro v' w3 hown3 hgrow _
            have hown4 : Kt.Own w3 w.heap.size 3 .i64 v' (bs ++ [(p + cy + q) % 2]) := Kt.Own.snoc (by simpa using hown3)
            have hbel3 : Below w.heap.size w w3 := (hbel.alloc hbel.size _).grown hgrow (by have := hbel.size; simp; omega) (fun g hg => Kt.own_block_ne hown _ hg)
            clear hown3 hgrow
            go_wp2_with fail
            go_roundw
            case rel => exact ⟨k + 1, (p + cy + q) / 2, bs ++ [(p + cy + q) % 2], by have h8 := HPN.out; have h9 := HQN.out; omega, rfl, by go_num, by omega, by omega, hown4, Lib.hid (by rw [List.length_append, hlb.out]; rfl), Lib.hid (hob.out.append (Bt.Ok.one (by omega) (by omega))), Lib.hid (HSTEP.out), hbel3⟩
            case measure => simp [intOf]; omega
          · have HSTEP : Hid (_) := Lib.hid (by have h9 := HS0.out; rw [if_neg hu, Int.add_zero] at h9; exact h9)
            go_wp2_with fail
            refine (rat_any A n ca a k _ HLA.out (ha.on hbel)).mono ?_
            rw [hp.out]
            rintro e w' ⟨rfl, rfl⟩
            go_wp2_with (at_builtin; refine wpList_append_own _ rfl (.tmp 44) (.tmp 47) 74 rfl w.heap.size 3 i0 (.int .i64 0) 1 8 Try.underlying74 hi0 hz0 hz1 hz2 rfl (by decide) _ bs.length (bs.map (Value.int .i64)) rfl (hown.alloc _) ⟨wr.heap.size, 0, none⟩ 1 1 [.int .i64 ((p + cy) % 2)] rfl rfl (Kt.cell_one _ _ _) (ints_oneCell .i64 [(p + cy) % 2]) (by unfold maxLen; omega) (by omega) (by have := hbel.size; simp; omega) ?_)
            intro v' w3 hown3 hgrow _
            have hown4 : Kt.Own w3 w.heap.size 3 .i64 v' (bs ++ [(p + cy) % 2]) := Kt.Own.snoc (by simpa using hown3)
            have hbel3 : Below w.heap.size w w3 := (hbel.alloc hbel.size _).grown hgrow (by have := hbel.size; simp; omega) (fun g hg => Kt.own_block_ne hown _ hg)
            clear hown3 hgrow
            go_wp2_with fail
            go_roundw
            case rel => exact ⟨k + 1, (p + cy) / 2, bs ++ [(p + cy) % 2], by have h8 := HPN.out; have h9 := HQN.out; omega, rfl, by go_num, by omega, by omega, hown4, Lib.hid (by rw [List.length_append, hlb.out]; rfl), Lib.hid (hob.out.append (Bt.Ok.one (by omega) (by omega))), Lib.hid (HSTEP.out), hbel3⟩
            case measure => simp [intOf]; omega
        · have h3 : 0 < cy := by omega
          clear hgo
          have hu : up ≤ k := by omega
          have HSTEP : Hid (_) := Lib.hid (by have h9 := HS0.out; rw [if_pos hu] at h9; exact h9)
          go_wp2_with fail
          refine (rat_any A n ca a k _ HLA.out (ha.on hbel)).mono ?_
          rw [hp.out]
          rintro e w' ⟨rfl, rfl⟩
          go_wp2_with fail
          rw [show ((k : Int) - (up : Int)) = ((k - up : Nat) : Int) from by omega]
          refine (rat_any B m cb b (k - up) _ HLB.out (hb.on hbel)).mono ?_
          rw [hq.out]
          rintro e w' ⟨rfl, rfl⟩
          go_wp2_with (at_builtin; refine wpList_append_own _ rfl (.tmp 44) (.tmp 47) 74 rfl w.heap.size 3 i0 (.int .i64 0) 1 8 Try.underlying74 hi0 hz0 hz1 hz2 rfl (by decide) _ bs.length (bs.map (Value.int .i64)) rfl (hown.alloc _) ⟨wr.heap.size, 0, none⟩ 1 1 [.int .i64 ((p + cy + q) % 2)] rfl rfl (Kt.cell_one _ _ _) (ints_oneCell .i64 [(p + cy + q) % 2]) (by unfold maxLen; omega) (by omega) (by have := hbel.size; simp; omega) ?_)
          intro v' w3 hown3 hgrow _
          have hown4 : Kt.Own w3 w.heap.size 3 .i64 v' (bs ++ [(p + cy + q) % 2]) := Kt.Own.snoc (by simpa using hown3)
          have hbel3 : Below w.heap.size w w3 := (hbel.alloc hbel.size _).grown hgrow (by have := hbel.size; simp; omega) (fun g hg => Kt.own_block_ne hown _ hg)
          clear hown3 hgrow
          go_wp2_with fail
          go_roundw
          case rel => exact ⟨k + 1, (p + cy + q) / 2, bs ++ [(p + cy + q) % 2], by have h8 := HPN.out; have h9 := HQN.out; omega, rfl, by go_num, by omega, by omega, hown4, Lib.hid (by rw [List.length_append, hlb.out]; rfl), Lib.hid (hob.out.append (Bt.Ok.one (by omega) (by omega))), Lib.hid (HSTEP.out), hbel3⟩
          case measure => simp [intOf]; omega
    · obtain ⟨g1, g2, g3⟩ : ¬ k < n ∧ ¬ k < m + up ∧ ¬ 0 < cy := by omega
      obtain rfl : cy = 0 := by omega
      clear hgo
      have hv2 := hv.out
      rw [Int.mul_zero, Int.add_zero, Bt.V_take_all a _ (by rw [HLA.out]; omega), Bt.V_take_all _ _ (by rw [List.length_append, Ls.zeros_len, HLB.out]; omega), Bt.up_V, HX.out] at hv2
      have HVX := Lib.hid hv2
      clear hv2
      obtain ⟨A', c', rfl, hc', hi⟩ := Kt.Own.shape hown
      go_wp2_with fail
      refine (rtrim_any A' bs.length c' bs _ rfl hi hc' (by omega)).mono ?_
      rintro e w' ⟨t, rfl, ht, hvt, hlt', rfl⟩
      have hrow := own_cut hown hob.out HVX.out ht hvt hlt'
      clear hvt hlt'
      go_wp2
      go_ret
      exact ⟨_, rfl, hrow, hbel⟩
end Go.Proofs.Ytfjdhclpcbgdbaa
