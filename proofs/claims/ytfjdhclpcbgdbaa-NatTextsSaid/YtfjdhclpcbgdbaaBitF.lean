/- What the reference's limbs and fit return: the limbs of bits. -/
import Derived.Test.YtfjdhclpcbgdbaaBitE
namespace Go.Proofs.Ytfjdhclpcbgdbaa
open Go Go.RowKit
set_option maxHeartbeats 4000000 in
theorem rlimbs_val {w : World} {l1 : Nat} {u : Value} {x : Nat} (hu : Kt.Row w l1 .i64 u (Bt.limbs x)) (h1 : (Bt.limbs x).length ≤ 100000) :
    Calls Try.prog 53 #[u] w fun e w' => ∃ v, e = .returned v ∧ Kt.Num w' w.heap.size v x ∧ Below w.heap.size w w' := by
  have HT := Lib.hid (rtrim_val hu (by omega))
  obtain ⟨A, n, ca, rfl, hn, _, ha⟩ := bits_at hu
  have hn1 : n ≤ 100000 := by have := hn.out; omega
  clear h1
  obtain ⟨i0, hi0, hz0, hz1, hz2⟩ := info_parts Try.infoU32
  go_enter Try.func53, Try.ntmps53
  go_wp2_with fail
  refine HT.out.mono ?_
  rintro e w' ⟨rfl, rfl⟩
  go_wp2_with fail
  go_loopw [3, 4] (fun o i wr => ∃ (k : Nat) (L : List Int), k ≤ n ∧ i = .int .i64 k ∧ Kt.Own wr w.heap.size 33 .u32 o L ∧ Hid (L.length = (k + 31) / 32) ∧ Hid (Nt.Ok L) ∧ Hid (Nt.V L = Bt.V ((Bt.limbs x).take k)) ∧ Below w.heap.size w wr) (fun _ i _ => n - (intOf i).toNat)
  case atStart => exact ⟨0, [], Nat.zero_le _, rfl, Kt.Own.nil _ _ _ _, Lib.hid rfl, Lib.hid Nt.Ok.nil, Lib.hid (by simp [Nt.V, Bt.V]), Below.refl _ _⟩
  case round =>
    obtain ⟨k, L, hk, rfl, hown, hlb, hob, hv, hbel⟩ := hrel
    by_cases hlt : k < n
    · have HVL : Hid (Bt.V ((Bt.limbs x).take k) < Bt.P k) := Lib.hid (Bt.V_take_lt x k)
      obtain ⟨b, o, rfl, hb, hcb⟩ := ha (by have := hn.out; omega)
      obtain ⟨p, hp⟩ : ∃ p, Hid (Ls.nth (Bt.limbs x) k = p) := ⟨_, Lib.hid rfl⟩
      have hpb := (Bt.limbs_Ok x).nth_any k
      rw [hp.out] at hpb
      obtain ⟨hp0, hp1⟩ := hpb
      obtain ⟨j, r, hkj, hr32⟩ : ∃ j r, k = 32 * j + r ∧ r < 32 := ⟨k / 32, k % 32, by omega, by omega⟩
      have HKJ := Lib.hid hkj
      have hq1 : (k : Int) / 32 = (j : Int) := by omega
      have hq2 : (k : Int) % 32 = (r : Int) := by omega
      have hjk : j ≤ k := by omega
      clear hkj
      by_cases h32 : r = 0
      · subst h32
        have hbl : L.length ≤ 200000 := by have := hlb.out; omega
        go_wp2_with (at_builtin; refine wpList_append_own _ rfl (.tmp 16) (.tmp 17) 22 rfl w.heap.size 33 i0 (.int .u32 0) 1 4 Try.underlying22 hi0 hz0 hz1 hz2 rfl (by decide) _ L.length (L.map (Value.int .u32)) rfl (hown.alloc _) ⟨wr.heap.size, 0, none⟩ 1 1 [.int .u32 0] rfl rfl (Kt.cell_one _ _ _) (ints_oneCell .u32 [0]) (by unfold maxLen; omega) (by omega) (by have := hbel.size; simp; omega) ?_)
        intro v' w3 hown3 hgrow _
        have hown4 : Kt.Own w3 w.heap.size 33 .u32 v' (L ++ [0]) := Kt.Own.snoc (by simpa using hown3)
        have hbel3 : Below w.heap.size w w3 := (hbel.alloc hbel.size _).grown hgrow (by have := hbel.size; simp; omega) (fun g hg => Kt.own_block_ne hown _ hg)
        have hcell := (hbel3.cell (p := ⟨b, o + k, none⟩) hb).trans (hcb k (by have := hn.out; omega))
        rw [hp.out] at hcell
        have hl2 : Hid ((L ++ [0]).length = j + 1) := Lib.hid (by rw [List.length_append, hlb.out, List.length_singleton]; have := HKJ.out; omega)
        have ho2 : Hid (Nt.Ok (L ++ [0])) := Lib.hid (hob.out.append (Nt.Ok.one (by omega) (by omega)))
        have hv2 : Hid (Nt.V (L ++ [0]) = Bt.V ((Bt.limbs x).take k)) := Lib.hid (by rw [Bt.Nt_zero_snoc]; exact hv.out)
        obtain ⟨L2, HL2⟩ : ∃ L2, Hid (L ++ [0] = L2) := ⟨_, Lib.hid rfl⟩
        rw [HL2.out] at hown4 hl2 ho2 hv2
        have hrz : ((0 : Nat) : Int) = 0 := rfl
        clear hown3 hgrow hown hlb hob hv hbl hbel HL2 hcb
        cases hpe : (p == 1)
        · have HV2 : Hid (Nt.V L2 = Bt.V ((Bt.limbs x).take (k + 1))) := Lib.hid (by
            rw [hv2.out, Bt.V_take_nth, hp.out, show p = 0 from by (have : p ≠ 1 := by simpa using hpe); omega, Int.mul_zero, Int.add_zero])
          go_wp2_with fail
          go_roundw
          case rel => exact ⟨k + 1, L2, by omega, by go_num, hown4, Lib.hid (by have := hl2.out; have := HKJ.out; omega), ho2, HV2, hbel3⟩
          case measure => simp [intOf]; omega
        · have hst := Bt.limb_set (j := j) (r := 0) ho2.out hl2.out (by omega) hv2.out (by rw [← HKJ.out]; exact HVL.out)
          obtain ⟨hs0, hs1, hs2, hs3⟩ := hst
          have HV2 : Hid (Nt.V (L2.set j (Ls.nth L2 j + Bt.P 0)) = Bt.V ((Bt.limbs x).take (k + 1))) := Lib.hid (by
            rw [hs3, ← HKJ.out, Bt.V_take_nth, hp.out, show p = 1 from by simpa using hpe, Int.mul_one])
          obtain ⟨q, hq⟩ : ∃ q, Hid (Ls.nth L2 j = q) := ⟨_, Lib.hid rfl⟩
          have hpp : Bt.P 0 = 1 := by rfl
          have hs4 : 0 ≤ Ls.nth L2 j + Bt.P 0 := by have := Bt.P_pos 0; omega
          rw [hq.out] at hs0 hs1 hs2 hs4 HV2
          rw [hpp] at hs1 hs2 hs4 HV2
          have HO := Lib.hid hs2
          clear hs2 hs3 hpp
          have HS1 := Lib.hid hs1
          have HS4 := Lib.hid hs4
          clear hs1 hs4
          obtain ⟨g, c, rfl, hcc, hbg, hgl, hcells, hfrs⟩ := hown4.block (by have := hl2.out; omega)
          have hcell2 := hcells j (by have := hl2.out; omega)
          have hfr2 := hfrs j
          rw [hq.out] at hcell2
          clear hcells hfrs
          obtain ⟨n2, hn2⟩ : ∃ n2, Hid (L2.length = n2) := ⟨_, Lib.hid rfl⟩
          have hn3 : j < n2 := by have := hl2.out; have := hn2.out; omega
          rw [hn2.out] at hcc hown4 ⊢
          go_wp2_with fail
          go_roundw
          case rel => exact ⟨k + 1, L2.set j (q + 1), by omega, by go_num, by rw [Int.emod_eq_of_lt HS4.out (Int.lt_of_le_of_lt HS1.out (by decide))]; exact own_set hown4 j _, Lib.hid (by rw [List.length_set]; have := hl2.out; have := HKJ.out; omega), HO, HV2, hbel3.setCell hbg _⟩
          case measure => simp [intOf]; omega
      · have hown4 := hown
        have hbel3 := hbel
        have hcell := (hbel.cell (p := ⟨b, o + k, none⟩) hb).trans (hcb k (by have := hn.out; omega))
        rw [hp.out] at hcell
        have hl2 : Hid (L.length = j + 1) := Lib.hid (by rw [hlb.out]; have := HKJ.out; omega)
        have ho2 := hob
        have hv2 := hv
        clear hown hlb hob hv hbel hcb
        cases hpe : (p == 1)
        · have HV2 : Hid (Nt.V L = Bt.V ((Bt.limbs x).take (k + 1))) := Lib.hid (by
            rw [hv2.out, Bt.V_take_nth, hp.out, show p = 0 from by (have : p ≠ 1 := by simpa using hpe); omega, Int.mul_zero, Int.add_zero])
          go_wp2_with fail
          go_roundw
          case rel => exact ⟨k + 1, L, by omega, by go_num, hown4, Lib.hid (by have := hl2.out; have := HKJ.out; omega), ho2, HV2, hbel3⟩
          case measure => simp [intOf]; omega
        · have hst := Bt.limb_set (j := j) (r := r) ho2.out hl2.out (by omega) hv2.out (by rw [← HKJ.out]; exact HVL.out)
          obtain ⟨hs0, hs1, hs2, hs3⟩ := hst
          have HV2 : Hid (Nt.V (L.set j (Ls.nth L j + Bt.P r)) = Bt.V ((Bt.limbs x).take (k + 1))) := Lib.hid (by
            rw [hs3, ← HKJ.out, Bt.V_take_nth, hp.out, show p = 1 from by simpa using hpe, Int.mul_one])
          obtain ⟨q, hq⟩ : ∃ q, Hid (Ls.nth L j = q) := ⟨_, Lib.hid rfl⟩
          have hpp : Bt.P r = 2 ^ r := by rw [Bt.P_pow]; simp
          have hs4 : 0 ≤ Ls.nth L j + Bt.P r := by have := Bt.P_pos r; omega
          rw [hq.out] at hs0 hs1 hs2 hs4 HV2
          rw [hpp] at hs1 hs2 hs4 HV2
          have HO := Lib.hid hs2
          clear hs2 hs3 hpp
          have HS1 := Lib.hid hs1
          have HS4 := Lib.hid hs4
          clear hs1 hs4
          obtain ⟨g, c, rfl, hcc, hbg, hgl, hcells, hfrs⟩ := hown4.block (by have := hl2.out; omega)
          have hcell2 := hcells j (by have := hl2.out; omega)
          have hfr2 := hfrs j
          rw [hq.out] at hcell2
          clear hcells hfrs
          obtain ⟨n2, hn2⟩ : ∃ n2, Hid (L.length = n2) := ⟨_, Lib.hid rfl⟩
          have hn3 : j < n2 := by have := hl2.out; have := hn2.out; omega
          rw [hn2.out] at hcc hown4 ⊢
          go_wp2_with fail
          go_roundw
          case rel => exact ⟨k + 1, L.set j (q + 2 ^ r), by omega, by go_num, by rw [Int.emod_eq_of_lt HS4.out (Int.lt_of_le_of_lt HS1.out (by decide))]; exact own_set hown4 j _, Lib.hid (by rw [List.length_set]; have := hl2.out; have := HKJ.out; omega), HO, HV2, hbel3.setCell hbg _⟩
          case measure => simp [intOf]; omega
    · obtain rfl : k = n := by omega
      have e := Bt.limbs_end hn.out hob.out hlb.out hv.out
      have E := Lib.hid e
      clear e
      go_wp2_with fail
      go_ret
      refine ⟨_, rfl, ?_, hbel⟩
      unfold Kt.Num
      rw [E.out]
      exact Kt.Row.of_own hown
end Go.Proofs.Ytfjdhclpcbgdbaa
