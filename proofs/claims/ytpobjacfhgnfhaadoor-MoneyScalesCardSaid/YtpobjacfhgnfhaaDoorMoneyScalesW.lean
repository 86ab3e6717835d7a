/- The walk of MoneyScales. -/
import Derived.Test.YtpobjacfhgnfhaaDoorScalesM
import Derived.Test.YtpobjacfhgnfhaaDoorKit3
namespace Go.Proofs.YtpobjacfhgnfhaaDoor
open Go Go.RowKit

theorem split_yesn (c : Int) (A : Option Addr) (n cp : Nat) (ws : List Int) (w : World) (hl : ws.length = n) (hz : Kt.Ints w w.heap.size .i64 A ws) (hn : n ≤ 4096) (h1 : -1000000000000000 ≤ c) (h2 : c ≤ 1000000000000000)
    (hall : ws.all Mny.wOk = true) (hS : 0 < Ls.isum ws) (os : List Int) (ho : Mny.outL c ws = os) :
    Calls Tryd.prog 16 #[.int .i64 c, .slice A n cp] w fun e w' => e = .returned (.tuple #[.slice (some ⟨w.heap.size, 0, none⟩) n n, .int .i64 0]) ∧ Kt.IBlk w' w.heap.size 3 .i64 os ∧ Below w.heap.size w w' := by
  subst hl; subst ho
  exact split_yes c A cp ws w hz hn h1 h2 hall hS
theorem same_valn (A B : Option Addr) (n m ca cb : Nat) (a b : List Int) (w : World) (hn : a.length = n) (hm : b.length = m) (ha : Kt.Ints w w.heap.size .i64 A a) (hb : Kt.Ints w w.heap.size .i64 B b) (hla : a.length ≤ 4611686018427387904) (v : Bool) (hv : sameB a b = v) :
    Calls Tryd.prog 17 #[.slice A n ca, .slice B m cb] w fun e w' => e = .returned (.bool v) ∧ Below w.heap.size w w' := by
  subst hn; subst hm
  exact same_val A B ca cb a b w ha hb hla v hv

set_option maxRecDepth 100000 in
set_option maxHeartbeats 8000000 in
theorem walk_MoneyScales (w : World) (n : Int) (_wn : (Lit.int .i64 n).wf = true) (A : Option Addr) (cp : Nat) (l : List Int) (_hlc : l.length ≤ cp) (_hcm : cp ≤ maxLen) (hz : Kt.Ints w w.heap.size .u32 A l) (hw : ∀ x ∈ l, (Lit.int .u32 x).wf = true) (hn : l.length * 4 ≤ 140737488351232)
    (b : Int) (_wb : (Lit.int .i64 b).wf = true) (zs : Int) (wz : (Lit.int .u16 zs).wf = true) (ht : Tab w) :
    Calls Tryd.prog 5 #[.int .i64 n, .slice A l.length cp, .int .i64 b, .int .u16 zs] w fun e w' => e = .returned (.bool true) ∧ Below w.heap.size w w' := by
  have HT := Lib.hid ht
  clear ht
  obtain ⟨hc1, hc2⟩ := amountOf_bd n
  obtain ⟨c, HC⟩ : ∃ c, Hid (amountOf n = c) := ⟨_, Lib.hid rfl⟩
  rw [HC.out] at hc1 hc2
  have hzs : 0 ≤ zs ∧ zs ≤ 65535 := by
    have hmin : IntKind.u16.min = 0 := rfl
    have hmax : IntKind.u16.max = 65535 := rfl
    simp only [Lit.wf, Bool.and_eq_true, decide_eq_true_eq] at wz
    omega
  clear wz
  obtain ⟨hzs1, hzs2⟩ := hzs
  obtain ⟨p, hp⟩ : ∃ p : Int, Hid (b % 1000 = p) := ⟨_, Lib.hid rfl⟩
  have hp1 : 0 ≤ p ∧ p ≤ 999 := by have := hp.out; omega
  obtain ⟨hp1, hp2⟩ := hp1
  obtain ⟨_, _, hlen, _⟩ := weightsOf_ok l
  have hwlen := wl_len l
  have hwnth := wl_nth l
  obtain ⟨ws, HW⟩ : ∃ ws, Hid (weightsOf l = ws) := ⟨_, Lib.hid rfl⟩
  have hwsb : ∀ x ∈ ws, 0 ≤ x ∧ x ≤ 1000000 := fun x hx => by have := Mny.ws_all (weightsOf_ok l).1 x (by rw [HW.out]; exact hx); omega
  rw [HW.out] at hlen hwlen hwnth
  obtain ⟨xs, HX⟩ : ∃ xs, Hid (wl l = xs) := ⟨_, Lib.hid rfl⟩
  rw [HX.out] at hwlen hwnth
  have HNTH := Lib.hid hwnth
  have HWB := Lib.hid hwsb
  have hu : ∀ x ∈ l, 0 ≤ x ∧ x ≤ 4294967295 := fun x hx => by
    have := hw x hx
    have hmin : IntKind.u32.min = 0 := rfl
    have hmax : IntKind.u32.max = 4294967295 := rfl
    simp only [Lit.wf, Bool.and_eq_true, decide_eq_true_eq] at this
    omega
  have HU := Lib.hid hu
  clear hw hu hwnth hwsb
  obtain ⟨i0, hi0, hz0, hz1, hz2⟩ := info_parts Tryd.infoInt
  go_enter Tryd.func5, Tryd.ntmps5
  go_wp2_with fail
  refine (awake_any _ HT.out).mono ?_
  rintro e w0 ⟨rfl, hb0⟩
  go_wp2_with fail
  refine (amount_val n c _ HC.out).mono ?_
  rintro e w' ⟨rfl, rfl⟩
  go_wp2_with fail
  refine (pick_val b 1000 p _ (by omega) (by omega) hp.out).mono ?_
  rintro e w' ⟨rfl, rfl⟩
  go_wp2_with fail
  refine (weights_any A cp l _ (hz.on hb0) HU.out (by omega)).mono ?_
  rw [HW.out]
  rintro e w1 ⟨A1, c1, rfl, hi1, hb1⟩
  have hbw1 : Below w.heap.size w w1 := Kt.next hb0 hb1
  clear hb0 hb1 hz
  obtain ⟨m, HM⟩ : ∃ m, Hid (ws.length = m) := ⟨_, Lib.hid rfl⟩
  rw [HM.out] at hlen hwlen
  rw [HM.out]
  obtain ⟨q, hq⟩ : ∃ q, Hid (1 + p = q) := ⟨_, Lib.hid rfl⟩
  have hq1 : 1 ≤ q ∧ q ≤ 1000 := by have := hq.out; omega
  obtain ⟨hq1, hq2⟩ := hq1
  rw [hq.out]
  go_wp2_with fail
  go_loopw [11, 39] (fun v i wr => ∃ k : Nat, k ≤ m ∧ i = .int .i64 k ∧ Kt.Own wr w1.heap.size 3 .i64 v (xs.take k) ∧ Below w1.heap.size w1 wr) (fun _ i _ => m - (intOf i).toNat)
  case atStart => exact ⟨0, Nat.zero_le _, rfl, Kt.Own.nil _ _ _ _, Below.refl _ _⟩
  case round =>
    obtain ⟨k, hk, rfl, hown, hbel⟩ := hrel
    by_cases hlt : k < m
    · obtain ⟨b2, off, rfl, hb, hc⟩ := hi1 (by have := HM.out; omega)
      have hkw : k < ws.length := by have := HM.out; omega
      have hcell := (hbel.cell (p := ⟨b2, off + k, none⟩) hb).trans (hc k hkw)
      have hxb := HWB.out _ (Ls.nth_mem ws k hkw)
      obtain ⟨x, HXX⟩ : ∃ x, Hid (Ls.nth ws k = x) := ⟨_, Lib.hid rfl⟩
      rw [HXX.out] at hcell hxb
      obtain ⟨hxb1, hxb2⟩ := hxb
      have hlt3 : (xs.take k).length = min k 2047 := by rw [List.length_take]; omega
      obtain ⟨Av, cv, rfl, _, _⟩ := hown.shape
      clear hc hkw
      by_cases hk2 : k < 2047
      · have hlen3 : (xs.take k).length = k := by omega
        have HLEN := Lib.hid hlen3
        have HN : Hid (Ls.nth xs k = x % 1001) := Lib.hid (by rw [HNTH.out k (by have := HM.out; omega) hk2, HXX.out])
        have HT1 := Lib.hid (Ls.take_nth xs k (by omega))
        have hgrown : w1.heap.size ≤ wr.heap.size := hbel.size
        have hown2 : wr.ownsRow w1.heap.size 3 1 (.slice Av k cv) k ((xs.take k).map (Value.int .i64)) := by have := hown; unfold Kt.Own at this; rwa [hlen3] at this
        have hel : ((xs.length : Int) ≤ 2047) := by omega
        rw [hlen3]
        clear hlt3 hlen3 hel
        go_wp2_with (at_builtin; refine wpList_append_own_at _ rfl (.tmp 46) (.tmp 49) 33 rfl w1.heap.size 3 i0 (.int .i64 0) 1 8 Tryd.underlying33 hi0 hz0 hz1 hz2 rfl (by decide) _ _ _ rfl (hown2.alloc _) ⟨wr.heap.size, 0, none⟩ 1 1 [.int .i64 (x % 1001)] rfl rfl (Kt.cell_one _ _ _) (ints_oneCell .i64 [x % 1001]) (by unfold maxLen; omega) (by omega) (by simp; omega) ?_)
        intro v' w2 hown' hgrow _ _
        have hown3 : Kt.Own w2 w1.heap.size 3 .i64 v' (xs.take (k + 1)) := by
          rw [HT1.out, HN.out]
          apply Kt.Own.snoc
          rw [HLEN.out, List.map_take]
          exact hown'
        have hbel1 : Below w1.heap.size w1 w2 := (hbel.alloc hgrown _).grown hgrow (by simp; omega) (fun g hg => (World.ownsRow.lt hown2 g hg).1)
        clear hown' hgrow hown hown2 hcell hbel
        go_wp2
        go_roundw
        case rel => exact ⟨k + 1, by omega, by go_num, hown3, hbel1⟩
        case measure => simp [intOf]; omega
      · have hlen3 : (xs.take k).length = 2047 := by omega
        have HT1 : Hid (xs.take (k + 1) = xs.take k) := Lib.hid (by rw [List.take_of_length_le (by omega), List.take_of_length_le (by omega)])
        rw [hlen3]
        have HLEN := Lib.hid hlen3
        clear hlt3 hlen3
        go_wp2
        go_roundw
        case rel => exact ⟨k + 1, by omega, by go_num, by rw [HT1.out]; have := hown; rwa [HLEN.out] at this, hbel⟩
        case measure => simp [intOf]; omega
    · obtain rfl : k = m := by omega
      have HA : Hid (xs.take k = xs) := Lib.hid (List.take_of_length_le (by omega))
      rw [HA.out] at hown
      have HALL := Lib.hid (wl1_all l)
      have HSUM := Lib.hid (wl1_sum l)
      have HLL := wl1_len l
      have hsb := wl1_bd l
      unfold wl1 at HALL HSUM HLL hsb
      rw [HX.out] at HALL HSUM HLL hsb
      obtain ⟨wx, rfl⟩ : ∃ wx : World, wx = wr := ⟨_, rfl⟩
      have hbwx : Below w.heap.size w wx := Kt.next hbw1 hbel
      have hgx : w1.heap.size ≤ wx.heap.size := hbel.size
      obtain ⟨j, HJ⟩ : ∃ j, Hid (xs.length = j) := ⟨_, Lib.hid rfl⟩
      have hown2 : wx.ownsRow w1.heap.size 3 1 u11 j (xs.map (Value.int .i64)) := by have := hown; unfold Kt.Own at this; rwa [HJ.out] at this
      have hj : j ≤ 2047 := by have := HJ.out; omega
      clear hi1 hlt hk hwlen
      go_wp2_with (at_builtin; refine wpList_append_own_at _ rfl (.tmp 52) (.tmp 53) 33 rfl w1.heap.size 3 i0 (.int .i64 0) 1 8 Tryd.underlying33 hi0 hz0 hz1 hz2 rfl (by decide) _ _ _ rfl (hown2.alloc _) ⟨wx.heap.size, 0, none⟩ 1 1 [.int .i64 (1)] rfl rfl (Kt.cell_one _ _ _) (ints_oneCell .i64 [1]) (by unfold maxLen; omega) (by omega) (by simp; omega) ?_)
      intro v1 w2 hown' hgrow _ _
      have hbw2 : Below w.heap.size w w2 := Kt.next hbw1 ((hbel.alloc hgx _).grown hgrow (by simp; omega) (fun g hg => (World.ownsRow.lt hown2 g hg).1))
      have hownW : Kt.Own w2 w1.heap.size 3 .i64 v1 (xs ++ [1]) := Kt.Own.snoc (by rw [HJ.out]; exact hown')
      obtain ⟨W, HWW⟩ : ∃ W, Hid (xs ++ [1] = W) := ⟨_, Lib.hid rfl⟩
      rw [HWW.out] at hownW HALL HSUM HLL hsb
      obtain ⟨hLL1, hLL2⟩ := HLL
      obtain ⟨g, cw, hv, hgc, _, hgl, hcells, _⟩ := hownW.block (by omega)
      have hints : Kt.Ints w2 w2.heap.size .i64 (some ⟨g, 0, none⟩) W := fun _ => ⟨g, 0, rfl, hgl, fun j hj => by rw [Nat.zero_add]; exact hcells j hj⟩
      obtain ⟨N, HNL⟩ : ∃ N, Hid (W.length = N) := ⟨_, Lib.hid rfl⟩
      rw [HNL.out] at hv hgc hLL1 hLL2
      rw [hv]
      have HSB := Lib.hid hsb
      clear hown' hgrow hown hown2 hbel hbw1 hbwx hgx hownW hcells hv hsb hj hlen
      obtain ⟨bz, HBZ⟩ : ∃ bz : Nat → Bool, Hid (bz = fun i => (bits BinOp.and IntKind.u16 (zs / 2 ^ (i % 16)) 1 == 1)) := ⟨_, Lib.hid rfl⟩
      go_wp2_with fail
      go_loopw [12, 13, 14, 57] (fun vm vg va i wr => ∃ k : Nat, k ≤ N ∧ i = .int .i64 k ∧ Kt.Own wr w2.heap.size 3 .i64 vm ((Mny.scaled q W).take k) ∧ Kt.Own wr w2.heap.size 3 .i64 vg (Mny.gp bz W k) ∧ Kt.Own wr w2.heap.size 3 .i64 va (Mny.gats bz W k) ∧ Hid (Kt.Sep vm vg) ∧ Hid (Kt.Sep vm va) ∧ Hid (Kt.Sep vg va) ∧ Below w2.heap.size w2 wr) (fun _ _ _ i _ => N - (intOf i).toNat)
      case atStart => exact ⟨0, Nat.zero_le _, rfl, Kt.Own.nil _ _ _ _, Kt.Own.nil _ _ _ _, Kt.Own.nil _ _ _ _, Lib.hid (Kt.Sep.nil _), Lib.hid (Kt.Sep.nil _), Lib.hid (Kt.Sep.nil _), Below.refl _ _⟩
      case round =>
        obtain ⟨k, hk, rfl, hom, hog, hoa, hs1, hs2, hs3, hbel⟩ := hrel
        by_cases hlt : k < N
        · obtain ⟨b2, off, e0, hb, hc⟩ := hints (by have := HNL.out; omega)
          injection e0 with e0
          injection e0 with e1 e2 _
          subst e1; subst e2
          have hkw : k < W.length := by have := HNL.out; omega
          have hcell := (hbel.cell (p := ⟨g, 0 + k, none⟩) hb).trans (hc k hkw)
          rw [Nat.zero_add] at hcell
          have hxb := HSB.out _ (Ls.nth_mem W k hkw)
          have HN := Lib.hid (Mny.scaled_nth q W k hkw)
          have HT1 := Lib.hid (Ls.take_nth (Mny.scaled q W) k (by rw [Mny.scaled_len]; exact hkw))
          have hlm : ((Mny.scaled q W).take k).length = k := by rw [List.length_take, Mny.scaled_len]; omega
          have HGL := Mny.gp_len bz W k
          obtain ⟨x, HXX⟩ : ∃ x, Hid (Ls.nth W k = x) := ⟨_, Lib.hid rfl⟩
          rw [HXX.out] at hcell hxb HN
          obtain ⟨hxb1, hxb2⟩ := hxb
          have hqx : 0 ≤ q * x ∧ q * x ≤ 1000000 := ⟨Int.mul_nonneg (by omega) hxb1, by have : q * x ≤ 1000 * 1000 := Int.mul_le_mul (by omega) hxb2 hxb1 (by omega); omega⟩
          obtain ⟨hqx1, hqx2⟩ := hqx
          obtain ⟨G, HG⟩ : ∃ G, Hid ((Mny.gp bz W k).length = G) := ⟨_, Lib.hid rfl⟩
          rw [HG.out] at HGL
          obtain ⟨hG1, hG2⟩ := HGL
          have hLM := Lib.hid hlm
          have hgrown : w2.heap.size ≤ wr.heap.size := hbel.size
          have hom2 : wr.ownsRow w2.heap.size 3 1 u12 k (((Mny.scaled q W).take k).map (Value.int .i64)) := by have := hom; unfold Kt.Own at this; rwa [hlm] at this
          have hLG := HG
          have hLA : Hid ((Mny.gats bz W k).length = k) := Lib.hid (Mny.gats_len bz W k)
          have hGP : Hid (Mny.gp bz W (k + 1) = (if bz k then Mny.gp bz W k ++ [0] else Mny.gp bz W k) ++ [x]) := Lib.hid (by rw [Mny.gp, HXX.out])
          have hGA : Hid (Mny.gats bz W (k + 1) = Mny.gats bz W k ++ [((if bz k then G + 1 else G : Nat) : Int)]) := Lib.hid (by rw [Mny.gats_succ, Mny.gat, HG.out])
          have hGM : Hid ((Mny.scaled q W).take (k + 1) = (Mny.scaled q W).take k ++ [q * x]) := Lib.hid (by rw [HT1.out, HN.out])
          obtain ⟨lm, hlm1⟩ : ∃ lm, Hid ((Mny.scaled q W).take k = lm) := ⟨_, Lib.hid rfl⟩
          obtain ⟨lg, hlg1⟩ : ∃ lg, Hid (Mny.gp bz W k = lg) := ⟨_, Lib.hid rfl⟩
          obtain ⟨la, hla1⟩ : ∃ la, Hid (Mny.gats bz W k = la) := ⟨_, Lib.hid rfl⟩
          rw [hlm1.out] at hGM hLM hom
          rw [hlg1.out] at hGP hLG hog
          rw [hla1.out] at hGA hLA hoa
          have hBK : Hid (bz k = (bits BinOp.and IntKind.u16 (zs / 2 ^ (k % 16)) 1 == 1)) := Lib.hid (by rw [HBZ.out])
          clear hc hlm HT1 HN HG
          obtain ⟨Ag, cg, rfl, _, _⟩ := hog.shape
          rw [hLG.out] at hog hs1 hs3 ⊢
          cases hbk : (bits BinOp.and IntKind.u16 (zs / 2 ^ (k % 16)) 1 == 1)
          · rw [hBK.out, hbk, if_neg (by simp)] at hGP hGA
            have hgr1 : w2.heap.size ≤ wr.heap.size := hbel.size
            have ho1 : wr.ownsRow w2.heap.size 3 1 u12 (k) ((lm).map (Value.int .i64)) := by have := hom; unfold Kt.Own at this; rwa [hLM.out] at this
            go_wp2_with (at_builtin; refine wpList_append_own_at _ rfl (.tmp 62) (.tmp 66) 33 rfl w2.heap.size 3 i0 (.int .i64 0) 1 8 Tryd.underlying33 hi0 hz0 hz1 hz2 rfl (by decide) _ _ _ rfl (ho1.alloc _) ⟨wr.heap.size, 0, none⟩ 1 1 [.int .i64 (q * x)] rfl rfl (Kt.cell_one _ _ _) (ints_oneCell .i64 [q * x]) (by unfold maxLen; omega) (by omega) (by simp; omega) ?_)
            intro vm1 w5 hown' hgrow _ hat
            have hx1 : Kt.Own w5 w2.heap.size 3 .i64 vm1 (lm ++ [q * x]) := Kt.Own.snoc (by rw [hLM.out]; simpa using hown')
            have hg1 := (hog.alloc _).grown hgrow (hs1.out.symm).row
            have smg1 := Lib.hid ((hs1.out).step hog (n := _) (by simp) hat)
            have ha1 := (hoa.alloc _).grown hgrow (hs2.out.symm).row
            have sma1 := Lib.hid ((hs2.out).step hoa (n := _) (by simp) hat)
            have hb1 := (hbel.alloc hgr1 _).grown hgrow (by simp; omega) (fun g hg => (World.ownsRow.lt ho1 g hg).1)
            have hl1 : Hid ((lm ++ [q * x]).length = k + 1) := Lib.hid (by rw [List.length_append, hLM.out]; rfl)
            clear hown' hgrow hat ho1 hgr1
            have hgr2 : w2.heap.size ≤ w5.heap.size := hb1.size
            have ho2 : w5.ownsRow w2.heap.size 3 1 u14 (k) ((la).map (Value.int .i64)) := by have := ha1; unfold Kt.Own at this; rwa [hLA.out] at this
            go_wp2_with (at_builtin; refine wpList_append_own_at _ rfl (.tmp 77) (.tmp 80) 33 rfl w2.heap.size 3 i0 (.int .i64 0) 1 8 Tryd.underlying33 hi0 hz0 hz1 hz2 rfl (by decide) _ _ _ rfl (ho2.alloc _) ⟨w5.heap.size, 0, none⟩ 1 1 [.int .i64 ((G : Int))] rfl rfl (Kt.cell_one _ _ _) (ints_oneCell .i64 [(G : Int)]) (by unfold maxLen; omega) (by omega) (by simp; omega) ?_)
            intro va2 w6 hown' hgrow _ hat
            have hx2 : Kt.Own w6 w2.heap.size 3 .i64 va2 (la ++ [(G : Int)]) := Kt.Own.snoc (by rw [hLA.out]; simpa using hown')
            have hm2 := (hx1.alloc _).grown hgrow (sma1.out).row
            have sma2 := Lib.hid (((sma1.out.symm).step hx1 (n := _) (by simp) hat).symm)
            have hg2 := (hg1.alloc _).grown hgrow (hs3.out).row
            have sga2 := Lib.hid (((hs3.out.symm).step hg1 (n := _) (by simp) hat).symm)
            have hb2 := (hb1.alloc hgr2 _).grown hgrow (by simp; omega) (fun g hg => (World.ownsRow.lt ho2 g hg).1)
            have hl2 : Hid ((la ++ [(G : Int)]).length = k + 1) := Lib.hid (by rw [List.length_append, hLA.out]; rfl)
            clear hown' hgrow hat ho2 hgr2
            have hgr3 : w2.heap.size ≤ w6.heap.size := hb2.size
            have ho3 : w6.ownsRow w2.heap.size 3 1 (.slice Ag G cg) (G) ((lg).map (Value.int .i64)) := by have := hg2; unfold Kt.Own at this; rwa [hLG.out] at this
            go_wp2_with (at_builtin; refine wpList_append_own_at _ rfl (.tmp 82) (.tmp 84) 33 rfl w2.heap.size 3 i0 (.int .i64 0) 1 8 Tryd.underlying33 hi0 hz0 hz1 hz2 rfl (by decide) _ _ _ rfl (ho3.alloc _) ⟨w6.heap.size, 0, none⟩ 1 1 [.int .i64 (x)] rfl rfl (Kt.cell_one _ _ _) (ints_oneCell .i64 [x]) (by unfold maxLen; omega) (by omega) (by simp; omega) ?_)
            intro vg3 w7 hown' hgrow _ hat
            have hx3 : Kt.Own w7 w2.heap.size 3 .i64 vg3 (lg ++ [x]) := Kt.Own.snoc (by rw [hLG.out]; simpa using hown')
            have hm3 := (hm2.alloc _).grown hgrow (smg1.out).row
            have smg3 := Lib.hid (((smg1.out.symm).step hm2 (n := _) (by simp) hat).symm)
            have ha3 := (hx2.alloc _).grown hgrow (sga2.out.symm).row
            have sga3 := Lib.hid ((sga2.out).step hx2 (n := _) (by simp) hat)
            have hb3 := (hb2.alloc hgr3 _).grown hgrow (by simp; omega) (fun g hg => (World.ownsRow.lt ho3 g hg).1)
            have hl3 : Hid ((lg ++ [x]).length = G + 1) := Lib.hid (by rw [List.length_append, hLG.out]; rfl)
            clear hown' hgrow hat ho3 hgr3
            go_wp2
            go_roundw
            case rel => exact ⟨k + 1, by omega, by go_num, by rw [hGM.out]; exact hm3, by rw [hGP.out]; exact hx3, by rw [hGA.out]; exact ha3, Lib.hid smg3.out, Lib.hid sma2.out, Lib.hid sga3.out, hb3⟩
            case measure => simp [intOf]; omega
          · rw [hBK.out, hbk, if_pos rfl] at hGP hGA
            have hgr1 : w2.heap.size ≤ wr.heap.size := hbel.size
            have ho1 : wr.ownsRow w2.heap.size 3 1 u12 (k) ((lm).map (Value.int .i64)) := by have := hom; unfold Kt.Own at this; rwa [hLM.out] at this
            go_wp2_with (at_builtin; refine wpList_append_own_at _ rfl (.tmp 62) (.tmp 66) 33 rfl w2.heap.size 3 i0 (.int .i64 0) 1 8 Tryd.underlying33 hi0 hz0 hz1 hz2 rfl (by decide) _ _ _ rfl (ho1.alloc _) ⟨wr.heap.size, 0, none⟩ 1 1 [.int .i64 (q * x)] rfl rfl (Kt.cell_one _ _ _) (ints_oneCell .i64 [q * x]) (by unfold maxLen; omega) (by omega) (by simp; omega) ?_)
            intro vm1 w5 hown' hgrow _ hat
            have hx1 : Kt.Own w5 w2.heap.size 3 .i64 vm1 (lm ++ [q * x]) := Kt.Own.snoc (by rw [hLM.out]; simpa using hown')
            have hg1 := (hog.alloc _).grown hgrow (hs1.out.symm).row
            have smg1 := Lib.hid ((hs1.out).step hog (n := _) (by simp) hat)
            have ha1 := (hoa.alloc _).grown hgrow (hs2.out.symm).row
            have sma1 := Lib.hid ((hs2.out).step hoa (n := _) (by simp) hat)
            have hb1 := (hbel.alloc hgr1 _).grown hgrow (by simp; omega) (fun g hg => (World.ownsRow.lt ho1 g hg).1)
            have hl1 : Hid ((lm ++ [q * x]).length = k + 1) := Lib.hid (by rw [List.length_append, hLM.out]; rfl)
            clear hown' hgrow hat ho1 hgr1
            have hgr2 : w2.heap.size ≤ w5.heap.size := hb1.size
            have ho2 : w5.ownsRow w2.heap.size 3 1 (.slice Ag G cg) (G) ((lg).map (Value.int .i64)) := by have := hg1; unfold Kt.Own at this; rwa [hLG.out] at this
            go_wp2_with (at_builtin; refine wpList_append_own_at _ rfl (.tmp 74) (.tmp 75) 33 rfl w2.heap.size 3 i0 (.int .i64 0) 1 8 Tryd.underlying33 hi0 hz0 hz1 hz2 rfl (by decide) _ _ _ rfl (ho2.alloc _) ⟨w5.heap.size, 0, none⟩ 1 1 [.int .i64 (0)] rfl rfl (Kt.cell_one _ _ _) (ints_oneCell .i64 [0]) (by unfold maxLen; omega) (by omega) (by simp; omega) ?_)
            intro vg2 w6 hown' hgrow _ hat
            have hx2 : Kt.Own w6 w2.heap.size 3 .i64 vg2 (lg ++ [0]) := Kt.Own.snoc (by rw [hLG.out]; simpa using hown')
            have hm2 := (hx1.alloc _).grown hgrow (smg1.out).row
            have smg2 := Lib.hid (((smg1.out.symm).step hx1 (n := _) (by simp) hat).symm)
            have ha2 := (ha1.alloc _).grown hgrow (hs3.out.symm).row
            have sga2 := Lib.hid ((hs3.out).step ha1 (n := _) (by simp) hat)
            have hb2 := (hb1.alloc hgr2 _).grown hgrow (by simp; omega) (fun g hg => (World.ownsRow.lt ho2 g hg).1)
            have hl2 : Hid ((lg ++ [0]).length = G + 1) := Lib.hid (by rw [List.length_append, hLG.out]; rfl)
            clear hown' hgrow hat ho2 hgr2
            obtain ⟨Ag2, cg2, rfl, _, _⟩ := hx2.shape
            rw [hl2.out] at hx2 smg2 sga2 ⊢
            have hgr3 : w2.heap.size ≤ w6.heap.size := hb2.size
            have ho3 : w6.ownsRow w2.heap.size 3 1 u14 (k) ((la).map (Value.int .i64)) := by have := ha2; unfold Kt.Own at this; rwa [hLA.out] at this
            go_wp2_with (at_builtin; refine wpList_append_own_at _ rfl (.tmp 77) (.tmp 80) 33 rfl w2.heap.size 3 i0 (.int .i64 0) 1 8 Tryd.underlying33 hi0 hz0 hz1 hz2 rfl (by decide) _ _ _ rfl (ho3.alloc _) ⟨w6.heap.size, 0, none⟩ 1 1 [.int .i64 (((G + 1 : Nat) : Int))] rfl rfl (Kt.cell_one _ _ _) (ints_oneCell .i64 [((G + 1 : Nat) : Int)]) (by unfold maxLen; omega) (by omega) (by simp; omega) ?_)
            intro va3 w7 hown' hgrow _ hat
            have hx3 : Kt.Own w7 w2.heap.size 3 .i64 va3 (la ++ [((G + 1 : Nat) : Int)]) := Kt.Own.snoc (by rw [hLA.out]; simpa using hown')
            have hm3 := (hm2.alloc _).grown hgrow (sma1.out).row
            have sma3 := Lib.hid (((sma1.out.symm).step hm2 (n := _) (by simp) hat).symm)
            have hg3 := (hx2.alloc _).grown hgrow (sga2.out).row
            have sga3 := Lib.hid (((sga2.out.symm).step hx2 (n := _) (by simp) hat).symm)
            have hb3 := (hb2.alloc hgr3 _).grown hgrow (by simp; omega) (fun g hg => (World.ownsRow.lt ho3 g hg).1)
            have hl3 : Hid ((la ++ [((G + 1 : Nat) : Int)]).length = k + 1) := Lib.hid (by rw [List.length_append, hLA.out]; rfl)
            clear hown' hgrow hat ho3 hgr3
            have hgr4 : w2.heap.size ≤ w7.heap.size := hb3.size
            have ho4 : w7.ownsRow w2.heap.size 3 1 (.slice Ag2 (G + 1) cg2) (G + 1) (((lg ++ [0])).map (Value.int .i64)) := by have := hg3; unfold Kt.Own at this; rwa [hl2.out] at this
            go_wp2_with (at_builtin; refine wpList_append_own_at _ rfl (.tmp 82) (.tmp 84) 33 rfl w2.heap.size 3 i0 (.int .i64 0) 1 8 Tryd.underlying33 hi0 hz0 hz1 hz2 rfl (by decide) _ _ _ rfl (ho4.alloc _) ⟨w7.heap.size, 0, none⟩ 1 1 [.int .i64 (x)] rfl rfl (Kt.cell_one _ _ _) (ints_oneCell .i64 [x]) (by unfold maxLen; omega) (by omega) (by simp; omega) ?_)
            intro vg4 w8 hown' hgrow _ hat
            have hx4 : Kt.Own w8 w2.heap.size 3 .i64 vg4 ((lg ++ [0]) ++ [x]) := Kt.Own.snoc (by rw [hl2.out]; simpa using hown')
            have hm4 := (hm3.alloc _).grown hgrow (smg2.out).row
            have smg4 := Lib.hid (((smg2.out.symm).step hm3 (n := _) (by simp) hat).symm)
            have ha4 := (hx3.alloc _).grown hgrow (sga3.out.symm).row
            have sga4 := Lib.hid ((sga3.out).step hx3 (n := _) (by simp) hat)
            have hb4 := (hb3.alloc hgr4 _).grown hgrow (by simp; omega) (fun g hg => (World.ownsRow.lt ho4 g hg).1)
            have hl4 : Hid (((lg ++ [0]) ++ [x]).length = G + 1 + 1) := Lib.hid (by rw [List.length_append, hl2.out]; rfl)
            clear hown' hgrow hat ho4 hgr4
            go_wp2
            go_roundw
            case rel => exact ⟨k + 1, by omega, by go_num, by rw [hGM.out]; exact hm4, by rw [hGP.out]; exact hx4, by rw [hGA.out]; exact ha4, Lib.hid smg4.out, Lib.hid sma3.out, Lib.hid sga4.out, hb4⟩
            case measure => simp [intOf]; omega
        · obtain rfl : k = N := by omega
          have hLW := HNL.out
          have hLS : (Mny.scaled q W).length = k := by rw [Mny.scaled_len]; exact hLW
          have hHA : (Mny.scaled q W).take k = Mny.scaled q W := List.take_of_length_le (by omega)
          rw [hHA] at hom
          have hi1 := hints.on hbel
          have hbw3 : Below w.heap.size w wr := Kt.next hbw2 hbel
          obtain ⟨Am, cm, rfl, _, him⟩ := hom.shape
          obtain ⟨Ag, cg, rfl, _, hig⟩ := hog.shape
          obtain ⟨Aa, ca, rfl, _, hia⟩ := hoa.shape
          rw [hLS, Mny.gats_len]
          have hGL := Mny.gp_len bz W k
          have hGall : (Mny.gp bz W k).all Mny.wOk = true := Mny.gp_all bz W k (by omega) HALL.out
          have hGsum : Ls.isum (Mny.gp bz W k) = Ls.isum W := by have := Mny.gp_full bz W; rwa [hLW] at this
          have hGlt : ∀ j, j < k → Mny.gat bz W j < (Mny.gp bz W k).length := fun j hj => Mny.gp_lt bz W j k hj
          have hGout : ∀ j, j < k → Ls.nth (Mny.outL c (Mny.gp bz W k)) (Mny.gat bz W j) = Ls.nth (Mny.outL c W) j := fun j hj => by
            have := Mny.gp_out bz W c j (by omega)
            rwa [hLW] at this
          obtain ⟨GP, HGP⟩ : ∃ GP, Hid (Mny.gp bz W k = GP) := ⟨_, Lib.hid rfl⟩
          rw [HGP.out] at hGL hGall hGsum hGout hig ⊢
          simp only [HGP.out] at hGlt
          obtain ⟨L, HL⟩ : ∃ L, Hid (GP.length = L) := ⟨_, Lib.hid rfl⟩
          rw [HL.out] at hGL ⊢
          simp only [HL.out] at hGlt
          obtain ⟨hGL1, hGL2⟩ := hGL
          obtain ⟨ao, HAO⟩ : ∃ ao, Hid (Mny.outL c W = ao) := ⟨_, Lib.hid rfl⟩
          obtain ⟨co, HCO⟩ : ∃ co, Hid (Mny.outL c GP = co) := ⟨_, Lib.hid rfl⟩
          rw [HAO.out, HCO.out] at hGout
          have HSall : Hid ((Mny.scaled q W).all Mny.wOk = true) := Lib.hid (Mny.scaled_all q W hq1 hq2 HSB.out)
          have HSsum : Hid (0 < Ls.isum (Mny.scaled q W)) := Lib.hid (by rw [Mny.scaled_sum]; exact Int.mul_pos (by omega) HSUM.out)
          have HSout : Hid (Mny.outL c (Mny.scaled q W) = ao) := Lib.hid (by rw [Mny.scaled_out c q W (by omega)]; exact HAO.out)
          have HGsum : Hid (0 < Ls.isum GP) := Lib.hid (by rw [hGsum]; exact HSUM.out)
          have HGall := Lib.hid hGall
          have HGlt := Lib.hid hGlt
          have HGout := Lib.hid hGout
          have HLS := Lib.hid hLS
          have HLA : Hid (ao.length = k) := Lib.hid (by rw [← HAO.out, Mny.outL_len]; exact hLW)
          have HLC : Hid (co.length = L) := Lib.hid (by rw [← HCO.out, Mny.outL_len]; exact HL.out)
          clear hints hGout hGlt hGall hGsum hLS hLW hHA hom hog hoa hbel hs1 hs2 hs3 hlt hk
          obtain ⟨w4, rfl⟩ : ∃ w4 : World, w4 = wr := ⟨_, rfl⟩
          go_wp2_with fail
          refine (split_yesn c (some ⟨g, 0, none⟩) k cw W _ HNL.out hi1 (by omega) hc1 hc2 HALL.out HSUM.out ao HAO.out).mono ?_
          rintro e w5 ⟨rfl, ho5, hb5⟩
          go_wp2_with fail
          refine (split_yesn c Am k cm _ _ HLS.out (him.on hb5) (by omega) hc1 hc2 HSall.out HSsum.out ao HSout.out).mono ?_
          rintro e w6 ⟨rfl, ho6, hb6⟩
          go_wp2_with fail
          refine (split_yesn c Ag L cg GP _ HL.out ((hig.on hb5).on hb6) (by omega) hc1 hc2 HGall.out HGsum.out co HCO.out).mono ?_
          rintro e w7 ⟨rfl, ho7, hb7⟩
          have ha7 := (ho5.on hb6).on hb7
          have hm7 := ho6.on hb7
          have hg7 := ((hig.on hb5).on hb6).on hb7
          have hi7 := ((hia.on hb5).on hb6).on hb7
          have hbw7 : Below w.heap.size w w7 := Kt.next (Kt.next (Kt.next hbw3 hb5) hb6) hb7
          obtain ⟨ga, hga⟩ : ∃ ga, ga = w4.heap.size := ⟨_, rfl⟩
          obtain ⟨gm, hgm⟩ : ∃ gm, gm = w5.heap.size := ⟨_, rfl⟩
          obtain ⟨gc, hgc7⟩ : ∃ gc, gc = w6.heap.size := ⟨_, rfl⟩
          rw [← hga] at ha7 ⊢
          rw [← hgm] at hm7 ⊢
          rw [← hgc7] at ho7 ⊢
          clear hi1 him hig hia ho5 ho6 hb5 hb6 hb7 hga hgm hgc7 hbw3
          go_wp2_with fail
          refine (same_valn (some ⟨ga, 0, none⟩) (some ⟨gm, 0, none⟩) k k k k ao ao _ HLA.out HLA.out ha7.ints hm7.ints (by have := HLA.out; omega) true (by simp [sameB])).mono ?_
          rintro e w8 ⟨rfl, hb8⟩
          have ha8 := ha7.on hb8
          have hc8 := ho7.on hb8
          have hg8 := hg7.on hb8
          have hi8 := hi7.on hb8
          have hbw8 : Below w.heap.size w w8 := Kt.next hbw7 hb8
          clear ha7 hm7 ho7 hg7 hi7 hbw7 hb8
          go_wp2_with fail
          go_loopw [25, 133] (fun s i wr => ∃ j : Nat, j ≤ k ∧ i = .int .i64 j ∧ s = .int .i64 (Ls.isum (ao.take j)) ∧ ∃ nd, wr = w8.drewN nd) (fun _ i _ => k - (intOf i).toNat)
          case atStart => exact ⟨0, Nat.zero_le _, rfl, rfl, 0, rfl⟩
          case round =>
            obtain ⟨j, hj, rfl, rfl, nd, rfl⟩ := hrel
            by_cases hlt : j < k
            · have hca := ha8.cell j (by have := HLA.out; omega)
              have hge := HGlt.out j hlt
              have hcc := hc8.cell (Mny.gat bz W j) (by have := HLC.out; omega)
              rw [HGout.out j hlt] at hcc
              obtain ⟨bi, oi, rfl, hbi, hci⟩ := hi8 (by rw [Mny.gats_len]; omega)
              have hcat := hci j (by rw [Mny.gats_len]; exact hlt)
              rw [Mny.gats_nth bz W j k hlt] at hcat
              have hsb := Mny.out_sum_bd c W j (by omega) hc1 hc2 HALL.out HSUM.out
              have hob := Mny.out_bd c W j hc1 hc2 HALL.out HSUM.out (by have := HNL.out; omega)
              rw [HAO.out] at hsb hob
              obtain ⟨e, HE⟩ : ∃ e, Hid (Mny.gat bz W j = e) := ⟨_, Lib.hid rfl⟩
              rw [HE.out] at hge hcc hcat
              obtain ⟨hsb1, hsb2⟩ := hsb
              obtain ⟨hob1, hob2⟩ := hob
              have HT := Lib.hid (Ls.isum_take ao j (by have := HLA.out; omega))
              clear hci
              go_wp2
              go_quiet (fail)
              go_wp2
              go_roundw
              case rel => exact ⟨j + 1, by omega, by go_num, by rw [HT.out], _, by first | rfl | exact World.drewN_drewN _ _ _⟩
              case measure => simp [intOf]; omega
            · obtain rfl : j = k := by omega
              have hF : Ls.isum (ao.take j) = c := by rw [List.take_of_length_le (by have := HLA.out; omega), ← HAO.out]; exact Mny.out_sum c W HSUM.out
              rw [hF]
              have hc9 := hc8.drewN nd
              have hg9 := hg8.drewN nd
              have hbw9 : Below w.heap.size w (w8.drewN nd) := Kt.below_drewN hbw8 nd
              clear hF hc8 hg8 ha8 hi8 hbw8 hlt hj
              obtain ⟨w9, hw9⟩ : ∃ w9 : World, w9 = w8.drewN nd := ⟨_, rfl⟩
              rw [← hw9] at hc9 hg9 hbw9 ⊢
              clear hw9
              go_wp2_with fail
              go_loopw [157] (fun i wr => ∃ t : Nat, t ≤ L ∧ i = .int .i64 t ∧ ∃ nd, wr = w9.drewN nd) (fun i _ => L - (intOf i).toNat)
              case atStart => exact ⟨0, Nat.zero_le _, rfl, 0, rfl⟩
              case round =>
                obtain ⟨t, ht, rfl, nd2, rfl⟩ := hrel
                by_cases hlt : t < L
                · have hcc := hc9.cell t (by have := HLC.out; omega)
                  obtain ⟨bg, og, rfl, hbg, hcg⟩ := hg9 (by have := HL.out; omega)
                  have hcell := hcg t (by have := HL.out; omega)
                  obtain ⟨x, HXX⟩ : ∃ x, Hid (Ls.nth GP t = x) := ⟨_, Lib.hid rfl⟩
                  rw [HXX.out] at hcell
                  clear hcg
                  by_cases h0 : x = 0
                  · have hz := (Mny.out_zero c GP t (by have := HL.out; omega) (by rw [HXX.out]; exact h0)).1
                    rw [HCO.out] at hz
                    rw [hz] at hcc
                    rw [h0] at hcell
                    clear hz h0
                    go_wp2
                    go_roundw
                    case rel => exact ⟨t + 1, by omega, by go_num, nd2, rfl⟩
                    case measure => simp [intOf]; omega
                  · have h0b : (x == 0) = false := by simp [h0]
                    clear h0
                    go_wp2
                    go_roundw
                    case rel => exact ⟨t + 1, by omega, by go_num, nd2, rfl⟩
                    case measure => simp [intOf]; omega
                · obtain rfl : t = L := by omega
                  go_wp2
                  go_ret
                  exact ⟨Kt.ret_bool (by simp), Kt.below_drewN hbw9 _⟩

end Go.Proofs.YtpobjacfhgnfhaaDoor
