/- What DivMod of the number package returns by two limbs and more: its walk. -/
import Derived.Test.YtfjdhclpcbgdbaaNatKs
import Derived.StillTailTactics
namespace Go.Proofs.Ytfjdhclpcbgdbaa
open Go Go.RowKit

theorem IBlk_lt {w w1 : World} {g : Nat} {T : TypeId} {k : IntKind} {zs : List Int} {n : Nat} (h : Kt.IBlk w1 (w.drewN n).heap.size T k zs) (hg : (w.drewN n).heap.size = g) : g < w1.heap.size := by subst hg; exact h.lt
theorem both_below {w w1 w2 : World} {n : Nat} (h1 : Below (w.drewN n).heap.size (w.drewN n) w1) (h2 : Below w1.heap.size w1 w2) : Below w.heap.size w w2 :=
  (Kt.below_of_drewN w n).trans (h1.trans (h2.mono h1.size))

set_option maxRecDepth 8000 in
set_option maxHeartbeats 4000000 in
theorem dm_many (x y : Nat) (l1 l2 : Nat) (A B : Option Addr) (n m ca cb : Nat) (w : World) (hx : Kt.Num w l1 (.slice A n ca) x) (hy : Kt.Num w l2 (.slice B m cb) y) (hn : (Nt.limbs x).length = n) (hm : (Nt.limbs y).length = m) (h1 : n ≤ 1024) (hm2 : 2 ≤ m) (h : y ≤ x) :
    Calls Try.prog 24 #[.slice A n ca, .slice B m cb] w (GotDM w x y) := by
  have hmn : m ≤ n := by rw [← hn, ← hm]; exact Nt.len_mono h
  obtain ⟨s, ht1, ht2, hs, hs31, hDlo, hDhi⟩ := Nt.dm_lead hm (by omega)
  have HSTART := Lib.hid (Nt.dm_start (s := s) hn hm hmn (by omega))
  have ha := num_ints hx
  have hb := num_ints hy
  have HN := Lib.hid hn
  have HM := Lib.hid hm
  have HX := Lib.hid hx
  have HY := Lib.hid hy
  have HR1 := Lib.hid (num_right (x := x) (by omega))
  have HR2 := Lib.hid (num_right (x := y) (by omega))
  have HC : Hid (Nt.cmpV x y = 0 ∨ Nt.cmpV x y = 1) := Lib.hid (by unfold Nt.cmpV; split <;> first | omega | (split <;> simp))
  obtain ⟨cv, HCV⟩ : ∃ cv, Hid (Nt.cmpV x y = cv) := ⟨_, Lib.hid rfl⟩
  have hcv : 0 ≤ cv := by have h1 := HC.out; rw [HCV.out] at h1; omega
  obtain ⟨bB, oB, rfl, hbB, hcB⟩ := hb (by omega)
  have hcell := hcB (m - 1) (by omega)
  obtain ⟨t, HT⟩ : ∃ t, Hid (Ls.nth (Nt.limbs y) (m - 1) = t) := ⟨_, Lib.hid rfl⟩
  rw [HT.out] at hcell ht1 ht2 hs
  have HS := Lib.hid hs
  obtain ⟨i0, hi0, hz0, hz1, hz2⟩ := info_parts Try.infoU32
  have hmk := fun W => Kt.run_make_ints (P := Try.prog) 22 33 i0 .u32 Try.underlying22 hi0 hz0 hz1 (by omega) (n - m + 1) (by omega) W
  clear hi0 hz0 hz1 hz2
  simp only [show ((n - m + 1 : Nat) : Int) = (n : Int) - (m : Int) + 1 from by omega] at hmk
  have HDLO := Lib.hid hDlo
  have HDHI := Lib.hid hDhi
  have m1 : ((m : Int) - 1).toNat = m - 1 := by omega
  have m2 : 0 ≤ (m : Int) - 1 := by omega
  have m3 : (m : Int) - 1 < (m : Int) := by omega
  have hb0 : ((m : Int) == 0) = false := beq_eq_false_iff_ne.2 (by omega)
  have hb1 : ((m : Int) == 1) = false := beq_eq_false_iff_ne.2 (by omega)
  clear hn hm hx hy hcB HC hs hDlo hDhi h
  go_enter Try.func24, Try.ntmps24
  go_wp2_with fail
  refine (right_any A n ca _ _ HN.out ha (by omega)).mono ?_
  rw [HR1.out]
  rintro e w' ⟨rfl, rfl⟩
  go_wp2_with fail
  refine (right_any _ m cb _ _ HM.out hb (by omega)).mono ?_
  rw [HR2.out]
  rintro e w' ⟨rfl, rfl⟩
  go_wp2_with fail
  refine (compared_any A _ n m ca cb _ _ x y _ HN.out HM.out ha hb (by omega) rfl rfl).mono ?_
  rw [HCV.out]
  rintro e w' ⟨rfl, nd, rfl⟩
  go_wp2_with fail
  refine (Try.bits_LeadingZeros32 t _ (by omega) (by omega)).mono ?_
  rw [HS.out]
  rintro e w' ⟨rfl, rfl⟩
  go_upto_region 10 with fail
  have HMK := Lib.hid hmk
  clear hmk hcell hb hbB HT m1 m2 m3 hb0 hb1 ht1 ht2 ha
  go_cut [10, 11] (fun s10 s11 wx => ∃ (gr gd : Nat) (L D : List Int), s10 = .slice (some ⟨gr, 0, none⟩) (n + 1) (n + 1) ∧ s11 = .slice (some ⟨gd, 0, none⟩) m (m + 1) ∧ w.heap.size ≤ gr ∧ w.heap.size ≤ gd ∧ gr ≠ gd ∧ Kt.IBlk wx gr 33 .u32 L ∧ Kt.IBlk wx gd 33 .u32 D ∧ Hid (L.length = n + 1) ∧ Hid (Nt.Ok L) ∧ Hid (Nt.V L = (x : Int) * 2 ^ s) ∧ Hid (D.length = m + 1) ∧ Hid (Nt.Ok D) ∧ Hid (Nt.V D = (y : Int) * 2 ^ s) ∧ Below w.heap.size w wx)
  case first =>
    go_region_with (first
      | (go_at_call_of 42 (Value.slice A n ca)
         refine (shifted_any A n ca (Nt.limbs x) s _ HN.out (by first | exact num_ints (HX.out.drewN _) | exact num_ints ((HX.out.drewN _).on hbelB)) (Nt.limbs_Ok x) h1 hs31).mono ?_
         rintro e w' ⟨rA, rfl, hlA, hoA, hvA, hblkA, hbelA⟩)
      | (go_at_call_of 42 (Value.slice (some ⟨bB, oB, none⟩) m cb)
         refine (shifted_any (some ⟨bB, oB, none⟩) m cb (Nt.limbs y) s _ HM.out (by first | exact num_ints (HY.out.drewN _) | exact num_ints ((HY.out.drewN _).on hbelA)) (Nt.limbs_Ok y) (by omega) hs31).mono ?_
         rintro e w' ⟨rB, rfl, hlB, hoB, hvB, hblkB, hbelB⟩))
    all_goals (go_wp2_with fail; go_meet)
    all_goals first
      | exact ⟨_, _, rA, rB, rfl, rfl, Nat.le_refl _, hbelA.size, Nat.ne_of_lt (IBlk_lt hblkA rfl), hblkA.on hbelB, hblkB, Lib.hid hlA, Lib.hid hoA, Lib.hid (by rw [hvA, Nt.V_limbs]), Lib.hid hlB, Lib.hid hoB, Lib.hid (by rw [hvB, Nt.V_limbs]), both_below hbelA hbelB⟩
      | exact ⟨_, _, rA, rB, rfl, rfl, hbelB.size, Nat.le_refl _, Nat.ne_of_gt (IBlk_lt hblkB rfl), hblkA, hblkB.on hbelA, Lib.hid hlA, Lib.hid hoA, Lib.hid (by rw [hvA, Nt.V_limbs]), Lib.hid hlB, Lib.hid hoB, Lib.hid (by rw [hvB, Nt.V_limbs]), both_below hbelB hbelA⟩
  case rest =>
    obtain ⟨gr, gd, L0, D0, rfl, rfl, hgr, hgd, hne, hLb, hDb, hLl, hLo, hLv, hDl, hDo, hDv, hbel0⟩ := hcut
    have hmk := HMK.out
    go_wp2_with fail
    clear hmk HMK
    obtain ⟨D, HD⟩ : ∃ D : Int, Hid ((y : Int) * 2 ^ s = D) := ⟨_, Lib.hid rfl⟩
    obtain ⟨X, HXX⟩ : ∃ X : Int, Hid ((x : Int) * 2 ^ s = X) := ⟨_, Lib.hid rfl⟩
    rw [HXX.out] at hLv
    have hst := HSTART.out
    have hlo := HDLO.out
    have hhi := HDHI.out
    rw [HD.out] at hDv hlo hhi hst
    rw [HXX.out] at hst
    obtain ⟨bl, HBL⟩ : ∃ bl, Hid (D0.take m = bl) := ⟨_, Lib.hid rfl⟩
    have HVB : Hid (Nt.V bl = D) := Lib.hid (by rw [← HBL.out]; exact Nt.dm_trim hDl.out hDo.out hDv.out hhi)
    have HOB : Hid (Nt.Ok bl) := Lib.hid (by rw [← HBL.out]; exact hDo.out.take m)
    have HLB : Hid (bl.length = m) := Lib.hid (by rw [← HBL.out, List.length_take, hDl.out]; omega)
    have hrow : Kt.RowAt (wc.alloc (.cells (Kt.IArr .u32 (Ls.zeros (n - m + 1))) 33)) gd .u32 bl := by rw [← HBL.out]; exact (hDb.rowAt.take m).alloc _
    have HV1 : Hid (2147483648 ≤ Ls.nth bl (m - 1)) := Lib.hid (Nt.dm_high HLB.out (by omega) HOB.out (by rw [HVB.out]; exact hlo))
    have HDP : Hid (0 < D) := Lib.hid (by have := Nt.P_pos (m - 1); omega)
    have HDM : Hid (D < Nt.P m) := Lib.hid hhi
    have HST := Lib.hid hst
    have hqgr : gr < wc.heap.size := hLb.lt
    have hqgd : gd < wc.heap.size := hDb.lt
    clear hst hlo hhi HSTART HDLO HDHI hDb hDl hDo hDv HBL
    go_loopw [13] (fun i wr => ∃ (k : Nat) (L Q : List Int), k ≤ n - m + 1 ∧ i = .int .i64 ((k : Int) - 1) ∧ Kt.IBlk wr gr 33 .u32 L ∧ Kt.RowAt wr gd .u32 bl ∧ Kt.IBlk wr wc.heap.size 33 .u32 Q ∧ Hid (L.length = n + 1) ∧ Hid (Nt.Ok L) ∧ Hid (Q.length = n - m + 1) ∧ Hid (Nt.Ok Q) ∧ Hid (Nt.V L + D * Nt.V Q = X) ∧ Hid (Nt.V L < D * Nt.P k) ∧ Hid (∀ j, j < k → Ls.nth Q j = 0) ∧ Below w.heap.size w wr) (fun i _ => (intOf i + 1).toNat)
    case atStart => exact ⟨n - m + 1, L0, Ls.zeros (n - m + 1), Nat.le_refl _, congrArg (Value.int .i64) (by omega), hLb.alloc _, hrow, Kt.IBlk.new _ _ _ _, hLl, hLo, Lib.hid (Ls.zeros_len _), Lib.hid (Nt.Ok.zeros _), Lib.hid (by rw [Nt.V_zeros, Int.mul_zero, Int.add_zero]; exact hLv.out), Lib.hid (by rw [hLv.out]; exact HST.out), Lib.hid (fun j _ => Nt.nth_zeros _ _), hbel0.alloc hbel0.size _⟩
    case round =>
      obtain ⟨k, L, Q, hk, rfl, hLb, hrow, hQb, hLl, hLo, hQl, hQo, hinv, hlt, hz, hbel⟩ := hrel
      by_cases hk0 : 0 < k
      · obtain ⟨i, rfl⟩ : ∃ j, k = j + 1 := ⟨k - 1, by omega⟩
        rw [show ((i + 1 : Nat) : Int) - 1 = (i : Int) from by omega]
        have him : i + m ≤ n := by omega
        obtain ⟨pre, mid, post, rfl, hpre, hmid⟩ : ∃ pre mid post, L = pre ++ (mid ++ post) ∧ pre.length = i ∧ mid.length = m + 1 := ⟨L.take i, (L.drop i).take (m + 1), L.drop (i + (m + 1)), Nt.seg_split L i (m + 1), by rw [List.length_take, hLl.out]; omega, by rw [List.length_take, List.length_drop, hLl.out]; omega⟩
        have hop : Nt.Ok pre := fun v hv => hLo.out v (by simp [hv])
        have hom : Nt.Ok mid := fun v hv => hLo.out v (by simp [hv])
        have hos : Nt.Ok post := fun v hv => hLo.out v (by simp [hv])
        have hp0 := Nt.dm_post hpre hmid hop hom hos HDM.out hlt.out
        have hml := Nt.dm_mid hpre hmid hop hp0 hlt.out
        have htop := Nt.dm_top hmid HLB.out (by omega) hom HOB.out (by rw [HVB.out]; exact hml)
        have hq := Nt.dm_guess1 hm2 hmid HLB.out hom HOB.out (by rw [HVB.out]; exact HDP.out)
        rw [HVB.out] at hq
        obtain ⟨dq, hdq⟩ : ∃ dq, Hid (Nt.V mid / D = dq) := ⟨_, Lib.hid rfl⟩
        have hdq0 : 0 ≤ Nt.V mid / D := Int.ediv_nonneg (Nt.V_nonneg hom) (Int.le_of_lt HDP.out)
        have hdq1 : Nt.V mid / D < 4294967296 := Int.ediv_lt_of_lt_mul HDP.out (by rw [Int.mul_comm]; exact hml)
        rw [hdq.out] at hdq0 hdq1 hq
        have a1 := hLb.cell (i + m) (by rw [Nt.seg_len, hpre, hmid]; omega)
        have a0 := hLb.cell (i + (m - 1)) (by rw [Nt.seg_len, hpre, hmid]; omega)
        have am := hLb.cell (i + (m - 2)) (by rw [Nt.seg_len, hpre, hmid]; omega)
        rw [Nt.seg_nth _ _ _ _ _ hpre (by omega)] at a1 a0 am
        have d1 := hrow.cell (m - 1) (by rw [HLB.out]; omega)
        have d2 := hrow.cell (m - 2) (by rw [HLB.out]; omega)
        have b1 := hom.nth_any m
        have b0 := hom.nth_any (m - 1)
        have bm := hom.nth_any (m - 2)
        have e1 := HOB.out.nth_any (m - 1)
        have e2 := HOB.out.nth_any (m - 2)
        have HG := Lib.hid (guess_any gr i (m + 1) (n + 1 - i) m (m + 1) gd _ _ _ _ _ dq wr (by omega) (by omega) hm2 (by omega) a1 a0 am d1 d2 b1.1 htop b0.1 b0.2 bm.1 bm.2 HV1.out e1.2 e2.1 e2.2 hdq0 (by omega) hq)
        have HPRE := Lib.hid hpre
        have HMID := Lib.hid hmid
        have HOP := Lib.hid hop
        have HOM := Lib.hid hom
        have HOS := Lib.hid hos
        have HP0 := Lib.hid hp0
        have HBK := Lib.hid (fun (d : Int) (h0 : 0 ≤ d) (h1 : d ≤ 4294967295) => Nt.dm_guess2 (d := d) hm2 hmid HLB.out hom HOB.out (by have := HV1.out; omega) h0 h1)
        clear hpre hmid hop hom hos hp0 htop hml hq a1 a0 am d1 d2 b1 b0 bm e1 e2
        go_wp2_with fail
        rw [show i + m + 1 - i = m + 1 from by omega]
        refine HG.out.mono ?_
        rintro e w1 ⟨dg, rfl, hdg0, hdg1, hdg2, k1, rfl⟩
        have HOVER := Lib.hid (HBK.out dg (by omega) hdg1 hdg2)
        clear hdg2 HG HBK
        go_wp2_with fail
        refine (take_away gr i m (n + 1 - i) (m + 1) gd pre mid post bl dg _ HPRE.out HMID.out HLB.out HOM.out HOB.out (hLb.drewN k1) (hrow.drewN k1) (fun e => hne e.symm) (by omega) hdg1 (by omega)).mono ?_
        rintro e w2 ⟨r, b, rfl, hb01, hrl, hro, hrv, hLb2, hgb⟩
        rw [HVB.out] at hrv
        have hrow2 := (hrow.drewN k1).gb hgb (fun e => hne e.symm)
        have hQb2 : Kt.IBlk w2 wc.heap.size 33 .u32 Q := (hQb.drewN k1).grown hgb (show some wc.heap.size ≠ some gr from fun e => by injection e with e; omega)
        have hbel2 := Kt.below_gb (Kt.below_drewN hbel k1) hgb hgr hbel.size
        have hgs2 : wc.heap.size < w2.heap.size := hQb2.lt
        have HEND : Hid (∀ (r' : List Int) (w3 : World), r'.length = m + 1 → Nt.Ok r' → Nt.V r' = Nt.V mid % D → Kt.IBlk w3 gr 33 .u32 (pre ++ (r' ++ post)) → Kt.RowAt w3 gd .u32 bl → Kt.IBlk w3 wc.heap.size 33 .u32 Q → Below w.heap.size w w3 →
            ∃ (k : Nat) (L Q : List Int), k ≤ n - m + 1 ∧ Value.int .i64 ((i : Int) - 1) = .int .i64 ((k : Int) - 1) ∧ Kt.IBlk (w3.setCell ⟨wc.heap.size, i, none⟩ (.int .u32 dq)) gr 33 .u32 L ∧ Kt.RowAt (w3.setCell ⟨wc.heap.size, i, none⟩ (.int .u32 dq)) gd .u32 bl ∧ Kt.IBlk (w3.setCell ⟨wc.heap.size, i, none⟩ (.int .u32 dq)) wc.heap.size 33 .u32 Q ∧ Hid (L.length = n + 1) ∧ Hid (Nt.Ok L) ∧ Hid (Q.length = n - m + 1) ∧ Hid (Nt.Ok Q) ∧ Hid (Nt.V L + D * Nt.V Q = X) ∧ Hid (Nt.V L < D * Nt.P k) ∧ Hid (∀ j, j < k → Ls.nth Q j = 0) ∧ Below w.heap.size w (w3.setCell ⟨wc.heap.size, i, none⟩ (.int .u32 dq))) := Lib.hid (by
          intro r' w3 hrl hro hrv h1 h2 h3 h4
          obtain ⟨hr1, hr2⟩ := Nt.dm_round (Q := Q) HPRE.out HMID.out hrl HOP.out HP0.out HDP.out hinv.out hrv (by rw [hQl.out]; omega) (hz.out i (by omega))
          rw [hdq.out] at hr1
          exact ⟨i, pre ++ (r' ++ post), Q.set i dq, by omega, rfl, h1.far (by show gr ≠ wc.heap.size; omega) _, h2.far (by show gd ≠ wc.heap.size; omega) _, h3.set_ _ _, Lib.hid (by have := hLl.out; rw [Nt.seg_len] at this ⊢; rw [HMID.out] at this; omega), Lib.hid (HOP.out.append (hro.append HOS.out)), Lib.hid (by rw [List.length_set]; exact hQl.out), Lib.hid (hQo.out.set _ hdq0 (by omega)), Lib.hid hr1, Lib.hid hr2, Lib.hid (fun j hj => by rw [Nt.nth_set_ne _ (by omega)]; exact hz.out j (by omega)), h4.setCell hbel0.size _⟩)
        have hcq := hQb2.cell i (by rw [hQl.out]; omega)
        have hfq := hQb2.frozen i
        rcases hb01 with rfl | rfl
        · obtain ⟨he1, he2⟩ := Nt.dm_exact HDP.out (by rw [Int.mul_zero, Int.sub_zero] at hrv; exact hrv) (Nt.V_nonneg hro) (by rw [hdq.out]; exact hdg0)
          rw [hdq.out] at he1
          subst he1
          go_wp2_with fail
          go_roundw
          case rel => exact HEND.out r _ hrl hro he2 hLb2 hrow2 hQb2 hbel2
          case measure => simp [intOf]
        · have hneg : Nt.V mid - D * dg < 0 := by
            have h9 := Nt.V_lt hro
            rw [hrl] at h9
            omega
          have hdq2 := Nt.dm_over HDP.out hneg (by have := HOVER.out; rwa [HVB.out] at this)
          rw [hdq.out] at hdq2
          obtain rfl : dg = dq + 1 := by omega
          go_wp2_with fail
          refine (give_back gr i m (n + 1 - i) (m + 1) gd pre r post bl _ HPRE.out hrl HLB.out hro HOB.out hLb2 hrow2 (fun e => hne e.symm) (by omega)).mono ?_
          rintro e w3 ⟨r2, c, rfl, hc0, hc1, hr2l, hr2o, hr2v, hLb3, hgb3⟩
          rw [HVB.out] at hr2v
          rw [Int.mul_one] at hrv
          have hV2 := Nt.dm_back HDP.out hrv (by rw [hdq.out]; omega) hr2v (by have h9 := Nt.V_lt hr2o; rwa [hr2l] at h9) hc0 hc1
          have hrow3 := hrow2.gb hgb3 (fun e => hne e.symm)
          have hQb3 : Kt.IBlk w3 wc.heap.size 33 .u32 Q := hQb2.grown hgb3 (show some wc.heap.size ≠ some gr from fun e => by injection e with e; omega)
          have hbel3 := Kt.below_gb hbel2 hgb3 hgr hbel2.size
          have hcq := hQb3.cell i (by rw [hQl.out]; omega)
          have hfq := hQb3.frozen i
          have hgs3 : wc.heap.size < w3.heap.size := hQb3.lt
          have HRV := Lib.hid hrv
          clear hrv hr2v
          go_wp2_with fail
          go_roundw
          case rel => exact HEND.out r2 _ hr2l hr2o hV2 hLb3 hrow3 hQb3 hbel3
          case measure => simp [intOf]
      · obtain rfl : k = 0 := by omega
        rw [show ((0 : Nat) : Int) - 1 = -1 from rfl]
        have hend := Nt.dm_end HDP.out hinv.out hLo.out hlt.out
        have hsd := Nt.shift_div x y s
        rw [HD.out, HXX.out] at hsd
        have HVQ : Hid (Nt.V Q = ((x / y : Nat) : Int)) := Lib.hid (by rw [hend.1]; exact hsd.1)
        have HVL : Hid (Nt.V L / 2 ^ s = ((x % y : Nat) : Int)) := Lib.hid (by rw [hend.2]; exact hsd.2)
        clear hend hsd hinv hlt hz hrow
        go_wp2_with fail
        go_loopw [108] (fun i wr => ∃ (k : Nat) (q : List Int), k ≤ n + 1 ∧ i = .int .i64 k ∧ Kt.IBlk wr gr 33 .u32 (q ++ L.drop k) ∧ Kt.IBlk wr wc.heap.size 33 .u32 Q ∧ Hid (q.length = k) ∧ Hid (Nt.Ok q) ∧ Hid (Nt.V q + Nt.P k * (Nt.V (L.drop k) / 2 ^ s) = Nt.V L / 2 ^ s) ∧ Below w.heap.size w wr) (fun i _ => n + 1 - (intOf i).toNat)
        case atStart => exact ⟨0, [], Nat.zero_le _, rfl, hLb, hQb, Lib.hid rfl, Lib.hid Nt.Ok.nil, Lib.hid (by simp [Nt.V, Nt.P]), hbel⟩
        case round =>
          obtain ⟨k, q, hk, rfl, hLb2, hQb2, hql, hqo, hv, hbel2⟩ := hrel
          by_cases hlt : k < n + 1
          · have hov := Nt.over_len' (l := L) hql.out (by rw [hLl.out]; omega)
            rw [hLl.out] at hov
            have hcell := hLb2.cell k (by rw [hov]; omega)
            rw [Nt.over_nth' hql.out] at hcell
            have hfr := hLb2.frozen k
            obtain ⟨z, hz⟩ : ∃ z, Hid (Ls.nth L k = z) := ⟨_, Lib.hid rfl⟩
            have hzb := hLo.out.nth_any k
            rw [hz.out] at hcell hzb
            obtain ⟨hz0, hz1⟩ := hzb
            have HOV := Lib.hid hov
            clear hov
            have hLb3 := hLb2.set_ k (z / 2 ^ s)
            rw [Nt.over_set' _ hql.out (by rw [hLl.out]; omega)] at hLb3
            have hQb3 := hQb2.far (p := ⟨gr, k, none⟩) (by show wc.heap.size ≠ gr; omega) (.int .u32 (z / 2 ^ s))
            have hbel3 := hbel2.setCell (p := ⟨gr, k, none⟩) hgr (.int .u32 (z / 2 ^ s))
            have HLB3 := Lib.hid hLb3
            clear hLb3
            have hq0 := Int.le_of_lt (Nt.e_pos s)
            have hsh0 : 0 ≤ z / 2 ^ s := Int.ediv_nonneg hz0 hq0
            have hsh1 : z / 2 ^ s ≤ z := Int.ediv_le_self _ hz0
            clear hq0
            by_cases hc : k + 1 < n + 1 ∧ 0 < s
            · obtain ⟨hc1, hc2⟩ := hc
              have hcell2 := HLB3.out.cell (k + 1) (by have := HOV.out; simp only [List.length_append, List.length_drop, hql.out, List.length_singleton, hLl.out]; omega)
              rw [Nt.over_nth' (by rw [List.length_append, hql.out]; rfl)] at hcell2
              obtain ⟨y1, hy1⟩ : ∃ y1, Hid (Ls.nth L (k + 1) = y1) := ⟨_, Lib.hid rfl⟩
              have hyb := hLo.out.nth_any (k + 1)
              rw [hy1.out] at hcell2 hyb
              obtain ⟨hy10, hy11⟩ := hyb
              have hcell3 : (wr.setCell ⟨gr, k, none⟩ (.int .u32 (z / 2 ^ s))).cell? ⟨gr, k, none⟩ = some (.int .u32 (z / 2 ^ s)) := by
                have h9 := HLB3.out.cell k (by simp only [List.length_append, List.length_drop, hql.out, List.length_singleton, hLl.out]; omega)
                rw [List.append_assoc, List.singleton_append, Nt.sh_nth _ _ _ _ hql.out] at h9
                exact h9
              have HBB := Lib.hid (Nt.back_bits (x := z) (y := y1) hs31 hc2 hz0 hz1)
              have hfr3 := HLB3.out.frozen k
              go_wp2_with fail
              clear hcell hfr hLb2 hQb2 hbel2
              generalize wr.setCell ⟨gr, k, none⟩ (.int .u32 (z / 2 ^ s)) = w9 at HLB3 hQb3 hbel3 hcell2 hcell3 hfr3 ⊢
              have w1 : IntKind.i64.wrap ((k : Int) + 1) = (k : Int) + 1 := IntWalk.i64_in _ (by omega)
              have w2 : IntKind.i64.wrap (32 - (s : Int)) = 32 - (s : Int) := IntWalk.i64_in _ (by omega)
              have p1 : 0 ≤ (k : Int) + 1 := by omega
              have p2 : 0 ≤ 32 - (s : Int) := by omega
              have t1 : ((k : Int) + 1).toNat = k + 1 := by omega
              have t2 : (32 - (s : Int)).toNat = 32 - s := by omega
              have q1 : (k : Int) + 1 < (n : Int) + 1 := by omega
              go_still_tail 13, (by kernel_rfl)
              change wpList _ _ _ _ _ w9.drew
              rw [IntKind.wrap_u32, HBB.out]
              obtain ⟨nv0, nv1⟩ := Nt.back_ok (x := z) (y := y1) (s := s) (by omega) hz0 hz1
              have HNEW : Hid (z / 2 ^ s + 2 ^ (32 - s) * (y1 % 2 ^ s) = Ls.nth L k / 2 ^ s + 2 ^ (32 - s) * (Nt.V (L.drop (k + 1)) % 2 ^ s)) := Lib.hid (by
                rw [hz.out, Nt.back_mod (by omega) (by rw [hLl.out]; exact hc1), hy1.out])
              obtain ⟨nv, hnv⟩ : ∃ nv, Hid (z / 2 ^ s + 2 ^ (32 - s) * (y1 % 2 ^ s) = nv) := ⟨_, Lib.hid rfl⟩
              rw [hnv.out] at nv0 nv1 ⊢
              have hcell4 : w9.drew.cell? ⟨gr, k, none⟩ = some (.int .u32 (z / 2 ^ s)) := hcell3
              have hfr4 : w9.drew.frozen? ⟨gr, k, none⟩ = false := hfr3
              have hL4 : Kt.IBlk w9.drew gr 33 .u32 ((q ++ [z / 2 ^ s]) ++ L.drop (k + 1)) := HLB3.out
              have hL5 := hL4.set_ k nv
              rw [List.append_assoc, List.singleton_append, Nt.sh_set1 _ _ _ _ _ hql.out, ← List.singleton_append, ← List.append_assoc] at hL5
              have hQ5 := (show Kt.IBlk w9.drew wc.heap.size 33 .u32 Q from hQb3).far (p := ⟨gr, k, none⟩) (by show wc.heap.size ≠ gr; omega) (.int .u32 nv)
              have hbel5 := (Kt.below_drewN hbel3 1).setCell (p := ⟨gr, k, none⟩) hgr (.int .u32 nv)
              rw [show w9.drewN 1 = w9.drew from rfl] at hbel5
              clear hcell3 hfr3 hcell2 HLB3 hL4 hQb3 hbel3 w1 w2 p1 p2 t1 t2 q1 HBB
              generalize w9.drew = w10 at hcell4 hfr4 hL5 hQ5 hbel5 ⊢
              go_wp2_with fail
              go_roundw
              case rel => exact ⟨k + 1, q ++ [nv], by omega, by go_num, hL5, hQ5, Lib.hid (by rw [List.length_append, hql.out]; rfl), Lib.hid (hqo.out.append (Nt.Ok.one nv0 nv1)), Lib.hid (Nt.back_step (by omega) (by rw [hLl.out]; omega) hql.out hv.out (by rw [← hnv.out]; exact HNEW.out)), hbel5⟩
              case measure => simp [intOf]; omega
            · have HNEW : Hid (z / 2 ^ s = Ls.nth L k / 2 ^ s + 2 ^ (32 - s) * (Nt.V (L.drop (k + 1)) % 2 ^ s)) := Lib.hid (by
                rw [hz.out]
                have e0 : Nt.V (L.drop (k + 1)) % 2 ^ s = 0 := by
                  rcases Nat.eq_zero_or_pos s with h9 | h9
                  · subst h9; rw [Int.pow_zero, Int.emod_one]
                  · rw [List.drop_of_length_le (by rw [hLl.out]; omega), Nt.V, Int.zero_emod]
                rw [e0, Int.mul_zero, Int.add_zero])
              by_cases hc1 : k + 1 < n + 1
              · have hc2 : ¬ 0 < s := fun h9 => hc ⟨hc1, h9⟩
                clear hc
                go_wp2_with fail
                go_roundw
                case rel => exact ⟨k + 1, q ++ [z / 2 ^ s], by omega, by go_num, HLB3.out, hQb3, Lib.hid (by rw [List.length_append, hql.out]; rfl), Lib.hid (hqo.out.append (Nt.Ok.one hsh0 (by omega))), Lib.hid (Nt.back_step (by omega) (by rw [hLl.out]; omega) hql.out hv.out HNEW.out), hbel3⟩
                case measure => simp [intOf]; omega
              · clear hc
                go_wp2_with fail
                go_roundw
                case rel => exact ⟨k + 1, q ++ [z / 2 ^ s], by omega, by go_num, HLB3.out, hQb3, Lib.hid (by rw [List.length_append, hql.out]; rfl), Lib.hid (hqo.out.append (Nt.Ok.one hsh0 (by omega))), Lib.hid (Nt.back_step (by omega) (by rw [hLl.out]; omega) hql.out hv.out HNEW.out), hbel3⟩
                case measure => simp [intOf]; omega
          · obtain rfl : k = n + 1 := by omega
            have hvq := hv.out
            rw [List.drop_of_length_le (by rw [hLl.out]; exact Nat.le_refl _)] at hLb2 hvq
            rw [List.append_nil] at hLb2
            have HVR : Hid (Nt.V q = ((x % y : Nat) : Int)) := Lib.hid (by rw [← HVL.out, ← hvq, Nt.V, Int.zero_ediv, Int.mul_zero, Int.add_zero])
            clear hvq hv
            go_wp2_with fail
            refine (trimmed_any _ (n - m + 1) (n - m + 1) Q _ hQl.out hQb2.ints (Nat.le_refl _) (by omega)).mono ?_
            rintro e w' ⟨a, rfl, ha1, ha2, ha3, rfl⟩
            have HA2 := Lib.hid ha2
            have HA3 := Lib.hid ha3
            clear ha2 ha3
            go_wp2_with fail
            refine (trimmed_any _ (n + 1) (n + 1) q _ hql.out hLb2.ints (Nat.le_refl _) (by omega)).mono ?_
            rintro e w' ⟨b, rfl, hb1, hb2, hb3, rfl⟩
            have HB2 := Lib.hid hb2
            have HB3 := Lib.hid hb3
            clear hb2 hb3
            go_wp2_with fail
            go_ret3
            exact ⟨_, _, rfl, Kt.Num.take hQb2 hbel0.size hQo.out HVQ.out (by rw [hQl.out]; exact ha1) HA2.out HA3.out ha1, Kt.Num.take hLb2 hgr hqo.out HVR.out (by rw [hql.out]; exact hb1) HB2.out HB3.out hb1, hbel2⟩
end Go.Proofs.Ytfjdhclpcbgdbaa
