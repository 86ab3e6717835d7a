/- The walk of CivilAdds. -/
import Derived.Test.YthmgkfljaneocaaDoorCivO
namespace Go.Proofs.YthmgkfljaneocaaDoor
open Go Go.RowKit

theorem ints_first {w : World} {B : Nat} {k : IntKind} {A : Option Addr} {H G : List Int} (h : Kt.Ints w B k A (H ++ G)) : Kt.Ints w B k A H := fun hp => by
  obtain ⟨b, o, e, hb, hc⟩ := h (by rw [List.length_append]; omega)
  exact ⟨b, o, e, hb, fun j hj => by rw [hc j (by rw [List.length_append]; omega), Ls.nth_append_left _ _ _ hj]⟩
theorem sorted3 (a b c : Int) (ha : 0 ≤ a ∧ a ≤ 730484) (hb : 0 ≤ b ∧ b ≤ 730484) (hc : 0 ≤ c ∧ c ≤ 730484) :
    0 ≤ min a (min b (min (max a b) c)) ∧ min a (min b (min (max a b) c)) ≤ max (min a b) (min (max a b) c) ∧ max (min a b) (min (max a b) c) ≤ max a (max b c) ∧ max a (max b c) ≤ 730484 := by omega
theorem last_of {H : List Int} {m : Nat} (h : H.length = m + 1) : ∃ G x, H = G ++ [x] ∧ G.length = m := by
  refine ⟨H.take m, Ls.nth H m, ?_, by rw [List.length_take]; omega⟩
  rw [← Ls.take_nth H m (by omega), List.take_of_length_le (by omega)]
set_option maxRecDepth 100000 in
set_option maxHeartbeats 8000000 in
theorem walk_CivilAdds (w : World) (A : Option Addr) (cp : Nat) (l : List Int) (_ll : l.length ≤ cp) (_ml : cp ≤ maxLen) (zl : Kt.Ints w w.heap.size .u16 A l) (wl : ∀ i ∈ l, (Lit.int .u16 i).wf = true) (rl : l.length * 2 ≤ 140737488351232)
    (a : Int) (_wa : (Lit.int .i64 a).wf = true) (b : Int) (_wb : (Lit.int .i64 b).wf = true) (c : Int) (_wc : (Lit.int .i64 c).wf = true) (ht : Tab w) :
    Calls Tryd.prog 9 #[.slice A l.length cp, .int .i64 a, .int .i64 b, .int .i64 c] w fun e w' => e = .returned (.bool true) ∧ Below w.heap.size w w' := by
  have HT := Lib.hid ht
  have HLB := Lib.hid (fun x hx => bd_u16 (wl x hx))
  obtain ⟨i, hi⟩ : ∃ d, Hid (a % 730485 = d) := ⟨_, Lib.hid rfl⟩
  obtain ⟨j, hj⟩ : ∃ d, Hid (b % 730485 = d) := ⟨_, Lib.hid rfl⟩
  obtain ⟨k, hk⟩ : ∃ d, Hid (c % 730485 = d) := ⟨_, Lib.hid rfl⟩
  have hs3 := sorted3 i j k (by rw [← hi.out]; omega) (by rw [← hj.out]; omega) (by rw [← hk.out]; omega)
  have HS3 := Lib.hid hs3
  clear ht wl hs3
  go_enter Tryd.func9, Tryd.ntmps9
  go_wp2_with fail
  refine (awake_any _ HT.out).mono ?_
  rintro e w0 ⟨rfl, b0⟩
  go_wp2_with fail
  refine (list_any A _ cp l _ rfl (zl.on b0) HLB.out (by omega)).mono ?_
  rintro e w1 ⟨B, H, cc, rfl, hHc, hz, hr, b1⟩
  replace b1 := Kt.next b0 b1
  have HR := Lib.hid hr
  have hr2 := Cv.rightH_asc hr
  have HASC := Lib.hid hr2.2
  have hl1 := hr2.1
  clear hr hr2
  obtain ⟨nn, hnn⟩ : ∃ nn, Hid (H.length = nn) := ⟨_, Lib.hid rfl⟩
  rw [hnn.out] at hHc hl1 ⊢
  have HBD := Lib.hid (fun d (h0 : 0 ≤ d) (h1 : d ≤ 730485) => Cv.cnt_bd H (by rw [hnn.out]; exact hl1) h0 h1)
  go_wp2_with fail
  refine (lawday_any a _).mono ?_
  rw [hi.out]
  rintro e w' ⟨rfl, rfl⟩
  go_wp2_with fail
  refine (lawday_any b _).mono ?_
  rw [hj.out]
  rintro e w' ⟨rfl, rfl⟩
  go_wp2_with fail
  refine (lawday_any c _).mono ?_
  rw [hk.out]
  rintro e w' ⟨rfl, rfl⟩
  go_wp2_with fail
  obtain ⟨p, hp⟩ : ∃ p, Hid (min i (min j (min (max i j) k)) = p) := ⟨_, Lib.hid rfl⟩
  obtain ⟨q, hq⟩ : ∃ p, Hid (max (min i j) (min (max i j) k) = p) := ⟨_, Lib.hid rfl⟩
  obtain ⟨r, hrr⟩ : ∃ p, Hid (max i (max j k) = p) := ⟨_, Lib.hid rfl⟩
  rw [hp.out, hq.out, hrr.out] at HS3
  rw [hp.out, hq.out, hrr.out]
  obtain ⟨p0, pq, qr, r1⟩ := HS3.out
  clear HS3
  have bp := HBD.out p p0 (by omega)
  have bq := HBD.out q (by omega) (by omega)
  have br := HBD.out r (by omega) (by omega)
  obtain ⟨v1, hv1⟩ : ∃ v, Hid (Cv.cnt H q - Cv.cnt H p = v) := ⟨_, Lib.hid rfl⟩
  obtain ⟨v2, hv2⟩ : ∃ v, Hid (Cv.cnt H r - Cv.cnt H q = v) := ⟨_, Lib.hid rfl⟩
  have hv3 : Hid (Cv.cnt H r - Cv.cnt H p = v1 + v2) := Lib.hid (by rw [← hv1.out, ← hv2.out]; omega)
  have b11 : -600000 ≤ v1 := by rw [← hv1.out]; omega
  have b12 : v1 ≤ 600000 := by rw [← hv1.out]; omega
  have b21 : -600000 ≤ v2 := by rw [← hv2.out]; omega
  have b22 : v2 ≤ 600000 := by rw [← hv2.out]; omega
  clear bp bq br
  refine (between_val p q v1 hnn.out hz HR.out p0 pq (by omega) hv1.out).mono ?_
  rintro e w2 ⟨rfl, b2⟩
  have hz2 := hz.on b2
  replace b2 := Kt.next b1 b2
  go_wp2_with fail
  try rw [hq.out, hrr.out]
  refine (between_val q r v2 hnn.out hz2 HR.out (by omega) qr r1 hv2.out).mono ?_
  rintro e w3 ⟨rfl, b3⟩
  have hz3 := hz2.on b3
  replace b3 := Kt.next b2 b3
  go_wp2_with fail
  try rw [hp.out, hrr.out]
  refine (between_val p r (v1 + v2) hnn.out hz3 HR.out p0 (by omega) r1 hv3.out).mono ?_
  rintro e w4 ⟨rfl, b4⟩
  have hz4 := hz3.on b4
  replace b4 := Kt.next b3 b4
  go_wp2_with fail
  try rw [hp.out]
  clear hz hz2 hz3
  go_loopw [16] (fun s16 wr => ∃ d : Int, s16 = .int .i64 d ∧ p ≤ d ∧ d ≤ r ∧ Kt.Ints wr wr.heap.size .i64 B H ∧ Below w.heap.size w wr) (fun s16 _ => (730485 - intOf s16).toNat)
  case atStart => exact ⟨p, by first | rfl | rw [hp.out], Int.le_refl p, by omega, hz4, b4⟩
  case round =>
    clear hz4 b4 b3 b2 b1 b0
    obtain ⟨d, rfl, hd0, hd1, hz, hb⟩ := hrel
    by_cases hgo : d < min (p + 7) r
    · have hdr : d < r := by omega
      have hst := Cv.cnt_step HASC.out d (by omega)
      have HST := Lib.hid hst
      clear hst
      go_wp2_with fail
      refine (works_ok d hnn.out hz HR.out (by omega) (by omega)).mono ?_
      cases hw : Cv.wk H d
      · have HV : Hid (Cv.cnt H (d + 1) - Cv.cnt H d = 0) := Lib.hid (by have h1 := HST.out; rw [hw] at h1; simp at h1; omega)
        rintro e w5 ⟨rfl, b5⟩
        have hz5 := hz.on b5
        replace b5 := Kt.next hb b5
        go_wp2_with fail
        refine (between_val d (d + 1) 0 hnn.out hz5 HR.out (by omega) (by omega) (by omega) HV.out).mono ?_
        rintro e w6 ⟨rfl, b6⟩
        have hz6 := hz5.on b6
        replace b6 := Kt.next b5 b6
        go_wp2_with fail
        go_roundw
        case rel => exact ⟨d + 1, rfl, by omega, by omega, hz6, b6⟩
        case measure => simp [intOf]; omega
      · have HV : Hid (Cv.cnt H (d + 1) - Cv.cnt H d = 1) := Lib.hid (by have h1 := HST.out; rw [hw] at h1; simp at h1; omega)
        rintro e w5 ⟨rfl, b5⟩
        have hz5 := hz.on b5
        replace b5 := Kt.next hb b5
        go_wp2_with fail
        refine (between_val d (d + 1) 1 hnn.out hz5 HR.out (by omega) (by omega) (by omega) HV.out).mono ?_
        rintro e w6 ⟨rfl, b6⟩
        have hz6 := hz5.on b6
        replace b6 := Kt.next b5 b6
        go_wp2_with fail
        go_roundw
        case rel => exact ⟨d + 1, rfl, by omega, by omega, hz6, b6⟩
        case measure => simp [intOf]; omega
    · clear hd1
      obtain ⟨z, hzz⟩ : ∃ z, (r - p) / 7 = z := ⟨_, rfl⟩
      have z0 : 0 ≤ z := by omega
      have z1 : p + z * 7 ≤ r := by omega
      have z2 : z ≤ 730484 := by omega
      have HW := Lib.hid (Cv.cnt_weeks p z)
      go_wp2_with fail
      refine (between_val (H := []) p (p + z * 7) (z * 5) rfl Kt.Ints.nil Cv.rightH_nil p0 (by omega) (by omega) HW.out).mono ?_
      rintro e w5 ⟨rfl, b5⟩
      have hz5 := hz.on b5
      replace b5 := Kt.next hb b5
      by_cases hn0 : nn = 0
      · have hn1 : ((nn : Int) == 0) = true := by simp [hn0]
        clear hn0
        go_wp2_with fail
        go_ret
        exact ⟨rfl, b5⟩
      · have hn1 : ((nn : Int) == 0) = false := by simp [hn0]
        obtain ⟨m, rfl⟩ : ∃ m, nn = m + 1 := ⟨nn - 1, by omega⟩
        obtain ⟨G, x, hHG, hGm⟩ := last_of hnn.out
        subst hHG
        obtain ⟨g, o, rfl, hg, hc⟩ := hz5 (by rw [hnn.out]; omega)
        have hcell := hc m (by rw [hnn.out]; omega)
        rw [show Ls.nth (G ++ [x]) m = x from by unfold Ls.nth; rw [List.getD, List.getElem?_append_right (by omega), hGm, Nat.sub_self]; rfl] at hcell
        clear hc
        have hxb := Cv.asc_last HASC.out
        have hx0 : 0 ≤ x := by omega
        have hx1 : x ≤ 730484 := hxb.2.2
        have HGR : Hid (Cv.rightH G = true) := Lib.hid (Cv.rightH_of (by omega) (Cv.asc_left HASC.out))
        have HWK := Lib.hid (Cv.wk_last HASC.out)
        have e0 := Cv.cnt_snoc HASC.out 0
        have e1 := Cv.cnt_snoc HASC.out 730484
        rw [if_pos hx0] at e0
        have bg0 := Cv.cnt_bd G (by omega) (show (0 : Int) ≤ 0 by omega) (by omega)
        have bg1 := Cv.cnt_bd G (by omega) (show (0 : Int) ≤ 730484 by omega) (by omega)
        obtain ⟨u, hu⟩ : ∃ u, Hid (Cv.cnt G 730484 - Cv.cnt G 0 = u) := ⟨_, Lib.hid rfl⟩
        have u0 : -600000 ≤ u := by rw [← hu.out]; omega
        have u1 : u ≤ 600000 := by rw [← hu.out]; omega
        have HGM := Lib.hid hGm
        have hzg := ints_first hz5
        cases hwx : decide (x % 7 < 5)
        · have HV : Hid (Cv.cnt (G ++ [x]) 730484 - Cv.cnt (G ++ [x]) 0 = u) := Lib.hid (by rw [← hu.out, e1, e0, if_neg (show ¬ x % 7 < 5 by simpa using hwx)]; split <;> omega)
          rw [hwx] at HWK
          clear e0 e1 bg0 bg1 hGm hxb hwx
          go_wp2_with fail
          refine (between_val (H := G) 0 730484 u HGM.out hzg HGR.out (by omega) (by omega) (by omega) hu.out).mono ?_
          rintro e w6 ⟨rfl, b6⟩
          have hz6 := hz5.on b6
          have hzg6 := hzg.on b6
          replace b6 := Kt.next b5 b6
          go_wp2_with fail
          refine (between_val 0 730484 u hnn.out hz6 HR.out (by omega) (by omega) (by omega) HV.out).mono ?_
          rintro e w7 ⟨rfl, b7⟩
          have hzg7 := hzg6.on b7
          replace b7 := Kt.next b6 b7
          go_wp2_with fail
          refine (works_ok x HGM.out hzg7 HGR.out hx0 hx1).mono ?_
          rw [HWK.out]
          rintro e w8 ⟨rfl, b8⟩
          replace b8 := Kt.next b7 b8
          go_wp2_with fail
          go_ret
          exact ⟨rfl, b8⟩
        · rw [hwx] at HWK
          by_cases hxm : x = 730484
          · have HV : Hid (Cv.cnt (G ++ [x]) 730484 - Cv.cnt (G ++ [x]) 0 = u) := Lib.hid (by rw [← hu.out, e1, e0, if_pos (show (730484 : Int) ≤ x by omega)]; omega)
            have hxe : (x == 730484) = true := by simp [hxm]
            have hxl : decide (x < 730484) = false := by simp; omega
            clear e0 e1 bg0 bg1 hGm hxb hwx hxm
            go_wp2_with fail
            refine (between_val (H := G) 0 730484 u HGM.out hzg HGR.out (by omega) (by omega) (by omega) hu.out).mono ?_
            rintro e w6 ⟨rfl, b6⟩
            have hz6 := hz5.on b6
            have hzg6 := hzg.on b6
            replace b6 := Kt.next b5 b6
            go_wp2_with fail
            refine (between_val 0 730484 u hnn.out hz6 HR.out (by omega) (by omega) (by omega) HV.out).mono ?_
            rintro e w7 ⟨rfl, b7⟩
            have hzg7 := hzg6.on b7
            replace b7 := Kt.next b6 b7
            go_wp2_with fail
            refine (works_ok x HGM.out hzg7 HGR.out hx0 hx1).mono ?_
            rw [HWK.out]
            rintro e w8 ⟨rfl, b8⟩
            replace b8 := Kt.next b7 b8
            go_wp2_with fail
            go_ret
            exact ⟨rfl, b8⟩
          · have HV : Hid (Cv.cnt (G ++ [x]) 730484 - Cv.cnt (G ++ [x]) 0 = u - 1) := Lib.hid (by rw [← hu.out, e1, e0, if_neg (show ¬ (730484 : Int) ≤ x by omega), if_pos (show x % 7 < 5 by simpa using hwx)]; omega)
            have hxl : decide (x < 730484) = true := by simp; omega
            clear e0 e1 bg0 bg1 hGm hxb hwx
            go_wp2_with fail
            refine (between_val (H := G) 0 730484 u HGM.out hzg HGR.out (by omega) (by omega) (by omega) hu.out).mono ?_
            rintro e w6 ⟨rfl, b6⟩
            have hz6 := hz5.on b6
            have hzg6 := hzg.on b6
            replace b6 := Kt.next b5 b6
            go_wp2_with fail
            refine (between_val 0 730484 (u - 1) hnn.out hz6 HR.out (by omega) (by omega) (by omega) HV.out).mono ?_
            rintro e w7 ⟨rfl, b7⟩
            have hzg7 := hzg6.on b7
            replace b7 := Kt.next b6 b7
            go_wp2_with fail
            refine (works_ok x HGM.out hzg7 HGR.out hx0 hx1).mono ?_
            rw [HWK.out]
            rintro e w8 ⟨rfl, b8⟩
            replace b8 := Kt.next b7 b8
            go_wp2_with fail
            go_ret
            exact ⟨rfl, b8⟩
end Go.Proofs.YthmgkfljaneocaaDoor
