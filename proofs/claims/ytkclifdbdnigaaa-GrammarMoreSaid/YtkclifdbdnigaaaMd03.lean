/- Joined: MoX, FrH. -/
import Derived.Test.YtkclifdbdnigaaaMd02
import Derived.Test.YtkclifdbdnigaaaMa21
import Derived.Test.YtkclifdbdnigaaaMa13
import Derived.Lib.SmallJoins
section
/- The walk of GrammarMore. -/
namespace Go.Proofs.Ytkclifdbdnigaaa
open Go Go.RowKit
/-- A derivation is one with a rule more, or more classes, too. -/
theorem more_isT {g : List Gr.Rule} {tk tk' : List Int} {q : List Gr.Rule} {t : Gr.Tr} (hh : ∀ p c, hitf tk p c = true → hitf tk' p c = true) (ht : t ∈ derivs g tk) : Gr.isT (g ++ q) (hitf tk') (64 * (tk.length + 1)) t.toI 0 0 tk.length = true :=
  Gr.isT_mono g (hitf tk) (hitf tk') hh q _ _ _ _ _ (Gr.T_isT g (hitf tk) _ 0 0 tk.length t ht).1
set_option maxRecDepth 100000 in
set_option maxHeartbeats 4000000 in
theorem walk_GrammarMore (w : World) (A : Option Addr) (cp : Nat) (g : List Gr.Rule) (lg : g.length ≤ 4398046511104) (hg : Kt.Rules w w.heap.size A g) (wg : WfR g)
    (x : Gr.Rule) (RA : Option Addr) (rc : Nat) (lx : x.right.length ≤ 4611686018427387904) (hx : Kt.Items w w.heap.size RA x.right) (wx : ∀ y ∈ x.right, 0 ≤ y.cls ∧ y.cls ≤ 65535)
    (T : Option Addr) (ct : Nat) (tk : List Int) (lt : tk.length ≤ ct) (_mt : ct ≤ maxLen) (ht : Kt.Ints w w.heap.size .u16 T tk) (_wt : ∀ i ∈ tk, (Lit.int .u16 i).wf = true) (zt : tk.length * 2 ≤ 140737488351232) (_kt : T = none → ct = 0)
    (pos : Int) (_wp : (Lit.int .i64 pos).wf = true) (cl : Int) (_wc : (Lit.int .u16 cl).wf = true) :
    Calls Try.prog 8 #[.slice A g.length cp, .agg #[.int .i64 x.left, .slice RA x.right.length rc], .slice T tk.length ct, .int .i64 pos, .int .u16 cl] w fun e w' => e = .returned (.bool true) ∧ Below w.heap.size w w' := by
  obtain ⟨n, hn⟩ : ∃ n, Hid (g.length = n) := ⟨_, Lib.hid rfl⟩
  obtain ⟨nt, hnt⟩ : ∃ nt, Hid (tk.length = nt) := ⟨_, Lib.hid rfl⟩
  obtain ⟨lf, hlf⟩ : ∃ lf, Hid (x.left = lf) := ⟨_, Lib.hid rfl⟩
  obtain ⟨m, hm⟩ : ∃ m, Hid (x.right.length = m) := ⟨_, Lib.hid rfl⟩
  rw [hn.out] at lg
  rw [hnt.out] at zt lt
  rw [hn.out, hnt.out, hlf.out, hm.out]
  have HLX := Lib.hid lx
  rw [hm.out] at lx
  obtain ⟨w0, hw0⟩ : ∃ w0, (w.alloc (.cells #[.int .i64 lf, .slice RA m rc] 37)) = w0 := ⟨_, rfl⟩
  have hb0 : Below w.heap.size w w0 := by rw [← hw0]; exact (Below.refl _ _).alloc (Nat.le_refl _) _
  have k0 : Kt.Blk w0 w.heap.size 37 #[.int .i64 lf, .slice RA m rc] := by rw [← hw0]; exact Kt.Blk.new w _ _
  have HG := Lib.hid (hg.on hb0)
  have HT := Lib.hid (ht.on hb0)
  have HX := Lib.hid (hx.on hb0)
  have HK := Lib.hid k0
  have HW := Lib.hid wg
  have HWX := Lib.hid wx
  have HLT := Lib.hid lt
  have HB0 := Lib.hid hb0
  have hs0 := hb0.size
  have hlt0 := k0.lt
  have x00 : w0.cell? ⟨w.heap.size, 0, none⟩ = some (.int .i64 lf) := k0.cell 0
  have x01 : w0.cell? ⟨w.heap.size, 1, none⟩ = some (.slice RA m rc) := k0.cell 1
  clear hg ht wg lt _mt _wt _wp _wc hx wx hb0 k0
  obtain ⟨i0, hi0, hz0, hz1, hz2⟩ := info_parts Try.infoRule
  obtain ⟨j0, hj0, hy0, hy1, hy2⟩ := info_parts Try.infoU16
  go_enter Try.func8, Try.ntmps8
  go_wp2_with fail
  refine (awake_any w0).mono ?_
  rintro e w1 ⟨rfl, hb1⟩
  have x10 : w1.cell? ⟨w.heap.size, 0, none⟩ = some (.int .i64 lf) := (HK.out.on hb1).cell 0
  have x11 : w1.cell? ⟨w.heap.size, 1, none⟩ = some (.slice RA m rc) := (HK.out.on hb1).cell 1
  have hb1' : Below w.heap.size w w1 := HB0.out.trans (hb1.mono hs0)
  clear x00 x01 hw0
  go_wp2_with fail
  refine (great_any g nt A n cp T ct w1 hn.out (by omega) (HG.out.on hb1)).mono ?_
  rintro e w2 ⟨rfl, ⟨rfl, hfine⟩ | rfl⟩
  · by_cases hm12 : 12 < m
    · have d0 : decide ((m : Int) > 12) = true := by simp; omega
      clear hm12
      go_wp2_with fail
      go_ret
      exact ⟨rfl, hb1'⟩
    · have d0 : decide ((m : Int) > 12) = false := by simp; omega
      go_wp2_with fail
      refine (Valid_any g A n cp w1 hn.out (by omega) (HG.out.on hb1)).mono ?_
      rintro e w3 ⟨hb3, c, rfl, hc⟩
      have hb03 : Below w0.heap.size w0 w3 := hb1.trans (hb3.mono hb1.size)
      have hb3' : Below w.heap.size w w3 := HB0.out.trans (hb03.mono hs0)
      by_cases hcz : c = 0
      · subst hcz
        have hGood := hc.good.1 rfl
        by_cases hnt12 : 12 < nt
        · have d1 : decide ((nt : Int) > 12) = true := by simp; omega
          clear hc
          go_wp2_with fail
          go_ret
          exact ⟨rfl, hb3'⟩
        · have d1 : decide ((nt : Int) > 12) = false := by simp; omega
          have HGD := Lib.hid hGood
          have hgl := hGood.len
          rw [hn.out] at hgl
          have hs3 := hb3'.size
          have hs03 := hb03.size
          clear hc hGood hfine x10 x11
          go_wp2_with fail
          refine (Trees_any g tk A n cp T nt ct w3 hn.out (by omega) hnt.out (by omega) (by omega) HW.out (HG.out.on hb03) (HT.out.on hb03) 20 (by omega)).mono ?_
          rintro e w4 ⟨hb4, v4, c4, rfl, hk4, hv4⟩
          obtain rfl : c4 = 0 := hk4.good.2 ⟨HGD.out, by rw [hnt.out]; omega⟩
          rw [if_pos rfl] at hv4
          have hb04 : Below w0.heap.size w0 w4 := hb03.trans (hb4.mono hs03)
          have hs04 := hb04.size
          have HV4 := Lib.hid hv4
          clear hk4 hv4
          go_wp2_with fail
          refine (Count_any g tk A n cp T nt ct w4 hn.out (by omega) hnt.out (by omega) (by omega) HW.out (HG.out.on hb04) (HT.out.on hb04)).mono ?_
          rintro e w5 ⟨hb5, v5, c5, rfl, hk5, hv5⟩
          obtain rfl : c5 = 0 := hk5.good.2 ⟨HGD.out, by rw [hnt.out]; omega⟩
          rw [if_pos rfl] at hv5
          have hb05 : Below w0.heap.size w0 w5 := hb04.trans (hb5.mono hs04)
          have hs05 := hb05.size
          have HV5 := Lib.hid hv5
          have HLV5 := Lib.hid (HV4.out.keep (W' := w5) fun q hq _ => hb5.block q hq)
          have HG5 := Lib.hid (HG.out.on hb05)
          have HT5 := Lib.hid (HT.out.on hb05)
          have HX5 := Lib.hid (HX.out.on hb05)
          have HK5 := Lib.hid (HK.out.on hb05)
          have hb5' : Below w.heap.size w w5 := HB0.out.trans (hb05.mono hs0)
          have hs5 := hb5'.size
          have hlt5 : w.heap.size < w5.heap.size := HK5.out.lt
          have y0 : w5.cell? ⟨w.heap.size, 0, none⟩ = some (.int .i64 lf) := HK5.out.cell 0
          have y1 : w5.cell? ⟨w.heap.size, 1, none⟩ = some (.slice RA m rc) := HK5.out.cell 1
          have HR8 : Hid (∀ r, r < g.length → (Gr.rul g r).right.length ≤ 8) := Lib.hid fun r hr => (HGD.out.ok r hr).parts.2.2.1
          clear hk5 hv5 HV4 HG HT HX HK hb4 hb5 hb04 hs04 hb3 hb03 hs03 hb1 hb3' hs3
          go_upto_region 7 with fail
          go_cut [15] (fun s15 wx => ∃ gg cap, s15 = .slice (some ⟨gg, 0, none⟩) (n + 1) cap ∧ Hid (Kt.Rules wx wx.heap.size (some ⟨gg, 0, none⟩) (g ++ [x])) ∧ Below w5.heap.size w5 wx)
          case first =>
            go_region_law (first
              | (refine law_fn (.call { callee := .value (.func 17), args := #[.tmp 55], argTypes := #[22] }) rfl rfl 56 (fun w v w6 => w5.heap.size ≤ w.heap.size ∧ Below w.heap.size w w6 ∧ ∃ G C, OG w6 w.heap.size v g G C) ?_ ?_
                 · intro KK hkk
                   unfold Oper.wp
                   go_simp
                   refine (copyRules_any g HGD.out A n cp _ hn.out (by first | exact HG5.out.on (Below.refl _ _).drew | exact HG5.out.on ((Below.refl _ _).drew.alloc (Nat.le_refl _) _))).mono ?_
                   rintro e w6 ⟨hb6, v6, G, C, rfl, hO⟩
                   exact hkk _ _ ⟨by first | exact Nat.le_refl w5.heap.size | exact Nat.le_of_lt (by simp), hb6, G, C, hO⟩
                 rintro v6 w6 ⟨hbs6, hb6, G, C, hO⟩
                 have hbx : Below w5.heap.size w5 w6 := by first | exact (Below.refl _ _).drew.trans hb6 | exact ((Below.refl _ _).drew.alloc (Nat.le_refl _) _).trans (hb6.mono hbs6)
                 have y60 : w6.cell? ⟨w.heap.size, 0, none⟩ = some (.int .i64 lf) := (hbx.cell (p := ⟨w.heap.size, 0, none⟩) hlt5).trans y0
                 have y61 : w6.cell? ⟨w.heap.size, 1, none⟩ = some (.slice RA m rc) := (hbx.cell (p := ⟨w.heap.size, 1, none⟩) hlt5).trans y1)
              | (refine step_append_lies _ rfl (.tmp 56) (.tmp 58) 22 rfl _ 37 i0 (.agg #[.int .i64 0, .slice none 0 0]) 2 32 Try.underlying22 hi0 hz0 hz1 hz2 rfl (by decide) v6 g.length (flatR G C g) ?_ (hO.own.alloc _) ⟨w6.heap.size, 0, none⟩ 1 1 [.int .i64 lf, .slice RA m rc] ?_ rfl (World.news_of_block (Kt.Blk.new w6 _ _)) ?_ (by decide) ?_ ?_ ?_ _ rfl ?_
                 · simp [Act.eval]
                 · simp [Act.eval]
                 · intro u hu
                   simp only [List.mem_cons, List.not_mem_nil, or_false] at hu
                   rcases hu with rfl | rfl <;> rfl
                 · have := hn.out
                   unfold maxLen
                   omega
                 · have := hn.out
                   omega
                 · exact Nat.le_trans hb6.size (by simp)
                 intro gg cap w7 hown7 hgr7 hat7 hlt7
                 obtain ⟨hR7, hb7⟩ := OG.app_close (x := x) hlf.out hm.out hbx ((Below.refl w6.heap.size w6).alloc (Nat.le_refl _) (Obj.cells #[Value.int IntKind.i64 lf, Value.slice RA m rc] 37)) hO hbs6 hown7 hgr7 HX5.out HLX.out HR8.out)
              | (refine step_append_lies _ rfl (.tmp 56) (.tmp 58) 22 rfl _ 37 i0 (.agg #[.int .i64 0, .slice none 0 0]) 2 32 Try.underlying22 hi0 hz0 hz1 hz2 rfl (by decide) v6 g.length (flatR G C g) ?_ hO.own ⟨w5.heap.size, 0, none⟩ 1 1 [.int .i64 lf, .slice RA m rc] ?_ rfl (World.news_of_block (show Kt.Blk w6 w5.heap.size 37 #[Value.int IntKind.i64 lf, Value.slice RA m rc] from (Kt.Blk.new w5.drew 37 #[Value.int IntKind.i64 lf, Value.slice RA m rc]).on hb6)) ?_ (by decide) ?_ ?_ ?_ _ rfl ?_
                 · simp [Act.eval]
                 · simp [Act.eval]
                 · intro u hu
                   simp only [List.mem_cons, List.not_mem_nil, or_false] at hu
                   rcases hu with rfl | rfl <;> rfl
                 · have := hn.out
                   unfold maxLen
                   omega
                 · have := hn.out
                   omega
                 · exact hb6.size
                 intro gg cap w7 hown7 hgr7 hat7 hlt7
                 obtain ⟨hR7, hb7⟩ := OG.app_close (x := x) hlf.out hm.out hbx (Below.refl w6.heap.size w6) hO hbs6 hown7 hgr7 HX5.out HLX.out HR8.out))
            all_goals (go_wp2_with fail; go_meet)
            all_goals exact ⟨gg, cap, by rw [hn.out], Lib.hid hR7, hb7⟩
          case rest =>
            obtain ⟨gg, cap, rfl, hRn, hbc⟩ := hcut
            have hbc' : Below w.heap.size w wc := hb5'.trans (hbc.mono hs5)
            have hsc := hbc.size
            have hscw := hbc'.size
            obtain ⟨cg, hcg⟩ : ∃ cg, Hid (counts g tk = cg) := ⟨_, Lib.hid rfl⟩
            have HF1 : Hid ((Nt.limbs cg).length ≤ 1024) := Lib.hid (by rw [← hcg.out]; exact counts_fit HGD.out (by rw [hnt.out]; omega))
            rw [hcg.out] at HV5
            have HWN : Hid (WfR (g ++ [x])) := Lib.hid (snoc_wf HW.out HWX.out)
            have HLN : Hid ((g ++ [x]).length = n + 1) := Lib.hid (by rw [List.length_append, hn.out]; rfl)
            obtain ⟨l, hl⟩ : ∃ l, Hid ((derivs g tk).take 20 = l) := ⟨_, Lib.hid rfl⟩
            rw [hl.out] at HLV5
            have HMEM : Hid (∀ t ∈ l, t ∈ derivs g tk) := Lib.hid (fun t ht => List.mem_of_mem_take (by rw [hl.out]; exact ht))
            obtain ⟨ll, hll⟩ : ∃ ll, Hid (l.length = ll) := ⟨_, Lib.hid rfl⟩
            obtain ⟨A4, c4, b4, off4, vs, rfl, hA4, hle4, h634, hc4, ht4⟩ := HLV5.out
            rw [hll.out] at hA4 hle4 h634 hc4 ht4 ⊢
            have HA4 := Lib.hid hA4
            have HC4 := Lib.hid hc4
            have HT4 := Lib.hid ht4
            have hll20 : ll ≤ 20 := by rw [← hll.out, ← hl.out, List.length_take]; omega
            clear hA4 hc4 ht4 HLV5 HX5 HK5 y0 y1 HR8 hl
            go_wp2_with fail
            refine (Valid_any (g ++ [x]) (some ⟨gg, 0, none⟩) (n + 1) cap wc HLN.out (by omega) hRn.out).mono ?_
            rintro e wv ⟨hbv, c2, rfl, hc2⟩
            have hb5v : Below w5.heap.size w5 wv := hbc.trans (hbv.mono hsc)
            have hs5v := hb5v.size
            by_cases hz : c2 = 0
            · subst hz
              have HGW := Lib.hid (hc2.good.1 rfl)
              have HRv := Lib.hid (hRn.out.on hbv)
              obtain ⟨ch, hch⟩ : ∃ ch, Hid (counts (g ++ [x]) tk = ch) := ⟨_, Lib.hid rfl⟩
              have HF2 : Hid ((Nt.limbs ch).length ≤ 1024) := Lib.hid (by rw [← hch.out]; exact counts_fit HGW.out (by rw [hnt.out]; omega))
              have HLE : Hid (cg ≤ ch) := Lib.hid (by rw [← hcg.out, ← hch.out]; exact Gr.T_snoc g _ (hitf tk) _ 0 0 tk.length)
              clear hc2 hRn
              go_wp2_with fail
              refine (Count_any (g ++ [x]) tk (some ⟨gg, 0, none⟩) (n + 1) cap T nt ct wv HLN.out (by omega) hnt.out (by omega) (by omega) HWN.out HRv.out (HT5.out.on hb5v)).mono ?_
              rintro e wx ⟨hbx, vx, cx, rfl, hkx, hvx⟩
              obtain rfl : cx = 0 := hkx.good.2 ⟨HGW.out, by rw [hnt.out]; omega⟩
              rw [if_pos rfl, hch.out] at hvx
              have hb5x : Below w5.heap.size w5 wx := hb5v.trans (hbx.mono hs5v)
              have hs5x := hb5x.size
              have HVX := Lib.hid hvx
              have HVX5 := Lib.hid (HV5.out.on hb5x)
              have HRx := Lib.hid (HRv.out.on hbx)
              clear hkx hvx hbx hbv HRv
              go_wp2_with fail
              refine (least_yes HVX5.out HVX.out HF1.out HF2.out HLE.out).mono ?_
              rintro e wq ⟨rfl, hbq0⟩
              have hb5q : Below w5.heap.size w5 wq := hb5x.trans (hbq0.mono hs5x)
              have hs5q := hb5q.size
              have HRq := Lib.hid (HRx.out.on hbq0)
              clear HVX HVX5 HRx HF2 HLE hch hbc hbc' hsc hscw
              by_cases hl0 : ll = 0
              · have dl0 : decide (0 < ll) = false := by simp [hl0]
                have hbv := hbq0
                clear hbq0 hb5x hs5x hb5v hs5v HGW HRq hl0
                go_upto_region 12 with fail
                have hbwq : Below w.heap.size w wq := hb5'.trans (hb5q.mono hs5)
                by_cases hnt0 : nt = 0
                · have e0 : ((nt : Int) == 0) = true := by simp [hnt0]
                  clear hnt0
                  go_wp2_with fail
                  go_ret
                  exact ⟨rfl, hbwq⟩
                · have e0 : ((nt : Int) == 0) = false := by simp; omega
                  obtain ⟨bT, oT, rfl, hbT, hcT⟩ := HT5.out (by rw [hnt.out]; omega)
                  have hnew : ∀ j u, (tk.map (Value.int .u16))[j]? = some u → (wq.alloc (.cells #[] 38)).cell? ((⟨bT, oT, none⟩ : Addr).add j) = some u := fun j u hu => by
                    rw [Addr.add_lit]
                    have hj : j < tk.length := by
                      have := (List.getElem?_eq_some_iff.1 hu).1
                      simpa using this
                    rw [List.getElem?_map, Ls.nth_of hj] at hu
                    have hu2 : Value.int .u16 (Ls.nth tk j) = u := by simpa using hu
                    rw [← hu2]
                    exact ((hb5q.alloc hs5q _).cell (p := ⟨bT, oT + j, none⟩) hbT).trans (hcT j hj)
                  have hown0 : (wq.alloc (.cells #[] 38)).ownsRow wq.heap.size 38 1 (.slice (some ⟨wq.heap.size, 0, none⟩) 0 0) 0 [] := ⟨rfl, .inr ⟨wq.heap.size, 0, #[], rfl, Nat.le_refl _, Kt.Blk.new wq _ _, Nat.le_refl _, Nat.zero_le _, rfl, rfl⟩⟩
                  have hn1 : ∀ u ∈ tk.map (Value.int .u16), u.oneCell' = true := fun u hu => by
                    obtain ⟨z, _, rfl⟩ := List.mem_map.1 hu
                    rfl
                  have HNEW := Lib.hid hnew
                  have HOWN := Lib.hid hown0
                  have HONE := Lib.hid hn1
                  clear hnew hown0 hn1 hcT
                  go_wp2_with (at_builtin; go_loud (refine wpList_append_lies _ rfl (.tmp 94) (.tmp 95) 31 rfl wq.heap.size 38 j0 (.int .u16 0) 1 2 Try.underlying31 hj0 hy0 hy1 hy2 rfl (by decide) _ 0 [] rfl HOWN.out ⟨bT, oT, none⟩ nt ct (tk.map (Value.int .u16)) rfl (by rw [List.length_map, hnt.out, Nat.mul_one]) HNEW.out HONE.out (by omega) (by unfold maxLen; omega) (by omega) (by simp) _ rfl ?_))
                  intro g2 cap2 w7 hown7 hgr7 hat7 hlt7
                  have hb57 : Below w5.heap.size w5 w7 := (hb5q.alloc hs5q _).grown hgr7 (Nat.le_trans hs5q (by simp)) (fun q hq => by
                    have e9 : wq.heap.size = q := by simpa [Value.ownBlock] using hq
                    rw [← e9]; exact hs5q)
                  have hg2 : w5.heap.size ≤ g2 := by
                    rcases hat7 with e9 | e9
                    · have e9 : wq.heap.size = g2 := by simpa [Value.ownBlock] using e9
                      rw [← e9]; exact hs5q
                    · rw [e9]; exact Nat.le_trans hs5q (by simp)
                  have hs7 := hb57.size
                  have HO7 : Hid (Kt.Own w7 wq.heap.size 38 .u16 (.slice (some ⟨g2, 0, none⟩) tk.length cap2) tk) := Lib.hid (by unfold Kt.Own; rw [hnt.out]; exact hown7)
                  clear hown7 hgr7 hat7 HNEW HOWN HONE hb5q hs5q
                  have hpk := pickF_bd pos (n := nt) (by omega)
                  obtain ⟨p, hp⟩ : ∃ p : Nat, Hid (pickF pos nt = (p : Int)) := ⟨(pickF pos nt).toNat, Lib.hid (by omega)⟩
                  have hpn : p < nt := by rw [hp.out] at hpk; omega
                  clear hpk
                  go_wp2_with fail
                  refine (pick_any pos nt (by omega) (by omega) w7).mono ?_
                  rintro e w8 ⟨rfl, rfl⟩
                  rw [hp.out]
                  obtain ⟨tv, htv⟩ : ∃ tv, Hid (Ls.nth tk p = tv) := ⟨_, Lib.hid rfl⟩
                  obtain ⟨z, hz⟩ : ∃ z, bits .or .u16 tv cl = z := ⟨_, rfl⟩
                  obtain ⟨g9, c9, e9, _, _, _, hcell7, hfr7⟩ := HO7.out.block (by rw [hnt.out]; omega)
                  injection e9 with e9
                  injection e9 with e9
                  injection e9 with e9
                  subst e9
                  have x7 := hcell7 p (by rw [hnt.out]; exact hpn)
                  have f7 := hfr7 p
                  rw [htv.out] at x7
                  have HI9 : Hid (Kt.Ints (w7.setCell ⟨g2, p, none⟩ (.int .u16 z)) (w7.setCell ⟨g2, p, none⟩ (.int .u16 z)).heap.size .u16 (some ⟨g2, 0, none⟩) (wider tk p cl)) := Lib.hid (wider_ints HO7.out cl (by rw [hnt.out]; exact hpn) (by rw [htv.out]; exact hz.symm))
                  have hb59 : Below w5.heap.size w5 (w7.setCell ⟨g2, p, none⟩ (.int .u16 z)) := hb57.setCell (p := ⟨g2, p, none⟩) hg2 _
                  have HHIT : Hid (∀ q c, hitf tk q c = true → hitf (wider tk p cl) q c = true) := Lib.hid (wider_hit tk p cl (by rw [hnt.out]; exact hpn))
                  have HLT2 : Hid ((wider tk p cl).length = nt) := Lib.hid (by rw [wider_len, hnt.out])
                  have hs9 := hb59.size
                  clear hcell7 hfr7
                  go_upto_region 16 with fail
                  obtain ⟨w9, hw9⟩ : ∃ w9, w7.setCell ⟨g2, p, none⟩ (.int .u16 z) = w9 := ⟨_, rfl⟩
                  rw [hw9] at HI9 hb59 hs9 ⊢
                  clear hw9 x7 f7 hz HO7
                  obtain ⟨tk2, htk2⟩ : ∃ t, Hid (wider tk p cl = t) := ⟨_, Lib.hid rfl⟩
                  rw [htk2.out] at HI9 HHIT HLT2
                  obtain ⟨ck, hck⟩ : ∃ c, Hid (counts g tk2 = c) := ⟨_, Lib.hid rfl⟩
                  have HF3 : Hid ((Nt.limbs ck).length ≤ 1024) := Lib.hid (by rw [← hck.out]; exact counts_fit HGD.out (by rw [HLT2.out]; omega))
                  have HLE2 : Hid (cg ≤ ck) := Lib.hid (by
                    rw [← hcg.out, ← hck.out]
                    have := Gr.T_le g (hitf tk) (hitf tk2) HHIT.out (64 * (tk.length + 1)) 0 0 tk.length
                    unfold counts Gr.cnt Gr.D
                    rw [HLT2.out]
                    rw [hnt.out] at this ⊢
                    exact this)
                  go_wp2_with fail
                  refine (Count_any g tk2 A n cp (some ⟨g2, 0, none⟩) nt _ w9 hn.out (by omega) HLT2.out (by omega) (by omega) HW.out (HG5.out.on hb59) HI9.out).mono ?_
                  rintro e w10 ⟨hb10, v10, c10, rfl, hk10, hv10⟩
                  obtain rfl : c10 = 0 := hk10.good.2 ⟨HGD.out, by rw [HLT2.out]; omega⟩
                  rw [if_pos rfl, hck.out] at hv10
                  have hb510 : Below w5.heap.size w5 w10 := hb59.trans (hb10.mono hs9)
                  have hs10 := hb510.size
                  have HI10 := Lib.hid (HI9.out.on hb10)
                  have HV10 := Lib.hid hv10
                  clear hk10 hv10 hb10
                  go_wp2_with fail
                  go_loopw [21] (fun s wr => ∃ a : Nat, a ≤ ll ∧ s = .int .i64 a ∧ Below w10.heap.size w10 wr) (fun s _ => ll - (intOf s).toNat)
                  case atStart => exact ⟨0, Nat.zero_le _, rfl, Below.refl _ _⟩
                  case round =>
                    obtain ⟨a, ha, rfl, hbl⟩ := hrel
                    rename World => wl
                    have hb5l : Below w5.heap.size w5 wl := hb510.trans (hbl.mono hs10)
                    have hs5l := hb5l.size
                    have hbwl : Below w.heap.size w wl := hb5'.trans (hb5l.mono hs5)
                    by_cases hlt : a < ll
                    · obtain ⟨hAe, _, hl4⟩ := HA4.out (by omega)
                      try subst hAe
                      obtain ⟨ve, hve⟩ : ∃ ve, ve = vs a := ⟨_, rfl⟩
                      have htk : Kt.TV wl (fun k => k < w3.heap.size) (l.getD a Kt.noTr) ve := by
                        rw [hve]
                        exact (HT4.out a (by omega)).keep fun q hq _ => hb5l.block q hq
                      have hut : l.getD a Kt.noTr ∈ derivs g tk := HMEM.out _ (by rw [List.getD_eq_getElem?_getD, List.getElem?_eq_getElem (by rw [hll.out]; omega)]; exact List.getElem_mem _)
                      have HIS : Hid (Gr.isT g (hitf tk2) (64 * (nt + 1)) (l.getD a Kt.noTr).toI 0 0 nt = true) := Lib.hid (by
                        have := more_isT (q := []) HHIT.out hut
                        rwa [List.append_nil, hnt.out] at this)
                      obtain ⟨d0', d1', d2', Ad, nd, cd, rfl⟩ := tv_form htk
                      have hcl : ∀ q, q < 4 → wl.cell? ⟨b4, off4 + a * 4 + q, none⟩ = (#[Value.int .i64 d0', .int .i64 d1', .int .i64 d2', .slice Ad nd cd] : Array Value)[q]? := fun q hq => by
                        have := HC4.out a (by omega) q hq
                        rw [← hve] at this
                        exact (hb5l.cell (p := ⟨b4, off4 + a * 4 + q, none⟩) hl4).trans this
                      have z0 : wl.cell? ⟨b4, off4 + a * 4, none⟩ = some (.int .i64 d0') := hcl 0 (by omega)
                      have z1 : wl.cell? ⟨b4, off4 + a * 4 + 1, none⟩ = some (.int .i64 d1') := hcl 1 (by omega)
                      have z2 : wl.cell? ⟨b4, off4 + a * 4 + 2, none⟩ = some (.int .i64 d2') := hcl 2 (by omega)
                      have z3 : wl.cell? ⟨b4, off4 + a * 4 + 3, none⟩ = some (.slice Ad nd cd) := hcl 3 (by omega)
                      have HTK := Lib.hid htk.toI
                      clear hcl hve htk hut
                      go_wp2_with fail
                      refine (Right_yes g tk2 A n cp (some ⟨g2, 0, none⟩) nt _ wl _ _ hn.out (by omega) HLT2.out (by omega) HGD.out _ HIS.out (HG5.out.on hb5l) (HI10.out.on hbl) HTK.out).mono ?_
                      rintro e wz ⟨rfl, hbz⟩
                      have hblz : Below w10.heap.size w10 wz := hbl.trans (hbz.mono hbl.size)
                      clear HTK z0 z1 z2 z3 HIS
                      go_wp2_with fail
                      go_roundw
                      case rel => exact ⟨a + 1, by omega, by go_num, hblz⟩
                      case measure => simp [intOf]; omega
                    · obtain rfl : a = ll := by omega
                      have HVa := Lib.hid (HV5.out.on hb5l)
                      have HVb := Lib.hid (HV10.out.on hbl)
                      go_wp2_with fail
                      refine (least_yes HVa.out HVb.out HF1.out HF3.out HLE2.out).mono ?_
                      rintro e wz ⟨rfl, hbz⟩
                      have hbwz : Below w.heap.size w wz := hbwl.trans (hbz.mono hbwl.size)
                      go_wp2_with fail
                      go_ret
                      exact ⟨rfl, hbwz⟩
              · have dl0 : decide (0 < ll) = true := by simp; omega
                obtain ⟨rfl, _, hl4⟩ := HA4.out (by omega)
                obtain ⟨ve, hve⟩ : ∃ ve, ve = vs 0 := ⟨_, rfl⟩
                have htk : Kt.TV wq (fun k => k < w3.heap.size) (l.getD 0 Kt.noTr) ve := by
                  rw [hve]
                  exact (HT4.out 0 (by omega)).keep fun q hq _ => hb5q.block q hq
                have hut : l.getD 0 Kt.noTr ∈ derivs g tk := HMEM.out _ (by rw [List.getD_eq_getElem?_getD, List.getElem?_eq_getElem (by rw [hll.out]; omega)]; exact List.getElem_mem _)
                have HIS : Hid (Gr.isT (g ++ [x]) (hitf tk) (64 * (nt + 1)) (l.getD 0 Kt.noTr).toI 0 0 nt = true) := Lib.hid (by rw [← hnt.out]; exact more_isT (fun _ _ h => h) hut)
                obtain ⟨d0', d1', d2', Ad, nd, cd, rfl⟩ := tv_form htk
                have hcl : ∀ q, q < 4 → wq.cell? ⟨b4, off4 + q, none⟩ = (#[Value.int .i64 d0', .int .i64 d1', .int .i64 d2', .slice Ad nd cd] : Array Value)[q]? := fun q hq => by
                  have := HC4.out 0 (by omega) q hq
                  rw [← hve, Nat.zero_mul, Nat.add_zero] at this
                  exact (hb5q.cell (p := ⟨b4, off4 + q, none⟩) hl4).trans this
                have z0 : wq.cell? ⟨b4, off4, none⟩ = some (.int .i64 d0') := hcl 0 (by omega)
                have z1 : wq.cell? ⟨b4, off4 + 1, none⟩ = some (.int .i64 d1') := hcl 1 (by omega)
                have z2 : wq.cell? ⟨b4, off4 + 2, none⟩ = some (.int .i64 d2') := hcl 2 (by omega)
                have z3 : wq.cell? ⟨b4, off4 + 3, none⟩ = some (.slice Ad nd cd) := hcl 3 (by omega)
                have HTK := Lib.hid htk.toI
                clear hcl hve htk hut
                go_wp2_with fail
                refine (Right_yes (g ++ [x]) tk (some ⟨gg, 0, none⟩) (n + 1) cap T nt ct wq _ _ HLN.out (by omega) hnt.out (by omega) HGW.out _ HIS.out HRq.out (HT5.out.on hb5q) HTK.out).mono ?_
                rintro e wr ⟨rfl, hbr⟩
                have hb5r : Below w5.heap.size w5 wr := hb5q.trans (hbr.mono hs5q)
                have hs5r := hb5r.size
                clear HTK z0 z1 z2 z3 HIS HRq HGW hbr hbq0 hb5x hs5x hb5q hs5q hb5v hs5v dl0
                go_upto_region 12 with fail
                have hbwq : Below w.heap.size w wr := hb5'.trans (hb5r.mono hs5)
                by_cases hnt0 : nt = 0
                · have e0 : ((nt : Int) == 0) = true := by simp [hnt0]
                  clear hnt0
                  go_wp2_with fail
                  go_ret
                  exact ⟨rfl, hbwq⟩
                · have e0 : ((nt : Int) == 0) = false := by simp; omega
                  obtain ⟨bT, oT, rfl, hbT, hcT⟩ := HT5.out (by rw [hnt.out]; omega)
                  have hnew : ∀ j u, (tk.map (Value.int .u16))[j]? = some u → (wr.alloc (.cells #[] 38)).cell? ((⟨bT, oT, none⟩ : Addr).add j) = some u := fun j u hu => by
                    rw [Addr.add_lit]
                    have hj : j < tk.length := by
                      have := (List.getElem?_eq_some_iff.1 hu).1
                      simpa using this
                    rw [List.getElem?_map, Ls.nth_of hj] at hu
                    have hu2 : Value.int .u16 (Ls.nth tk j) = u := by simpa using hu
                    rw [← hu2]
                    exact ((hb5r.alloc hs5r _).cell (p := ⟨bT, oT + j, none⟩) hbT).trans (hcT j hj)
                  have hown0 : (wr.alloc (.cells #[] 38)).ownsRow wr.heap.size 38 1 (.slice (some ⟨wr.heap.size, 0, none⟩) 0 0) 0 [] := ⟨rfl, .inr ⟨wr.heap.size, 0, #[], rfl, Nat.le_refl _, Kt.Blk.new wr _ _, Nat.le_refl _, Nat.zero_le _, rfl, rfl⟩⟩
                  have hn1 : ∀ u ∈ tk.map (Value.int .u16), u.oneCell' = true := fun u hu => by
                    obtain ⟨z, _, rfl⟩ := List.mem_map.1 hu
                    rfl
                  have HNEW := Lib.hid hnew
                  have HOWN := Lib.hid hown0
                  have HONE := Lib.hid hn1
                  clear hnew hown0 hn1 hcT
                  go_wp2_with (at_builtin; go_loud (refine wpList_append_lies _ rfl (.tmp 94) (.tmp 95) 31 rfl wr.heap.size 38 j0 (.int .u16 0) 1 2 Try.underlying31 hj0 hy0 hy1 hy2 rfl (by decide) _ 0 [] rfl HOWN.out ⟨bT, oT, none⟩ nt ct (tk.map (Value.int .u16)) rfl (by rw [List.length_map, hnt.out, Nat.mul_one]) HNEW.out HONE.out (by omega) (by unfold maxLen; omega) (by omega) (by simp) _ rfl ?_))
                  intro g2 cap2 w7 hown7 hgr7 hat7 hlt7
                  have hb57 : Below w5.heap.size w5 w7 := (hb5r.alloc hs5r _).grown hgr7 (Nat.le_trans hs5r (by simp)) (fun q hq => by
                    have e9 : wr.heap.size = q := by simpa [Value.ownBlock] using hq
                    rw [← e9]; exact hs5r)
                  have hg2 : w5.heap.size ≤ g2 := by
                    rcases hat7 with e9 | e9
                    · have e9 : wr.heap.size = g2 := by simpa [Value.ownBlock] using e9
                      rw [← e9]; exact hs5r
                    · rw [e9]; exact Nat.le_trans hs5r (by simp)
                  have hs7 := hb57.size
                  have HO7 : Hid (Kt.Own w7 wr.heap.size 38 .u16 (.slice (some ⟨g2, 0, none⟩) tk.length cap2) tk) := Lib.hid (by unfold Kt.Own; rw [hnt.out]; exact hown7)
                  clear hown7 hgr7 hat7 HNEW HOWN HONE hb5r hs5r
                  have hpk := pickF_bd pos (n := nt) (by omega)
                  obtain ⟨p, hp⟩ : ∃ p : Nat, Hid (pickF pos nt = (p : Int)) := ⟨(pickF pos nt).toNat, Lib.hid (by omega)⟩
                  have hpn : p < nt := by rw [hp.out] at hpk; omega
                  clear hpk
                  go_wp2_with fail
                  refine (pick_any pos nt (by omega) (by omega) w7).mono ?_
                  rintro e w8 ⟨rfl, rfl⟩
                  rw [hp.out]
                  obtain ⟨tv, htv⟩ : ∃ tv, Hid (Ls.nth tk p = tv) := ⟨_, Lib.hid rfl⟩
                  obtain ⟨z, hz⟩ : ∃ z, bits .or .u16 tv cl = z := ⟨_, rfl⟩
                  obtain ⟨g9, c9, e9, _, _, _, hcell7, hfr7⟩ := HO7.out.block (by rw [hnt.out]; omega)
                  injection e9 with e9
                  injection e9 with e9
                  injection e9 with e9
                  subst e9
                  have x7 := hcell7 p (by rw [hnt.out]; exact hpn)
                  have f7 := hfr7 p
                  rw [htv.out] at x7
                  have HI9 : Hid (Kt.Ints (w7.setCell ⟨g2, p, none⟩ (.int .u16 z)) (w7.setCell ⟨g2, p, none⟩ (.int .u16 z)).heap.size .u16 (some ⟨g2, 0, none⟩) (wider tk p cl)) := Lib.hid (wider_ints HO7.out cl (by rw [hnt.out]; exact hpn) (by rw [htv.out]; exact hz.symm))
                  have hb59 : Below w5.heap.size w5 (w7.setCell ⟨g2, p, none⟩ (.int .u16 z)) := hb57.setCell (p := ⟨g2, p, none⟩) hg2 _
                  have HHIT : Hid (∀ q c, hitf tk q c = true → hitf (wider tk p cl) q c = true) := Lib.hid (wider_hit tk p cl (by rw [hnt.out]; exact hpn))
                  have HLT2 : Hid ((wider tk p cl).length = nt) := Lib.hid (by rw [wider_len, hnt.out])
                  have hs9 := hb59.size
                  clear hcell7 hfr7
                  go_upto_region 16 with fail
                  obtain ⟨w9, hw9⟩ : ∃ w9, w7.setCell ⟨g2, p, none⟩ (.int .u16 z) = w9 := ⟨_, rfl⟩
                  rw [hw9] at HI9 hb59 hs9 ⊢
                  clear hw9 x7 f7 hz HO7
                  obtain ⟨tk2, htk2⟩ : ∃ t, Hid (wider tk p cl = t) := ⟨_, Lib.hid rfl⟩
                  rw [htk2.out] at HI9 HHIT HLT2
                  obtain ⟨ck, hck⟩ : ∃ c, Hid (counts g tk2 = c) := ⟨_, Lib.hid rfl⟩
                  have HF3 : Hid ((Nt.limbs ck).length ≤ 1024) := Lib.hid (by rw [← hck.out]; exact counts_fit HGD.out (by rw [HLT2.out]; omega))
                  have HLE2 : Hid (cg ≤ ck) := Lib.hid (by
                    rw [← hcg.out, ← hck.out]
                    have := Gr.T_le g (hitf tk) (hitf tk2) HHIT.out (64 * (tk.length + 1)) 0 0 tk.length
                    unfold counts Gr.cnt Gr.D
                    rw [HLT2.out]
                    rw [hnt.out] at this ⊢
                    exact this)
                  go_wp2_with fail
                  refine (Count_any g tk2 A n cp (some ⟨g2, 0, none⟩) nt _ w9 hn.out (by omega) HLT2.out (by omega) (by omega) HW.out (HG5.out.on hb59) HI9.out).mono ?_
                  rintro e w10 ⟨hb10, v10, c10, rfl, hk10, hv10⟩
                  obtain rfl : c10 = 0 := hk10.good.2 ⟨HGD.out, by rw [HLT2.out]; omega⟩
                  rw [if_pos rfl, hck.out] at hv10
                  have hb510 : Below w5.heap.size w5 w10 := hb59.trans (hb10.mono hs9)
                  have hs10 := hb510.size
                  have HI10 := Lib.hid (HI9.out.on hb10)
                  have HV10 := Lib.hid hv10
                  clear hk10 hv10 hb10
                  go_wp2_with fail
                  go_loopw [21] (fun s wr => ∃ a : Nat, a ≤ ll ∧ s = .int .i64 a ∧ Below w10.heap.size w10 wr) (fun s _ => ll - (intOf s).toNat)
                  case atStart => exact ⟨0, Nat.zero_le _, rfl, Below.refl _ _⟩
                  case round =>
                    obtain ⟨a, ha, rfl, hbl⟩ := hrel
                    rename World => wl
                    have hb5l : Below w5.heap.size w5 wl := hb510.trans (hbl.mono hs10)
                    have hs5l := hb5l.size
                    have hbwl : Below w.heap.size w wl := hb5'.trans (hb5l.mono hs5)
                    by_cases hlt : a < ll
                    · obtain ⟨hAe, _, hl4⟩ := HA4.out (by omega)
                      try subst hAe
                      obtain ⟨ve, hve⟩ : ∃ ve, ve = vs a := ⟨_, rfl⟩
                      have htk : Kt.TV wl (fun k => k < w3.heap.size) (l.getD a Kt.noTr) ve := by
                        rw [hve]
                        exact (HT4.out a (by omega)).keep fun q hq _ => hb5l.block q hq
                      have hut : l.getD a Kt.noTr ∈ derivs g tk := HMEM.out _ (by rw [List.getD_eq_getElem?_getD, List.getElem?_eq_getElem (by rw [hll.out]; omega)]; exact List.getElem_mem _)
                      have HIS : Hid (Gr.isT g (hitf tk2) (64 * (nt + 1)) (l.getD a Kt.noTr).toI 0 0 nt = true) := Lib.hid (by
                        have := more_isT (q := []) HHIT.out hut
                        rwa [List.append_nil, hnt.out] at this)
                      obtain ⟨d0', d1', d2', Ad, nd, cd, rfl⟩ := tv_form htk
                      have hcl : ∀ q, q < 4 → wl.cell? ⟨b4, off4 + a * 4 + q, none⟩ = (#[Value.int .i64 d0', .int .i64 d1', .int .i64 d2', .slice Ad nd cd] : Array Value)[q]? := fun q hq => by
                        have := HC4.out a (by omega) q hq
                        rw [← hve] at this
                        exact (hb5l.cell (p := ⟨b4, off4 + a * 4 + q, none⟩) hl4).trans this
                      have z0 : wl.cell? ⟨b4, off4 + a * 4, none⟩ = some (.int .i64 d0') := hcl 0 (by omega)
                      have z1 : wl.cell? ⟨b4, off4 + a * 4 + 1, none⟩ = some (.int .i64 d1') := hcl 1 (by omega)
                      have z2 : wl.cell? ⟨b4, off4 + a * 4 + 2, none⟩ = some (.int .i64 d2') := hcl 2 (by omega)
                      have z3 : wl.cell? ⟨b4, off4 + a * 4 + 3, none⟩ = some (.slice Ad nd cd) := hcl 3 (by omega)
                      have HTK := Lib.hid htk.toI
                      clear hcl hve htk hut
                      go_wp2_with fail
                      refine (Right_yes g tk2 A n cp (some ⟨g2, 0, none⟩) nt _ wl _ _ hn.out (by omega) HLT2.out (by omega) HGD.out _ HIS.out (HG5.out.on hb5l) (HI10.out.on hbl) HTK.out).mono ?_
                      rintro e wz ⟨rfl, hbz⟩
                      have hblz : Below w10.heap.size w10 wz := hbl.trans (hbz.mono hbl.size)
                      clear HTK z0 z1 z2 z3 HIS
                      go_wp2_with fail
                      go_roundw
                      case rel => exact ⟨a + 1, by omega, by go_num, hblz⟩
                      case measure => simp [intOf]; omega
                    · obtain rfl : a = ll := by omega
                      have HVa := Lib.hid (HV5.out.on hb5l)
                      have HVb := Lib.hid (HV10.out.on hbl)
                      go_wp2_with fail
                      refine (least_yes HVa.out HVb.out HF1.out HF3.out HLE2.out).mono ?_
                      rintro e wz ⟨rfl, hbz⟩
                      have hbwz : Below w.heap.size w wz := hbwl.trans (hbz.mono hbwl.size)
                      go_wp2_with fail
                      go_ret
                      exact ⟨rfl, hbwz⟩
            · have hzb : (c2 == 0) = false := by simp [hz]
              clear hz hc2 hRn hbv hbc hbc' hsc hscw
              go_upto_region 12 with fail
              have hbwq : Below w.heap.size w wv := hb5'.trans (hb5v.mono hs5)
              by_cases hnt0 : nt = 0
              · have e0 : ((nt : Int) == 0) = true := by simp [hnt0]
                clear hnt0
                go_wp2_with fail
                go_ret
                exact ⟨rfl, hbwq⟩
              · have e0 : ((nt : Int) == 0) = false := by simp; omega
                obtain ⟨bT, oT, rfl, hbT, hcT⟩ := HT5.out (by rw [hnt.out]; omega)
                have hnew : ∀ j u, (tk.map (Value.int .u16))[j]? = some u → (wv.alloc (.cells #[] 38)).cell? ((⟨bT, oT, none⟩ : Addr).add j) = some u := fun j u hu => by
                  rw [Addr.add_lit]
                  have hj : j < tk.length := by
                    have := (List.getElem?_eq_some_iff.1 hu).1
                    simpa using this
                  rw [List.getElem?_map, Ls.nth_of hj] at hu
                  have hu2 : Value.int .u16 (Ls.nth tk j) = u := by simpa using hu
                  rw [← hu2]
                  exact ((hb5v.alloc hs5v _).cell (p := ⟨bT, oT + j, none⟩) hbT).trans (hcT j hj)
                have hown0 : (wv.alloc (.cells #[] 38)).ownsRow wv.heap.size 38 1 (.slice (some ⟨wv.heap.size, 0, none⟩) 0 0) 0 [] := ⟨rfl, .inr ⟨wv.heap.size, 0, #[], rfl, Nat.le_refl _, Kt.Blk.new wv _ _, Nat.le_refl _, Nat.zero_le _, rfl, rfl⟩⟩
                have hn1 : ∀ u ∈ tk.map (Value.int .u16), u.oneCell' = true := fun u hu => by
                  obtain ⟨z, _, rfl⟩ := List.mem_map.1 hu
                  rfl
                have HNEW := Lib.hid hnew
                have HOWN := Lib.hid hown0
                have HONE := Lib.hid hn1
                clear hnew hown0 hn1 hcT
                go_wp2_with (at_builtin; go_loud (refine wpList_append_lies _ rfl (.tmp 94) (.tmp 95) 31 rfl wv.heap.size 38 j0 (.int .u16 0) 1 2 Try.underlying31 hj0 hy0 hy1 hy2 rfl (by decide) _ 0 [] rfl HOWN.out ⟨bT, oT, none⟩ nt ct (tk.map (Value.int .u16)) rfl (by rw [List.length_map, hnt.out, Nat.mul_one]) HNEW.out HONE.out (by omega) (by unfold maxLen; omega) (by omega) (by simp) _ rfl ?_))
                intro g2 cap2 w7 hown7 hgr7 hat7 hlt7
                have hb57 : Below w5.heap.size w5 w7 := (hb5v.alloc hs5v _).grown hgr7 (Nat.le_trans hs5v (by simp)) (fun q hq => by
                  have e9 : wv.heap.size = q := by simpa [Value.ownBlock] using hq
                  rw [← e9]; exact hs5v)
                have hg2 : w5.heap.size ≤ g2 := by
                  rcases hat7 with e9 | e9
                  · have e9 : wv.heap.size = g2 := by simpa [Value.ownBlock] using e9
                    rw [← e9]; exact hs5v
                  · rw [e9]; exact Nat.le_trans hs5v (by simp)
                have hs7 := hb57.size
                have HO7 : Hid (Kt.Own w7 wv.heap.size 38 .u16 (.slice (some ⟨g2, 0, none⟩) tk.length cap2) tk) := Lib.hid (by unfold Kt.Own; rw [hnt.out]; exact hown7)
                clear hown7 hgr7 hat7 HNEW HOWN HONE hb5v hs5v
                have hpk := pickF_bd pos (n := nt) (by omega)
                obtain ⟨p, hp⟩ : ∃ p : Nat, Hid (pickF pos nt = (p : Int)) := ⟨(pickF pos nt).toNat, Lib.hid (by omega)⟩
                have hpn : p < nt := by rw [hp.out] at hpk; omega
                clear hpk
                go_wp2_with fail
                refine (pick_any pos nt (by omega) (by omega) w7).mono ?_
                rintro e w8 ⟨rfl, rfl⟩
                rw [hp.out]
                obtain ⟨tv, htv⟩ : ∃ tv, Hid (Ls.nth tk p = tv) := ⟨_, Lib.hid rfl⟩
                obtain ⟨z, hz⟩ : ∃ z, bits .or .u16 tv cl = z := ⟨_, rfl⟩
                obtain ⟨g9, c9, e9, _, _, _, hcell7, hfr7⟩ := HO7.out.block (by rw [hnt.out]; omega)
                injection e9 with e9
                injection e9 with e9
                injection e9 with e9
                subst e9
                have x7 := hcell7 p (by rw [hnt.out]; exact hpn)
                have f7 := hfr7 p
                rw [htv.out] at x7
                have HI9 : Hid (Kt.Ints (w7.setCell ⟨g2, p, none⟩ (.int .u16 z)) (w7.setCell ⟨g2, p, none⟩ (.int .u16 z)).heap.size .u16 (some ⟨g2, 0, none⟩) (wider tk p cl)) := Lib.hid (wider_ints HO7.out cl (by rw [hnt.out]; exact hpn) (by rw [htv.out]; exact hz.symm))
                have hb59 : Below w5.heap.size w5 (w7.setCell ⟨g2, p, none⟩ (.int .u16 z)) := hb57.setCell (p := ⟨g2, p, none⟩) hg2 _
                have HHIT : Hid (∀ q c, hitf tk q c = true → hitf (wider tk p cl) q c = true) := Lib.hid (wider_hit tk p cl (by rw [hnt.out]; exact hpn))
                have HLT2 : Hid ((wider tk p cl).length = nt) := Lib.hid (by rw [wider_len, hnt.out])
                have hs9 := hb59.size
                clear hcell7 hfr7
                go_upto_region 16 with fail
                obtain ⟨w9, hw9⟩ : ∃ w9, w7.setCell ⟨g2, p, none⟩ (.int .u16 z) = w9 := ⟨_, rfl⟩
                rw [hw9] at HI9 hb59 hs9 ⊢
                clear hw9 x7 f7 hz HO7
                obtain ⟨tk2, htk2⟩ : ∃ t, Hid (wider tk p cl = t) := ⟨_, Lib.hid rfl⟩
                rw [htk2.out] at HI9 HHIT HLT2
                obtain ⟨ck, hck⟩ : ∃ c, Hid (counts g tk2 = c) := ⟨_, Lib.hid rfl⟩
                have HF3 : Hid ((Nt.limbs ck).length ≤ 1024) := Lib.hid (by rw [← hck.out]; exact counts_fit HGD.out (by rw [HLT2.out]; omega))
                have HLE2 : Hid (cg ≤ ck) := Lib.hid (by
                  rw [← hcg.out, ← hck.out]
                  have := Gr.T_le g (hitf tk) (hitf tk2) HHIT.out (64 * (tk.length + 1)) 0 0 tk.length
                  unfold counts Gr.cnt Gr.D
                  rw [HLT2.out]
                  rw [hnt.out] at this ⊢
                  exact this)
                go_wp2_with fail
                refine (Count_any g tk2 A n cp (some ⟨g2, 0, none⟩) nt _ w9 hn.out (by omega) HLT2.out (by omega) (by omega) HW.out (HG5.out.on hb59) HI9.out).mono ?_
                rintro e w10 ⟨hb10, v10, c10, rfl, hk10, hv10⟩
                obtain rfl : c10 = 0 := hk10.good.2 ⟨HGD.out, by rw [HLT2.out]; omega⟩
                rw [if_pos rfl, hck.out] at hv10
                have hb510 : Below w5.heap.size w5 w10 := hb59.trans (hb10.mono hs9)
                have hs10 := hb510.size
                have HI10 := Lib.hid (HI9.out.on hb10)
                have HV10 := Lib.hid hv10
                clear hk10 hv10 hb10
                go_wp2_with fail
                go_loopw [21] (fun s wr => ∃ a : Nat, a ≤ ll ∧ s = .int .i64 a ∧ Below w10.heap.size w10 wr) (fun s _ => ll - (intOf s).toNat)
                case atStart => exact ⟨0, Nat.zero_le _, rfl, Below.refl _ _⟩
                case round =>
                  obtain ⟨a, ha, rfl, hbl⟩ := hrel
                  rename World => wl
                  have hb5l : Below w5.heap.size w5 wl := hb510.trans (hbl.mono hs10)
                  have hs5l := hb5l.size
                  have hbwl : Below w.heap.size w wl := hb5'.trans (hb5l.mono hs5)
                  by_cases hlt : a < ll
                  · obtain ⟨hAe, _, hl4⟩ := HA4.out (by omega)
                    try subst hAe
                    obtain ⟨ve, hve⟩ : ∃ ve, ve = vs a := ⟨_, rfl⟩
                    have htk : Kt.TV wl (fun k => k < w3.heap.size) (l.getD a Kt.noTr) ve := by
                      rw [hve]
                      exact (HT4.out a (by omega)).keep fun q hq _ => hb5l.block q hq
                    have hut : l.getD a Kt.noTr ∈ derivs g tk := HMEM.out _ (by rw [List.getD_eq_getElem?_getD, List.getElem?_eq_getElem (by rw [hll.out]; omega)]; exact List.getElem_mem _)
                    have HIS : Hid (Gr.isT g (hitf tk2) (64 * (nt + 1)) (l.getD a Kt.noTr).toI 0 0 nt = true) := Lib.hid (by
                      have := more_isT (q := []) HHIT.out hut
                      rwa [List.append_nil, hnt.out] at this)
                    obtain ⟨d0', d1', d2', Ad, nd, cd, rfl⟩ := tv_form htk
                    have hcl : ∀ q, q < 4 → wl.cell? ⟨b4, off4 + a * 4 + q, none⟩ = (#[Value.int .i64 d0', .int .i64 d1', .int .i64 d2', .slice Ad nd cd] : Array Value)[q]? := fun q hq => by
                      have := HC4.out a (by omega) q hq
                      rw [← hve] at this
                      exact (hb5l.cell (p := ⟨b4, off4 + a * 4 + q, none⟩) hl4).trans this
                    have z0 : wl.cell? ⟨b4, off4 + a * 4, none⟩ = some (.int .i64 d0') := hcl 0 (by omega)
                    have z1 : wl.cell? ⟨b4, off4 + a * 4 + 1, none⟩ = some (.int .i64 d1') := hcl 1 (by omega)
                    have z2 : wl.cell? ⟨b4, off4 + a * 4 + 2, none⟩ = some (.int .i64 d2') := hcl 2 (by omega)
                    have z3 : wl.cell? ⟨b4, off4 + a * 4 + 3, none⟩ = some (.slice Ad nd cd) := hcl 3 (by omega)
                    have HTK := Lib.hid htk.toI
                    clear hcl hve htk hut
                    go_wp2_with fail
                    refine (Right_yes g tk2 A n cp (some ⟨g2, 0, none⟩) nt _ wl _ _ hn.out (by omega) HLT2.out (by omega) HGD.out _ HIS.out (HG5.out.on hb5l) (HI10.out.on hbl) HTK.out).mono ?_
                    rintro e wz ⟨rfl, hbz⟩
                    have hblz : Below w10.heap.size w10 wz := hbl.trans (hbz.mono hbl.size)
                    clear HTK z0 z1 z2 z3 HIS
                    go_wp2_with fail
                    go_roundw
                    case rel => exact ⟨a + 1, by omega, by go_num, hblz⟩
                    case measure => simp [intOf]; omega
                  · obtain rfl : a = ll := by omega
                    have HVa := Lib.hid (HV5.out.on hb5l)
                    have HVb := Lib.hid (HV10.out.on hbl)
                    go_wp2_with fail
                    refine (least_yes HVa.out HVb.out HF1.out HF3.out HLE2.out).mono ?_
                    rintro e wz ⟨rfl, hbz⟩
                    have hbwz : Below w.heap.size w wz := hbwl.trans (hbz.mono hbwl.size)
                    go_wp2_with fail
                    go_ret
                    exact ⟨rfl, hbwz⟩
      · have hce : (c != 0) = true := by simp [hcz]
        clear hcz hc
        go_wp2_with fail
        go_ret
        exact ⟨rfl, hb3'⟩
  · go_wp2_with fail
    go_ret
    exact ⟨rfl, hb1'⟩
end Go.Proofs.Ytkclifdbdnigaaa
end
section
/- A rule that came in. -/
namespace Go.Proofs.Ytkclifdbdnigaaa
open Go Go.RowKit Go.ChangeShapes Go.WideShapes
section
variable {H : Type} {enc : TypeId × Value → H}
set_option maxRecDepth 100000 in
theorem open_rule {W : World} {r : Reach} {b0 : Nat} {v : Value} {d : DataW H} {ps : List MemPlace} (hv : Value.okWide Try.prog W r b0 37 v) (h : DataW.Trod enc Try.prog W 0 (fun _ => true) true 37 v d ps)
    (hz : ∀ x ∈ d.weights Try.prog 37, x ≤ reachBytes) :
    ∃ (x : Gr.Rule) (A : Option Addr) (c : Nat), v = .agg #[.int .i64 x.left, .slice A x.right.length c] ∧ x.right.length ≤ 4611686018427387904 ∧ Kt.Items W W.heap.size A x.right ∧ ∀ y ∈ x.right, 0 ≤ y.cls ∧ y.cls ≤ 65535 := by
  obtain ⟨v0, v1, y0, y1, n, rfl, rfl, _, h0, h1⟩ := Go.Joins.open_agg2 Try.underlying37 (by kernel_rfl) cellsRule hv h
  obtain ⟨a, e0, _, _⟩ := DataW.trod_int Try.underlying3 h0
  obtain ⟨A, l, c, rfl, _, hl, hi, hw⟩ := open_items h1 (fun q hq => hz q (by
    simp only [DataW.weights, Try.underlying37, List.map_cons, List.map_nil, DataW.weightsEach, List.mem_append]
    exact .inr (.inl hq)))
  obtain rfl : v0 = .int .i64 a := by simpa using e0
  exact ⟨⟨a, l⟩, A, c, rfl, hl, hi, hw⟩
end
end Go.Proofs.Ytkclifdbdnigaaa
end
