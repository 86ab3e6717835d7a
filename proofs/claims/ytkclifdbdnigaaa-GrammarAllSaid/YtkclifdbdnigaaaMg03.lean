/- Joined: SeA, UiA, IsA. -/
import Derived.Test.YtkclifdbdnigaaaMg02
import Derived.Test.YtkclifdbdnigaaaMa14
import Derived.Deep.AppendLies
import Derived.Deep.RegionLaw
import Derived.Deep.RegionWith
import Derived.Deep.DeepCutAuto
import Derived.StillTailTactics
import Derived.Test.YtkclifdbdnigaaaMa08
import Derived.Test.YtkclifdbdnigaaaMg01
import Derived.Test.YtkclifdbdnigaaaMa11
section
/- search: the walk. -/
namespace Go.Proofs.Ytkclifdbdnigaaa
open Go Go.RowKit
theorem flatI_append (a b : List Gr.Item) : flatI (a ++ b) = flatI a ++ flatI b := by unfold flatI; rw [List.flatMap_append]
theorem own_items {w : World} {base g n cap : Nat} {l : List Gr.Item} (h : w.ownsRow base 40 2 (.slice (some ⟨g, 0, none⟩) n cap) n (flatI l)) (_hn : l.length = n) : Kt.Items w w.heap.size (some ⟨g, 0, none⟩) l := fun _ => ⟨g, 0, rfl, (h.lt g rfl).2, fun k hk => by
  obtain ⟨e0, e1⟩ := flatI_get _ k hk
  have d0 := h.cells (g := g) rfl (k * 2) _ e0
  have d1 := h.cells (g := g) rfl (k * 2 + 1) _ e1
  rw [Addr.add_lit] at d0 d1
  exact ⟨by simpa using d0, by simpa [Nat.add_assoc] using d1⟩⟩
theorem items_news {w : World} {bL bo : Nat} {x : Gr.Item} {rest : List Gr.Item} (h : ∀ k, k < (x :: rest).length → w.cell? ⟨bL, bo + k * 2, none⟩ = some (.int .u16 (Gr.itm (x :: rest) k).cls) ∧ w.cell? ⟨bL, bo + k * 2 + 1, none⟩ = some (.int .i64 (Gr.itm (x :: rest) k).sym)) :
    ∀ z u, (flatI rest)[z]? = some u → w.cell? ((⟨bL, bo + 2, none⟩ : Addr).add z) = some u := fun z u hu => by
  have hz : z < rest.length * 2 := by rw [← flatI_len]; exact (List.getElem?_eq_some_iff.1 hu).1
  obtain ⟨k, hk⟩ : ∃ k, z = k * 2 ∨ z = k * 2 + 1 := ⟨z / 2, by omega⟩
  have hkl : k < rest.length := by omega
  obtain ⟨e0, e1⟩ := flatI_get rest k hkl
  obtain ⟨d0, d1⟩ := h (k + 1) (by simpa using hkl)
  rw [Addr.add_lit]
  rcases hk with rfl | rfl
  · rw [e0] at hu
    injection hu with hu
    subst hu
    rw [show bo + 2 + k * 2 = bo + (k + 1) * 2 from by omega]
    exact d0
  · rw [e1] at hu
    injection hu with hu
    subst hu
    rw [show bo + 2 + (k * 2 + 1) = bo + (k + 1) * 2 + 1 from by omega]
    exact d1
theorem own_cap {w : World} {base g n cap : Nat} {T : TypeId} {xs : List Value} (h : w.ownsRow base T 2 (.slice (some ⟨g, 0, none⟩) n cap) n xs) : n ≤ cap := by
  rcases h.2 with ⟨e, _⟩ | ⟨g', cap', cur, e, _, _, hnc, _⟩
  · cases e
  · injection e with e1 e2 e3
    omega
theorem items_kp {w w' : World} {ps : Nat} {LA : Option Addr} {l : List Gr.Item} (h : Kt.Items w w.heap.size LA l) (hne : ∀ b o, LA = some ⟨b, o, none⟩ → b ≠ ps) (hk : Kt.Kp (fun q => q = ps) w w') : Kt.Items w' w'.heap.size LA l := fun hp => by
  obtain ⟨b, o, e, hb, hc⟩ := h hp
  exact ⟨b, o, e, Nat.lt_of_lt_of_le hb hk.size, fun k hkl => ⟨(hk.cell (p := ⟨b, o + k * 2, none⟩) hb (hne b o e)).trans (hc k hkl).1, (hk.cell (p := ⟨b, o + k * 2 + 1, none⟩) hb (hne b o e)).trans (hc k hkl).2⟩⟩
theorem items_flat {w : World} {b o : Nat} {l : List Gr.Item} (h : ∀ k, k < l.length → w.cell? ⟨b, o + k * 2, none⟩ = some (.int .u16 (Gr.itm l k).cls) ∧ w.cell? ⟨b, o + k * 2 + 1, none⟩ = some (.int .i64 (Gr.itm l k).sym)) :
    ∀ z u, (flatI l)[z]? = some u → w.cell? ((⟨b, o, none⟩ : Addr).add z) = some u := fun z u hu => by
  have hz : z < l.length * 2 := by rw [← flatI_len]; exact (List.getElem?_eq_some_iff.1 hu).1
  obtain ⟨k, hk⟩ : ∃ k, z = k * 2 ∨ z = k * 2 + 1 := ⟨z / 2, by omega⟩
  have hkl : k < l.length := by omega
  obtain ⟨e0, e1⟩ := flatI_get l k hkl
  obtain ⟨d0, d1⟩ := h k hkl
  rw [Addr.add_lit]
  rcases hk with rfl | rfl
  · rw [e0] at hu
    injection hu with hu
    subst hu
    exact d0
  · rw [e1] at hu
    injection hu with hu
    subst hu
    exact d1
/-- What a search has found: W ways at most, none but those; how many steps are left. -/
def SearchAns (W : Nat) (st : Int) (ps : Nat) (w : World) (c st' : Int) (w' : World) : Prop :=
  Kt.Kp (fun k => k = ps) w w' ∧ Kt.Blk w' ps 3 #[.int .i64 st'] ∧ st' ≤ st - 1 ∧ (st ≤ 0 → st' = st - 1) ∧ (1 ≤ st → -1 - 230 * st ≤ st') ∧ (0 ≤ st' → c = (W : Int) ∧ (W : Int) ≤ st - st')
def SearchAt (g : List Gr.Rule) (tk : List Int) (nt F : Nat) : Prop :=
  ∀ st : Int, st ≤ F → -10000000 ≤ st → ∀ (l : List Gr.Item) (p : Nat), l.length ≤ 100 → p ≤ nt → ∀ (A : Option Addr) (n cp : Nat) (LA : Option Addr) (m lc : Nat) (TA : Option Addr) (tl tc ps : Nat) (w : World), g.length = n → l.length = m → nt - p = tl → m ≤ lc → tl ≤ tc →
    Kt.Rules w ps A g → Kt.Ints w ps .u16 TA (tk.drop p) → Kt.Items w w.heap.size LA l → (∀ b o, LA = some ⟨b, o, none⟩ → b ≠ ps) → Kt.Blk w ps 3 #[.int .i64 st] → ps < w.heap.size →
    Calls Try.prog 33 #[.slice A n cp, .slice LA m lc, .slice TA tl tc, .pointer (some ⟨ps, 0, none⟩)] w fun e w' => ∃ c st' : Int, e = .returned (.int .i64 c) ∧ SearchAns (Gr.wc (hitf tk) (Gr.cn g (hitf tk) nt) l p nt) st ps w c st' w'
/-- What a round of the loop over the rules leaves. -/
theorem loop_next {g : List Gr.Rule} {f : Nat → Nat} {sx : Int} {k ps : Nat} {z cur c st' st : Int} {W wq w4 w5 : World} (hkp : Kt.Kp (fun q => q = ps) W wq) (hb4 : Below wq.heap.size wq w4) (hans : SearchAns (f k) cur ps w4 c st' w5) (hl : (Gr.rul g k).left = sx)
    (hz : 0 ≤ cur → z = (Gr.part g f sx k : Int) ∧ (Gr.part g f sx k : Int) ≤ st - 1 - cur) (hc1 : cur ≤ st - 1) (hcL : -1 - 230 * (st - 1) - k ≤ cur) (hst : st ≤ 20000) :
    st' ≤ st - 1 ∧ Kt.Blk w5 ps 3 #[.int .i64 st'] ∧ -1 - 230 * (st - 1) - ((k + 1 : Nat) : Int) ≤ st' ∧ Kt.Kp (fun q => q = ps) W w5 ∧ (0 ≤ st' → IntKind.i64.wrap (z + c) = (Gr.part g f sx (k + 1) : Int) ∧ (Gr.part g f sx (k + 1) : Int) ≤ st - 1 - st') := by
  obtain ⟨h1, h2, h3, h4, h5, h6⟩ := hans
  refine ⟨by omega, h2, ?_, hkp.trans ((Kt.Kp.below _ hb4).trans h1), fun h0 => ?_⟩
  · by_cases h : cur ≤ 0
    · have := h4 h; omega
    · have := h5 (by omega); omega
  · obtain ⟨e1, e2⟩ := h6 h0
    obtain ⟨e3, e4⟩ := hz (by omega)
    rw [Gr.part_succ, if_pos hl, e1, e3]
    refine ⟨?_, by omega⟩
    rw [IntWalk.i64_in _ (by omega)]
    omega
set_option maxRecDepth 100000 in
set_option maxHeartbeats 8000000 in
theorem search_step (g : List Gr.Rule) (tk : List Int) (nt F : Nat) (hG : Gr.Good g) (hnt : tk.length = nt) (hnt12 : nt ≤ 12) (hF : F ≤ 20000) (IH : ∀ F', F' < F → SearchAt g tk nt F') : SearchAt g tk nt F := by
  intro st hst hstL l p hl100 hp A n cp LA m lc TA tl tc ps w hn hm htl hlc htc hg ht hi hne hkb hps
  obtain ⟨i1, hi1, hy0, hy1, hy2⟩ := info_parts Try.infoItem
  have hn200 := hG.len
  rw [hn] at hn200
  obtain ⟨ρ, hρ⟩ := hG.ranked
  have h1g := fun r hr => (hG.ok r hr).parts.2.1
  have HCZ : Hid (∀ s a b, b ≤ a → Gr.cn g (hitf tk) nt s a b = 0) := Lib.hid (Gr.cn_zero hρ h1g (hitf tk) nt)
  have HLM : Hid (∀ x : Gr.Item, x.cls = 0 → ∀ l i, Gr.wc (hitf tk) (Gr.cn g (hitf tk) nt) (x :: l) i nt = ((Gr.rulesOf g x.sym).map fun r => Gr.wc (hitf tk) (Gr.cn g (hitf tk) nt) ((Gr.rul g r).right ++ l) i nt).sum) := Lib.hid (fun x hx l i => Gr.wc_leftmost g (Gr.cn_zero hρ h1g (hitf tk) nt) nt (Gr.cn_rules hρ h1g (hitf tk) nt) x hx l i)
  have HGD := Lib.hid hG
  have HN := Lib.hid hn
  have HNT := Lib.hid hnt
  have HTL := Lib.hid htl
  have HM := Lib.hid hm
  have HG := Lib.hid hg
  have HT := Lib.hid ht
  have HIt := Lib.hid hi
  have HNE := Lib.hid hne
  have HKB := Lib.hid hkb
  have HIH := Lib.hid IH
  rw [hm] at hl100
  have c0 : w.cell? ⟨ps, 0, none⟩ = some (.int .i64 st) := hkb.cell 0
  have f0 : w.frozen? ⟨ps, 0, none⟩ = false := hkb.frozen 0
  have ws : IntKind.i64.wrap (st - 1) = st - 1 := IntWalk.i64_in _ (by omega)
  have hk1 : Kt.Kp (fun q => q = ps) w (w.setCell ⟨ps, 0, none⟩ (.int .i64 (st - 1))) := Kt.Kp.set (X := fun q => q = ps) (p := ⟨ps, 0, none⟩) rfl _
  have hB1 : Hid (Kt.Blk (w.setCell ⟨ps, 0, none⟩ (.int .i64 (st - 1))) ps 3 #[.int .i64 (st - 1)]) := Lib.hid (hkb.set_ 0 _)
  obtain ⟨W0, hW0⟩ : ∃ W0, Hid (Gr.wc (hitf tk) (Gr.cn g (hitf tk) nt) l p nt = W0) := ⟨_, Lib.hid rfl⟩
  rw [hW0.out]
  clear hG hn hnt htl hg ht hi hne hkb IH hρ h1g
  go_enter Try.func33, Try.ntmps33
  by_cases hs0 : st ≤ 0
  · have d0 : decide (st - 1 < 0) = true := by simp; omega
    have hans : Hid (SearchAns W0 st ps w 0 (st - 1) (w.setCell ⟨ps, 0, none⟩ (.int .i64 (st - 1)))) := Lib.hid ⟨hk1, hB1.out, Int.le_refl _, fun _ => rfl, fun h => by omega, fun h => by omega⟩
    clear hs0
    go_wp2_with fail
    go_ret
    exact ⟨0, st - 1, rfl, hans.out⟩
  · have d0 : decide (st - 1 < 0) = false := by simp; omega
    by_cases hmt : tl < m
    · have d1 : decide (tl < m) = true := by simp; omega
      have HWZ : Hid (W0 = 0) := Lib.hid (by rw [← hW0.out]; exact Gr.wc_short HCZ.out l p nt (by have := HTL.out; have := HM.out; omega))
      have hans : Hid (SearchAns W0 st ps w 0 (st - 1) (w.setCell ⟨ps, 0, none⟩ (.int .i64 (st - 1)))) := Lib.hid ⟨hk1, hB1.out, Int.le_refl _, fun h => by omega, fun h => by omega, fun h => by rw [HWZ.out]; exact ⟨rfl, by omega⟩⟩
      clear hmt hs0
      go_wp2_with fail
      go_ret
      exact ⟨0, st - 1, rfl, hans.out⟩
    · have d1 : decide (tl < m) = false := by simp; omega
      cases l with
      | nil =>
        obtain rfl : m = 0 := by have := HM.out; simpa using this.symm
        by_cases ht0 : tl = 0
        · have HW1 : Hid (W0 = 1) := Lib.hid (by rw [← hW0.out, Gr.wc, if_pos (by have := HTL.out; omega)])
          have hans : Hid (SearchAns W0 st ps w 1 (st - 1) (w.setCell ⟨ps, 0, none⟩ (.int .i64 (st - 1)))) := Lib.hid ⟨hk1, hB1.out, Int.le_refl _, fun h => by omega, fun h => by omega, fun h => by rw [HW1.out]; exact ⟨rfl, by omega⟩⟩
          clear hmt hs0
          subst ht0
          go_wp2_with fail
          go_ret
          exact ⟨1, st - 1, rfl, hans.out⟩
        · have dt : ((tl : Int) == 0) = false := by simp; omega
          have HW1 : Hid (W0 = 0) := Lib.hid (by rw [← hW0.out, Gr.wc, if_neg (by have := HTL.out; omega)])
          have hans : Hid (SearchAns W0 st ps w 0 (st - 1) (w.setCell ⟨ps, 0, none⟩ (.int .i64 (st - 1)))) := Lib.hid ⟨hk1, hB1.out, Int.le_refl _, fun h => by omega, fun h => by omega, fun h => by rw [HW1.out]; exact ⟨rfl, by omega⟩⟩
          clear hmt hs0 ht0
          go_wp2_with fail
          go_ret
          exact ⟨0, st - 1, rfl, hans.out⟩
      | cons x rest =>
        have hm1 : rest.length + 1 = m := by have := HM.out; simpa using this
        have dm : ((m : Int) == 0) = false := by simp; omega
        obtain ⟨bL, oL, rfl, hbL, hcL⟩ := HIt.out (by simp)
        have hbne := HNE.out bL oL rfl
        obtain ⟨x0, x1⟩ := hcL 0 (by simp)
        rw [Nat.zero_mul, Nat.add_zero] at x0 x1
        obtain ⟨cx, sx⟩ := x
        obtain ⟨w1, hw1⟩ : ∃ w1, w.setCell ⟨ps, 0, none⟩ (.int .i64 (st - 1)) = w1 := ⟨_, rfl⟩
        rw [hw1] at hk1 hB1
        have hs1 := hk1.size
        have y0 : w1.cell? ⟨bL, oL, none⟩ = some (.int .u16 cx) := (hk1.cell (p := ⟨bL, oL, none⟩) hbL hbne).trans x0
        have y1 : w1.cell? ⟨bL, oL + 1, none⟩ = some (.int .i64 sx) := (hk1.cell (p := ⟨bL, oL + 1, none⟩) hbL hbne).trans x1
        have b1 : w1.cell? ⟨ps, 0, none⟩ = some (.int .i64 (st - 1)) := hB1.out.cell 0
        have hnewsL : Hid (∀ z u, (flatI rest)[z]? = some u → w.cell? ((⟨bL, oL + 2, none⟩ : Addr).add z) = some u) := Lib.hid (items_news (bo := oL) hcL)
        have HIR : Hid (Kt.Items w w.heap.size (some ⟨bL, oL + 2, none⟩) rest) := Lib.hid (fun hp2 => ⟨bL, oL + 2, rfl, hbL, fun k hk => by
          have := hcL (k + 1) (by simpa using hk)
          rw [show oL + (k + 1) * 2 = oL + 2 + k * 2 from by omega] at this
          exact this⟩)
        have HRL : Hid (rest.length = m - 1) := Lib.hid (by omega)
        have HW1 := Lib.hid hw1
        clear hcL x0 x1
        have htl1 : 0 < tl := by omega
        by_cases hc0 : cx = 0
        · subst hc0
          have hst1 : 1 ≤ st := by omega
          obtain ⟨f, hf⟩ : ∃ f : Nat → Nat, Hid ((fun r => Gr.wc (hitf tk) (Gr.cn g (hitf tk) nt) ((Gr.rul g r).right ++ rest) p nt) = f) := ⟨_, Lib.hid rfl⟩
          have HWP : Hid (W0 = Gr.part g f sx n) := Lib.hid (by rw [← hW0.out, HLM.out ⟨0, sx⟩ rfl rest p, ← HN.out, Gr.part_all, ← hf.out])
          have HI := Lib.hid (HIH.out (F - 1) (by omega))
          have hm12 : m ≤ 12 := by have := HTL.out; omega
          have hk1x := Lib.hid hk1
          clear HLM HCZ hW0 HIH hmt hs0
          go_wp2_with fail
          go_loopw [9, 10] (fun u v wr => ∃ (k : Nat) (z cur : Int), k ≤ n ∧ v = .int .i64 k ∧ u = .int .i64 z ∧ cur ≤ st - 1 ∧ Hid (Kt.Blk wr ps 3 #[.int .i64 cur]) ∧ -1 - 230 * (st - 1) - (k : Int) ≤ cur ∧ Kt.Kp (fun q => q = ps) w wr ∧ Hid (0 ≤ cur → z = (Gr.part g f sx k : Int) ∧ (Gr.part g f sx k : Int) ≤ st - 1 - cur)) (fun _ v _ => n - (intOf v).toNat)
          case atStart => exact ⟨0, 0, st - 1, Nat.zero_le _, rfl, rfl, Int.le_refl _, hB1, by omega, hk1, Lib.hid (fun _ => ⟨rfl, by rw [Gr.part_zero]; omega⟩)⟩
          case round =>
            obtain ⟨k, z, cur, hk, rfl, rfl, hcur1', hKr, hcurL, hkr, hz⟩ := hrel
            have hsr := hkr.size
            by_cases hlt : k < n
            · have dk : decide (k < n) = true := by simpa using hlt
              obtain ⟨bA, oA, rfl, hbA, hcA⟩ := HG.out (by rw [HN.out]; omega)
              obtain ⟨g0, A', c', cr, hlr, hit2⟩ := hcA k (by rw [HN.out]; exact hlt)
              obtain ⟨lf, hlf⟩ : ∃ lf, Hid ((Gr.rul g k).left = lf) := ⟨_, Lib.hid rfl⟩
              obtain ⟨right, hrr⟩ : ∃ right, Hid ((Gr.rul g k).right = right) := ⟨_, Lib.hid rfl⟩
              obtain ⟨mr, hmr⟩ : ∃ mr, Hid (right.length = mr) := ⟨_, Lib.hid rfl⟩
              have hro := (HGD.out.ok k (by rw [HN.out]; exact hlt)).parts
              rw [hlf.out] at g0
              rw [hrr.out, hmr.out] at cr hro hlr
              rw [hrr.out] at hit2
              have hmr1 := hro.2.1
              have hmr8 := hro.2.2.1
              obtain ⟨bR, oR, rfl, hbR, hcR⟩ := hit2 (by rw [hmr.out]; omega)
              have r0 : wr.cell? ⟨bA, oA + k * 2, none⟩ = some (.int .i64 lf) := (hkr.cell (p := ⟨bA, oA + k * 2, none⟩) (by show bA < w.heap.size; omega) (by show ¬ bA = ps; omega)).trans g0
              have r1 : wr.cell? ⟨bL, oL + 1, none⟩ = some (.int .i64 sx) := (hkr.cell (p := ⟨bL, oL + 1, none⟩) hbL hbne).trans (by rw [← y1]; exact ((hk1x.out).cell (p := ⟨bL, oL + 1, none⟩) hbL hbne).symm)
              have r2 : wr.cell? ⟨bA, oA + k * 2 + 1, none⟩ = some (.slice (some ⟨bR, oR, none⟩) mr c') := (hkr.cell (p := ⟨bA, oA + k * 2 + 1, none⟩) (by show bA < w.heap.size; omega) (by show ¬ bA = ps; omega)).trans cr
              have HNR0 : Hid (∀ z u, (flatI right)[z]? = some u → wr.cell? ((⟨bR, oR, none⟩ : Addr).add z) = some u) := Lib.hid (fun z u hu => by
                have h9 := items_flat hcR z u hu
                rw [Addr.add_lit] at h9 ⊢
                exact (hkr.cell (p := ⟨bR, oR + z, none⟩) (by show bR < w.heap.size; omega) (by show ¬ bR = ps; omega)).trans h9)
              clear hro g0 cr hit2 hcR hcA hlr
              by_cases hls : lf = sx
              · have dl : (lf == sx) = true := by simp [hls]
                have hlfs : (Gr.rul g k).left = sx := by rw [hlf.out, hls]
                have HLS := Lib.hid hlfs
                clear hls hlfs
                go_wp2_with fail
                go_quiet (fail)
                go_upto_region 17 with fail
                obtain ⟨wq, hwq⟩ : ∃ wq, wr.drewN nq = wq := ⟨_, rfl⟩
                have hkp : Kt.Kp (fun q => q = ps) w wq := by rw [← hwq]; exact ⟨hkr.os, hkr.tape, hkr.output, hkr.size, hkr.same⟩
                have hKb : Hid (Kt.Blk wq ps 3 #[.int .i64 cur]) := Lib.hid (by rw [← hwq]; exact hKr.out.drewN _)
                have HNR : Hid (∀ z u, (flatI right)[z]? = some u → wq.cell? ((⟨bR, oR, none⟩ : Addr).add z) = some u) := Lib.hid (by rw [← hwq]; exact HNR0.out)
                have q2 : wq.cell? ⟨bA, oA + k * 2 + 1, none⟩ = some (.slice (some ⟨bR, oR, none⟩) mr c') := by rw [← hwq]; exact r2
                have q2a : (wq.alloc (.cells #[] 40)).cell? ⟨bA, oA + k * 2 + 1, none⟩ = some (.slice (some ⟨bR, oR, none⟩) mr c') := (((Below.refl wq.heap.size wq).alloc (Nat.le_refl _) _).cell (p := ⟨bA, oA + k * 2 + 1, none⟩) (by have := hkp.size; show bA < wq.heap.size; omega)).trans q2
                rw [hwq]
                clear hwq r0 r1 r2 HNR0 hKr hkr hsr dl y0 y1 b1
                have hsq := hkp.size
                have hpsq : ps < wq.heap.size := by omega
                have hbRq : bR < wq.heap.size := by omega
                have hbLq : bL < wq.heap.size := by omega
                have hnews : Hid (∀ z u, (flatI rest)[z]? = some u → wq.cell? ((⟨bL, oL + 2, none⟩ : Addr).add z) = some u) := Lib.hid (fun z u hu => by
                  have h9 := hnewsL.out z u hu
                  rw [Addr.add_lit] at h9 ⊢
                  exact (hkp.cell (p := ⟨bL, oL + 2 + z, none⟩) hbL hbne).trans h9)
                have HGq : Hid (Kt.Rules wq ps (some ⟨bA, oA, none⟩) g) := Lib.hid (Kt.Rules.keep HG.out fun z hz => hkp.cell (by omega) (by show ¬ z.block = ps; omega))
                have HTq : Hid (Kt.Ints wq ps .u16 TA (tk.drop p)) := Lib.hid (Kt.Ints.keep HT.out fun z hz => hkp.cell (by omega) (by show ¬ z.block = ps; omega))
                have hcur1 : cur ≤ ((F - 1 : Nat) : Int) := by omega
                have hcur2 : -10000000 ≤ cur := by omega
                have hF20 : st ≤ 20000 := by omega
                have HBE : Hid (Below wq.heap.size wq (wq.alloc (.cells #[] 40)).drew) := Lib.hid ((Below.refl wq.heap.size wq).alloc (Nat.le_refl _) _).drew
                have HOE : Hid ((wq.alloc (.cells #[] 40)).drew.ownsRow wq.heap.size 40 2 (.slice (some ⟨wq.heap.size, 0, none⟩) 0 0) 0 []) := Lib.hid ⟨rfl, .inr ⟨wq.heap.size, 0, #[], rfl, Nat.le_refl _, Kt.Blk.new _ _ _, Nat.le_refl _, Nat.zero_le _, rfl, rfl⟩⟩
                have hq1 : 1 ≤ m := by omega
                have hq4 : 0 < m := by omega
                have hq6 : (1 : Int) ≤ (m : Int) := by omega
                by_cases hl1 : lc = 1
                · have hm0 : m = 1 := by omega
                  have HRN : Hid (rest = []) := Lib.hid (List.length_eq_zero_iff.1 (by have := HRL.out; omega))
                  have HM0 := Lib.hid hm0
                  have hq8 : (lc = 1) = True := eq_true hl1
                  clear hm0 hl1
                  go_region_law (first
                    | (refine step_append_lies _ rfl (.tmp 72) (.tmp 77) 35 rfl wq.heap.size 40 i1 (.agg #[.int .u16 0, .int .i64 0]) 2 16 Try.underlying35 hi1 hy0 hy1 hy2 rfl (by decide) (.slice (some ⟨wq.heap.size, 0, none⟩) 0 0) 0 [] ?_ HOE.out ⟨bR, oR, none⟩ mr c' (flatI right) ?_ ?_ ?_ ?_ ?_ ?_ ?_ ?_ _ rfl ?_
                       · simp [Act.eval]
                       · simp [Act.eval]
                       · rw [flatI_len, hmr.out]
                       · exact fun z u hu => by
                           have h9 := HNR.out z u hu
                           rw [Addr.add_lit] at h9 ⊢
                           exact (HBE.out.cell (p := ⟨bR, oR + z, none⟩) hbRq).trans h9
                       · exact flatI_one right
                       · exact hmr1
                       · unfold maxLen
                         omega
                       · omega
                       · exact HBE.out.size
                       intro g1 cap1 w3 hown3 hgr3 hat3 hlt3
                       have hb3 : Below wq.heap.size wq w3 := HBE.out.grown hgr3 HBE.out.size (fun z hz => by
                         have h9 : wq.heap.size = z := by simpa [Value.ownBlock] using hz
                         omega)
                       try simp only [Nat.zero_add, List.nil_append] at hown3)
                        | (refine step_append_empty rfl (.tmp 78) (.tmp 80) 35 rfl 40 i1 Try.underlying35 hi1 g1 mr cap1 ?_ (own_cap hown3) ⟨bL, oL, none⟩ (lc - 1) ?_ ?_
                           · simp [Act.eval]
                           · simp [Act.eval, HM0.out]
                           have hb4 := hb3
                           have hI4 := own_items (l := right ++ rest) (by rw [HRN.out, List.append_nil]; exact hown3) (by rw [HRN.out, List.append_nil, hmr.out])
                           have hg4 : g1 ≠ ps := by have := (hown3.lt g1 rfl).1; omega
                           have hcap4 := own_cap hown3)
                    | (refine law_fn (.call { callee := .value (.func 33), args := #[.tmp 71, .tmp 81, .tmp 82, .tmp 83], argTypes := #[22, 35, 31, 69] }) rfl rfl 84 (fun w v w5 => ∃ c st' : Int, v = .int .i64 c ∧ Hid (SearchAns (Gr.wc (hitf tk) (Gr.cn g (hitf tk) nt) (right ++ rest) p nt) cur ps w3 c st' w5)) ?_ ?_
                       · intro KK hkk
                         unfold Oper.wp
                         go_simp
                         refine (HI.out cur hcur1 hcur2 (right ++ rest) p (by rw [List.length_append, hmr.out, HRL.out]; omega) hp (some ⟨bA, oA, none⟩) n cp (some ⟨g1, 0, none⟩) mr cap1 TA tl tc ps w3 HN.out (by rw [List.length_append, hmr.out, HRN.out]; try rfl) HTL.out hcap4 htc (Kt.Rules.keep HGq.out fun z hz => hb4.cell (by omega)) (Kt.Ints.keep HTq.out fun z hz => hb4.cell (by omega)) hI4 (fun b o e => by injection e with e; injection e with e; omega) ((hb4.block ps hpsq).trans hKb.out) (by have := hb4.size; omega)).mono ?_
                         rintro e w5 ⟨c, st', rfl, hans⟩
                         exact hkk _ _ ⟨c, st', rfl, Lib.hid hans⟩
                       rintro _ w5 ⟨c, st', rfl, hans⟩))
                  all_goals
                    have HNEXT := Lib.hid (loop_next (W := w) (f := f) (k := k) (z := z) (cur := cur) hkp hb4 (by have h9 := hans.out; rw [← hrr.out] at h9; rw [← hf.out]; exact h9) HLS.out hz.out hcur1' hcurL hF20)
                    obtain ⟨zz, hzz⟩ : ∃ zz, IntKind.i64.wrap (z + c) = zz := ⟨_, rfl⟩
                    clear hans hb4 hI4 hg4 hcap4 hb3 hown3 hgr3 hat3
                    go_wp2_with fail
                    rw [hzz] at HNEXT
                    obtain ⟨n1, n2, n3, n4, n5⟩ := HNEXT.out
                    have N2 := Lib.hid n2
                    have N5 := Lib.hid n5
                    clear HNEXT n2 n5
                    go_roundw
                    case rel => exact ⟨k + 1, zz, st', by omega, by go_num, rfl, n1, N2, n3, n4, N5⟩
                    case measure => simp [intOf]; omega
                · by_cases hm0 : m = 1
                  · have HRN : Hid (rest = []) := Lib.hid (List.length_eq_zero_iff.1 (by have := HRL.out; omega))
                    have HM0 := Lib.hid hm0
                    clear hm0
                    go_region_law (first
                      | (refine step_append_lies _ rfl (.tmp 72) (.tmp 77) 35 rfl wq.heap.size 40 i1 (.agg #[.int .u16 0, .int .i64 0]) 2 16 Try.underlying35 hi1 hy0 hy1 hy2 rfl (by decide) (.slice (some ⟨wq.heap.size, 0, none⟩) 0 0) 0 [] ?_ HOE.out ⟨bR, oR, none⟩ mr c' (flatI right) ?_ ?_ ?_ ?_ ?_ ?_ ?_ ?_ _ rfl ?_
                         · simp [Act.eval]
                         · simp [Act.eval]
                         · rw [flatI_len, hmr.out]
                         · exact fun z u hu => by
                             have h9 := HNR.out z u hu
                             rw [Addr.add_lit] at h9 ⊢
                             exact (HBE.out.cell (p := ⟨bR, oR + z, none⟩) hbRq).trans h9
                         · exact flatI_one right
                         · exact hmr1
                         · unfold maxLen
                           omega
                         · omega
                         · exact HBE.out.size
                         intro g1 cap1 w3 hown3 hgr3 hat3 hlt3
                         have hb3 : Below wq.heap.size wq w3 := HBE.out.grown hgr3 HBE.out.size (fun z hz => by
                           have h9 : wq.heap.size = z := by simpa [Value.ownBlock] using hz
                           omega)
                         try simp only [Nat.zero_add, List.nil_append] at hown3)
                          | (refine step_append_empty rfl (.tmp 78) (.tmp 80) 35 rfl 40 i1 Try.underlying35 hi1 g1 mr cap1 ?_ (own_cap hown3) ⟨bL, oL + 2, none⟩ (lc - 1) ?_ ?_
                             · simp [Act.eval]
                             · simp [Act.eval, HM0.out]
                             have hb4 := hb3
                             have hI4 := own_items (l := right ++ rest) (by rw [HRN.out, List.append_nil]; exact hown3) (by rw [HRN.out, List.append_nil, hmr.out])
                             have hg4 : g1 ≠ ps := by have := (hown3.lt g1 rfl).1; omega
                             have hcap4 := own_cap hown3)
                      | (refine law_fn (.call { callee := .value (.func 33), args := #[.tmp 71, .tmp 81, .tmp 82, .tmp 83], argTypes := #[22, 35, 31, 69] }) rfl rfl 84 (fun w v w5 => ∃ c st' : Int, v = .int .i64 c ∧ Hid (SearchAns (Gr.wc (hitf tk) (Gr.cn g (hitf tk) nt) (right ++ rest) p nt) cur ps w3 c st' w5)) ?_ ?_
                         · intro KK hkk
                           unfold Oper.wp
                           go_simp
                           refine (HI.out cur hcur1 hcur2 (right ++ rest) p (by rw [List.length_append, hmr.out, HRL.out]; omega) hp (some ⟨bA, oA, none⟩) n cp (some ⟨g1, 0, none⟩) mr cap1 TA tl tc ps w3 HN.out (by rw [List.length_append, hmr.out, HRN.out]; try rfl) HTL.out hcap4 htc (Kt.Rules.keep HGq.out fun z hz => hb4.cell (by omega)) (Kt.Ints.keep HTq.out fun z hz => hb4.cell (by omega)) hI4 (fun b o e => by injection e with e; injection e with e; omega) ((hb4.block ps hpsq).trans hKb.out) (by have := hb4.size; omega)).mono ?_
                           rintro e w5 ⟨c, st', rfl, hans⟩
                           exact hkk _ _ ⟨c, st', rfl, Lib.hid hans⟩
                         rintro _ w5 ⟨c, st', rfl, hans⟩))
                    all_goals
                      have HNEXT := Lib.hid (loop_next (W := w) (f := f) (k := k) (z := z) (cur := cur) hkp hb4 (by have h9 := hans.out; rw [← hrr.out] at h9; rw [← hf.out]; exact h9) HLS.out hz.out hcur1' hcurL hF20)
                      obtain ⟨zz, hzz⟩ : ∃ zz, IntKind.i64.wrap (z + c) = zz := ⟨_, rfl⟩
                      clear hans hb4 hI4 hg4 hcap4 hb3 hown3 hgr3 hat3
                      go_wp2_with fail
                      rw [hzz] at HNEXT
                      obtain ⟨n1, n2, n3, n4, n5⟩ := HNEXT.out
                      have N2 := Lib.hid n2
                      have N5 := Lib.hid n5
                      clear HNEXT n2 n5
                      go_roundw
                      case rel => exact ⟨k + 1, zz, st', by omega, by go_num, rfl, n1, N2, n3, n4, N5⟩
                      case measure => simp [intOf]; omega
                  · skip
                    go_region_law (first
                      | (refine step_append_lies _ rfl (.tmp 72) (.tmp 77) 35 rfl wq.heap.size 40 i1 (.agg #[.int .u16 0, .int .i64 0]) 2 16 Try.underlying35 hi1 hy0 hy1 hy2 rfl (by decide) (.slice (some ⟨wq.heap.size, 0, none⟩) 0 0) 0 [] ?_ HOE.out ⟨bR, oR, none⟩ mr c' (flatI right) ?_ ?_ ?_ ?_ ?_ ?_ ?_ ?_ _ rfl ?_
                         · simp [Act.eval]
                         · simp [Act.eval]
                         · rw [flatI_len, hmr.out]
                         · exact fun z u hu => by
                             have h9 := HNR.out z u hu
                             rw [Addr.add_lit] at h9 ⊢
                             exact (HBE.out.cell (p := ⟨bR, oR + z, none⟩) hbRq).trans h9
                         · exact flatI_one right
                         · exact hmr1
                         · unfold maxLen
                           omega
                         · omega
                         · exact HBE.out.size
                         intro g1 cap1 w3 hown3 hgr3 hat3 hlt3
                         have hb3 : Below wq.heap.size wq w3 := HBE.out.grown hgr3 HBE.out.size (fun z hz => by
                           have h9 : wq.heap.size = z := by simpa [Value.ownBlock] using hz
                           omega)
                         try simp only [Nat.zero_add, List.nil_append] at hown3)
                          | (refine step_append_lies _ rfl (.tmp 78) (.tmp 80) 35 rfl wq.heap.size 40 i1 (.agg #[.int .u16 0, .int .i64 0]) 2 16 Try.underlying35 hi1 hy0 hy1 hy2 rfl (by decide) (.slice (some ⟨g1, 0, none⟩) mr cap1) mr (flatI right) ?_ hown3 ⟨bL, oL + 2, none⟩ (m - 1) (lc - 1) (flatI rest) ?_ ?_ ?_ ?_ ?_ ?_ ?_ ?_ _ rfl ?_
                             · simp [Act.eval]
                             · simp [Act.eval]
                             · rw [flatI_len, HRL.out]
                             · exact fun z u hu => by
                                 have h9 := hnews.out z u hu
                                 rw [Addr.add_lit] at h9 ⊢
                                 exact (hb3.cell (p := ⟨bL, oL + 2 + z, none⟩) hbLq).trans h9
                             · exact flatI_one rest
                             · omega
                             · unfold maxLen
                               omega
                             · omega
                             · exact hb3.size
                             intro g2 cap2 w4 hown4 hgr4 hat4 hlt4
                             have hb4 : Below wq.heap.size wq w4 := hb3.grown hgr4 hb3.size (fun z hz => by
                               have h9 : g1 = z := by simpa [Value.ownBlock] using hz
                               rw [← h9]; exact (hown3.lt g1 rfl).1)
                             have hI4 := own_items (l := right ++ rest) (by rw [flatI_append]; exact hown4) (by rw [List.length_append, hmr.out, HRL.out])
                             have hg4 : g2 ≠ ps := by have := (hown4.lt g2 rfl).1; omega
                             have hcap4 := own_cap hown4)
                      | (refine law_fn (.call { callee := .value (.func 33), args := #[.tmp 71, .tmp 81, .tmp 82, .tmp 83], argTypes := #[22, 35, 31, 69] }) rfl rfl 84 (fun w v w5 => ∃ c st' : Int, v = .int .i64 c ∧ Hid (SearchAns (Gr.wc (hitf tk) (Gr.cn g (hitf tk) nt) (right ++ rest) p nt) cur ps w4 c st' w5)) ?_ ?_
                         · intro KK hkk
                           unfold Oper.wp
                           go_simp
                           refine (HI.out cur hcur1 hcur2 (right ++ rest) p (by rw [List.length_append, hmr.out, HRL.out]; omega) hp (some ⟨bA, oA, none⟩) n cp (some ⟨g2, 0, none⟩) (mr + (m - 1)) cap2 TA tl tc ps w4 HN.out (by rw [List.length_append, hmr.out, HRL.out]; try omega) HTL.out hcap4 htc (Kt.Rules.keep HGq.out fun z hz => hb4.cell (by omega)) (Kt.Ints.keep HTq.out fun z hz => hb4.cell (by omega)) hI4 (fun b o e => by injection e with e; injection e with e; omega) ((hb4.block ps hpsq).trans hKb.out) (by have := hb4.size; omega)).mono ?_
                           rintro e w5 ⟨c, st', rfl, hans⟩
                           exact hkk _ _ ⟨c, st', rfl, Lib.hid hans⟩
                         rintro _ w5 ⟨c, st', rfl, hans⟩))
                    all_goals
                      have HNEXT := Lib.hid (loop_next (W := w) (f := f) (k := k) (z := z) (cur := cur) hkp hb4 (by have h9 := hans.out; rw [← hrr.out] at h9; rw [← hf.out]; exact h9) HLS.out hz.out hcur1' hcurL hF20)
                      obtain ⟨zz, hzz⟩ : ∃ zz, IntKind.i64.wrap (z + c) = zz := ⟨_, rfl⟩
                      clear hans hb4 hI4 hg4 hcap4 hb3 hown3 hgr3 hat3
                      go_wp2_with fail
                      rw [hzz] at HNEXT
                      obtain ⟨n1, n2, n3, n4, n5⟩ := HNEXT.out
                      have N2 := Lib.hid n2
                      have N5 := Lib.hid n5
                      clear HNEXT n2 n5
                      go_roundw
                      case rel => exact ⟨k + 1, zz, st', by omega, by go_num, rfl, n1, N2, n3, n4, N5⟩
                      case measure => simp [intOf]; omega
              · have dl : (lf == sx) = false := by simp [hls]
                have hz2 : Hid (0 ≤ cur → z = (Gr.part g f sx (k + 1) : Int) ∧ (Gr.part g f sx (k + 1) : Int) ≤ st - 1 - cur) := Lib.hid (by
                  rw [Gr.part_succ, hlf.out, if_neg hls, Nat.add_zero]; exact hz.out)
                clear hls hz
                go_wp2_with fail
                go_quiet (fail)
                go_wp2_with fail
                go_roundw
                case rel => exact ⟨k + 1, z, cur, by omega, by go_num, rfl, hcur1', Lib.hid (hKr.out.drewN _), by omega, ⟨hkr.os, hkr.tape, hkr.output, hkr.size, hkr.same⟩, hz2⟩
                case measure => simp [intOf]; omega
            · obtain rfl : k = n := by omega
              have dk : decide (k < k) = false := by simp
              have hfin : Hid (SearchAns W0 st ps w z cur wr) := Lib.hid ⟨hkr, hKr.out, by omega, fun h => by omega, fun h => by omega, fun h => by
                obtain ⟨e1, e2⟩ := hz.out h
                rw [HWP.out]
                exact ⟨e1, by omega⟩⟩
              go_wp2_with fail
              go_ret
              exact ⟨z, cur, rfl, hfin.out⟩
        · have dc : (cx != 0) = true := by simp [hc0]
          have hpn : p < nt := by have := HTL.out; omega
          have HTKD : Hid ((tk.drop p).length = tl) := Lib.hid (by rw [List.length_drop, HNT.out]; exact HTL.out)
          obtain ⟨bT, oT, rfl, hbT, hcT⟩ := HT.out (by rw [HTKD.out]; exact htl1)
          obtain ⟨tv, htv⟩ : ∃ tv, Hid (Ls.nth tk p = tv) := ⟨_, Lib.hid rfl⟩
          have z0 := hcT 0 (by rw [HTKD.out]; exact htl1)
          rw [Nat.add_zero, show Ls.nth (tk.drop p) 0 = Ls.nth tk p from by simp [Ls.nth, List.getD_eq_getElem?_getD, List.getElem?_drop], htv.out] at z0
          have z1 : w1.cell? ⟨bT, oT, none⟩ = some (.int .u16 tv) := (hk1.cell (p := ⟨bT, oT, none⟩) (by show bT < w.heap.size; omega) (by show ¬ bT = ps; omega)).trans z0
          have HTD : Hid (Kt.Ints w ps .u16 (some ⟨bT, oT + 1, none⟩) (tk.drop (p + 1))) := Lib.hid (by
            have := Kt.Ints.dropN HT.out 1
            rwa [List.drop_drop] at this)
          obtain ⟨av, hav⟩ : ∃ av, bits .and .u16 tv cx = av := ⟨_, rfl⟩
          have hhit : hitf tk p cx = !(av == 0) := by unfold hitf; rw [htv.out, hav]
          have HWC : Hid (W0 = if p < nt ∧ hitf tk p cx = true then Gr.wc (hitf tk) (Gr.cn g (hitf tk) nt) rest (p + 1) nt else 0) := Lib.hid (by rw [← hW0.out, Gr.wc, if_neg hc0])
          rw [hhit] at HWC
          clear hhit hcT z0
          by_cases ha0 : av = 0
          · have da : (av == 0) = true := by simp [ha0]
            have HWZ : Hid (W0 = 0) := Lib.hid (by rw [HWC.out, da, if_neg (by simp)])
            clear ha0 hc0 hmt hs0
            go_wp2_with fail
            go_quiet (fail)
            go_wp2_with fail
            go_ret
            refine ⟨0, st - 1, rfl, ⟨⟨hk1.os, hk1.tape, hk1.output, hk1.size, hk1.same⟩, hB1.out.drewN _, Int.le_refl _, fun h => by omega, fun h => by omega, fun h => by rw [HWZ.out]; exact ⟨rfl, by omega⟩⟩⟩
          · have da : (av == 0) = false := by simp [ha0]
            have HWZ : Hid (W0 = Gr.wc (hitf tk) (Gr.cn g (hitf tk) nt) rest (p + 1) nt) := Lib.hid (by rw [HWC.out, da, if_pos ⟨hpn, rfl⟩])
            clear ha0 hc0 HWC hmt
            go_wp2_with fail
            go_quiet (fail)
            go_upto_region 11 with fail
            obtain ⟨w2, hw2⟩ : ∃ w2, w1.drewN nq = w2 := ⟨_, rfl⟩
            have hk2 : Kt.Kp (fun q => q = ps) w w2.drew := by rw [← hw2]; exact ⟨hk1.os, hk1.tape, hk1.output, hk1.size, hk1.same⟩
            have HKB2 : Hid (Kt.Blk w2.drew ps 3 #[.int .i64 (st - 1)]) := Lib.hid (by rw [← hw2]; exact hB1.out)
            have HK2 := Lib.hid hk2
            have HIH2 := Lib.hid (HIH.out (F - 1) (by omega))
            rw [hw2]
            clear hw2 hk2 y0 y1 b1 z1 hav da dc
            by_cases hlc1 : lc = 1 <;> by_cases htc1 : tc = 1
            all_goals
              first
                | (obtain rfl := hlc1
                   obtain rfl : m = 1 := by omega)
                | (have hq2 : ¬ lc - 1 = 0 := by omega
                   obtain ⟨m', rfl⟩ : ∃ m', m = m' + 1 := ⟨m - 1, by omega⟩
                   have hq6 : (1 : Int) ≤ (m' : Int) + 1 := by omega)
              first
                | (obtain rfl := htc1
                   obtain rfl : tl = 1 := by omega)
                | (have hq3 : ¬ tc - 1 = 0 := by omega
                   obtain ⟨t', rfl⟩ : ∃ t', tl = t' + 1 := ⟨tl - 1, by omega⟩
                   have hq7 : (1 : Int) ≤ (t' : Int) + 1 := by omega)
              go_region_law (first
                | (refine law_fn (.call { callee := .value (.func 33), args := #[.tmp 47, .tmp 49, .tmp 51, .tmp 52], argTypes := #[22, 35, 31, 69] }) rfl rfl 53 (fun w v w3 => ∃ c st' : Int, v = .int .i64 c ∧ Hid (SearchAns (Gr.wc (hitf tk) (Gr.cn g (hitf tk) nt) rest (p + 1) nt) (st - 1) ps w2.drew c st' w3)) ?_ ?_
                   · intro KK hkk
                     unfold Oper.wp
                     go_simp
                     refine (HIH2.out (st - 1) (by omega) (by omega) rest (p + 1) (by have := HRL.out; omega) (by omega) _ _ _ _ _ _ _ _ _ ps w2.drew HN.out (by have := HRL.out; omega) (by have := HTL.out; omega) (by omega) (by omega) (Kt.Rules.keep HG.out fun z hz => HK2.out.cell (by omega) (by show ¬ z.block = ps; omega))
                       (by first | exact Kt.Ints.keep HTD.out fun z hz => HK2.out.cell (by omega) (by show ¬ z.block = ps; omega) | exact fun hp0 => absurd hp0 (by rw [List.length_drop, HNT.out]; have := HTL.out; omega))
                       (by first | exact items_kp HIR.out (fun b o e => by injection e with e; injection e with e; omega) HK2.out | exact fun hp0 => absurd hp0 (by have := HRL.out; omega))
                       (fun b o e => by injection e with e; injection e with e; omega) HKB2.out (Nat.lt_of_lt_of_le hps HK2.out.size)).mono ?_
                     rintro e w3 ⟨c, st', rfl, hans⟩
                     exact hkk _ _ ⟨c, st', rfl, Lib.hid hans⟩
                   rintro _ w3 ⟨c, st', rfl, hans⟩))
            all_goals
              have hfin : Hid (SearchAns W0 st ps w c st' w3) := Lib.hid (by
                obtain ⟨a1, a2, a3, a4, a5, a6⟩ := hans.out
                refine ⟨HK2.out.trans a1, a2, by omega, fun h => by omega, fun h => ?_, fun h => ?_⟩
                · by_cases h9 : st - 1 ≤ 0
                  · have := a4 h9; omega
                  · have := a5 (by omega); omega
                · obtain ⟨e1, e2⟩ := a6 h
                  rw [HWZ.out]
                  exact ⟨e1, by omega⟩)
              clear hans
              go_wp2_with fail
              go_ret
              exact ⟨c, st', rfl, hfin.out⟩
theorem search_any (g : List Gr.Rule) (tk : List Int) (nt : Nat) (hG : Gr.Good g) (hnt : tk.length = nt) (hnt12 : nt ≤ 12) : ∀ F, F ≤ 20000 → SearchAt g tk nt F := by
  intro F
  induction F using Nat.strongRecOn with
  | _ F ih => exact fun hF => search_step g tk nt F hG hnt hnt12 hF fun F' h => ih F' h (by omega)
end Go.Proofs.Ytkclifdbdnigaaa
end
section
/- What Uint returns for any number. -/
namespace Go.Proofs.Ytkclifdbdnigaaa
open Go Go.RowKit
set_option maxHeartbeats 1000000 in
theorem uint_small {w : World} {l1 : Nat} {u : Value} {x : Nat} (n : Int) (hx : Kt.Num w l1 u x) (h1 : x ≤ 18446744073709551615) (hn : n = (x : Int)) :
    Calls Try.prog 32 #[u] w fun e w' => e = .returned (.tuple #[.int .u64 n, .bool true]) ∧ Below w.heap.size w w' := by
  subst hn
  obtain ⟨A, ca, rfl, _, _, ha⟩ := hx.ints
  have hl2 : (Nt.limbs x).length ≤ 2 := (Nt.len_le_iff x 2).2 (by simp only [Nt.P]; omega)
  have HR1 := Lib.hid (num_right (x := x) (by omega))
  have HV := Lib.hid (Nt.V_limbs x)
  have HO := Lib.hid (Nt.limbs_Ok x)
  obtain ⟨l, hl⟩ : ∃ l, Hid (Nt.limbs x = l) := ⟨_, Lib.hid rfl⟩
  rw [hl.out] at ha hl2 HR1 HV HO ⊢
  obtain ⟨n, hn⟩ : ∃ n, Hid (l.length = n) := ⟨_, Lib.hid rfl⟩
  rw [hn.out] at hl2 ⊢
  clear hx hl
  go_enter Try.func32, Try.ntmps32
  go_wp2_with fail
  refine (right_any A n ca _ _ hn.out ha (by omega)).mono ?_
  rw [HR1.out]
  rintro e w' ⟨rfl, rfl⟩
  go_wp2_with fail
  go_loop [4, 17] (fun v i => ∃ (k : Nat) (t : Int), k ≤ n ∧ v = .int .u64 t ∧ i = .int .i64 k ∧ Hid (Nt.V (l.take k) = t)) (fun _ i => n - (intOf i).toNat)
  case atStart => exact ⟨0, 0, Nat.zero_le _, rfl, rfl, Lib.hid (by simp [Nt.V])⟩
  case round =>
    obtain ⟨k, t, hk, rfl, rfl, ht⟩ := hrel
    by_cases hlt : k < n
    · obtain ⟨b, o, rfl, hb, hc⟩ := ha (by have := hn.out; omega)
      have hcell := hc k (by rw [hn.out]; exact hlt)
      obtain ⟨z, hz⟩ : ∃ z, Hid (Ls.nth l k = z) := ⟨_, Lib.hid rfl⟩
      have hzb := HO.out.nth_any k
      rw [hz.out] at hcell hzb
      obtain ⟨hz0, hz1⟩ := hzb
      have hstep := Nt.V_take_nth l k
      rw [hz.out, ht.out] at hstep
      clear hc
      have ht0 : 0 ≤ t := by rw [← ht.out]; exact Nt.V_nonneg (HO.out.take k)
      have ht1 : t < Nt.P k := by
        have h9 := Nt.V_lt (HO.out.take k)
        rw [ht.out, List.length_take, hn.out, Nat.min_eq_left hk] at h9
        exact h9
      rcases (show k = 0 ∨ k = 1 by omega) with rfl | rfl
      · simp only [Nt.P, Int.one_mul] at hstep ht1
        obtain rfl : t = 0 := by omega
        rw [Nat.add_zero] at hcell
        have HST := Lib.hid hstep
        clear hstep
        go_wp2_with fail
        go_round
        case rel => exact ⟨1, _, by omega, rfl, by go_num, Lib.hid (by rw [HST.out]; omega)⟩
        case measure => simp [intOf]; omega
      · simp only [Nt.P, Int.mul_one] at hstep ht1
        have HST := Lib.hid hstep
        clear hstep
        go_wp2_with fail
        go_round
        case rel => exact ⟨2, _, by omega, rfl, by go_num, Lib.hid (by rw [HST.out]; omega)⟩
        case measure => simp [intOf]; omega
    · obtain rfl : k = n := by omega
      have HT : Hid (t = (x : Int)) := Lib.hid (by rw [← ht.out, ← HV.out]; exact Nt.V_take_all _ _ (by rw [hn.out]; exact Nat.le_refl _))
      obtain rfl : t = (x : Int) := HT.out
      go_wp2
      go_ret2
      exact ⟨rfl, Below.refl _ _⟩
theorem uint_great {w : World} {l1 : Nat} {u : Value} {x : Nat} (hx : Kt.Num w l1 u x) (h1 : 18446744073709551615 < x) (hfit : (Nt.limbs x).length ≤ 1024) :
    Calls Try.prog 32 #[u] w fun e w' => e = .returned (.tuple #[.int .u64 0, .bool false]) ∧ Below w.heap.size w w' := by
  obtain ⟨A, ca, rfl, _, _, ha⟩ := hx.ints
  have hl2 : 2 < (Nt.limbs x).length := by
    by_cases h : (Nt.limbs x).length ≤ 2
    · have := (Nt.len_le_iff x 2).1 h
      simp only [Nt.P] at this
      omega
    · omega
  have HR1 := Lib.hid (num_right (x := x) (by omega))
  obtain ⟨l, hl⟩ : ∃ l, Hid (Nt.limbs x = l) := ⟨_, Lib.hid rfl⟩
  rw [hl.out] at ha hl2 HR1 hfit ⊢
  obtain ⟨n, hn⟩ : ∃ n, Hid (l.length = n) := ⟨_, Lib.hid rfl⟩
  rw [hn.out] at hl2 hfit ⊢
  clear hx hl
  have d1 : decide ((n : Int) > 2) = true := by simp; omega
  go_enter Try.func32, Try.ntmps32
  go_wp2_with fail
  refine (right_any A n ca _ _ hn.out ha (by omega)).mono ?_
  rw [HR1.out]
  rintro e w' ⟨rfl, rfl⟩
  go_wp2_with fail
  go_ret2
  exact ⟨rfl, Below.refl _ _⟩
/-- The value of a number, if it is one of 64 bits. -/
theorem uint_any {w : World} {l1 : Nat} {u : Value} {x : Nat} (hx : Kt.Num w l1 u x) (hfit : (Nt.limbs x).length ≤ 1024) :
    Calls Try.prog 32 #[u] w fun e w' => (x ≤ 18446744073709551615 ∧ e = .returned (.tuple #[.int .u64 (x : Int), .bool true]) ∨ 18446744073709551615 < x ∧ e = .returned (.tuple #[.int .u64 0, .bool false])) ∧ Below w.heap.size w w' := by
  by_cases h : x ≤ 18446744073709551615
  · refine (uint_small _ hx h rfl).mono ?_
    rintro e w' ⟨he, hb⟩
    exact ⟨.inl ⟨h, he⟩, hb⟩
  · refine (uint_great hx (by omega) hfit).mono ?_
    rintro e w' ⟨he, hb⟩
    exact ⟨.inr ⟨by omega, he⟩, hb⟩
end Go.Proofs.Ytkclifdbdnigaaa
end
section
/- Any tree in memory: its numbers are whole numbers. -/
namespace Kt
open Go Go.RowKit
def noTrI : Gr.TrI := .node 0 0 0 []
inductive TVI (W : World) : Gr.TrI → Value → Prop
  | node (r i j : Int) (l : List Gr.TrI) (A : Option Addr) (c b off : Nat) (vs : Nat → Value) (hA : 0 < l.length → A = some ⟨b, off, none⟩ ∧ b < W.heap.size) (hle : l.length ≤ c) (h63 : l.length ≤ 4611686018427387904)
      (hc : ∀ k, k < l.length → ∀ q, q < 4 → W.cell? ⟨b, off + k * 4 + q, none⟩ = (vs k).cells[q]?) (ht : ∀ k, k < l.length → TVI W (l.getD k noTrI) (vs k)) :
      TVI W (.node r i j l) (.agg #[.int .i64 r, .int .i64 i, .int .i64 j, .slice A l.length c])
theorem TVI.on {W W' : World} {t : Gr.TrI} {v : Value} (h : TVI W t v) (hb : Below W.heap.size W W') : TVI W' t v := by
  induction h with
  | node r i j l A c b off vs hA hle h63 hc ht ih =>
    refine .node r i j l A c b off vs (fun hp => ⟨(hA hp).1, Nat.lt_of_lt_of_le (hA hp).2 hb.size⟩) hle h63 (fun k hk q hq => ?_) ih
    exact (hb.cell (p := ⟨b, off + k * 4 + q, none⟩) (hA (by omega)).2).trans (hc k hk q hq)
theorem toIs_map : ∀ l : List Gr.Tr, Gr.Tr.toIs l = l.map Gr.Tr.toI
  | [] => rfl
  | t :: ts => by rw [Gr.Tr.toIs, toIs_map ts]; rfl
theorem TV.toI {W : World} {M : Nat → Prop} {t : Gr.Tr} {v : Value} (h : TV W M t v) : TVI W t.toI v := by
  induction h with
  | node r i j l A c b off vs hA hle h63 hc ht ih =>
    have e : (Gr.Tr.toIs l).length = l.length := by rw [toIs_map, List.length_map]
    rw [Gr.Tr.toI]
    have := TVI.node (W := W) r i j (Gr.Tr.toIs l) A c b off vs (fun hp => ⟨(hA (by omega)).1, (hA (by omega)).2.2⟩) (by omega) (by omega) (fun k hk q hq => hc k (by omega) q hq) (fun k hk => by
      have hk2 : k < l.length := by omega
      have e2 : (Gr.Tr.toIs l).getD k noTrI = (l.getD k noTr).toI := by
        rw [toIs_map, List.getD_eq_getElem?_getD, List.getD_eq_getElem?_getD, List.getElem?_map, List.getElem?_eq_getElem hk2]; rfl
      rw [e2]
      exact ih k hk2)
    rwa [e] at this
end Kt
end
