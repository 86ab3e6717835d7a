/- Joined: AwD. -/
import Derived.Test.YtkclifdbdnigaaaMa19
section
/- awake answers true. -/
namespace Gr
theorem two_good : Good twoG := ⟨by decide, fun r hr => by
  have hr2 : r < 2 := hr
  match r, hr2 with
  | 0, _ => show ruleE _ = 0; decide
  | 1, _ => show ruleE _ = 0; decide, _, two_rank⟩
def cycG : List Rule := [⟨0, [⟨0, 0⟩]⟩]
theorem cyc_code : VCode cycG 92 := .inr (.inr (.inl ⟨by decide, by decide, ⟨0, .one (by show (0 : Int) ∈ tgts cycG 1 0; decide)⟩, rfl⟩))
end Gr
namespace Go.Proofs.Ytkclifdbdnigaaa
open Go Go.RowKit
def RecPost (g : List Gr.Rule) (tk : List Int) (w : World) (e : Ending) (w' : World) : Prop :=
  Below w.heap.size w w' ∧ ∃ b c, e = .returned (.tuple #[.bool b, .int .i64 c]) ∧ Gr.KCode g tk.length c ∧ b = decide (c = 0 ∧ 0 < counts g tk)
theorem Recognise_any (g : List Gr.Rule) (tk : List Int) (A : Option Addr) (n cp : Nat) (T : Option Addr) (nt ct : Nat) (w : World) (hl : g.length = n) (hn : n ≤ 4611686018427387904) (hnt : tk.length = nt) (hnt2 : nt ≤ 4611686018427387904) (hk : nt ≤ 30 ∨ 40 < nt)
    (hW : WfR g) (hg : Kt.Rules w w.heap.size A g) (ht : Kt.Ints w w.heap.size .u16 T tk) :
    Calls Try.prog 29 #[.slice A n cp, .slice T nt ct] w (RecPost g tk w) := by
  have HC := Lib.hid (Count_any g tk A n cp T nt ct w hl hn hnt hnt2 hk hW hg ht)
  clear hl hnt hk hW hg ht
  go_enter Try.func29, Try.ntmps29
  go_wp2_with fail
  refine HC.out.mono ?_
  rintro e w1 ⟨hb, v, c, rfl, hc, hv⟩
  obtain ⟨x, hx⟩ : ∃ x, Hid ((if c = 0 then counts g tk else 0) = x) := ⟨_, Lib.hid rfl⟩
  rw [hx.out] at hv
  obtain ⟨A', c', rfl, _⟩ := num_ok hv
  obtain ⟨LN, hLN⟩ : ∃ LN, Hid ((Nt.limbs x).length = LN) := ⟨_, Lib.hid rfl⟩
  have HB : Hid (decide (0 < LN) = decide (c = 0 ∧ 0 < counts g tk)) := Lib.hid (by
    have h1 := Nt.len_zero_iff x
    rw [hLN.out] at h1
    have h2 := hx.out
    by_cases he : c = 0
    · rw [if_pos he] at h2
      subst h2
      by_cases h0 : LN = 0
      · have := h1.1 h0
        simp [h0, this]
      · have h3 : counts g tk ≠ 0 := fun e => h0 (h1.2 e)
        rw [decide_eq_true (show 0 < LN by omega), decide_eq_true ⟨he, Nat.pos_of_ne_zero h3⟩]
    · rw [if_neg he] at h2
      have h0 := h1.2 h2.symm
      simp [h0, he])
  have HKC := Lib.hid hc
  rw [hLN.out]
  clear hc hv HC
  go_wp2_with fail
  go_ret2
  exact ⟨hb, _, c, rfl, HKC.out, HB.out⟩
theorem hit_ones {n i : Nat} (h : i < n) : hitf (List.replicate n 1) i 1 = true := by
  unfold hitf
  have : Ls.nth (List.replicate n 1) i = 1 := by simp [Ls.nth, h]
  rw [this]
  decide
theorem ones_cnt (n : Nat) : counts Gr.twoG (List.replicate n 1) = Gr.cat n := by
  unfold counts
  have := Gr.two_cnt (hit := hitf (List.replicate n 1)) (n := n) (fun i hi => hit_ones hi) n 0 (by omega)
  rw [Nat.zero_add] at this
  rw [List.length_replicate]
  exact this
theorem ones_trees : derivs Gr.twoG (List.replicate 3 1) = [Gr.treeA, Gr.treeB] := Gr.two_three (fun _ hi => hit_ones hi)
theorem two_wf : WfR Gr.twoG := fun r hr => by
  have hr2 : r < 2 := hr
  match r, hr2 with
  | 0, _ => intro x hx; have : x = ⟨0, 0⟩ := by simpa [Gr.rul, Gr.twoG] using hx
            subst this; decide
  | 1, _ => intro x hx; have : x = ⟨1, 0⟩ := by simpa [Gr.rul, Gr.twoG] using hx
            subst this; decide
def awkSlot : Nat → Nat := fun j => match j with | 0 => 79 | 1 => 80 | 2 => 81 | 3 => 82 | 4 => 83 | 5 => 84 | 6 => 85 | 7 => 86 | 8 => 87 | 9 => 88 | 10 => 89 | 11 => 90 | 12 => 91 | 13 => 92 | 14 => 93 | 15 => 94 | 16 => 95 | 17 => 96 | 18 => 97 | 19 => 98 | 20 => 99 | 21 => 100 | 22 => 101 | 23 => 102 | 24 => 103 | 25 => 104 | 26 => 105 | 27 => 106 | 28 => 107 | 29 => 108 | 30 => 109 | 31 => 110 | 32 => 111 | 33 => 112 | 34 => 0 | _ => 999999
def awkS : List Nat := [0, 79, 80, 81, 82, 83, 84, 85, 86, 87, 88, 89, 90, 91, 92, 93, 94, 95, 96, 97, 98, 99, 100, 101, 102, 103, 104, 105, 106, 107, 108, 109, 110, 111, 112]
set_option linter.unusedVariables false in
def awkR (lb lo lc : Nat) (d0 d1 d2 : Int) (Ad : Option Addr) (nd cd : Nat) (e0 e1 e2 : Int) (Ae : Option Addr) (ne ce : Nat) : Nat → Value → World → Prop := fun j u w => match j with | 0 => u = (.slice (some ⟨lb, lo, none⟩) 2 lc) | 1 => u = (.pointer (some ⟨lb, lo, none⟩)) | 2 => u = (.agg #[.int .i64 d0, .int .i64 d1, .int .i64 d2, .slice Ad nd cd]) | 3 => u = (.func (.func 38) #[] #[]) | 4 => u = (.func (.func 37) #[] #[]) | 5 => Kt.TV w (fun _ => False) (Gr.leafT 0) u | 6 => u = (.func (.func 38) #[] #[]) | 7 => u = (.func (.func 37) #[] #[]) | 8 => Kt.TV w (fun _ => False) (Gr.leafT 1) u | 9 => u = (.func (.func 37) #[] #[]) | 10 => Kt.TV w (fun _ => False) (Gr.leafT 2) u | 11 => Kt.TV w (fun _ => False) (.node 0 1 3 [Gr.leafT 1, Gr.leafT 2]) u | 12 => Kt.TV w (fun _ => False) (Gr.treeA) u | 13 => u = (.bool true) | 14 => u = (.bool true) | 15 => u = (.slice (some ⟨lb, lo, none⟩) 2 lc) | 16 => u = (.pointer (some ⟨lb, lo + 4, none⟩)) | 17 => u = (.agg #[.int .i64 e0, .int .i64 e1, .int .i64 e2, .slice Ae ne ce]) | 18 => u = (.func (.func 38) #[] #[]) | 19 => u = (.func (.func 38) #[] #[]) | 20 => u = (.func (.func 37) #[] #[]) | 21 => Kt.TV w (fun _ => False) (Gr.leafT 0) u | 22 => u = (.func (.func 37) #[] #[]) | 23 => Kt.TV w (fun _ => False) (Gr.leafT 1) u | 24 => Kt.TV w (fun _ => False) (.node 0 0 2 [Gr.leafT 0, Gr.leafT 1]) u | 25 => u = (.func (.func 37) #[] #[]) | 26 => Kt.TV w (fun _ => False) (Gr.leafT 2) u | 27 => Kt.TV w (fun _ => False) (Gr.treeB) u | 28 => u = (.bool true) | 29 => u = (.bool true) | 30 => u = (.bool true) | 31 => u = (.int .i64 92) | 32 => u = (.bool true) | 33 => u = (.bool true) | 34 => u = (.bool true) | _ => True
def awkP (a0 : Act) (W : World) (lb lo lc : Nat) (d0 d1 d2 : Int) (Ad : Option Addr) (nd cd : Nat) (e0 e1 e2 : Int) (Ae : Option Addr) (ne ce : Nat) : Kt.RxP := ⟨35, awkSlot, awkS, a0, W, fun _ => False, awkR lb lo lc d0 d1 d2 Ad nd cd e0 e1 e2 Ae ne ce, fun _ _ _ => True⟩
theorem awk_ok {a0 : Act} {W : World} {lb lo lc : Nat} {d0 d1 d2 : Int} {Ad : Option Addr} {nd cd : Nat} {e0 e1 e2 : Int} {Ae : Option Addr} {ne ce : Nat} {listed : Array Bool} {act : Act} {w : World} (_ : Kt.RxI (awkP a0 W lb lo lc d0 d1 d2 Ad nd cd e0 e1 e2 Ae ne ce) listed act w) : Kt.RxOk (awkP a0 W lb lo lc d0 d1 d2 Ad nd cd e0 e1 e2 Ae ne ce) := by
  refine ⟨fun i hi j hj => (by decide : ∀ i, i < 35 → ∀ j, j < 35 → awkSlot i = awkSlot j → i = j) i hi j hj, fun j u w w' h hk => ?_⟩
  rcases j with _ | _ | _ | _ | _ | _ | _ | _ | _ | _ | _ | _ | _ | _ | _ | _ | _ | _ | _ | _ | _ | _ | _ | _ | _ | _ | _ | _ | _ | _ | _ | _ | _ | _ | _ | j
  · exact h
  · exact h
  · exact h
  · exact h
  · exact h
  · exact (show Kt.TV _ _ _ _ from h).keep fun q hq _ => hk.same q hq (fun e => e)
  · exact h
  · exact h
  · exact (show Kt.TV _ _ _ _ from h).keep fun q hq _ => hk.same q hq (fun e => e)
  · exact h
  · exact (show Kt.TV _ _ _ _ from h).keep fun q hq _ => hk.same q hq (fun e => e)
  · exact (show Kt.TV _ _ _ _ from h).keep fun q hq _ => hk.same q hq (fun e => e)
  · exact (show Kt.TV _ _ _ _ from h).keep fun q hq _ => hk.same q hq (fun e => e)
  · exact h
  · exact h
  · exact h
  · exact h
  · exact h
  · exact h
  · exact h
  · exact h
  · exact (show Kt.TV _ _ _ _ from h).keep fun q hq _ => hk.same q hq (fun e => e)
  · exact h
  · exact (show Kt.TV _ _ _ _ from h).keep fun q hq _ => hk.same q hq (fun e => e)
  · exact (show Kt.TV _ _ _ _ from h).keep fun q hq _ => hk.same q hq (fun e => e)
  · exact h
  · exact (show Kt.TV _ _ _ _ from h).keep fun q hq _ => hk.same q hq (fun e => e)
  · exact (show Kt.TV _ _ _ _ from h).keep fun q hq _ => hk.same q hq (fun e => e)
  · exact h
  · exact h
  · exact h
  · exact h
  · exact h
  · exact h
  · exact h
  · exact h

set_option maxRecDepth 100000 in
set_option maxHeartbeats 4000000 in
theorem awake_any (w : World) : Calls Try.prog 11 #[] w fun e w' => e = .returned (.bool true) ∧ Below w.heap.size w w' := by
  go_enter Try.func11, Try.ntmps11
  go_wp2_with fail
  refine (twos_any w).mono ?_
  rintro e w1 ⟨A1, rfl, hg1, hb1⟩
  go_wp2_with fail
  refine (ones_any 3 w1 (by omega)).mono ?_
  rintro e wa ⟨Ta, c1, rfl, ht1, hb2⟩
  go_wp2_with fail
  refine (Trees_any Gr.twoG (List.replicate 3 1) A1 2 2 Ta 3 c1 wa rfl (by omega) rfl (by omega) (by omega) two_wf (hg1.on hb2) ht1 9 (by omega)).mono ?_
  rintro e w3 ⟨hb3, v, c, rfl, hk3, hlv⟩
  obtain rfl : c = 0 := hk3.good.2 ⟨Gr.two_good, by decide⟩
  rw [if_pos rfl, ones_trees] at hlv
  have hlv2 : Kt.LV w3 (fun _ => False) [Gr.treeA, Gr.treeB] v := hlv.less (fun _ h => h.elim)
  have hlv3 := hlv2
  obtain ⟨A, lc, lb, lo, vs, rfl, hA, _, _, hcl, htr⟩ := hlv2
  obtain ⟨rfl, _, hlb⟩ := hA (by simp)
  have hw3 : Below w.heap.size w w3 := hb1.trans ((hb2.mono hb1.size).trans (hb3.mono (Nat.le_trans hb1.size hb2.size)))
  clear hb1 hb2 hb3 hg1 ht1 hk3 hlv hA
  have hs3 := hw3.size
  have HL : Hid (Kt.LV w3 (fun _ => False) [Gr.treeA, Gr.treeB] (.slice (some ⟨lb, lo, none⟩) 2 lc)) := Lib.hid hlv3
  clear hlv3 hcl htr
  go_wp2_with fail
  refine (twos_any w3).mono ?_
  rintro e w4 ⟨A4, rfl, hg4, hb4⟩
  go_wp2_with fail
  refine (ones_any 4 w4 (by omega)).mono ?_
  rintro e w5 ⟨T5, c5, rfl, ht5, hb5⟩
  go_wp2_with fail
  refine (Count_any Gr.twoG (List.replicate 4 1) A4 2 2 T5 4 c5 w5 rfl (by omega) rfl (by omega) (by omega) two_wf (hg4.on hb5) ht5).mono ?_
  rintro e w6 ⟨hb6, v6, c, rfl, hk6, hv6⟩
  obtain rfl : c = 0 := hk6.good.2 ⟨Gr.two_good, by decide⟩
  rw [if_pos rfl, ones_cnt, Gr.cat4] at hv6
  have hw6 : Below w3.heap.size w3 w6 := hb4.trans ((hb5.mono hb4.size).trans (hb6.mono (Nat.le_trans hb4.size hb5.size)))
  have HV6 := Lib.hid hv6
  clear hb4 hb5 hb6 hg4 ht5 hk6 hv6
  have hs6 := hw6.size
  go_wp2_with fail
  refine (twos_any w6).mono ?_
  rintro e w7 ⟨A7, rfl, hg7, hb7⟩
  go_wp2_with fail
  refine (ones_any 20 w7 (by omega)).mono ?_
  rintro e w8 ⟨T8, c8, rfl, ht8, hb8⟩
  go_wp2_with fail
  refine (Count_any Gr.twoG (List.replicate 20 1) A7 2 2 T8 20 c8 w8 rfl (by omega) rfl (by omega) (by omega) two_wf (hg7.on hb8) ht8).mono ?_
  rintro e w9 ⟨hb9, v9, c, rfl, hk9, hv9⟩
  obtain rfl : c = 0 := hk9.good.2 ⟨Gr.two_good, by decide⟩
  rw [if_pos rfl, ones_cnt, Gr.cat20] at hv9
  have hw9 : Below w6.heap.size w6 w9 := hb7.trans ((hb8.mono hb7.size).trans (hb9.mono (Nat.le_trans hb7.size hb8.size)))
  have HV9 := Lib.hid hv9
  clear hb7 hb8 hb9 hg7 ht8 hk9 hv9
  have hs9 := hw9.size
  go_wp2_with fail
  refine (text_num HV9.out (Nat.le_trans ((Nt.len_le_iff _ 1).2 (by simp only [Nt.P]; omega)) (by omega))).mono ?_
  rintro e w10 ⟨rfl, hb10⟩
  have htx : (Lib.decDigits 1767263190).toArray = #[49, 55, 54, 55, 50, 54, 51, 49, 57, 48] := by
    iterate 9 (rw [Lib.decDigits, dif_neg (by decide)])
    rw [Lib.decDigits, dif_pos (by decide)]
    rfl
  have hs10 := hb10.size
  go_wp2_with fail
  refine (twos_any w10).mono ?_
  rintro e w11 ⟨A11, rfl, hg11, hb11⟩
  go_wp2_with fail
  refine (Recognise_any Gr.twoG [] A11 2 2 none 0 0 w11 rfl (by omega) rfl (by omega) (by omega) two_wf hg11 Kt.Ints.nil).mono ?_
  rintro e w12 ⟨hb12, b, c, rfl, hk12, rfl⟩
  obtain rfl : c = 0 := hk12.good.2 ⟨Gr.two_good, by decide⟩
  have hc0 : counts Gr.twoG [] = 0 := ones_cnt 0
  rw [hc0]
  have hw12 : Below w6.heap.size w6 w12 := hw9.trans ((hb10.mono hs9).trans ((hb11.mono (Nat.le_trans hs9 hs10)).trans (hb12.mono (Nat.le_trans hs9 (Nat.le_trans hs10 hb11.size)))))
  obtain ⟨A6, c6, rfl, _, hi6⟩ := num_ok (HV6.out)
  have hl5 : Nt.limbs 5 = [5] := by rfl
  rw [hl5] at hi6 ⊢
  have HI6 := Lib.hid (hi6.on hw12)
  clear hk12 hi6 hb12 hb11 hb10 hw9 hg11
  have hs12 := hw12.size
  have hdd : decide ((0 : Int) = 0 ∧ (0 : Nat) < 0) = false := by decide
  simp only [List.length_cons, List.length_nil, Nat.zero_add]
  go_wp2_with fail
  have hbk : Kt.IBlk (w12.alloc (.cells #[.int .u32 5] 80)) w12.heap.size 80 .u32 [5] := Kt.Blk.new _ _ _
  refine (same_lists A6 (some ⟨w12.heap.size, 0, none⟩) 1 1 c6 1 [5] [5] _ rfl rfl (HI6.out.on ((Below.refl _ _).alloc (Nat.le_refl _) _)) hbk.ints (by omega)).mono ?_
  rintro e w13 ⟨rfl, hb13⟩
  have hsb : sameB [5] [5] = true := by decide
  have hw13 : Below w12.heap.size w12 w13 := ((Below.refl _ _).alloc (Nat.le_refl _) _).trans (hb13.mono (by simp))
  clear hbk hb13
  have hs13 := hw13.size
  go_wp2_with fail
  obtain ⟨w14, hw14⟩ : ∃ w14, (w13.alloc (.cells #[.int .u16 0, .int .i64 0] 40)).alloc (.cells #[.int .i64 0, .slice (some ⟨w13.heap.size, 0, none⟩) 1 1] 37) = w14 := ⟨_, rfl⟩
  have hs14 : w14.heap.size = w13.heap.size + 2 := by rw [← hw14]; simp
  have k1 : Kt.Blk w14 w13.heap.size 40 #[.int .u16 0, .int .i64 0] := by rw [← hw14]; exact (Kt.Blk.new w13 _ _).alloc _
  have k2 : Kt.Blk w14 (w13.heap.size + 1) 37 #[.int .i64 0, .slice (some ⟨w13.heap.size, 0, none⟩) 1 1] := by rw [← hw14]; exact Kt.Blk.new' _ _ _ _ (by simp)
  have hbw14 : Below w13.heap.size w13 w14 := by rw [← hw14]; exact ((Below.refl _ _).alloc (Nat.le_refl _) _).alloc (by simp) _
  have hcy : Kt.Rules w14 w14.heap.size (some ⟨w13.heap.size + 1, 0, none⟩) Gr.cycG := fun _ => ⟨w13.heap.size + 1, 0, rfl, by omega, fun r hr => by
    have hr2 : r < 1 := hr
    match r, hr2 with
    | 0, _ => exact ⟨k2.cell 0, _, 1, k2.cell 1, by decide, fun _ => ⟨w13.heap.size, 0, rfl, by omega, fun k hk => by
        have hk2 : k < 1 := hk
        match k, hk2 with
        | 0, _ => exact ⟨k1.cell 0, k1.cell 1⟩⟩⟩⟩
  rw [hw14]
  refine (Valid_any Gr.cycG (some ⟨w13.heap.size + 1, 0, none⟩) 1 1 w14 rfl (by omega) hcy).mono ?_
  rintro e w15 ⟨hb15, c, rfl, hc15⟩
  obtain rfl : c = 92 := hc15.uniq Gr.cyc_code
  have hw15 : Below w12.heap.size w12 w15 := hw13.trans ((hbw14.mono hs13).trans (hb15.mono (by omega)))
  have hs15 := hw15.size
  clear hcy k1 k2 hw14 hbw14 hb15 hc15 hw13 hs13 hs14
  go_wp2_with fail
  obtain ⟨wr, hwr⟩ : ∃ wr, wr = w15 := ⟨_, rfl⟩
  rw [← hwr]
  have hwR : Below w3.heap.size w3 wr := by rw [hwr]; exact hw6.trans ((hw12.mono hs6).trans (hw15.mono (Nat.le_trans hs6 hs12)))
  have hLV := HL.out.keep (W' := wr) fun k hk _ => hwR.block k hk
  have hsR := hwR.size
  obtain ⟨_, _, b', o', vs', hee, hA', _, _, hcl, htr⟩ := hLV
  obtain ⟨hA1, _, hlb'⟩ := hA' (by simp)
  injection hee with hee1 hee2 hee3
  rw [hA1] at hee1
  injection hee1 with hee1
  injection hee1 with hb9 ho9
  subst hb9 ho9
  have t1 := htr 0 (by simp)
  have t2 := htr 1 (by simp)
  obtain ⟨va, hva⟩ : ∃ va, va = vs' 0 := ⟨_, rfl⟩
  obtain ⟨vb, hvb⟩ : ∃ vb, vb = vs' 1 := ⟨_, rfl⟩
  have hca : ∀ q, q < 4 → wr.cell? ⟨lb, lo + q, none⟩ = va.cells[q]? := fun q hq => by rw [hva, ← hcl 0 (by simp) q hq]; rw [show lo + 0 * 4 + q = lo + q from by omega]
  have hcb : ∀ q, q < 4 → wr.cell? ⟨lb, lo + 4 + q, none⟩ = vb.cells[q]? := fun q hq => by rw [hvb, ← hcl 1 (by simp) q hq]
  rw [← hva] at t1
  rw [← hvb] at t2
  obtain ⟨d0, d1, d2, Ad, nd, cd, rfl⟩ := tv_form t1
  obtain ⟨e0, e1, e2, Ae, ne, ce, rfl⟩ := tv_form t2
  have hd0 : wr.cell? ⟨lb, lo, none⟩ = some (.int .i64 d0) := hca 0 (by omega)
  have hd1 : wr.cell? ⟨lb, lo + 1, none⟩ = some (.int .i64 d1) := hca 1 (by omega)
  have hd2 : wr.cell? ⟨lb, lo + 2, none⟩ = some (.int .i64 d2) := hca 2 (by omega)
  have hd3 : wr.cell? ⟨lb, lo + 3, none⟩ = some (.slice Ad nd cd) := hca 3 (by omega)
  have he0 : wr.cell? ⟨lb, lo + 4, none⟩ = some (.int .i64 e0) := hcb 0 (by omega)
  have he1 : wr.cell? ⟨lb, lo + 5, none⟩ = some (.int .i64 e1) := hcb 1 (by omega)
  have he2 : wr.cell? ⟨lb, lo + 6, none⟩ = some (.int .i64 e2) := hcb 2 (by omega)
  have he3 : wr.cell? ⟨lb, lo + 7, none⟩ = some (.slice Ae ne ce) := hcb 3 (by omega)
  have llb : lb < wr.heap.size := hlb'
  have T1 : Hid (Kt.TV wr (fun _ => False) Gr.treeA (.agg #[.int .i64 d0, .int .i64 d1, .int .i64 d2, .slice Ad nd cd])) := Lib.hid t1
  have T2 : Hid (Kt.TV wr (fun _ => False) Gr.treeB (.agg #[.int .i64 e0, .int .i64 e1, .int .i64 e2, .slice Ae ne ce])) := Lib.hid t2
  clear hva hvb hca hcb t1 t2 hcl htr hA' hwr
  refine Kt.region_inv2 (Kt.RxI (awkP _ wr lb lo lc d0 d1 d2 Ad nd cd e0 e1 e2 Ae ne ce)) (by kernel_rfl) (Kt.RxI.start trivial) ?hstep ?hdone
  case hstep =>
    intro listed act w2 q o hI ho hn hpre
    have ok := awk_ok hI
    rcases q with _ | _ | _ | _ | _ | _ | _ | _ | _ | _ | _ | _ | _ | _ | _ | _ | _ | _ | _ | _ | _ | _ | _ | _ | _ | _ | _ | _ | _ | _ | _ | _ | _ | _ | _ | q
    · cases Option.some.inj ho
      refine Kt.no_guard rfl ?_
      refine Kt.op_move rfl ?_
      rw [show act.eval (.tmp 3) = .slice (some ⟨lb, lo, none⟩) 2 lc from hI.frame.val_out (s := 3) (show 3 ∉ awkS by decide)]
      exact hI.put ok (j := 0) (Nat.le_of_ble_eq_true rfl) rfl (show (79 : Nat) ∈ awkS by decide) (Nat.le_of_ble_eq_true rfl) (Kt.Kp.refl _ _) rfl hI.st
    · cases Option.some.inj ho
      refine Kt.no_guard rfl ?_
      have e0 : act.tmps[79]?.getD undef = .slice (some ⟨lb, lo, none⟩) 2 lc := hI.eq (j := 0) (Nat.le_of_ble_eq_true rfl) rfl (fun _ _ h => h) (hpre ⟨0, .data⟩ (by simp) rfl)
      have hk := hI.put ok (j := 1) (s := 80) (v := .pointer (some ⟨lb, lo, none⟩)) (w' := w2) (Nat.le_of_ble_eq_true rfl) rfl (show (80 : Nat) ∈ awkS by decide) (Nat.le_of_ble_eq_true rfl) (Kt.Kp.refl _ _) rfl hI.st
      refine Kt.op_opq hk ?_
      clear hk
      intro KK hkk
      unfold Oper.wp
      go_simp
      exact hkk
    · cases Option.some.inj ho
      refine Kt.no_guard rfl ?_
      have e1 : act.tmps[80]?.getD undef = .pointer (some ⟨lb, lo, none⟩) := hI.eq (j := 1) (Nat.le_of_ble_eq_true rfl) rfl (fun _ _ h => h) (hpre ⟨1, .data⟩ (by simp) rfl)
      have c0 : w2.cell? ⟨lb, lo, none⟩ = some (.int .i64 d0) := hI.cell llb (fun h => h) hd0
      have c1 : w2.cell? ⟨lb, lo + 1, none⟩ = some (.int .i64 d1) := hI.cell llb (fun h => h) hd1
      have c2 : w2.cell? ⟨lb, lo + 2, none⟩ = some (.int .i64 d2) := hI.cell llb (fun h => h) hd2
      have c3 : w2.cell? ⟨lb, lo + 3, none⟩ = some (.slice Ad nd cd) := hI.cell llb (fun h => h) hd3
      have hk := hI.put ok (j := 2) (s := 81) (v := .agg #[.int .i64 d0, .int .i64 d1, .int .i64 d2, .slice Ad nd cd]) (w' := w2) (Nat.le_of_ble_eq_true rfl) rfl (show (81 : Nat) ∈ awkS by decide) (Nat.le_of_ble_eq_true rfl) (Kt.Kp.refl _ _) rfl hI.st
      refine Kt.op_opq hk ?_
      clear hk
      intro KK hkk
      unfold Oper.wp
      go_simp
      exact hkk
    · cases Option.some.inj ho
      refine Kt.no_guard rfl ?_
      refine Kt.op_move rfl ?_
      rw [show act.eval (.tmp 2) = .func (.func 38) #[] #[] from hI.frame.val_out (s := 2) (show 2 ∉ awkS by decide)]
      exact hI.put ok (j := 3) (Nat.le_of_ble_eq_true rfl) rfl (show (82 : Nat) ∈ awkS by decide) (Nat.le_of_ble_eq_true rfl) (Kt.Kp.refl _ _) rfl hI.st
    · cases Option.some.inj ho
      refine Kt.no_guard rfl ?_
      refine Kt.op_move rfl ?_
      rw [show act.eval (.tmp 1) = .func (.func 37) #[] #[] from hI.frame.val_out (s := 1) (show 1 ∉ awkS by decide)]
      exact hI.put ok (j := 4) (Nat.le_of_ble_eq_true rfl) rfl (show (83 : Nat) ∈ awkS by decide) (Nat.le_of_ble_eq_true rfl) (Kt.Kp.refl _ _) rfl hI.st
    · cases Option.some.inj ho
      refine Kt.no_guard rfl ?_
      have e4 : act.tmps[83]?.getD undef = .func (.func 37) #[] #[] := hI.eq (j := 4) (Nat.le_of_ble_eq_true rfl) rfl (fun _ _ h => h) (hpre ⟨4, .data⟩ (by simp) rfl)
      refine Kt.op_opc (s := 84) (fun v w3 => Kt.TV w3 (fun _ => False) (Gr.leafT 0) v ∧ Below w2.heap.size w2 w3) ?_ ?_
      · intro KK hkk
        unfold Oper.wp
        go_simp
        refine (leaf_any 0 (by omega) w2).mono ?_
        rintro e w3 ⟨v, rfl, hT, hb3⟩
        exact hkk _ _ ⟨hT, hb3⟩
      rintro v3 w3 ⟨hT, hb3⟩
      exact hI.put ok (j := 5) (s := 84) (v := v3) (w' := w3) (Nat.le_of_ble_eq_true rfl) rfl (show (84 : Nat) ∈ awkS by decide) (Nat.le_of_ble_eq_true rfl) (Kt.Kp.below _ hb3) hT trivial
    · cases Option.some.inj ho
      refine Kt.no_guard rfl ?_
      refine Kt.op_move rfl ?_
      rw [show act.eval (.tmp 2) = .func (.func 38) #[] #[] from hI.frame.val_out (s := 2) (show 2 ∉ awkS by decide)]
      exact hI.put ok (j := 6) (Nat.le_of_ble_eq_true rfl) rfl (show (85 : Nat) ∈ awkS by decide) (Nat.le_of_ble_eq_true rfl) (Kt.Kp.refl _ _) rfl hI.st
    · cases Option.some.inj ho
      refine Kt.no_guard rfl ?_
      refine Kt.op_move rfl ?_
      rw [show act.eval (.tmp 1) = .func (.func 37) #[] #[] from hI.frame.val_out (s := 1) (show 1 ∉ awkS by decide)]
      exact hI.put ok (j := 7) (Nat.le_of_ble_eq_true rfl) rfl (show (86 : Nat) ∈ awkS by decide) (Nat.le_of_ble_eq_true rfl) (Kt.Kp.refl _ _) rfl hI.st
    · cases Option.some.inj ho
      refine Kt.no_guard rfl ?_
      have e7 : act.tmps[86]?.getD undef = .func (.func 37) #[] #[] := hI.eq (j := 7) (Nat.le_of_ble_eq_true rfl) rfl (fun _ _ h => h) (hpre ⟨7, .data⟩ (by simp) rfl)
      refine Kt.op_opc (s := 87) (fun v w3 => Kt.TV w3 (fun _ => False) (Gr.leafT 1) v ∧ Below w2.heap.size w2 w3) ?_ ?_
      · intro KK hkk
        unfold Oper.wp
        go_simp
        refine (leaf_any 1 (by omega) w2).mono ?_
        rintro e w3 ⟨v, rfl, hT, hb3⟩
        exact hkk _ _ ⟨hT, hb3⟩
      rintro v3 w3 ⟨hT, hb3⟩
      exact hI.put ok (j := 8) (s := 87) (v := v3) (w' := w3) (Nat.le_of_ble_eq_true rfl) rfl (show (87 : Nat) ∈ awkS by decide) (Nat.le_of_ble_eq_true rfl) (Kt.Kp.below _ hb3) hT trivial
    · cases Option.some.inj ho
      refine Kt.no_guard rfl ?_
      refine Kt.op_move rfl ?_
      rw [show act.eval (.tmp 1) = .func (.func 37) #[] #[] from hI.frame.val_out (s := 1) (show 1 ∉ awkS by decide)]
      exact hI.put ok (j := 9) (Nat.le_of_ble_eq_true rfl) rfl (show (88 : Nat) ∈ awkS by decide) (Nat.le_of_ble_eq_true rfl) (Kt.Kp.refl _ _) rfl hI.st
    · cases Option.some.inj ho
      refine Kt.no_guard rfl ?_
      have e9 : act.tmps[88]?.getD undef = .func (.func 37) #[] #[] := hI.eq (j := 9) (Nat.le_of_ble_eq_true rfl) rfl (fun _ _ h => h) (hpre ⟨9, .data⟩ (by simp) rfl)
      refine Kt.op_opc (s := 89) (fun v w3 => Kt.TV w3 (fun _ => False) (Gr.leafT 2) v ∧ Below w2.heap.size w2 w3) ?_ ?_
      · intro KK hkk
        unfold Oper.wp
        go_simp
        refine (leaf_any 2 (by omega) w2).mono ?_
        rintro e w3 ⟨v, rfl, hT, hb3⟩
        exact hkk _ _ ⟨hT, hb3⟩
      rintro v3 w3 ⟨hT, hb3⟩
      exact hI.put ok (j := 10) (s := 89) (v := v3) (w' := w3) (Nat.le_of_ble_eq_true rfl) rfl (show (89 : Nat) ∈ awkS by decide) (Nat.le_of_ble_eq_true rfl) (Kt.Kp.below _ hb3) hT trivial
    · cases Option.some.inj ho
      refine Kt.no_guard rfl ?_
      have e6 : act.tmps[85]?.getD undef = .func (.func 38) #[] #[] := hI.eq (j := 6) (Nat.le_of_ble_eq_true rfl) rfl (fun _ _ h => h) (hpre ⟨6, .data⟩ (by simp) rfl)
      have r8 := hI.get (j := 8) (s := 87) (Nat.le_of_ble_eq_true rfl) rfl (hpre ⟨8, .data⟩ (by simp) rfl)
      have r10 := hI.get (j := 10) (s := 89) (Nat.le_of_ble_eq_true rfl) rfl (hpre ⟨10, .data⟩ (by simp) rfl)
      obtain ⟨v8, e8⟩ : ∃ v, act.tmps[87]?.getD undef = v := ⟨_, rfl⟩
      rw [e8] at r8
      obtain ⟨v10, e10⟩ : ∃ v, act.tmps[89]?.getD undef = v := ⟨_, rfl⟩
      rw [e10] at r10
      refine Kt.op_opc (s := 90) (fun v w3 => Kt.TV w3 (fun _ => False) (.node 0 1 3 [Gr.leafT 1, Gr.leafT 2]) v ∧ Below w2.heap.size w2 w3) ?_ ?_
      · intro KK hkk
        unfold Oper.wp
        go_simp
        refine (two_any 1 1 2 1 2 3 [] [] _ _ w2 r8 r10).mono ?_
        rintro e w3 ⟨v, rfl, hT, hb3⟩
        exact hkk _ _ ⟨hT, hb3⟩
      rintro v3 w3 ⟨hT, hb3⟩
      exact hI.put ok (j := 11) (s := 90) (v := v3) (w' := w3) (Nat.le_of_ble_eq_true rfl) rfl (show (90 : Nat) ∈ awkS by decide) (Nat.le_of_ble_eq_true rfl) (Kt.Kp.below _ hb3) hT trivial
    · cases Option.some.inj ho
      refine Kt.no_guard rfl ?_
      have e3 : act.tmps[82]?.getD undef = .func (.func 38) #[] #[] := hI.eq (j := 3) (Nat.le_of_ble_eq_true rfl) rfl (fun _ _ h => h) (hpre ⟨3, .data⟩ (by simp) rfl)
      have r5 := hI.get (j := 5) (s := 84) (Nat.le_of_ble_eq_true rfl) rfl (hpre ⟨5, .data⟩ (by simp) rfl)
      have r11 := hI.get (j := 11) (s := 90) (Nat.le_of_ble_eq_true rfl) rfl (hpre ⟨11, .data⟩ (by simp) rfl)
      obtain ⟨v5, e5⟩ : ∃ v, act.tmps[84]?.getD undef = v := ⟨_, rfl⟩
      rw [e5] at r5
      obtain ⟨v11, e11⟩ : ∃ v, act.tmps[90]?.getD undef = v := ⟨_, rfl⟩
      rw [e11] at r11
      refine Kt.op_opc (s := 91) (fun v w3 => Kt.TV w3 (fun _ => False) (Gr.treeA) v ∧ Below w2.heap.size w2 w3) ?_ ?_
      · intro KK hkk
        unfold Oper.wp
        go_simp
        refine (two_any 1 0 1 0 1 3 [] [Gr.leafT 1, Gr.leafT 2] _ _ w2 r5 r11).mono ?_
        rintro e w3 ⟨v, rfl, hT, hb3⟩
        exact hkk _ _ ⟨hT, hb3⟩
      rintro v3 w3 ⟨hT, hb3⟩
      exact hI.put ok (j := 12) (s := 91) (v := v3) (w' := w3) (Nat.le_of_ble_eq_true rfl) rfl (show (91 : Nat) ∈ awkS by decide) (Nat.le_of_ble_eq_true rfl) (Kt.Kp.below _ hb3) hT trivial
    · cases Option.some.inj ho
      refine Kt.no_guard rfl ?_
      have e2 : act.tmps[81]?.getD undef = .agg #[.int .i64 d0, .int .i64 d1, .int .i64 d2, .slice Ad nd cd] := hI.eq (j := 2) (Nat.le_of_ble_eq_true rfl) rfl (fun _ _ h => h) (hpre ⟨2, .data⟩ (by simp) rfl)
      have r12 := hI.get (j := 12) (s := 91) (Nat.le_of_ble_eq_true rfl) rfl (hpre ⟨12, .data⟩ (by simp) rfl)
      obtain ⟨v12, e12⟩ : ∃ v, act.tmps[91]?.getD undef = v := ⟨_, rfl⟩
      rw [e12] at r12
      have hbw : Below wr.heap.size wr w2 := hI.kept.to_below (Nat.le_refl _) (fun _ _ h => h)
      refine Kt.op_opc (s := 92) (fun v w3 => v = .bool true ∧ Below w2.heap.size w2 w3) ?_ ?_
      · intro KK hkk
        unfold Oper.wp
        go_simp
        refine (same_any Gr.treeA _ _ _ _ w2 (T1.out.keep fun q hq _ => hbw.block q hq) r12).mono ?_
        rintro e w3 ⟨rfl, hb3⟩
        exact hkk _ _ ⟨rfl, hb3⟩
      rintro v3 w3 ⟨rfl, hb3⟩
      exact hI.put ok (j := 13) (s := 92) (v := .bool true) (w' := w3) (Nat.le_of_ble_eq_true rfl) rfl (show (92 : Nat) ∈ awkS by decide) (Nat.le_of_ble_eq_true rfl) (Kt.Kp.below _ hb3) rfl trivial
    · cases Option.some.inj ho
      refine Kt.no_guard rfl ?_
      have e13 : act.tmps[92]?.getD undef = .bool true := hI.eq (j := 13) (Nat.le_of_ble_eq_true rfl) rfl (fun _ _ h => h) (hpre ⟨13, .data⟩ (by simp) rfl)
      refine Kt.op_move rfl ?_
      rw [show act.eval (.tmp 92) = .bool true from (Kt.val_get act 92).trans e13]
      exact hI.put ok (j := 14) (Nat.le_of_ble_eq_true rfl) rfl (show (93 : Nat) ∈ awkS by decide) (Nat.le_of_ble_eq_true rfl) (Kt.Kp.refl _ _) rfl hI.st
    · cases Option.some.inj ho
      have eg : act.tmps[93]?.getD undef = .bool true := hI.eq (j := 14) (Nat.le_of_ble_eq_true rfl) rfl (fun _ _ h => h) (hpre ⟨14, .guard⟩ (by simp) rfl)
      refine Kt.yes_guard rfl rfl rfl eg rfl ?_
      refine Kt.op_move rfl ?_
      rw [show act.eval (.tmp 3) = .slice (some ⟨lb, lo, none⟩) 2 lc from hI.frame.val_out (s := 3) (show 3 ∉ awkS by decide)]
      exact hI.put ok (j := 15) (Nat.le_of_ble_eq_true rfl) rfl (show (94 : Nat) ∈ awkS by decide) (Nat.le_of_ble_eq_true rfl) (Kt.Kp.refl _ _) rfl hI.st
    · cases Option.some.inj ho
      have eg : act.tmps[93]?.getD undef = .bool true := hI.eq (j := 14) (Nat.le_of_ble_eq_true rfl) rfl (fun _ _ h => h) (hpre ⟨14, .guard⟩ (by simp) rfl)
      refine Kt.yes_guard rfl rfl rfl eg rfl ?_
      have e15 : act.tmps[94]?.getD undef = .slice (some ⟨lb, lo, none⟩) 2 lc := hI.eq (j := 15) (Nat.le_of_ble_eq_true rfl) rfl (fun _ _ h => h) (hpre ⟨15, .data⟩ (by simp) rfl)
      have hk := hI.put ok (j := 16) (s := 95) (v := .pointer (some ⟨lb, lo + 4, none⟩)) (w' := w2) (Nat.le_of_ble_eq_true rfl) rfl (show (95 : Nat) ∈ awkS by decide) (Nat.le_of_ble_eq_true rfl) (Kt.Kp.refl _ _) rfl hI.st
      refine Kt.op_opq hk ?_
      clear hk
      intro KK hkk
      unfold Oper.wp
      go_simp
      exact hkk
    · cases Option.some.inj ho
      have eg : act.tmps[93]?.getD undef = .bool true := hI.eq (j := 14) (Nat.le_of_ble_eq_true rfl) rfl (fun _ _ h => h) (hpre ⟨14, .guard⟩ (by simp) rfl)
      refine Kt.yes_guard rfl rfl rfl eg rfl ?_
      have e16 : act.tmps[95]?.getD undef = .pointer (some ⟨lb, lo + 4, none⟩) := hI.eq (j := 16) (Nat.le_of_ble_eq_true rfl) rfl (fun _ _ h => h) (hpre ⟨16, .data⟩ (by simp) rfl)
      have c0 : w2.cell? ⟨lb, lo + 4, none⟩ = some (.int .i64 e0) := hI.cell llb (fun h => h) he0
      have c1 : w2.cell? ⟨lb, lo + 5, none⟩ = some (.int .i64 e1) := hI.cell llb (fun h => h) he1
      have c2 : w2.cell? ⟨lb, lo + 6, none⟩ = some (.int .i64 e2) := hI.cell llb (fun h => h) he2
      have c3 : w2.cell? ⟨lb, lo + 7, none⟩ = some (.slice Ae ne ce) := hI.cell llb (fun h => h) he3
      have hk := hI.put ok (j := 17) (s := 96) (v := .agg #[.int .i64 e0, .int .i64 e1, .int .i64 e2, .slice Ae ne ce]) (w' := w2) (Nat.le_of_ble_eq_true rfl) rfl (show (96 : Nat) ∈ awkS by decide) (Nat.le_of_ble_eq_true rfl) (Kt.Kp.refl _ _) rfl hI.st
      refine Kt.op_opq hk ?_
      clear hk
      intro KK hkk
      unfold Oper.wp
      go_simp
      exact hkk
    · cases Option.some.inj ho
      have eg : act.tmps[93]?.getD undef = .bool true := hI.eq (j := 14) (Nat.le_of_ble_eq_true rfl) rfl (fun _ _ h => h) (hpre ⟨14, .guard⟩ (by simp) rfl)
      refine Kt.yes_guard rfl rfl rfl eg rfl ?_
      refine Kt.op_move rfl ?_
      rw [show act.eval (.tmp 2) = .func (.func 38) #[] #[] from hI.frame.val_out (s := 2) (show 2 ∉ awkS by decide)]
      exact hI.put ok (j := 18) (Nat.le_of_ble_eq_true rfl) rfl (show (97 : Nat) ∈ awkS by decide) (Nat.le_of_ble_eq_true rfl) (Kt.Kp.refl _ _) rfl hI.st
    · cases Option.some.inj ho
      have eg : act.tmps[93]?.getD undef = .bool true := hI.eq (j := 14) (Nat.le_of_ble_eq_true rfl) rfl (fun _ _ h => h) (hpre ⟨14, .guard⟩ (by simp) rfl)
      refine Kt.yes_guard rfl rfl rfl eg rfl ?_
      refine Kt.op_move rfl ?_
      rw [show act.eval (.tmp 2) = .func (.func 38) #[] #[] from hI.frame.val_out (s := 2) (show 2 ∉ awkS by decide)]
      exact hI.put ok (j := 19) (Nat.le_of_ble_eq_true rfl) rfl (show (98 : Nat) ∈ awkS by decide) (Nat.le_of_ble_eq_true rfl) (Kt.Kp.refl _ _) rfl hI.st
    · cases Option.some.inj ho
      have eg : act.tmps[93]?.getD undef = .bool true := hI.eq (j := 14) (Nat.le_of_ble_eq_true rfl) rfl (fun _ _ h => h) (hpre ⟨14, .guard⟩ (by simp) rfl)
      refine Kt.yes_guard rfl rfl rfl eg rfl ?_
      refine Kt.op_move rfl ?_
      rw [show act.eval (.tmp 1) = .func (.func 37) #[] #[] from hI.frame.val_out (s := 1) (show 1 ∉ awkS by decide)]
      exact hI.put ok (j := 20) (Nat.le_of_ble_eq_true rfl) rfl (show (99 : Nat) ∈ awkS by decide) (Nat.le_of_ble_eq_true rfl) (Kt.Kp.refl _ _) rfl hI.st
    · cases Option.some.inj ho
      have eg : act.tmps[93]?.getD undef = .bool true := hI.eq (j := 14) (Nat.le_of_ble_eq_true rfl) rfl (fun _ _ h => h) (hpre ⟨14, .guard⟩ (by simp) rfl)
      refine Kt.yes_guard rfl rfl rfl eg rfl ?_
      have e20 : act.tmps[99]?.getD undef = .func (.func 37) #[] #[] := hI.eq (j := 20) (Nat.le_of_ble_eq_true rfl) rfl (fun _ _ h => h) (hpre ⟨20, .data⟩ (by simp) rfl)
      refine Kt.op_opc (s := 100) (fun v w3 => Kt.TV w3 (fun _ => False) (Gr.leafT 0) v ∧ Below w2.heap.size w2 w3) ?_ ?_
      · intro KK hkk
        unfold Oper.wp
        go_simp
        refine (leaf_any 0 (by omega) w2).mono ?_
        rintro e w3 ⟨v, rfl, hT, hb3⟩
        exact hkk _ _ ⟨hT, hb3⟩
      rintro v3 w3 ⟨hT, hb3⟩
      exact hI.put ok (j := 21) (s := 100) (v := v3) (w' := w3) (Nat.le_of_ble_eq_true rfl) rfl (show (100 : Nat) ∈ awkS by decide) (Nat.le_of_ble_eq_true rfl) (Kt.Kp.below _ hb3) hT trivial
    · cases Option.some.inj ho
      have eg : act.tmps[93]?.getD undef = .bool true := hI.eq (j := 14) (Nat.le_of_ble_eq_true rfl) rfl (fun _ _ h => h) (hpre ⟨14, .guard⟩ (by simp) rfl)
      refine Kt.yes_guard rfl rfl rfl eg rfl ?_
      refine Kt.op_move rfl ?_
      rw [show act.eval (.tmp 1) = .func (.func 37) #[] #[] from hI.frame.val_out (s := 1) (show 1 ∉ awkS by decide)]
      exact hI.put ok (j := 22) (Nat.le_of_ble_eq_true rfl) rfl (show (101 : Nat) ∈ awkS by decide) (Nat.le_of_ble_eq_true rfl) (Kt.Kp.refl _ _) rfl hI.st
    · cases Option.some.inj ho
      have eg : act.tmps[93]?.getD undef = .bool true := hI.eq (j := 14) (Nat.le_of_ble_eq_true rfl) rfl (fun _ _ h => h) (hpre ⟨14, .guard⟩ (by simp) rfl)
      refine Kt.yes_guard rfl rfl rfl eg rfl ?_
      have e22 : act.tmps[101]?.getD undef = .func (.func 37) #[] #[] := hI.eq (j := 22) (Nat.le_of_ble_eq_true rfl) rfl (fun _ _ h => h) (hpre ⟨22, .data⟩ (by simp) rfl)
      refine Kt.op_opc (s := 102) (fun v w3 => Kt.TV w3 (fun _ => False) (Gr.leafT 1) v ∧ Below w2.heap.size w2 w3) ?_ ?_
      · intro KK hkk
        unfold Oper.wp
        go_simp
        refine (leaf_any 1 (by omega) w2).mono ?_
        rintro e w3 ⟨v, rfl, hT, hb3⟩
        exact hkk _ _ ⟨hT, hb3⟩
      rintro v3 w3 ⟨hT, hb3⟩
      exact hI.put ok (j := 23) (s := 102) (v := v3) (w' := w3) (Nat.le_of_ble_eq_true rfl) rfl (show (102 : Nat) ∈ awkS by decide) (Nat.le_of_ble_eq_true rfl) (Kt.Kp.below _ hb3) hT trivial
    · cases Option.some.inj ho
      have eg : act.tmps[93]?.getD undef = .bool true := hI.eq (j := 14) (Nat.le_of_ble_eq_true rfl) rfl (fun _ _ h => h) (hpre ⟨14, .guard⟩ (by simp) rfl)
      refine Kt.yes_guard rfl rfl rfl eg rfl ?_
      have e19 : act.tmps[98]?.getD undef = .func (.func 38) #[] #[] := hI.eq (j := 19) (Nat.le_of_ble_eq_true rfl) rfl (fun _ _ h => h) (hpre ⟨19, .data⟩ (by simp) rfl)
      have r21 := hI.get (j := 21) (s := 100) (Nat.le_of_ble_eq_true rfl) rfl (hpre ⟨21, .data⟩ (by simp) rfl)
      have r23 := hI.get (j := 23) (s := 102) (Nat.le_of_ble_eq_true rfl) rfl (hpre ⟨23, .data⟩ (by simp) rfl)
      obtain ⟨v21, e21⟩ : ∃ v, act.tmps[100]?.getD undef = v := ⟨_, rfl⟩
      rw [e21] at r21
      obtain ⟨v23, e23⟩ : ∃ v, act.tmps[102]?.getD undef = v := ⟨_, rfl⟩
      rw [e23] at r23
      refine Kt.op_opc (s := 103) (fun v w3 => Kt.TV w3 (fun _ => False) (.node 0 0 2 [Gr.leafT 0, Gr.leafT 1]) v ∧ Below w2.heap.size w2 w3) ?_ ?_
      · intro KK hkk
        unfold Oper.wp
        go_simp
        refine (two_any 1 0 1 1 1 2 [] [] _ _ w2 r21 r23).mono ?_
        rintro e w3 ⟨v, rfl, hT, hb3⟩
        exact hkk _ _ ⟨hT, hb3⟩
      rintro v3 w3 ⟨hT, hb3⟩
      exact hI.put ok (j := 24) (s := 103) (v := v3) (w' := w3) (Nat.le_of_ble_eq_true rfl) rfl (show (103 : Nat) ∈ awkS by decide) (Nat.le_of_ble_eq_true rfl) (Kt.Kp.below _ hb3) hT trivial
    · cases Option.some.inj ho
      have eg : act.tmps[93]?.getD undef = .bool true := hI.eq (j := 14) (Nat.le_of_ble_eq_true rfl) rfl (fun _ _ h => h) (hpre ⟨14, .guard⟩ (by simp) rfl)
      refine Kt.yes_guard rfl rfl rfl eg rfl ?_
      refine Kt.op_move rfl ?_
      rw [show act.eval (.tmp 1) = .func (.func 37) #[] #[] from hI.frame.val_out (s := 1) (show 1 ∉ awkS by decide)]
      exact hI.put ok (j := 25) (Nat.le_of_ble_eq_true rfl) rfl (show (104 : Nat) ∈ awkS by decide) (Nat.le_of_ble_eq_true rfl) (Kt.Kp.refl _ _) rfl hI.st
    · cases Option.some.inj ho
      have eg : act.tmps[93]?.getD undef = .bool true := hI.eq (j := 14) (Nat.le_of_ble_eq_true rfl) rfl (fun _ _ h => h) (hpre ⟨14, .guard⟩ (by simp) rfl)
      refine Kt.yes_guard rfl rfl rfl eg rfl ?_
      have e25 : act.tmps[104]?.getD undef = .func (.func 37) #[] #[] := hI.eq (j := 25) (Nat.le_of_ble_eq_true rfl) rfl (fun _ _ h => h) (hpre ⟨25, .data⟩ (by simp) rfl)
      refine Kt.op_opc (s := 105) (fun v w3 => Kt.TV w3 (fun _ => False) (Gr.leafT 2) v ∧ Below w2.heap.size w2 w3) ?_ ?_
      · intro KK hkk
        unfold Oper.wp
        go_simp
        refine (leaf_any 2 (by omega) w2).mono ?_
        rintro e w3 ⟨v, rfl, hT, hb3⟩
        exact hkk _ _ ⟨hT, hb3⟩
      rintro v3 w3 ⟨hT, hb3⟩
      exact hI.put ok (j := 26) (s := 105) (v := v3) (w' := w3) (Nat.le_of_ble_eq_true rfl) rfl (show (105 : Nat) ∈ awkS by decide) (Nat.le_of_ble_eq_true rfl) (Kt.Kp.below _ hb3) hT trivial
    · cases Option.some.inj ho
      have eg : act.tmps[93]?.getD undef = .bool true := hI.eq (j := 14) (Nat.le_of_ble_eq_true rfl) rfl (fun _ _ h => h) (hpre ⟨14, .guard⟩ (by simp) rfl)
      refine Kt.yes_guard rfl rfl rfl eg rfl ?_
      have e18 : act.tmps[97]?.getD undef = .func (.func 38) #[] #[] := hI.eq (j := 18) (Nat.le_of_ble_eq_true rfl) rfl (fun _ _ h => h) (hpre ⟨18, .data⟩ (by simp) rfl)
      have r24 := hI.get (j := 24) (s := 103) (Nat.le_of_ble_eq_true rfl) rfl (hpre ⟨24, .data⟩ (by simp) rfl)
      have r26 := hI.get (j := 26) (s := 105) (Nat.le_of_ble_eq_true rfl) rfl (hpre ⟨26, .data⟩ (by simp) rfl)
      obtain ⟨v24, e24⟩ : ∃ v, act.tmps[103]?.getD undef = v := ⟨_, rfl⟩
      rw [e24] at r24
      obtain ⟨v26, e26⟩ : ∃ v, act.tmps[105]?.getD undef = v := ⟨_, rfl⟩
      rw [e26] at r26
      refine Kt.op_opc (s := 106) (fun v w3 => Kt.TV w3 (fun _ => False) (Gr.treeB) v ∧ Below w2.heap.size w2 w3) ?_ ?_
      · intro KK hkk
        unfold Oper.wp
        go_simp
        refine (two_any 0 0 2 1 2 3 [Gr.leafT 0, Gr.leafT 1] [] _ _ w2 r24 r26).mono ?_
        rintro e w3 ⟨v, rfl, hT, hb3⟩
        exact hkk _ _ ⟨hT, hb3⟩
      rintro v3 w3 ⟨hT, hb3⟩
      exact hI.put ok (j := 27) (s := 106) (v := v3) (w' := w3) (Nat.le_of_ble_eq_true rfl) rfl (show (106 : Nat) ∈ awkS by decide) (Nat.le_of_ble_eq_true rfl) (Kt.Kp.below _ hb3) hT trivial
    · cases Option.some.inj ho
      have eg : act.tmps[93]?.getD undef = .bool true := hI.eq (j := 14) (Nat.le_of_ble_eq_true rfl) rfl (fun _ _ h => h) (hpre ⟨14, .guard⟩ (by simp) rfl)
      refine Kt.yes_guard rfl rfl rfl eg rfl ?_
      have e17 : act.tmps[96]?.getD undef = .agg #[.int .i64 e0, .int .i64 e1, .int .i64 e2, .slice Ae ne ce] := hI.eq (j := 17) (Nat.le_of_ble_eq_true rfl) rfl (fun _ _ h => h) (hpre ⟨17, .data⟩ (by simp) rfl)
      have r27 := hI.get (j := 27) (s := 106) (Nat.le_of_ble_eq_true rfl) rfl (hpre ⟨27, .data⟩ (by simp) rfl)
      obtain ⟨v27, e27⟩ : ∃ v, act.tmps[106]?.getD undef = v := ⟨_, rfl⟩
      rw [e27] at r27
      have hbw : Below wr.heap.size wr w2 := hI.kept.to_below (Nat.le_refl _) (fun _ _ h => h)
      refine Kt.op_opc (s := 107) (fun v w3 => v = .bool true ∧ Below w2.heap.size w2 w3) ?_ ?_
      · intro KK hkk
        unfold Oper.wp
        go_simp
        refine (same_any Gr.treeB _ _ _ _ w2 (T2.out.keep fun q hq _ => hbw.block q hq) r27).mono ?_
        rintro e w3 ⟨rfl, hb3⟩
        exact hkk _ _ ⟨rfl, hb3⟩
      rintro v3 w3 ⟨rfl, hb3⟩
      exact hI.put ok (j := 28) (s := 107) (v := .bool true) (w' := w3) (Nat.le_of_ble_eq_true rfl) rfl (show (107 : Nat) ∈ awkS by decide) (Nat.le_of_ble_eq_true rfl) (Kt.Kp.below _ hb3) rfl trivial
    · cases Option.some.inj ho
      refine Kt.no_guard rfl ?_
      have e14 : act.tmps[93]?.getD undef = .bool true := hI.eq (j := 14) (Nat.le_of_ble_eq_true rfl) rfl (fun _ _ h => h) (hpre ⟨14, .data⟩ (by simp) rfl)
      have e28 : act.tmps[107]?.getD undef = .bool true := hI.eq (j := 28) (Nat.le_of_ble_eq_true rfl) rfl (fun _ _ h => h) (hpre ⟨28, .data⟩ (by simp) rfl)
      have hk := hI.put ok (j := 29) (s := 108) (v := .bool true) (w' := w2) (Nat.le_of_ble_eq_true rfl) rfl (show (108 : Nat) ∈ awkS by decide) (Nat.le_of_ble_eq_true rfl) (Kt.Kp.refl _ _) rfl hI.st
      refine Kt.op_opq hk ?_
      clear hk
      intro KK hkk
      unfold Oper.wp
      go_simp
      exact hkk
    · cases Option.some.inj ho
      refine Kt.no_guard rfl ?_
      have e29 : act.tmps[108]?.getD undef = .bool true := hI.eq (j := 29) (Nat.le_of_ble_eq_true rfl) rfl (fun _ _ h => h) (hpre ⟨29, .data⟩ (by simp) rfl)
      refine Kt.op_move rfl ?_
      rw [show act.eval (.tmp 108) = .bool true from (Kt.val_get act 108).trans e29]
      exact hI.put ok (j := 30) (Nat.le_of_ble_eq_true rfl) rfl (show (109 : Nat) ∈ awkS by decide) (Nat.le_of_ble_eq_true rfl) (Kt.Kp.refl _ _) rfl hI.st
    · cases Option.some.inj ho
      have eg : act.tmps[109]?.getD undef = .bool true := hI.eq (j := 30) (Nat.le_of_ble_eq_true rfl) rfl (fun _ _ h => h) (hpre ⟨30, .guard⟩ (by simp) rfl)
      refine Kt.yes_guard rfl rfl rfl eg rfl ?_
      refine Kt.op_move rfl ?_
      rw [show act.eval (.tmp 13) = .int .i64 92 from hI.frame.val_out (s := 13) (show 13 ∉ awkS by decide)]
      exact hI.put ok (j := 31) (Nat.le_of_ble_eq_true rfl) rfl (show (110 : Nat) ∈ awkS by decide) (Nat.le_of_ble_eq_true rfl) (Kt.Kp.refl _ _) rfl hI.st
    · cases Option.some.inj ho
      have eg : act.tmps[109]?.getD undef = .bool true := hI.eq (j := 30) (Nat.le_of_ble_eq_true rfl) rfl (fun _ _ h => h) (hpre ⟨30, .guard⟩ (by simp) rfl)
      refine Kt.yes_guard rfl rfl rfl eg rfl ?_
      have e31 : act.tmps[110]?.getD undef = .int .i64 92 := hI.eq (j := 31) (Nat.le_of_ble_eq_true rfl) rfl (fun _ _ h => h) (hpre ⟨31, .data⟩ (by simp) rfl)
      have hk := hI.put ok (j := 32) (s := 111) (v := .bool true) (w' := w2) (Nat.le_of_ble_eq_true rfl) rfl (show (111 : Nat) ∈ awkS by decide) (Nat.le_of_ble_eq_true rfl) (Kt.Kp.refl _ _) rfl hI.st
      refine Kt.op_opq hk ?_
      clear hk
      intro KK hkk
      unfold Oper.wp
      go_simp
      exact hkk
    · cases Option.some.inj ho
      refine Kt.no_guard rfl ?_
      have e30 : act.tmps[109]?.getD undef = .bool true := hI.eq (j := 30) (Nat.le_of_ble_eq_true rfl) rfl (fun _ _ h => h) (hpre ⟨30, .data⟩ (by simp) rfl)
      have e32 : act.tmps[111]?.getD undef = .bool true := hI.eq (j := 32) (Nat.le_of_ble_eq_true rfl) rfl (fun _ _ h => h) (hpre ⟨32, .data⟩ (by simp) rfl)
      have hk := hI.put ok (j := 33) (s := 112) (v := .bool true) (w' := w2) (Nat.le_of_ble_eq_true rfl) rfl (show (112 : Nat) ∈ awkS by decide) (Nat.le_of_ble_eq_true rfl) (Kt.Kp.refl _ _) rfl hI.st
      refine Kt.op_opq hk ?_
      clear hk
      intro KK hkk
      unfold Oper.wp
      go_simp
      exact hkk
    · cases Option.some.inj ho
      refine Kt.no_guard rfl ?_
      have e33 : act.tmps[112]?.getD undef = .bool true := hI.eq (j := 33) (Nat.le_of_ble_eq_true rfl) rfl (fun _ _ h => h) (hpre ⟨33, .data⟩ (by simp) rfl)
      refine Kt.op_assign rfl ?_
      rw [show act.eval (.tmp 112) = .bool true from (Kt.val_get act 112).trans e33]
      exact hI.put ok (j := 34) (Nat.le_of_ble_eq_true rfl) rfl (show (0 : Nat) ∈ awkS by decide) (Nat.le_of_ble_eq_true rfl) (Kt.Kp.refl _ _) rfl hI.st
    · exfalso; simp at ho
  case hdone =>
    intro listed act w2 hI hr
    have hup := Kt.all_up (fun q o ho => by
      rcases q with _ | _ | _ | _ | _ | _ | _ | _ | _ | _ | _ | _ | _ | _ | _ | _ | _ | _ | _ | _ | _ | _ | _ | _ | _ | _ | _ | _ | _ | _ | _ | _ | _ | _ | _ | q
      all_goals first | (cases Option.some.inj ho; decide) | (exfalso; simp at ho)) hI.size hr
    have z0 : Kt.val act 0 = .bool true := hI.res 34 (Nat.le_of_ble_eq_true rfl) (hup 34 (Nat.le_of_ble_eq_true rfl))
    have hst := hI.st
    have hkept := hI.kept
    rw [hI.frame.out]
    simp only [awkP, awkS, Kt.sets]
    generalize Kt.val act 0 = v0 at z0 ⊢
    generalize Kt.val act 79 = v79
    generalize Kt.val act 80 = v80
    generalize Kt.val act 81 = v81
    generalize Kt.val act 82 = v82
    generalize Kt.val act 83 = v83
    generalize Kt.val act 84 = v84
    generalize Kt.val act 85 = v85
    generalize Kt.val act 86 = v86
    generalize Kt.val act 87 = v87
    generalize Kt.val act 88 = v88
    generalize Kt.val act 89 = v89
    generalize Kt.val act 90 = v90
    generalize Kt.val act 91 = v91
    generalize Kt.val act 92 = v92
    generalize Kt.val act 93 = v93
    generalize Kt.val act 94 = v94
    generalize Kt.val act 95 = v95
    generalize Kt.val act 96 = v96
    generalize Kt.val act 97 = v97
    generalize Kt.val act 98 = v98
    generalize Kt.val act 99 = v99
    generalize Kt.val act 100 = v100
    generalize Kt.val act 101 = v101
    generalize Kt.val act 102 = v102
    generalize Kt.val act 103 = v103
    generalize Kt.val act 104 = v104
    generalize Kt.val act 105 = v105
    generalize Kt.val act 106 = v106
    generalize Kt.val act 107 = v107
    generalize Kt.val act 108 = v108
    generalize Kt.val act 109 = v109
    generalize Kt.val act 110 = v110
    generalize Kt.val act 111 = v111
    generalize Kt.val act 112 = v112
    simp only [List.setIfInBounds_toArray, List.set_cons_zero, List.set_cons_succ]
    subst z0
    clear hI hr hup
    have hbz : Below w.heap.size w w2 := hw3.trans ((hwR.mono hs3).trans ((hkept.to_below (Nat.le_refl _) (fun _ _ h => h)).mono (Nat.le_trans hs3 hsR)))
    go_wp2_with fail
    go_ret
    exact ⟨rfl, hbz⟩
end Go.Proofs.Ytkclifdbdnigaaa
end
