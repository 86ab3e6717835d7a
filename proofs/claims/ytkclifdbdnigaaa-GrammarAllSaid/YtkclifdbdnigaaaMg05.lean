/- Joined: AlX. -/
import Derived.Test.YtkclifdbdnigaaaMg02
import Derived.Test.YtkclifdbdnigaaaMg03
import Derived.Test.YtkclifdbdnigaaaMg04
import Derived.Test.YtkclifdbdnigaaaMa21
import Derived.Deep.AppendLies
import Derived.Deep.RegionLaw
section
/- The walk of GrammarAll. -/
namespace Go.Proofs.Ytkclifdbdnigaaa
open Go Go.RowKit
theorem al_u8 {x : Int} (h : (Lit.int .u8 x).wf = true) : 0 ≤ x ∧ x ≤ 255 := by
  have hmin : IntKind.u8.min = 0 := rfl
  have hmax : IntKind.u8.max = 255 := rfl
  simp only [Lit.wf, Bool.and_eq_true, decide_eq_true_eq] at h
  omega
def alkSlot : Nat → Nat := fun j => match j with | 0 => 84 | 1 => 85 | 2 => 86 | 3 => 87 | 4 => 88 | 5 => 89 | 6 => 90 | 7 => 91 | 8 => 92 | 9 => 93 | 10 => 94 | 11 => 95 | 12 => 96 | 13 => 97 | 14 => 98 | 15 => 99 | 16 => 100 | 17 => 101 | 18 => 102 | 19 => 103 | 20 => 104 | 21 => 105 | 22 => 106 | 23 => 107 | 24 => 108 | 25 => 109 | _ => 999999
def alkS : List Nat := [84, 85, 86, 87, 88, 89, 90, 91, 92, 93, 94, 95, 96, 97, 98, 99, 100, 101, 102, 103, 104, 105, 106, 107, 108, 109]
set_option linter.unusedVariables false in
def alkR (A : Option Addr) (n cp : Nat) (T : Option Addr) (nt ct b6 off6 ll c6 k : Nat) (d0 dd d2 : Int) (Ad : Option Addr) (nd cd : Nat) (pj : Nat) (e0 e1 e2 : Int) (Ae : Option Addr) (ne ce : Nat) (Z : Int) : Nat → Value → World → Prop := fun j u w => match j with | 0 => u = (.slice A n cp) | 1 => u = (.slice T nt ct) | 2 => u = (.slice (some ⟨b6, off6, none⟩) ll c6) | 3 => u = (.int .i64 (k : Int)) | 4 => u = (.pointer (some ⟨b6, off6 + k * 4, none⟩)) | 5 => u = (.agg #[.int .i64 d0, .int .i64 dd, .int .i64 d2, .slice Ad nd cd]) | 6 => u = (.bool true) | 7 => u = (.bool false) | 8 => u = (.bool false) | 9 => u = (.int .i64 (k : Int)) | 10 => u = (.bool true) | 11 => u = (.bool true) | 12 => u = (.slice A n cp) | 13 => u = (.slice (some ⟨b6, off6, none⟩) ll c6) | 14 => u = (.int .i64 (k : Int)) | 15 => u = (.int .i64 (pj : Int)) | 16 => u = (.pointer (some ⟨b6, off6 + pj * 4, none⟩)) | 17 => u = (.agg #[.int .i64 e0, .int .i64 e1, .int .i64 e2, .slice Ae ne ce]) | 18 => u = (.slice (some ⟨b6, off6, none⟩) ll c6) | 19 => u = (.int .i64 (k : Int)) | 20 => u = (.pointer (some ⟨b6, off6 + k * 4, none⟩)) | 21 => u = (.agg #[.int .i64 d0, .int .i64 dd, .int .i64 d2, .slice Ad nd cd]) | 22 => u = (.int .i64 Z) | 23 => u = (.bool false) | 24 => u = (.bool false) | 25 => u = (.bool false) | _ => True
def alkP (a0 : Act) (W : World) (A : Option Addr) (n cp : Nat) (T : Option Addr) (nt ct b6 off6 ll c6 k : Nat) (d0 dd d2 : Int) (Ad : Option Addr) (nd cd : Nat) (pj : Nat) (e0 e1 e2 : Int) (Ae : Option Addr) (ne ce : Nat) (Z : Int) : Kt.RxP := ⟨26, alkSlot, alkS, a0, W, fun _ => False, alkR A n cp T nt ct b6 off6 ll c6 k d0 dd d2 Ad nd cd pj e0 e1 e2 Ae ne ce Z, fun _ _ _ => True⟩
theorem alk_ok {a0 : Act} {W : World} {A : Option Addr} {n cp : Nat} {T : Option Addr} {nt ct b6 off6 ll c6 k : Nat} {d0 dd d2 : Int} {Ad : Option Addr} {nd cd : Nat} {pj : Nat} {e0 e1 e2 : Int} {Ae : Option Addr} {ne ce : Nat} {Z : Int} {listed : Array Bool} {act : Act} {w : World} (_ : Kt.RxI (alkP a0 W A n cp T nt ct b6 off6 ll c6 k d0 dd d2 Ad nd cd pj e0 e1 e2 Ae ne ce Z) listed act w) : Kt.RxOk (alkP a0 W A n cp T nt ct b6 off6 ll c6 k d0 dd d2 Ad nd cd pj e0 e1 e2 Ae ne ce Z) := by
  refine ⟨fun i hi j hj => (by decide : ∀ i, i < 26 → ∀ j, j < 26 → alkSlot i = alkSlot j → i = j) i hi j hj, fun j u w w' h hk => ?_⟩
  rcases j with _ | _ | _ | _ | _ | _ | _ | _ | _ | _ | _ | _ | _ | _ | _ | _ | _ | _ | _ | _ | _ | _ | _ | _ | _ | _ | j
  · exact h
  · exact h
  · exact h
  · exact h
  · exact h
  · exact h
  · exact h
  · exact h
  · exact h
  · exact h
  · exact h
  · exact h
  · exact h
  · exact h
  · exact h
  · exact h
  · exact h
  · exact h
  · exact h
  · exact h
  · exact h
  · exact h
  · exact h
  · exact h
  · exact h
  · exact h
  · exact h
def alzSlot : Nat → Nat := fun j => match j with | 0 => 84 | 1 => 85 | 2 => 86 | 3 => 87 | 4 => 88 | 5 => 89 | 6 => 90 | 7 => 91 | 8 => 92 | 9 => 93 | 10 => 94 | 11 => 95 | 12 => 96 | 13 => 97 | 14 => 98 | 15 => 99 | 16 => 100 | 17 => 101 | 18 => 102 | 19 => 103 | 20 => 104 | 21 => 105 | 22 => 106 | 23 => 107 | 24 => 108 | 25 => 109 | _ => 999999
def alzS : List Nat := [84, 85, 86, 87, 88, 89, 90, 91, 92, 93, 94, 95, 96, 97, 98, 99, 100, 101, 102, 103, 104, 105, 106, 107, 108, 109]
set_option linter.unusedVariables false in
def alzR (A : Option Addr) (n cp : Nat) (T : Option Addr) (nt ct b6 off6 ll c6 k : Nat) (d0 dd d2 : Int) (Ad : Option Addr) (nd cd : Nat) : Nat → Value → World → Prop := fun j u w => match j with | 0 => u = (.slice A n cp) | 1 => u = (.slice T nt ct) | 2 => u = (.slice (some ⟨b6, off6, none⟩) ll c6) | 3 => u = (.int .i64 (k : Int)) | 4 => u = (.pointer (some ⟨b6, off6 + k * 4, none⟩)) | 5 => u = (.agg #[.int .i64 d0, .int .i64 dd, .int .i64 d2, .slice Ad nd cd]) | 6 => u = (.bool true) | 7 => u = (.bool false) | 8 => u = (.bool false) | 9 => u = (.int .i64 (k : Int)) | 10 => u = (.bool false) | 11 => u = (.bool false) | 12 => u = undef | 13 => u = undef | 14 => u = undef | 15 => u = undef | 16 => u = undef | 17 => u = undef | 18 => u = undef | 19 => u = undef | 20 => u = undef | 21 => u = undef | 22 => u = undef | 23 => u = undef | 24 => u = (.bool false) | 25 => u = (.bool false) | _ => True
def alzP (a0 : Act) (W : World) (A : Option Addr) (n cp : Nat) (T : Option Addr) (nt ct b6 off6 ll c6 k : Nat) (d0 dd d2 : Int) (Ad : Option Addr) (nd cd : Nat) : Kt.RxP := ⟨26, alzSlot, alzS, a0, W, fun _ => False, alzR A n cp T nt ct b6 off6 ll c6 k d0 dd d2 Ad nd cd, fun _ _ _ => True⟩
theorem alz_ok {a0 : Act} {W : World} {A : Option Addr} {n cp : Nat} {T : Option Addr} {nt ct b6 off6 ll c6 k : Nat} {d0 dd d2 : Int} {Ad : Option Addr} {nd cd : Nat} {listed : Array Bool} {act : Act} {w : World} (_ : Kt.RxI (alzP a0 W A n cp T nt ct b6 off6 ll c6 k d0 dd d2 Ad nd cd) listed act w) : Kt.RxOk (alzP a0 W A n cp T nt ct b6 off6 ll c6 k d0 dd d2 Ad nd cd) := by
  refine ⟨fun i hi j hj => (by decide : ∀ i, i < 26 → ∀ j, j < 26 → alzSlot i = alzSlot j → i = j) i hi j hj, fun j u w w' h hk => ?_⟩
  rcases j with _ | _ | _ | _ | _ | _ | _ | _ | _ | _ | _ | _ | _ | _ | _ | _ | _ | _ | _ | _ | _ | _ | _ | _ | _ | _ | j
  · exact h
  · exact h
  · exact h
  · exact h
  · exact h
  · exact h
  · exact h
  · exact h
  · exact h
  · exact h
  · exact h
  · exact h
  · exact h
  · exact h
  · exact h
  · exact h
  · exact h
  · exact h
  · exact h
  · exact h
  · exact h
  · exact h
  · exact h
  · exact h
  · exact h
  · exact h
  · exact h

set_option maxRecDepth 100000 in
set_option maxHeartbeats 8000000 in
theorem walk_GrammarAll (w : World) (A : Option Addr) (cp : Nat) (g : List Gr.Rule) (lg : g.length ≤ 4398046511104) (hg : Kt.Rules w w.heap.size A g) (wg : WfR g)
    (T : Option Addr) (ct : Nat) (tk : List Int) (lt : tk.length ≤ ct) (_mt : ct ≤ maxLen) (ht : Kt.Ints w w.heap.size .u16 T tk) (_wt : ∀ i ∈ tk, (Lit.int .u16 i).wf = true) (zt : tk.length * 2 ≤ 140737488351232) (_kt : T = none → ct = 0)
    (many : Int) (wm : (Lit.int .u8 many).wf = true) :
    Calls Try.prog 7 #[.slice A g.length cp, .slice T tk.length ct, .int .u8 many] w fun e w' => e = .returned (.bool true) ∧ Below w.heap.size w w' := by
  obtain ⟨n, hn⟩ : ∃ n, Hid (g.length = n) := ⟨_, Lib.hid rfl⟩
  obtain ⟨nt, hnt⟩ : ∃ nt, Hid (tk.length = nt) := ⟨_, Lib.hid rfl⟩
  rw [hn.out] at lg
  rw [hnt.out] at zt lt
  rw [hn.out, hnt.out]
  have HG := Lib.hid hg
  have HT := Lib.hid ht
  have HW := Lib.hid wg
  have HLT := Lib.hid lt
  obtain ⟨hm0, hm1⟩ := al_u8 wm
  clear hg ht wg lt _mt _wt wm
  go_enter Try.func7, Try.ntmps7
  go_wp2_with fail
  refine (awake_any w).mono ?_
  rintro e w1 ⟨rfl, hb1⟩
  have hs1 := hb1.size
  go_wp2_with fail
  refine (great_any g nt A n cp T ct w1 hn.out (by omega) (HG.out.on hb1)).mono ?_
  rintro e w2 ⟨rfl, ⟨rfl, hfine⟩ | rfl⟩
  · go_wp2_with fail
    refine (Valid_any g A n cp w1 hn.out (by omega) (HG.out.on hb1)).mono ?_
    rintro e w3 ⟨hb3, c, rfl, hc⟩
    have hb03 : Below w.heap.size w w3 := hb1.trans (hb3.mono hb1.size)
    by_cases hcz : c = 0
    · subst hcz
      have hGood := hc.good.1 rfl
      by_cases hnt12 : 12 < nt
      · have d1 : decide ((nt : Int) > 12) = true := by simp; omega
        clear hc
        go_wp2_with fail
        go_ret
        exact ⟨rfl, hb03⟩
      · have d1 : decide ((nt : Int) > 12) = false := by simp; omega
        have HGD := Lib.hid hGood
        have hgl := hGood.len
        rw [hn.out] at hgl
        have hs03 := hb03.size
        clear hc hGood hfine
        obtain ⟨wn, hwn, hwn2⟩ : ∃ wn : Nat, many.tmod 201 = (wn : Int) ∧ wn ≤ 200 := ⟨(many.tmod 201).toNat, by rw [Int.tmod_eq_emod_of_nonneg hm0]; omega, by rw [Int.tmod_eq_emod_of_nonneg hm0]; omega⟩
        have hwm : IntKind.i64.wrap many = many := IntWalk.i64_in _ (by omega)
        go_wp2_with fail
        refine (Count_any g tk A n cp T nt ct w3 hn.out (by omega) hnt.out (by omega) (by omega) HW.out (HG.out.on hb03) (HT.out.on hb03)).mono ?_
        rintro e w4 ⟨hb4, v4, c4, rfl, hk4, hv4⟩
        obtain rfl : c4 = 0 := hk4.good.2 ⟨HGD.out, by rw [hnt.out]; omega⟩
        rw [if_pos rfl] at hv4
        have hb04 : Below w.heap.size w w4 := hb03.trans (hb4.mono hs03)
        have hs04 := hb04.size
        have HV4 := Lib.hid hv4
        clear hk4 hv4 hb3
        go_wp2_with fail
        refine (Recognise_any g tk A n cp T nt ct w4 hn.out (by omega) hnt.out (by omega) (by omega) HW.out (HG.out.on hb04) (HT.out.on hb04)).mono ?_
        rintro e w5 ⟨hb5, bb, c5, rfl, hk5, hbb⟩
        obtain rfl : c5 = 0 := hk5.good.2 ⟨HGD.out, by rw [hnt.out]; omega⟩
        have hb05 : Below w.heap.size w w5 := hb04.trans (hb5.mono hs04)
        have hs05 := hb05.size
        have HBB := Lib.hid hbb
        have HV5 := Lib.hid (HV4.out.on hb5)
        clear hk5 hbb hb4
        go_wp2_with fail
        refine (Trees_any g tk A n cp T nt ct w5 hn.out (by omega) hnt.out (by omega) (by omega) HW.out (HG.out.on hb05) (HT.out.on hb05) wn hwn2).mono ?_
        rintro e w6 ⟨hb6, v6, c6, rfl, hk6, hv6⟩
        obtain rfl : c6 = 0 := hk6.good.2 ⟨HGD.out, by rw [hnt.out]; omega⟩
        rw [if_pos rfl] at hv6
        have hb06 : Below w.heap.size w w6 := hb05.trans (hb6.mono hs05)
        have hs06 := hb06.size
        have hv6n := HV5.out.on hb6
        obtain ⟨x, hx⟩ : ∃ x, Hid (counts g tk = x) := ⟨_, Lib.hid rfl⟩
        have HFIT : Hid ((Nt.limbs x).length ≤ 1024) := Lib.hid (by rw [← hx.out]; exact counts_fit HGD.out (by rw [hnt.out]; omega))
        rw [hx.out] at hv6n
        obtain ⟨NA, NC, rfl, _, hni⟩ := num_ok hv6n
        have HNI := Lib.hid hni
        obtain ⟨LN, hLN⟩ : ∃ LN, Hid ((Nt.limbs x).length = LN) := ⟨_, Lib.hid rfl⟩
        rw [hLN.out] at hv6n ⊢
        have HNUM := Lib.hid hv6n
        have dbb : decide (0 < LN) = bb := by
          have h1 := Nt.len_zero_iff x
          rw [hLN.out] at h1
          rw [HBB.out, hx.out]
          by_cases h0 : LN = 0
          · simp [h0, h1.1 h0]
          · have h3 : x ≠ 0 := fun e => h0 (h1.2 e)
            rw [decide_eq_true (show 0 < LN by omega)]
            simp; omega
        obtain ⟨l, hl⟩ : ∃ l, Hid ((derivs g tk).take wn = l) := ⟨_, Lib.hid rfl⟩
        rw [hl.out] at hv6
        have HMEM : Hid (∀ t ∈ l, t ∈ derivs g tk) := Lib.hid (fun t ht => List.mem_of_mem_take (by rw [hl.out]; exact ht))
        have HSRT : Hid (l.Pairwise fun a b => Gr.ordT g (64 * (nt + 1)) a b < 0) := Lib.hid (by
          have h9 : (derivs g tk).Pairwise fun a b => Gr.ordT g (64 * (tk.length + 1)) a b < 0 := Gr.T_sorted g (hitf tk) _ 0 0 tk.length
          rw [hnt.out] at h9
          rw [← hl.out]
          exact h9.sublist (List.take_sublist _ _))
        obtain ⟨ll, hll⟩ : ∃ ll, Hid (l.length = ll) := ⟨_, Lib.hid rfl⟩
        have hllm : ll = min wn x := by rw [← hll.out, ← hl.out, List.length_take, ← hx.out]; rfl
        have HLM := Lib.hid hllm
        have hll2 : ll ≤ 200 := by omega
        have HR8 : Hid (∀ r, r < g.length → (Gr.rul g r).right.length ≤ 1000) := Lib.hid fun r hr => Nat.le_trans (HGD.out.ok r hr).parts.2.2.1 (by decide)
        obtain ⟨A6, c6, b6, off6, vs, rfl, hA6, hle6, h636, hc6, ht6⟩ := hv6
        rw [hll.out] at hA6 hle6 h636 hc6 ht6 ⊢
        have HA6 := Lib.hid hA6
        have HC6 := Lib.hid hc6
        have HT6 := Lib.hid ht6
        have HR := Lib.hid (num_right HFIT.out)
        have HG6 := Lib.hid (HG.out.on hb06)
        have HTK6 := Lib.hid (HT.out.on hb06)
        clear hk6 hA6 hc6 ht6 hv6n hni hllm hl hb5 hwm hwn
        go_wp2_with fail
        refine (right_any NA LN NC (Nt.limbs x) w6 hLN.out HNI.out (by have := HFIT.out; have := hLN.out; omega)).mono ?_
        rw [HR.out]
        rintro e w' ⟨rfl, rfl⟩
        go_wp2_with fail
        go_loopw [14] (fun s wr => ∃ k : Nat, k ≤ ll ∧ s = .int .i64 k ∧ Below w6.heap.size w6 wr) (fun s _ => ll - (intOf s).toNat)
        case atStart => exact ⟨0, Nat.zero_le _, rfl, Below.refl _ _⟩
        case round =>
          obtain ⟨k, hk, rfl, hbl⟩ := hrel
          rename World => wl
          have hb0l : Below w.heap.size w wl := hb06.trans (hbl.mono hs06)
          have hs0l := hb0l.size
          have hsl := hbl.size
          by_cases hlt : k < ll
          · obtain ⟨rfl, _, hl6⟩ := HA6.out (by omega)
            obtain ⟨ve, hve⟩ : ∃ ve, ve = vs k := ⟨_, rfl⟩
            have htk : Kt.TV wl (fun k => k < w5.heap.size) (l.getD k Kt.noTr) ve := by
              rw [hve]
              exact (HT6.out k (by omega)).keep fun q hq _ => hbl.block q hq
            have hut : l.getD k Kt.noTr ∈ derivs g tk := HMEM.out _ (by rw [List.getD_eq_getElem?_getD, List.getElem?_eq_getElem (by rw [hll.out]; omega)]; exact List.getElem_mem _)
            have HIS : Hid (Gr.isT g (hitf tk) (64 * (nt + 1)) (l.getD k Kt.noTr).toI 0 0 nt = true) := Lib.hid (by rw [← hnt.out]; exact (Gr.T_isT g (hitf tk) _ 0 0 tk.length _ hut).1)
            have HUT := Lib.hid hut
            obtain ⟨d0, dd, d2, Ad, nd, cd, rfl⟩ := tv_form htk
            have hcl : ∀ q, q < 4 → wl.cell? ⟨b6, off6 + k * 4 + q, none⟩ = (#[Value.int .i64 d0, .int .i64 dd, .int .i64 d2, .slice Ad nd cd] : Array Value)[q]? := fun q hq => by
              have := HC6.out k (by omega) q hq
              rw [← hve] at this
              exact (hbl.cell (p := ⟨b6, off6 + k * 4 + q, none⟩) hl6).trans this
            have z0 : wl.cell? ⟨b6, off6 + k * 4, none⟩ = some (.int .i64 d0) := hcl 0 (by omega)
            have z1 : wl.cell? ⟨b6, off6 + k * 4 + 1, none⟩ = some (.int .i64 dd) := hcl 1 (by omega)
            have z2 : wl.cell? ⟨b6, off6 + k * 4 + 2, none⟩ = some (.int .i64 d2) := hcl 2 (by omega)
            have z3 : wl.cell? ⟨b6, off6 + k * 4 + 3, none⟩ = some (.slice Ad nd cd) := hcl 3 (by omega)
            have HTV := Lib.hid htk
            have HTVI := Lib.hid htk.toI
            have HN := Lib.hid hn.out
            have HGL := Lib.hid (HG6.out.on hbl)
            have HTL := Lib.hid (HTK6.out.on hbl)
            have hl6l : b6 < wl.heap.size := by omega
            clear hve htk hut
            by_cases hk0 : 0 < k
            · have dk : decide (0 < k) = true := by simp [hk0]
              obtain ⟨pj, hj⟩ : ∃ pj, Hid (pj = k - 1) := ⟨_, Lib.hid rfl⟩
              have hjl : pj < ll := by have := hj.out; omega
              have wk : IntKind.i64.wrap ((k : Int) - 1) = (pj : Int) := by have := hj.out; rw [IntWalk.i64_in _ (by omega)]; omega
              obtain ⟨vj, hvj⟩ : ∃ vj, vj = vs pj := ⟨_, rfl⟩
              have htj : Kt.TV wl (fun k => k < w5.heap.size) (l.getD pj Kt.noTr) vj := by
                rw [hvj]
                exact (HT6.out pj (by omega)).keep fun q hq _ => hbl.block q hq
              have HUJ : Hid (l.getD pj Kt.noTr ∈ derivs g tk) := Lib.hid (HMEM.out _ (by rw [List.getD_eq_getElem?_getD, List.getElem?_eq_getElem (by rw [hll.out]; omega)]; exact List.getElem_mem _))
              obtain ⟨e0, e1, e2, Ae, ne, ce, rfl⟩ := tv_form htj
              have hcj : ∀ q, q < 4 → wl.cell? ⟨b6, off6 + pj * 4 + q, none⟩ = (#[Value.int .i64 e0, .int .i64 e1, .int .i64 e2, .slice Ae ne ce] : Array Value)[q]? := fun q hq => by
                have := HC6.out pj (by omega) q hq
                rw [← hvj] at this
                exact (hbl.cell (p := ⟨b6, off6 + pj * 4 + q, none⟩) hl6).trans this
              have HTJ := Lib.hid htj
              have HCL := Lib.hid hcl
              have HCJ := Lib.hid hcj
              obtain ⟨Z, hZ⟩ : ∃ Z, Hid (Gr.ordT g (64 * (nt + 1)) (l.getD pj Kt.noTr) (l.getD k Kt.noTr) = Z) := ⟨_, Lib.hid rfl⟩
              have hZ0 : Z < 0 := by
                rw [← hZ.out]
                have h9 := List.pairwise_iff_getElem.1 HSRT.out pj k (by rw [hll.out]; exact hjl) (by rw [hll.out]; exact hlt) (by have := hj.out; omega)
                rw [List.getD_eq_getElem?_getD, List.getElem?_eq_getElem (by rw [hll.out]; exact hjl), List.getD_eq_getElem?_getD, List.getElem?_eq_getElem (by rw [hll.out]; exact hlt)]
                exact h9
              have dz : decide (0 ≤ Z) = false := by simp; omega
              clear hvj htj hcl hcj
              go_wp2_with fail
              have HUJT : Hid (l.getD pj Kt.noTr ∈ Gr.T g (hitf tk) (64 * (nt + 1)) 0 0 nt) := Lib.hid (by have := HUJ.out; unfold derivs Gr.D at this; rwa [hnt.out] at this)
              have HUKT : Hid (l.getD k Kt.noTr ∈ Gr.T g (hitf tk) (64 * (nt + 1)) 0 0 nt) := Lib.hid (by have := HUT.out; unfold derivs Gr.D at this; rwa [hnt.out] at this)
              have x0 := HCJ.out 0 (by omega)
              have x1 := HCJ.out 1 (by omega)
              have x2 := HCJ.out 2 (by omega)
              have x3 := HCJ.out 3 (by omega)
              go_upto_region 14 with fail
              refine Kt.region_inv2 (Kt.RxI (alkP _ wl A n cp T nt ct b6 off6 ll c6 k d0 dd d2 Ad nd cd pj e0 e1 e2 Ae ne ce Z)) (by kernel_rfl) (Kt.RxI.start trivial) ?hstep ?hdone
              case hstep =>
                intro listed act w2 q o hI ho hn hpre
                have ok := alk_ok hI
                rcases q with _ | _ | _ | _ | _ | _ | _ | _ | _ | _ | _ | _ | _ | _ | _ | _ | _ | _ | _ | _ | _ | _ | _ | _ | _ | _ | q
                · cases Option.some.inj ho
                  refine Kt.no_guard rfl ?_
                  refine Kt.op_move rfl ?_
                  rw [show act.eval (.tmp 0) = .slice A n cp from hI.frame.val_out (s := 0) (show 0 ∉ alkS by decide)]
                  exact hI.put ok (j := 0) (Nat.le_of_ble_eq_true rfl) rfl (show (84 : Nat) ∈ alkS by decide) (Nat.le_of_ble_eq_true rfl) (Kt.Kp.refl _ _) rfl hI.st
                · cases Option.some.inj ho
                  refine Kt.no_guard rfl ?_
                  refine Kt.op_move rfl ?_
                  rw [show act.eval (.tmp 1) = .slice T nt ct from hI.frame.val_out (s := 1) (show 1 ∉ alkS by decide)]
                  exact hI.put ok (j := 1) (Nat.le_of_ble_eq_true rfl) rfl (show (85 : Nat) ∈ alkS by decide) (Nat.le_of_ble_eq_true rfl) (Kt.Kp.refl _ _) rfl hI.st
                · cases Option.some.inj ho
                  refine Kt.no_guard rfl ?_
                  refine Kt.op_move rfl ?_
                  rw [show act.eval (.tmp 12) = .slice (some ⟨b6, off6, none⟩) ll c6 from hI.frame.val_out (s := 12) (show 12 ∉ alkS by decide)]
                  exact hI.put ok (j := 2) (Nat.le_of_ble_eq_true rfl) rfl (show (86 : Nat) ∈ alkS by decide) (Nat.le_of_ble_eq_true rfl) (Kt.Kp.refl _ _) rfl hI.st
                · cases Option.some.inj ho
                  refine Kt.no_guard rfl ?_
                  refine Kt.op_move rfl ?_
                  rw [show act.eval (.tmp 14) = .int .i64 (k : Int) from hI.frame.val_out (s := 14) (show 14 ∉ alkS by decide)]
                  exact hI.put ok (j := 3) (Nat.le_of_ble_eq_true rfl) rfl (show (87 : Nat) ∈ alkS by decide) (Nat.le_of_ble_eq_true rfl) (Kt.Kp.refl _ _) rfl hI.st
                · cases Option.some.inj ho
                  refine Kt.no_guard rfl ?_
                  have e2 : act.tmps[86]?.getD undef = .slice (some ⟨b6, off6, none⟩) ll c6 := hI.eq (j := 2) (Nat.le_of_ble_eq_true rfl) rfl (fun _ _ h => h) (hpre ⟨2, .data⟩ (by simp) rfl)
                  have e3 : act.tmps[87]?.getD undef = .int .i64 (k : Int) := hI.eq (j := 3) (Nat.le_of_ble_eq_true rfl) rfl (fun _ _ h => h) (hpre ⟨3, .data⟩ (by simp) rfl)
                  have hk := hI.put ok (j := 4) (s := 88) (v := .pointer (some ⟨b6, off6 + k * 4, none⟩)) (Nat.le_of_ble_eq_true rfl) rfl (show (88 : Nat) ∈ alkS by decide) (Nat.le_of_ble_eq_true rfl) (Kt.Kp.refl _ _) rfl hI.st
                  refine Kt.op_opq hk ?_
                  clear hk
                  intro KK hkk
                  unfold Oper.wp
                  go_simp
                  exact hkk
                · cases Option.some.inj ho
                  refine Kt.no_guard rfl ?_
                  have e4 : act.tmps[88]?.getD undef = .pointer (some ⟨b6, off6 + k * 4, none⟩) := hI.eq (j := 4) (Nat.le_of_ble_eq_true rfl) rfl (fun _ _ h => h) (hpre ⟨4, .data⟩ (by simp) rfl)
                  have c0 : w2.cell? ⟨b6, off6 + k * 4, none⟩ = some (.int .i64 d0) := hI.cell hl6l (fun h => h) z0
                  have c1 : w2.cell? ⟨b6, off6 + k * 4 + 1, none⟩ = some (.int .i64 dd) := hI.cell hl6l (fun h => h) z1
                  have c2 : w2.cell? ⟨b6, off6 + k * 4 + 2, none⟩ = some (.int .i64 d2) := hI.cell hl6l (fun h => h) z2
                  have c3 : w2.cell? ⟨b6, off6 + k * 4 + 3, none⟩ = some (.slice Ad nd cd) := hI.cell hl6l (fun h => h) z3
                  have hk := hI.put ok (j := 5) (s := 89) (v := .agg #[.int .i64 d0, .int .i64 dd, .int .i64 d2, .slice Ad nd cd]) (Nat.le_of_ble_eq_true rfl) rfl (show (89 : Nat) ∈ alkS by decide) (Nat.le_of_ble_eq_true rfl) (Kt.Kp.refl _ _) rfl hI.st
                  refine Kt.op_opq hk ?_
                  clear hk
                  intro KK hkk
                  unfold Oper.wp
                  go_simp
                  exact hkk
                · cases Option.some.inj ho
                  refine Kt.no_guard rfl ?_
                  have e0 : act.tmps[84]?.getD undef = .slice A n cp := hI.eq (j := 0) (Nat.le_of_ble_eq_true rfl) rfl (fun _ _ h => h) (hpre ⟨0, .data⟩ (by simp) rfl)
                  have e1 : act.tmps[85]?.getD undef = .slice T nt ct := hI.eq (j := 1) (Nat.le_of_ble_eq_true rfl) rfl (fun _ _ h => h) (hpre ⟨1, .data⟩ (by simp) rfl)
                  have e5 : act.tmps[89]?.getD undef = .agg #[.int .i64 d0, .int .i64 dd, .int .i64 d2, .slice Ad nd cd] := hI.eq (j := 5) (Nat.le_of_ble_eq_true rfl) rfl (fun _ _ h => h) (hpre ⟨5, .data⟩ (by simp) rfl)
                  have hbw : Below wl.heap.size wl w2 := hI.kept.to_below (Nat.le_refl _) (fun _ _ h => h)
                  refine Kt.op_opc (s := 90) (fun v w3 => v = .bool true ∧ Below w2.heap.size w2 w3) ?_ ?_
                  · intro KK hkk
                    unfold Oper.wp
                    go_simp
                    refine (Right_yes g tk A n cp T nt ct w2 _ _ HN.out (by omega) hnt.out (by omega) HGD.out _ HIS.out (HGL.out.on hbw) (HTL.out.on hbw) (HTVI.out.on hbw)).mono ?_
                    rintro e w3 ⟨rfl, hb3⟩
                    exact hkk _ _ ⟨rfl, hb3⟩
                  rintro v3 w3 ⟨rfl, hb3⟩
                  exact hI.put ok (j := 6) (s := 90) (v := .bool true) (w' := w3) (Nat.le_of_ble_eq_true rfl) rfl (show (90 : Nat) ∈ alkS by decide) (Nat.le_of_ble_eq_true rfl) (Kt.Kp.below _ hb3) rfl trivial
                · cases Option.some.inj ho
                  refine Kt.no_guard rfl ?_
                  have e6 : act.tmps[90]?.getD undef = .bool true := hI.eq (j := 6) (Nat.le_of_ble_eq_true rfl) rfl (fun _ _ h => h) (hpre ⟨6, .data⟩ (by simp) rfl)
                  have hk := hI.put ok (j := 7) (s := 91) (v := .bool false) (Nat.le_of_ble_eq_true rfl) rfl (show (91 : Nat) ∈ alkS by decide) (Nat.le_of_ble_eq_true rfl) (Kt.Kp.refl _ _) rfl hI.st
                  refine Kt.op_opq hk ?_
                  clear hk
                  intro KK hkk
                  unfold Oper.wp
                  go_simp
                  exact hkk
                · cases Option.some.inj ho
                  refine Kt.no_guard rfl ?_
                  have e7 : act.tmps[91]?.getD undef = .bool false := hI.eq (j := 7) (Nat.le_of_ble_eq_true rfl) rfl (fun _ _ h => h) (hpre ⟨7, .data⟩ (by simp) rfl)
                  refine Kt.op_move rfl ?_
                  rw [show act.eval (.tmp 91) = .bool false from (Kt.val_get act 91).trans e7]
                  exact hI.put ok (j := 8) (Nat.le_of_ble_eq_true rfl) rfl (show (92 : Nat) ∈ alkS by decide) (Nat.le_of_ble_eq_true rfl) (Kt.Kp.refl _ _) rfl hI.st
                · cases Option.some.inj ho
                  have eg : act.tmps[92]?.getD undef = .bool false := hI.eq (j := 8) (Nat.le_of_ble_eq_true rfl) rfl (fun _ _ h => h) (hpre ⟨8, .guard⟩ (by simp) rfl)
                  refine Kt.yes_guard rfl rfl rfl eg rfl ?_
                  refine Kt.op_move rfl ?_
                  rw [show act.eval (.tmp 14) = .int .i64 (k : Int) from hI.frame.val_out (s := 14) (show 14 ∉ alkS by decide)]
                  exact hI.put ok (j := 9) (Nat.le_of_ble_eq_true rfl) rfl (show (93 : Nat) ∈ alkS by decide) (Nat.le_of_ble_eq_true rfl) (Kt.Kp.refl _ _) rfl hI.st
                · cases Option.some.inj ho
                  have eg : act.tmps[92]?.getD undef = .bool false := hI.eq (j := 8) (Nat.le_of_ble_eq_true rfl) rfl (fun _ _ h => h) (hpre ⟨8, .guard⟩ (by simp) rfl)
                  refine Kt.yes_guard rfl rfl rfl eg rfl ?_
                  have e9 : act.tmps[93]?.getD undef = .int .i64 (k : Int) := hI.eq (j := 9) (Nat.le_of_ble_eq_true rfl) rfl (fun _ _ h => h) (hpre ⟨9, .data⟩ (by simp) rfl)
                  have hk := hI.put ok (j := 10) (s := 94) (v := .bool true) (Nat.le_of_ble_eq_true rfl) rfl (show (94 : Nat) ∈ alkS by decide) (Nat.le_of_ble_eq_true rfl) (Kt.Kp.refl _ _) rfl hI.st
                  refine Kt.op_opq hk ?_
                  clear hk
                  intro KK hkk
                  unfold Oper.wp
                  go_simp
                  exact hkk
                · cases Option.some.inj ho
                  have eg : act.tmps[92]?.getD undef = .bool false := hI.eq (j := 8) (Nat.le_of_ble_eq_true rfl) rfl (fun _ _ h => h) (hpre ⟨8, .guard⟩ (by simp) rfl)
                  refine Kt.yes_guard rfl rfl rfl eg rfl ?_
                  have e10 : act.tmps[94]?.getD undef = .bool true := hI.eq (j := 10) (Nat.le_of_ble_eq_true rfl) rfl (fun _ _ h => h) (hpre ⟨10, .data⟩ (by simp) rfl)
                  refine Kt.op_move rfl ?_
                  rw [show act.eval (.tmp 94) = .bool true from (Kt.val_get act 94).trans e10]
                  exact hI.put ok (j := 11) (Nat.le_of_ble_eq_true rfl) rfl (show (95 : Nat) ∈ alkS by decide) (Nat.le_of_ble_eq_true rfl) (Kt.Kp.refl _ _) rfl hI.st
                · cases Option.some.inj ho
                  have eg : act.tmps[95]?.getD undef = .bool true := hI.eq (j := 11) (Nat.le_of_ble_eq_true rfl) rfl (fun _ _ h => h) (hpre ⟨11, .guard⟩ (by simp) rfl)
                  refine Kt.yes_guard rfl rfl rfl eg rfl ?_
                  refine Kt.op_move rfl ?_
                  rw [show act.eval (.tmp 0) = .slice A n cp from hI.frame.val_out (s := 0) (show 0 ∉ alkS by decide)]
                  exact hI.put ok (j := 12) (Nat.le_of_ble_eq_true rfl) rfl (show (96 : Nat) ∈ alkS by decide) (Nat.le_of_ble_eq_true rfl) (Kt.Kp.refl _ _) rfl hI.st
                · cases Option.some.inj ho
                  have eg : act.tmps[95]?.getD undef = .bool true := hI.eq (j := 11) (Nat.le_of_ble_eq_true rfl) rfl (fun _ _ h => h) (hpre ⟨11, .guard⟩ (by simp) rfl)
                  refine Kt.yes_guard rfl rfl rfl eg rfl ?_
                  refine Kt.op_move rfl ?_
                  rw [show act.eval (.tmp 12) = .slice (some ⟨b6, off6, none⟩) ll c6 from hI.frame.val_out (s := 12) (show 12 ∉ alkS by decide)]
                  exact hI.put ok (j := 13) (Nat.le_of_ble_eq_true rfl) rfl (show (97 : Nat) ∈ alkS by decide) (Nat.le_of_ble_eq_true rfl) (Kt.Kp.refl _ _) rfl hI.st
                · cases Option.some.inj ho
                  have eg : act.tmps[95]?.getD undef = .bool true := hI.eq (j := 11) (Nat.le_of_ble_eq_true rfl) rfl (fun _ _ h => h) (hpre ⟨11, .guard⟩ (by simp) rfl)
                  refine Kt.yes_guard rfl rfl rfl eg rfl ?_
                  refine Kt.op_move rfl ?_
                  rw [show act.eval (.tmp 14) = .int .i64 (k : Int) from hI.frame.val_out (s := 14) (show 14 ∉ alkS by decide)]
                  exact hI.put ok (j := 14) (Nat.le_of_ble_eq_true rfl) rfl (show (98 : Nat) ∈ alkS by decide) (Nat.le_of_ble_eq_true rfl) (Kt.Kp.refl _ _) rfl hI.st
                · cases Option.some.inj ho
                  have eg : act.tmps[95]?.getD undef = .bool true := hI.eq (j := 11) (Nat.le_of_ble_eq_true rfl) rfl (fun _ _ h => h) (hpre ⟨11, .guard⟩ (by simp) rfl)
                  refine Kt.yes_guard rfl rfl rfl eg rfl ?_
                  have e14 : act.tmps[98]?.getD undef = .int .i64 (k : Int) := hI.eq (j := 14) (Nat.le_of_ble_eq_true rfl) rfl (fun _ _ h => h) (hpre ⟨14, .data⟩ (by simp) rfl)
                  have hk := hI.put ok (j := 15) (s := 99) (v := .int .i64 (pj : Int)) (Nat.le_of_ble_eq_true rfl) rfl (show (99 : Nat) ∈ alkS by decide) (Nat.le_of_ble_eq_true rfl) (Kt.Kp.refl _ _) rfl hI.st
                  refine Kt.op_opq hk ?_
                  clear hk
                  intro KK hkk
                  unfold Oper.wp
                  go_simp
                  exact hkk
                · cases Option.some.inj ho
                  have eg : act.tmps[95]?.getD undef = .bool true := hI.eq (j := 11) (Nat.le_of_ble_eq_true rfl) rfl (fun _ _ h => h) (hpre ⟨11, .guard⟩ (by simp) rfl)
                  refine Kt.yes_guard rfl rfl rfl eg rfl ?_
                  have e13 : act.tmps[97]?.getD undef = .slice (some ⟨b6, off6, none⟩) ll c6 := hI.eq (j := 13) (Nat.le_of_ble_eq_true rfl) rfl (fun _ _ h => h) (hpre ⟨13, .data⟩ (by simp) rfl)
                  have e15 : act.tmps[99]?.getD undef = .int .i64 (pj : Int) := hI.eq (j := 15) (Nat.le_of_ble_eq_true rfl) rfl (fun _ _ h => h) (hpre ⟨15, .data⟩ (by simp) rfl)
                  have hk := hI.put ok (j := 16) (s := 100) (v := .pointer (some ⟨b6, off6 + pj * 4, none⟩)) (Nat.le_of_ble_eq_true rfl) rfl (show (100 : Nat) ∈ alkS by decide) (Nat.le_of_ble_eq_true rfl) (Kt.Kp.refl _ _) rfl hI.st
                  refine Kt.op_opq hk ?_
                  clear hk
                  intro KK hkk
                  unfold Oper.wp
                  go_simp
                  exact hkk
                · cases Option.some.inj ho
                  have eg : act.tmps[95]?.getD undef = .bool true := hI.eq (j := 11) (Nat.le_of_ble_eq_true rfl) rfl (fun _ _ h => h) (hpre ⟨11, .guard⟩ (by simp) rfl)
                  refine Kt.yes_guard rfl rfl rfl eg rfl ?_
                  have e16 : act.tmps[100]?.getD undef = .pointer (some ⟨b6, off6 + pj * 4, none⟩) := hI.eq (j := 16) (Nat.le_of_ble_eq_true rfl) rfl (fun _ _ h => h) (hpre ⟨16, .data⟩ (by simp) rfl)
                  have c0 : w2.cell? ⟨b6, off6 + pj * 4, none⟩ = some (.int .i64 e0) := hI.cell hl6l (fun h => h) x0
                  have c1 : w2.cell? ⟨b6, off6 + pj * 4 + 1, none⟩ = some (.int .i64 e1) := hI.cell hl6l (fun h => h) x1
                  have c2 : w2.cell? ⟨b6, off6 + pj * 4 + 2, none⟩ = some (.int .i64 e2) := hI.cell hl6l (fun h => h) x2
                  have c3 : w2.cell? ⟨b6, off6 + pj * 4 + 3, none⟩ = some (.slice Ae ne ce) := hI.cell hl6l (fun h => h) x3
                  have hk := hI.put ok (j := 17) (s := 101) (v := .agg #[.int .i64 e0, .int .i64 e1, .int .i64 e2, .slice Ae ne ce]) (Nat.le_of_ble_eq_true rfl) rfl (show (101 : Nat) ∈ alkS by decide) (Nat.le_of_ble_eq_true rfl) (Kt.Kp.refl _ _) rfl hI.st
                  refine Kt.op_opq hk ?_
                  clear hk
                  intro KK hkk
                  unfold Oper.wp
                  go_simp
                  exact hkk
                · cases Option.some.inj ho
                  have eg : act.tmps[95]?.getD undef = .bool true := hI.eq (j := 11) (Nat.le_of_ble_eq_true rfl) rfl (fun _ _ h => h) (hpre ⟨11, .guard⟩ (by simp) rfl)
                  refine Kt.yes_guard rfl rfl rfl eg rfl ?_
                  refine Kt.op_move rfl ?_
                  rw [show act.eval (.tmp 12) = .slice (some ⟨b6, off6, none⟩) ll c6 from hI.frame.val_out (s := 12) (show 12 ∉ alkS by decide)]
                  exact hI.put ok (j := 18) (Nat.le_of_ble_eq_true rfl) rfl (show (102 : Nat) ∈ alkS by decide) (Nat.le_of_ble_eq_true rfl) (Kt.Kp.refl _ _) rfl hI.st
                · cases Option.some.inj ho
                  have eg : act.tmps[95]?.getD undef = .bool true := hI.eq (j := 11) (Nat.le_of_ble_eq_true rfl) rfl (fun _ _ h => h) (hpre ⟨11, .guard⟩ (by simp) rfl)
                  refine Kt.yes_guard rfl rfl rfl eg rfl ?_
                  refine Kt.op_move rfl ?_
                  rw [show act.eval (.tmp 14) = .int .i64 (k : Int) from hI.frame.val_out (s := 14) (show 14 ∉ alkS by decide)]
                  exact hI.put ok (j := 19) (Nat.le_of_ble_eq_true rfl) rfl (show (103 : Nat) ∈ alkS by decide) (Nat.le_of_ble_eq_true rfl) (Kt.Kp.refl _ _) rfl hI.st
                · cases Option.some.inj ho
                  have eg : act.tmps[95]?.getD undef = .bool true := hI.eq (j := 11) (Nat.le_of_ble_eq_true rfl) rfl (fun _ _ h => h) (hpre ⟨11, .guard⟩ (by simp) rfl)
                  refine Kt.yes_guard rfl rfl rfl eg rfl ?_
                  have e18 : act.tmps[102]?.getD undef = .slice (some ⟨b6, off6, none⟩) ll c6 := hI.eq (j := 18) (Nat.le_of_ble_eq_true rfl) rfl (fun _ _ h => h) (hpre ⟨18, .data⟩ (by simp) rfl)
                  have e19 : act.tmps[103]?.getD undef = .int .i64 (k : Int) := hI.eq (j := 19) (Nat.le_of_ble_eq_true rfl) rfl (fun _ _ h => h) (hpre ⟨19, .data⟩ (by simp) rfl)
                  have hk := hI.put ok (j := 20) (s := 104) (v := .pointer (some ⟨b6, off6 + k * 4, none⟩)) (Nat.le_of_ble_eq_true rfl) rfl (show (104 : Nat) ∈ alkS by decide) (Nat.le_of_ble_eq_true rfl) (Kt.Kp.refl _ _) rfl hI.st
                  refine Kt.op_opq hk ?_
                  clear hk
                  intro KK hkk
                  unfold Oper.wp
                  go_simp
                  exact hkk
                · cases Option.some.inj ho
                  have eg : act.tmps[95]?.getD undef = .bool true := hI.eq (j := 11) (Nat.le_of_ble_eq_true rfl) rfl (fun _ _ h => h) (hpre ⟨11, .guard⟩ (by simp) rfl)
                  refine Kt.yes_guard rfl rfl rfl eg rfl ?_
                  have e20 : act.tmps[104]?.getD undef = .pointer (some ⟨b6, off6 + k * 4, none⟩) := hI.eq (j := 20) (Nat.le_of_ble_eq_true rfl) rfl (fun _ _ h => h) (hpre ⟨20, .data⟩ (by simp) rfl)
                  have c0 : w2.cell? ⟨b6, off6 + k * 4, none⟩ = some (.int .i64 d0) := hI.cell hl6l (fun h => h) z0
                  have c1 : w2.cell? ⟨b6, off6 + k * 4 + 1, none⟩ = some (.int .i64 dd) := hI.cell hl6l (fun h => h) z1
                  have c2 : w2.cell? ⟨b6, off6 + k * 4 + 2, none⟩ = some (.int .i64 d2) := hI.cell hl6l (fun h => h) z2
                  have c3 : w2.cell? ⟨b6, off6 + k * 4 + 3, none⟩ = some (.slice Ad nd cd) := hI.cell hl6l (fun h => h) z3
                  have hk := hI.put ok (j := 21) (s := 105) (v := .agg #[.int .i64 d0, .int .i64 dd, .int .i64 d2, .slice Ad nd cd]) (Nat.le_of_ble_eq_true rfl) rfl (show (105 : Nat) ∈ alkS by decide) (Nat.le_of_ble_eq_true rfl) (Kt.Kp.refl _ _) rfl hI.st
                  refine Kt.op_opq hk ?_
                  clear hk
                  intro KK hkk
                  unfold Oper.wp
                  go_simp
                  exact hkk
                · cases Option.some.inj ho
                  have eg : act.tmps[95]?.getD undef = .bool true := hI.eq (j := 11) (Nat.le_of_ble_eq_true rfl) rfl (fun _ _ h => h) (hpre ⟨11, .guard⟩ (by simp) rfl)
                  refine Kt.yes_guard rfl rfl rfl eg rfl ?_
                  have e12 : act.tmps[96]?.getD undef = .slice A n cp := hI.eq (j := 12) (Nat.le_of_ble_eq_true rfl) rfl (fun _ _ h => h) (hpre ⟨12, .data⟩ (by simp) rfl)
                  have e17 : act.tmps[101]?.getD undef = .agg #[.int .i64 e0, .int .i64 e1, .int .i64 e2, .slice Ae ne ce] := hI.eq (j := 17) (Nat.le_of_ble_eq_true rfl) rfl (fun _ _ h => h) (hpre ⟨17, .data⟩ (by simp) rfl)
                  have e21 : act.tmps[105]?.getD undef = .agg #[.int .i64 d0, .int .i64 dd, .int .i64 d2, .slice Ad nd cd] := hI.eq (j := 21) (Nat.le_of_ble_eq_true rfl) rfl (fun _ _ h => h) (hpre ⟨21, .data⟩ (by simp) rfl)
                  have hbw : Below wl.heap.size wl w2 := hI.kept.to_below (Nat.le_refl _) (fun _ _ h => h)
                  refine Kt.op_opc (s := 106) (fun v w3 => v = .int .i64 Z ∧ Below w2.heap.size w2 w3) ?_ ?_
                  · intro KK hkk
                    unfold Oper.wp
                    go_simp
                    refine (order_any g (hitf tk) HR8.out (64 * (nt + 1)) _ _ 0 0 0 nt 0 nt HUJT.out HUKT.out (by omega) (by omega) A n cp w2 _ _ _ _ HN.out (by omega) (HGL.out.on hbw) (HTJ.out.keep fun q hq _ => hbw.block q hq) (HTV.out.keep fun q hq _ => hbw.block q hq)).mono ?_
                    rw [hZ.out]
                    rintro e w3 ⟨rfl, hb3⟩
                    exact hkk _ _ ⟨rfl, hb3⟩
                  rintro v3 w3 ⟨rfl, hb3⟩
                  exact hI.put ok (j := 22) (s := 106) (v := .int .i64 Z) (w' := w3) (Nat.le_of_ble_eq_true rfl) rfl (show (106 : Nat) ∈ alkS by decide) (Nat.le_of_ble_eq_true rfl) (Kt.Kp.below _ hb3) rfl trivial
                · cases Option.some.inj ho
                  have eg : act.tmps[95]?.getD undef = .bool true := hI.eq (j := 11) (Nat.le_of_ble_eq_true rfl) rfl (fun _ _ h => h) (hpre ⟨11, .guard⟩ (by simp) rfl)
                  refine Kt.yes_guard rfl rfl rfl eg rfl ?_
                  have e22 : act.tmps[106]?.getD undef = .int .i64 Z := hI.eq (j := 22) (Nat.le_of_ble_eq_true rfl) rfl (fun _ _ h => h) (hpre ⟨22, .data⟩ (by simp) rfl)
                  have hk := hI.put ok (j := 23) (s := 107) (v := .bool false) (Nat.le_of_ble_eq_true rfl) rfl (show (107 : Nat) ∈ alkS by decide) (Nat.le_of_ble_eq_true rfl) (Kt.Kp.refl _ _) rfl hI.st
                  refine Kt.op_opq hk ?_
                  clear hk
                  intro KK hkk
                  unfold Oper.wp
                  go_simp
                  exact hkk
                · cases Option.some.inj ho
                  have eg : act.tmps[92]?.getD undef = .bool false := hI.eq (j := 8) (Nat.le_of_ble_eq_true rfl) rfl (fun _ _ h => h) (hpre ⟨8, .guard⟩ (by simp) rfl)
                  refine Kt.yes_guard rfl rfl rfl eg rfl ?_
                  have e11 : act.tmps[95]?.getD undef = .bool true := hI.eq (j := 11) (Nat.le_of_ble_eq_true rfl) rfl (fun _ _ h => h) (hpre ⟨11, .data⟩ (by simp) rfl)
                  have e23 : act.tmps[107]?.getD undef = .bool false := hI.eq (j := 23) (Nat.le_of_ble_eq_true rfl) rfl (fun _ _ h => h) (hpre ⟨23, .data⟩ (by simp) rfl)
                  have hk := hI.put ok (j := 24) (s := 108) (v := .bool false) (Nat.le_of_ble_eq_true rfl) rfl (show (108 : Nat) ∈ alkS by decide) (Nat.le_of_ble_eq_true rfl) (Kt.Kp.refl _ _) rfl hI.st
                  refine Kt.op_opq hk ?_
                  clear hk
                  intro KK hkk
                  unfold Oper.wp
                  go_simp
                  exact hkk
                · cases Option.some.inj ho
                  refine Kt.no_guard rfl ?_
                  have e8 : act.tmps[92]?.getD undef = .bool false := hI.eq (j := 8) (Nat.le_of_ble_eq_true rfl) rfl (fun _ _ h => h) (hpre ⟨8, .data⟩ (by simp) rfl)
                  have e24 : act.tmps[108]?.getD undef = .bool false := hI.eq (j := 24) (Nat.le_of_ble_eq_true rfl) rfl (fun _ _ h => h) (hpre ⟨24, .data⟩ (by simp) rfl)
                  have hk := hI.put ok (j := 25) (s := 109) (v := .bool false) (Nat.le_of_ble_eq_true rfl) rfl (show (109 : Nat) ∈ alkS by decide) (Nat.le_of_ble_eq_true rfl) (Kt.Kp.refl _ _) rfl hI.st
                  refine Kt.op_opq hk ?_
                  clear hk
                  intro KK hkk
                  unfold Oper.wp
                  go_simp
                  exact hkk
                · exfalso; simp at ho
              case hdone =>
                intro listed act w2 hI hr
                have hup := Kt.all_up (fun q o ho => by
                  rcases q with _ | _ | _ | _ | _ | _ | _ | _ | _ | _ | _ | _ | _ | _ | _ | _ | _ | _ | _ | _ | _ | _ | _ | _ | _ | _ | q
                  all_goals first | (cases Option.some.inj ho; decide) | (exfalso; simp at ho)) hI.size hr
                have z109 : Kt.val act 109 = .bool false := hI.res 25 (Nat.le_of_ble_eq_true rfl) (hup 25 (Nat.le_of_ble_eq_true rfl))
                have hst := hI.st
                have hkept := hI.kept
                rw [hI.frame.out]
                simp only [alkP, alkS, Kt.sets]
                generalize Kt.val act 84 = v84
                generalize Kt.val act 85 = v85
                generalize Kt.val act 86 = v86
                generalize Kt.val act 87 = v87
                generalize Kt.val act 88 = v88
                generalize Kt.val act 89 = v89
                generalize Kt.val act 90 = v90
                generalize Kt.val act 91 = v91
                generalize Kt.val act 92 = v92
                generalize Kt.val act 93 = v93
                generalize Kt.val act 94 = v94
                generalize Kt.val act 95 = v95
                generalize Kt.val act 96 = v96
                generalize Kt.val act 97 = v97
                generalize Kt.val act 98 = v98
                generalize Kt.val act 99 = v99
                generalize Kt.val act 100 = v100
                generalize Kt.val act 101 = v101
                generalize Kt.val act 102 = v102
                generalize Kt.val act 103 = v103
                generalize Kt.val act 104 = v104
                generalize Kt.val act 105 = v105
                generalize Kt.val act 106 = v106
                generalize Kt.val act 107 = v107
                generalize Kt.val act 108 = v108
                generalize Kt.val act 109 = v109 at z109 ⊢
                simp only [List.setIfInBounds_toArray, List.set_cons_zero, List.set_cons_succ]
                subst z109
                clear hI hr hup
                have hbl8 : Below w6.heap.size w6 w2 := hbl.trans ((hkept.to_below (Nat.le_refl _) (fun _ _ h => h)).mono hsl)
                go_wp2_with fail
                go_roundw
                case rel => exact ⟨k + 1, by omega, by go_num, hbl8⟩
                case measure => simp [intOf]; omega
            · have dk : decide (0 < k) = false := by simp; omega
              clear hcl
              go_wp2_with fail
              go_upto_region 14 with fail
              refine Kt.region_inv2 (Kt.RxI (alzP _ wl A n cp T nt ct b6 off6 ll c6 k d0 dd d2 Ad nd cd)) (by kernel_rfl) (Kt.RxI.start trivial) ?hstep ?hdone
              case hstep =>
                intro listed act w2 q o hI ho hn hpre
                have ok := alz_ok hI
                rcases q with _ | _ | _ | _ | _ | _ | _ | _ | _ | _ | _ | _ | _ | _ | _ | _ | _ | _ | _ | _ | _ | _ | _ | _ | _ | _ | q
                · cases Option.some.inj ho
                  refine Kt.no_guard rfl ?_
                  refine Kt.op_move rfl ?_
                  rw [show act.eval (.tmp 0) = .slice A n cp from hI.frame.val_out (s := 0) (show 0 ∉ alzS by decide)]
                  exact hI.put ok (j := 0) (Nat.le_of_ble_eq_true rfl) rfl (show (84 : Nat) ∈ alzS by decide) (Nat.le_of_ble_eq_true rfl) (Kt.Kp.refl _ _) rfl hI.st
                · cases Option.some.inj ho
                  refine Kt.no_guard rfl ?_
                  refine Kt.op_move rfl ?_
                  rw [show act.eval (.tmp 1) = .slice T nt ct from hI.frame.val_out (s := 1) (show 1 ∉ alzS by decide)]
                  exact hI.put ok (j := 1) (Nat.le_of_ble_eq_true rfl) rfl (show (85 : Nat) ∈ alzS by decide) (Nat.le_of_ble_eq_true rfl) (Kt.Kp.refl _ _) rfl hI.st
                · cases Option.some.inj ho
                  refine Kt.no_guard rfl ?_
                  refine Kt.op_move rfl ?_
                  rw [show act.eval (.tmp 12) = .slice (some ⟨b6, off6, none⟩) ll c6 from hI.frame.val_out (s := 12) (show 12 ∉ alzS by decide)]
                  exact hI.put ok (j := 2) (Nat.le_of_ble_eq_true rfl) rfl (show (86 : Nat) ∈ alzS by decide) (Nat.le_of_ble_eq_true rfl) (Kt.Kp.refl _ _) rfl hI.st
                · cases Option.some.inj ho
                  refine Kt.no_guard rfl ?_
                  refine Kt.op_move rfl ?_
                  rw [show act.eval (.tmp 14) = .int .i64 (k : Int) from hI.frame.val_out (s := 14) (show 14 ∉ alzS by decide)]
                  exact hI.put ok (j := 3) (Nat.le_of_ble_eq_true rfl) rfl (show (87 : Nat) ∈ alzS by decide) (Nat.le_of_ble_eq_true rfl) (Kt.Kp.refl _ _) rfl hI.st
                · cases Option.some.inj ho
                  refine Kt.no_guard rfl ?_
                  have e2 : act.tmps[86]?.getD undef = .slice (some ⟨b6, off6, none⟩) ll c6 := hI.eq (j := 2) (Nat.le_of_ble_eq_true rfl) rfl (fun _ _ h => h) (hpre ⟨2, .data⟩ (by simp) rfl)
                  have e3 : act.tmps[87]?.getD undef = .int .i64 (k : Int) := hI.eq (j := 3) (Nat.le_of_ble_eq_true rfl) rfl (fun _ _ h => h) (hpre ⟨3, .data⟩ (by simp) rfl)
                  have hk := hI.put ok (j := 4) (s := 88) (v := .pointer (some ⟨b6, off6 + k * 4, none⟩)) (Nat.le_of_ble_eq_true rfl) rfl (show (88 : Nat) ∈ alzS by decide) (Nat.le_of_ble_eq_true rfl) (Kt.Kp.refl _ _) rfl hI.st
                  refine Kt.op_opq hk ?_
                  clear hk
                  intro KK hkk
                  unfold Oper.wp
                  go_simp
                  exact hkk
                · cases Option.some.inj ho
                  refine Kt.no_guard rfl ?_
                  have e4 : act.tmps[88]?.getD undef = .pointer (some ⟨b6, off6 + k * 4, none⟩) := hI.eq (j := 4) (Nat.le_of_ble_eq_true rfl) rfl (fun _ _ h => h) (hpre ⟨4, .data⟩ (by simp) rfl)
                  have c0 : w2.cell? ⟨b6, off6 + k * 4, none⟩ = some (.int .i64 d0) := hI.cell hl6l (fun h => h) z0
                  have c1 : w2.cell? ⟨b6, off6 + k * 4 + 1, none⟩ = some (.int .i64 dd) := hI.cell hl6l (fun h => h) z1
                  have c2 : w2.cell? ⟨b6, off6 + k * 4 + 2, none⟩ = some (.int .i64 d2) := hI.cell hl6l (fun h => h) z2
                  have c3 : w2.cell? ⟨b6, off6 + k * 4 + 3, none⟩ = some (.slice Ad nd cd) := hI.cell hl6l (fun h => h) z3
                  have hk := hI.put ok (j := 5) (s := 89) (v := .agg #[.int .i64 d0, .int .i64 dd, .int .i64 d2, .slice Ad nd cd]) (Nat.le_of_ble_eq_true rfl) rfl (show (89 : Nat) ∈ alzS by decide) (Nat.le_of_ble_eq_true rfl) (Kt.Kp.refl _ _) rfl hI.st
                  refine Kt.op_opq hk ?_
                  clear hk
                  intro KK hkk
                  unfold Oper.wp
                  go_simp
                  exact hkk
                · cases Option.some.inj ho
                  refine Kt.no_guard rfl ?_
                  have e0 : act.tmps[84]?.getD undef = .slice A n cp := hI.eq (j := 0) (Nat.le_of_ble_eq_true rfl) rfl (fun _ _ h => h) (hpre ⟨0, .data⟩ (by simp) rfl)
                  have e1 : act.tmps[85]?.getD undef = .slice T nt ct := hI.eq (j := 1) (Nat.le_of_ble_eq_true rfl) rfl (fun _ _ h => h) (hpre ⟨1, .data⟩ (by simp) rfl)
                  have e5 : act.tmps[89]?.getD undef = .agg #[.int .i64 d0, .int .i64 dd, .int .i64 d2, .slice Ad nd cd] := hI.eq (j := 5) (Nat.le_of_ble_eq_true rfl) rfl (fun _ _ h => h) (hpre ⟨5, .data⟩ (by simp) rfl)
                  have hbw : Below wl.heap.size wl w2 := hI.kept.to_below (Nat.le_refl _) (fun _ _ h => h)
                  refine Kt.op_opc (s := 90) (fun v w3 => v = .bool true ∧ Below w2.heap.size w2 w3) ?_ ?_
                  · intro KK hkk
                    unfold Oper.wp
                    go_simp
                    refine (Right_yes g tk A n cp T nt ct w2 _ _ HN.out (by omega) hnt.out (by omega) HGD.out _ HIS.out (HGL.out.on hbw) (HTL.out.on hbw) (HTVI.out.on hbw)).mono ?_
                    rintro e w3 ⟨rfl, hb3⟩
                    exact hkk _ _ ⟨rfl, hb3⟩
                  rintro v3 w3 ⟨rfl, hb3⟩
                  exact hI.put ok (j := 6) (s := 90) (v := .bool true) (w' := w3) (Nat.le_of_ble_eq_true rfl) rfl (show (90 : Nat) ∈ alzS by decide) (Nat.le_of_ble_eq_true rfl) (Kt.Kp.below _ hb3) rfl trivial
                · cases Option.some.inj ho
                  refine Kt.no_guard rfl ?_
                  have e6 : act.tmps[90]?.getD undef = .bool true := hI.eq (j := 6) (Nat.le_of_ble_eq_true rfl) rfl (fun _ _ h => h) (hpre ⟨6, .data⟩ (by simp) rfl)
                  have hk := hI.put ok (j := 7) (s := 91) (v := .bool false) (Nat.le_of_ble_eq_true rfl) rfl (show (91 : Nat) ∈ alzS by decide) (Nat.le_of_ble_eq_true rfl) (Kt.Kp.refl _ _) rfl hI.st
                  refine Kt.op_opq hk ?_
                  clear hk
                  intro KK hkk
                  unfold Oper.wp
                  go_simp
                  exact hkk
                · cases Option.some.inj ho
                  refine Kt.no_guard rfl ?_
                  have e7 : act.tmps[91]?.getD undef = .bool false := hI.eq (j := 7) (Nat.le_of_ble_eq_true rfl) rfl (fun _ _ h => h) (hpre ⟨7, .data⟩ (by simp) rfl)
                  refine Kt.op_move rfl ?_
                  rw [show act.eval (.tmp 91) = .bool false from (Kt.val_get act 91).trans e7]
                  exact hI.put ok (j := 8) (Nat.le_of_ble_eq_true rfl) rfl (show (92 : Nat) ∈ alzS by decide) (Nat.le_of_ble_eq_true rfl) (Kt.Kp.refl _ _) rfl hI.st
                · cases Option.some.inj ho
                  have eg : act.tmps[92]?.getD undef = .bool false := hI.eq (j := 8) (Nat.le_of_ble_eq_true rfl) rfl (fun _ _ h => h) (hpre ⟨8, .guard⟩ (by simp) rfl)
                  refine Kt.yes_guard rfl rfl rfl eg rfl ?_
                  refine Kt.op_move rfl ?_
                  rw [show act.eval (.tmp 14) = .int .i64 (k : Int) from hI.frame.val_out (s := 14) (show 14 ∉ alzS by decide)]
                  exact hI.put ok (j := 9) (Nat.le_of_ble_eq_true rfl) rfl (show (93 : Nat) ∈ alzS by decide) (Nat.le_of_ble_eq_true rfl) (Kt.Kp.refl _ _) rfl hI.st
                · cases Option.some.inj ho
                  have eg : act.tmps[92]?.getD undef = .bool false := hI.eq (j := 8) (Nat.le_of_ble_eq_true rfl) rfl (fun _ _ h => h) (hpre ⟨8, .guard⟩ (by simp) rfl)
                  refine Kt.yes_guard rfl rfl rfl eg rfl ?_
                  have e9 : act.tmps[93]?.getD undef = .int .i64 (k : Int) := hI.eq (j := 9) (Nat.le_of_ble_eq_true rfl) rfl (fun _ _ h => h) (hpre ⟨9, .data⟩ (by simp) rfl)
                  have hk := hI.put ok (j := 10) (s := 94) (v := .bool false) (Nat.le_of_ble_eq_true rfl) rfl (show (94 : Nat) ∈ alzS by decide) (Nat.le_of_ble_eq_true rfl) (Kt.Kp.refl _ _) rfl hI.st
                  refine Kt.op_opq hk ?_
                  clear hk
                  intro KK hkk
                  unfold Oper.wp
                  go_simp
                  exact hkk
                · cases Option.some.inj ho
                  have eg : act.tmps[92]?.getD undef = .bool false := hI.eq (j := 8) (Nat.le_of_ble_eq_true rfl) rfl (fun _ _ h => h) (hpre ⟨8, .guard⟩ (by simp) rfl)
                  refine Kt.yes_guard rfl rfl rfl eg rfl ?_
                  have e10 : act.tmps[94]?.getD undef = .bool false := hI.eq (j := 10) (Nat.le_of_ble_eq_true rfl) rfl (fun _ _ h => h) (hpre ⟨10, .data⟩ (by simp) rfl)
                  refine Kt.op_move rfl ?_
                  rw [show act.eval (.tmp 94) = .bool false from (Kt.val_get act 94).trans e10]
                  exact hI.put ok (j := 11) (Nat.le_of_ble_eq_true rfl) rfl (show (95 : Nat) ∈ alzS by decide) (Nat.le_of_ble_eq_true rfl) (Kt.Kp.refl _ _) rfl hI.st
                · cases Option.some.inj ho
                  have eg : act.tmps[95]?.getD undef = .bool false := hI.eq (j := 11) (Nat.le_of_ble_eq_true rfl) rfl (fun _ _ h => h) (hpre ⟨11, .guard⟩ (by simp) rfl)
                  refine Kt.not_guard rfl rfl rfl eg (by decide) ?_
                  exact hI.put ok (j := 12) (Nat.le_of_ble_eq_true rfl) rfl (show (96 : Nat) ∈ alzS by decide) (Nat.le_of_ble_eq_true rfl) (Kt.Kp.refl _ _) rfl hI.st
                · cases Option.some.inj ho
                  have eg : act.tmps[95]?.getD undef = .bool false := hI.eq (j := 11) (Nat.le_of_ble_eq_true rfl) rfl (fun _ _ h => h) (hpre ⟨11, .guard⟩ (by simp) rfl)
                  refine Kt.not_guard rfl rfl rfl eg (by decide) ?_
                  exact hI.put ok (j := 13) (Nat.le_of_ble_eq_true rfl) rfl (show (97 : Nat) ∈ alzS by decide) (Nat.le_of_ble_eq_true rfl) (Kt.Kp.refl _ _) rfl hI.st
                · cases Option.some.inj ho
                  have eg : act.tmps[95]?.getD undef = .bool false := hI.eq (j := 11) (Nat.le_of_ble_eq_true rfl) rfl (fun _ _ h => h) (hpre ⟨11, .guard⟩ (by simp) rfl)
                  refine Kt.not_guard rfl rfl rfl eg (by decide) ?_
                  exact hI.put ok (j := 14) (Nat.le_of_ble_eq_true rfl) rfl (show (98 : Nat) ∈ alzS by decide) (Nat.le_of_ble_eq_true rfl) (Kt.Kp.refl _ _) rfl hI.st
                · cases Option.some.inj ho
                  have eg : act.tmps[95]?.getD undef = .bool false := hI.eq (j := 11) (Nat.le_of_ble_eq_true rfl) rfl (fun _ _ h => h) (hpre ⟨11, .guard⟩ (by simp) rfl)
                  refine Kt.not_guard rfl rfl rfl eg (by decide) ?_
                  exact hI.put ok (j := 15) (Nat.le_of_ble_eq_true rfl) rfl (show (99 : Nat) ∈ alzS by decide) (Nat.le_of_ble_eq_true rfl) (Kt.Kp.refl _ _) rfl hI.st
                · cases Option.some.inj ho
                  have eg : act.tmps[95]?.getD undef = .bool false := hI.eq (j := 11) (Nat.le_of_ble_eq_true rfl) rfl (fun _ _ h => h) (hpre ⟨11, .guard⟩ (by simp) rfl)
                  refine Kt.not_guard rfl rfl rfl eg (by decide) ?_
                  exact hI.put ok (j := 16) (Nat.le_of_ble_eq_true rfl) rfl (show (100 : Nat) ∈ alzS by decide) (Nat.le_of_ble_eq_true rfl) (Kt.Kp.refl _ _) rfl hI.st
                · cases Option.some.inj ho
                  have eg : act.tmps[95]?.getD undef = .bool false := hI.eq (j := 11) (Nat.le_of_ble_eq_true rfl) rfl (fun _ _ h => h) (hpre ⟨11, .guard⟩ (by simp) rfl)
                  refine Kt.not_guard rfl rfl rfl eg (by decide) ?_
                  exact hI.put ok (j := 17) (Nat.le_of_ble_eq_true rfl) rfl (show (101 : Nat) ∈ alzS by decide) (Nat.le_of_ble_eq_true rfl) (Kt.Kp.refl _ _) rfl hI.st
                · cases Option.some.inj ho
                  have eg : act.tmps[95]?.getD undef = .bool false := hI.eq (j := 11) (Nat.le_of_ble_eq_true rfl) rfl (fun _ _ h => h) (hpre ⟨11, .guard⟩ (by simp) rfl)
                  refine Kt.not_guard rfl rfl rfl eg (by decide) ?_
                  exact hI.put ok (j := 18) (Nat.le_of_ble_eq_true rfl) rfl (show (102 : Nat) ∈ alzS by decide) (Nat.le_of_ble_eq_true rfl) (Kt.Kp.refl _ _) rfl hI.st
                · cases Option.some.inj ho
                  have eg : act.tmps[95]?.getD undef = .bool false := hI.eq (j := 11) (Nat.le_of_ble_eq_true rfl) rfl (fun _ _ h => h) (hpre ⟨11, .guard⟩ (by simp) rfl)
                  refine Kt.not_guard rfl rfl rfl eg (by decide) ?_
                  exact hI.put ok (j := 19) (Nat.le_of_ble_eq_true rfl) rfl (show (103 : Nat) ∈ alzS by decide) (Nat.le_of_ble_eq_true rfl) (Kt.Kp.refl _ _) rfl hI.st
                · cases Option.some.inj ho
                  have eg : act.tmps[95]?.getD undef = .bool false := hI.eq (j := 11) (Nat.le_of_ble_eq_true rfl) rfl (fun _ _ h => h) (hpre ⟨11, .guard⟩ (by simp) rfl)
                  refine Kt.not_guard rfl rfl rfl eg (by decide) ?_
                  exact hI.put ok (j := 20) (Nat.le_of_ble_eq_true rfl) rfl (show (104 : Nat) ∈ alzS by decide) (Nat.le_of_ble_eq_true rfl) (Kt.Kp.refl _ _) rfl hI.st
                · cases Option.some.inj ho
                  have eg : act.tmps[95]?.getD undef = .bool false := hI.eq (j := 11) (Nat.le_of_ble_eq_true rfl) rfl (fun _ _ h => h) (hpre ⟨11, .guard⟩ (by simp) rfl)
                  refine Kt.not_guard rfl rfl rfl eg (by decide) ?_
                  exact hI.put ok (j := 21) (Nat.le_of_ble_eq_true rfl) rfl (show (105 : Nat) ∈ alzS by decide) (Nat.le_of_ble_eq_true rfl) (Kt.Kp.refl _ _) rfl hI.st
                · cases Option.some.inj ho
                  have eg : act.tmps[95]?.getD undef = .bool false := hI.eq (j := 11) (Nat.le_of_ble_eq_true rfl) rfl (fun _ _ h => h) (hpre ⟨11, .guard⟩ (by simp) rfl)
                  refine Kt.not_guard rfl rfl rfl eg (by decide) ?_
                  exact hI.put ok (j := 22) (Nat.le_of_ble_eq_true rfl) rfl (show (106 : Nat) ∈ alzS by decide) (Nat.le_of_ble_eq_true rfl) (Kt.Kp.refl _ _) rfl hI.st
                · cases Option.some.inj ho
                  have eg : act.tmps[95]?.getD undef = .bool false := hI.eq (j := 11) (Nat.le_of_ble_eq_true rfl) rfl (fun _ _ h => h) (hpre ⟨11, .guard⟩ (by simp) rfl)
                  refine Kt.not_guard rfl rfl rfl eg (by decide) ?_
                  exact hI.put ok (j := 23) (Nat.le_of_ble_eq_true rfl) rfl (show (107 : Nat) ∈ alzS by decide) (Nat.le_of_ble_eq_true rfl) (Kt.Kp.refl _ _) rfl hI.st
                · cases Option.some.inj ho
                  have eg : act.tmps[92]?.getD undef = .bool false := hI.eq (j := 8) (Nat.le_of_ble_eq_true rfl) rfl (fun _ _ h => h) (hpre ⟨8, .guard⟩ (by simp) rfl)
                  refine Kt.yes_guard rfl rfl rfl eg rfl ?_
                  have e11 : act.tmps[95]?.getD undef = .bool false := hI.eq (j := 11) (Nat.le_of_ble_eq_true rfl) rfl (fun _ _ h => h) (hpre ⟨11, .data⟩ (by simp) rfl)
                  have e23 : act.tmps[107]?.getD undef = undef := hI.eq (j := 23) (Nat.le_of_ble_eq_true rfl) rfl (fun _ _ h => h) (hpre ⟨23, .data⟩ (by simp) rfl)
                  have hk := hI.put ok (j := 24) (s := 108) (v := .bool false) (Nat.le_of_ble_eq_true rfl) rfl (show (108 : Nat) ∈ alzS by decide) (Nat.le_of_ble_eq_true rfl) (Kt.Kp.refl _ _) rfl hI.st
                  refine Kt.op_opq hk ?_
                  clear hk
                  intro KK hkk
                  unfold Oper.wp
                  go_simp
                  exact hkk
                · cases Option.some.inj ho
                  refine Kt.no_guard rfl ?_
                  have e8 : act.tmps[92]?.getD undef = .bool false := hI.eq (j := 8) (Nat.le_of_ble_eq_true rfl) rfl (fun _ _ h => h) (hpre ⟨8, .data⟩ (by simp) rfl)
                  have e24 : act.tmps[108]?.getD undef = .bool false := hI.eq (j := 24) (Nat.le_of_ble_eq_true rfl) rfl (fun _ _ h => h) (hpre ⟨24, .data⟩ (by simp) rfl)
                  have hk := hI.put ok (j := 25) (s := 109) (v := .bool false) (Nat.le_of_ble_eq_true rfl) rfl (show (109 : Nat) ∈ alzS by decide) (Nat.le_of_ble_eq_true rfl) (Kt.Kp.refl _ _) rfl hI.st
                  refine Kt.op_opq hk ?_
                  clear hk
                  intro KK hkk
                  unfold Oper.wp
                  go_simp
                  exact hkk
                · exfalso; simp at ho
              case hdone =>
                intro listed act w2 hI hr
                have hup := Kt.all_up (fun q o ho => by
                  rcases q with _ | _ | _ | _ | _ | _ | _ | _ | _ | _ | _ | _ | _ | _ | _ | _ | _ | _ | _ | _ | _ | _ | _ | _ | _ | _ | q
                  all_goals first | (cases Option.some.inj ho; decide) | (exfalso; simp at ho)) hI.size hr
                have z109 : Kt.val act 109 = .bool false := hI.res 25 (Nat.le_of_ble_eq_true rfl) (hup 25 (Nat.le_of_ble_eq_true rfl))
                have hst := hI.st
                have hkept := hI.kept
                rw [hI.frame.out]
                simp only [alzP, alzS, Kt.sets]
                generalize Kt.val act 84 = v84
                generalize Kt.val act 85 = v85
                generalize Kt.val act 86 = v86
                generalize Kt.val act 87 = v87
                generalize Kt.val act 88 = v88
                generalize Kt.val act 89 = v89
                generalize Kt.val act 90 = v90
                generalize Kt.val act 91 = v91
                generalize Kt.val act 92 = v92
                generalize Kt.val act 93 = v93
                generalize Kt.val act 94 = v94
                generalize Kt.val act 95 = v95
                generalize Kt.val act 96 = v96
                generalize Kt.val act 97 = v97
                generalize Kt.val act 98 = v98
                generalize Kt.val act 99 = v99
                generalize Kt.val act 100 = v100
                generalize Kt.val act 101 = v101
                generalize Kt.val act 102 = v102
                generalize Kt.val act 103 = v103
                generalize Kt.val act 104 = v104
                generalize Kt.val act 105 = v105
                generalize Kt.val act 106 = v106
                generalize Kt.val act 107 = v107
                generalize Kt.val act 108 = v108
                generalize Kt.val act 109 = v109 at z109 ⊢
                simp only [List.setIfInBounds_toArray, List.set_cons_zero, List.set_cons_succ]
                subst z109
                clear hI hr hup
                have hbl8 : Below w6.heap.size w6 w2 := hbl.trans ((hkept.to_below (Nat.le_refl _) (fun _ _ h => h)).mono hsl)
                go_wp2_with fail
                go_roundw
                case rel => exact ⟨k + 1, by omega, by go_num, hbl8⟩
                case measure => simp [intOf]; omega
          · obtain rfl : k = ll := by omega
            have HNl := Lib.hid (HNUM.out.on hbl)
            have hlm := HLM.out
            go_wp2_with fail
            refine (uint_any HNl.out HFIT.out).mono ?_
            rintro e w7 ⟨hux, hb7⟩
            have hbl7 : Below w6.heap.size w6 w7 := hbl.trans (hb7.mono hsl)
            have hb07 : Below w.heap.size w w7 := hb06.trans (hbl7.mono hs06)
            have hs07 := hb07.size
            have HG7 := Lib.hid (HG6.out.on hbl7)
            have HT7 := Lib.hid (HTK6.out.on hbl7)
            have HB07 := Lib.hid hb07
            obtain ⟨w8, hw8⟩ : ∃ w8, (w7.alloc (.cells #[.int .i64 0] 3)).setCell ⟨w7.heap.size, 0, none⟩ (.int .i64 20000) = w8 := ⟨_, rfl⟩
            have hk8 : Kt.Blk w8 w7.heap.size 3 #[.int .i64 20000] := by rw [← hw8]; exact (Kt.Blk.new w7 _ _).set_ 0 _
            have hb8 : Below w7.heap.size w7 w8 := by rw [← hw8]; exact ((Below.refl _ _).alloc (Nat.le_refl _) _).setCell (p := ⟨w7.heap.size, 0, none⟩) (Nat.le_refl _) _
            have f0 : (w7.alloc (.cells #[.int .i64 0] 3)).cell? ⟨w7.heap.size, 0, none⟩ = some (.int .i64 0) := (Kt.Blk.new w7 _ _).cell 0
            have f1 : (w7.alloc (.cells #[.int .i64 0] 3)).frozen? ⟨w7.heap.size, 0, none⟩ = false := (Kt.Blk.new w7 3 #[.int .i64 0]).frozen 0
            obtain ⟨w9, hw9⟩ : ∃ w9, w8.alloc (.cells #[.int .u16 0, .int .i64 0] 40) = w9 := ⟨_, rfl⟩
            have hb9 : Below w7.heap.size w7 w9 := by rw [← hw9]; exact hb8.alloc hb8.size _
            have hk9 : Kt.Blk w9 w7.heap.size 3 #[.int .i64 20000] := by rw [← hw9]; exact hk8.alloc _
            have hi9 : Kt.Blk w9 w8.heap.size 40 #[.int .u16 0, .int .i64 0] := by rw [← hw9]; exact Kt.Blk.new w8 _ _
            have hlt9 := hk8.lt
            have HSE := Lib.hid (search_any g tk nt HGD.out hnt.out (by omega) 20000 (Nat.le_refl _) 20000 (by omega) (by omega) [⟨0, 0⟩] 0 (by simp) (by omega) A n cp (some ⟨w8.heap.size, 0, none⟩) 1 1 T nt ct w7.heap.size w9 hn.out rfl rfl (Nat.le_refl _) HLT.out (Kt.Rules.keep HG7.out fun z hz => hb9.cell hz) (Kt.Ints.keep HT7.out fun z hz => hb9.cell hz)
              (fun _ => ⟨w8.heap.size, 0, rfl, hi9.lt, fun q hq => by
                obtain rfl : q = 0 := by simpa using hq
                exact ⟨hi9.cell 0, hi9.cell 1⟩⟩) (fun b o e => by injection e with e; injection e with e; omega) hk9 hk9.lt)
            have HWX : Hid (Gr.wc (hitf tk) (Gr.cn g (hitf tk) nt) [⟨0, 0⟩] 0 nt = x) := Lib.hid (by
              rw [Gr.wc_one (hitf tk) nt ⟨0, 0⟩ rfl, ← hx.out]
              unfold counts Gr.cnt
              rw [hnt.out])
            rw [HWX.out] at HSE
            have HB9 := Lib.hid hb9
            have wu : IntKind.u64.wrap (wn : Int) = (wn : Int) := IntWalk.u64_in _ (by omega)
            clear hb7 hbl7 hb07 hk8 hb8 hb9 hk9 hi9 hlt9 HWX
            rcases hux with ⟨hxs, rfl⟩ | ⟨hxg, rfl⟩
            · by_cases hxw : x < wn
              · have dx : decide (x < wn) = true := by simp [hxw]
                have dg : decide (wn ≤ x) = false := by simp; omega
                have wi : IntKind.i64.wrap (x : Int) = (x : Int) := IntWalk.i64_in _ (by omega)
                have dl : ((k : Int) != (x : Int)) = false := by simp; omega
                clear hlm
                go_upto_region 20 with fail
                try rw [hw8]
                go_wp2_with fail
                try rw [hw9]
                refine HSE.out.mono ?_
                rintro e wf ⟨c, st', rfl, hans⟩
                obtain ⟨hkp, hblk, _, _, _, hfin⟩ := hans
                have y0 : wf.cell? ⟨w7.heap.size, 0, none⟩ = some (.int .i64 st') := hblk.cell 0
                have hbf : Below w.heap.size w wf := by
                  have h1 := HB07.out.trans (HB9.out.mono hs07)
                  have h2 := h1.size
                  exact ⟨hkp.os.trans h1.os, hkp.tape.trans h1.tape, hkp.output.trans h1.output, Nat.le_trans h2 hkp.size, fun i hi => (hkp.same i (by omega) (by show ¬ i = w7.heap.size; omega)).trans (h1.block i hi)⟩
                have HBF := Lib.hid hbf
                have HFN := Lib.hid hfin
                clear hkp hblk hfin hbf HSE
                by_cases hs : st' < 0
                · have ds : decide (st' < 0) = true := by simp [hs]
                  clear hs
                  go_wp2_with fail
                  go_ret
                  exact ⟨rfl, HBF.out⟩
                · have ds : decide (st' < 0) = false := by simp; omega
                  obtain ⟨rfl, hw20⟩ := HFN.out (by omega)
                  have wc2 : IntKind.u64.wrap (x : Int) = (x : Int) := IntWalk.u64_in _ (by omega)
                  clear hs
                  go_wp2_with fail
                  go_ret
                  exact ⟨rfl, HBF.out⟩
              · have dx : decide (x < wn) = false := by simp; omega
                have dg : decide (wn ≤ x) = true := by simp; omega
                have dl : ((k : Int) != (wn : Int)) = false := by simp; omega
                clear hlm
                go_upto_region 20 with fail
                try rw [hw8]
                go_wp2_with fail
                try rw [hw9]
                refine HSE.out.mono ?_
                rintro e wf ⟨c, st', rfl, hans⟩
                obtain ⟨hkp, hblk, _, _, _, hfin⟩ := hans
                have y0 : wf.cell? ⟨w7.heap.size, 0, none⟩ = some (.int .i64 st') := hblk.cell 0
                have hbf : Below w.heap.size w wf := by
                  have h1 := HB07.out.trans (HB9.out.mono hs07)
                  have h2 := h1.size
                  exact ⟨hkp.os.trans h1.os, hkp.tape.trans h1.tape, hkp.output.trans h1.output, Nat.le_trans h2 hkp.size, fun i hi => (hkp.same i (by omega) (by show ¬ i = w7.heap.size; omega)).trans (h1.block i hi)⟩
                have HBF := Lib.hid hbf
                have HFN := Lib.hid hfin
                clear hkp hblk hfin hbf HSE
                by_cases hs : st' < 0
                · have ds : decide (st' < 0) = true := by simp [hs]
                  clear hs
                  go_wp2_with fail
                  go_ret
                  exact ⟨rfl, HBF.out⟩
                · have ds : decide (st' < 0) = false := by simp; omega
                  obtain ⟨rfl, hw20⟩ := HFN.out (by omega)
                  have wc2 : IntKind.u64.wrap (x : Int) = (x : Int) := IntWalk.u64_in _ (by omega)
                  clear hs
                  go_wp2_with fail
                  go_ret
                  exact ⟨rfl, HBF.out⟩
            · have dl : ((k : Int) != (wn : Int)) = false := by simp; omega
              clear hlm
              go_upto_region 20 with fail
              try rw [hw8]
              go_wp2_with fail
              try rw [hw9]
              refine HSE.out.mono ?_
              rintro e wf ⟨c, st', rfl, hans⟩
              obtain ⟨hkp, hblk, _, _, _, hfin⟩ := hans
              have y0 : wf.cell? ⟨w7.heap.size, 0, none⟩ = some (.int .i64 st') := hblk.cell 0
              have hbf : Below w.heap.size w wf := by
                have h1 := HB07.out.trans (HB9.out.mono hs07)
                have h2 := h1.size
                exact ⟨hkp.os.trans h1.os, hkp.tape.trans h1.tape, hkp.output.trans h1.output, Nat.le_trans h2 hkp.size, fun i hi => (hkp.same i (by omega) (by show ¬ i = w7.heap.size; omega)).trans (h1.block i hi)⟩
              have HBF := Lib.hid hbf
              have HFN := Lib.hid hfin
              clear hkp hblk hfin hbf HSE
              by_cases hs : st' < 0
              · have ds : decide (st' < 0) = true := by simp [hs]
                clear hs
                go_wp2_with fail
                go_ret
                exact ⟨rfl, HBF.out⟩
              · exfalso
                obtain ⟨_, hw20⟩ := HFN.out (by omega)
                omega
    · have hce : (c != 0) = true := by simp [hcz]
      clear hcz hc
      go_wp2_with fail
      go_ret
      exact ⟨rfl, hb03⟩
  · go_wp2_with fail
    go_ret
    exact ⟨rfl, hb1⟩
end Go.Proofs.Ytkclifdbdnigaaa
end
