/- Joined: NaX. -/
import Derived.Test.YtkclifdbdnigaaaMa19
import Derived.Test.YtkclifdbdnigaaaMa20
section
/- The walk of GrammarNamed. -/
namespace Go.Proofs.Ytkclifdbdnigaaa
open Go Go.RowKit
theorem OG.cellL {w : World} {base gb cap : Nat} {g : List Gr.Rule} {G C : Nat → Nat} {n : Nat} (h : OG w base (.slice (some ⟨gb, 0, none⟩) n cap) g G C) {r : Nat} (hr : r < g.length) :
    w.cell? ⟨gb, r * 2, none⟩ = some (.int .i64 (Gr.rul g r).left) ∧ w.cell? ⟨gb, r * 2 + 1, none⟩ = some (.slice (some ⟨G r, 0, none⟩) (Gr.rul g r).right.length (C r)) ∧ w.frozen? ⟨gb, r * 2, none⟩ = false := by
  have hfl : ∀ q, q < 2 → (flatR G C g)[r * 2 + q]? = ([.int .i64 (Gr.rul g r).left, .slice (some ⟨G r, 0, none⟩) (Gr.rul g r).right.length (C r)] : List Value)[q]? := fun q hq => flatR_get G C g r q hr hq
  have c0 := h.own.cells rfl (r * 2) _ (hfl 0 (by omega))
  have c1 := h.own.cells rfl (r * 2 + 1) _ (hfl 1 (by omega))
  rw [Addr.add_lit, Nat.zero_add] at c0 c1
  refine ⟨c0, c1, ?_⟩
  rcases h.own.2 with ⟨e, _⟩ | ⟨g', cap', cur, e1, _, hcur, _⟩
  · cases e
  · injection e1 with e1
    injection e1 with e1
    injection e1 with e1
    subst e1
    exact (show Kt.Blk w gb _ cur from hcur).frozen _
theorem OG.cellI {w : World} {base : Nat} {v : Value} {g : List Gr.Rule} {G C : Nat → Nat} (h : OG w base v g G C) {r q : Nat} (hr : r < g.length) (hq : q < (Gr.rul g r).right.length) :
    w.cell? ⟨G r, q * 2, none⟩ = some (.int .u16 (Gr.itm (Gr.rul g r).right q).cls) ∧ w.cell? ⟨G r, q * 2 + 1, none⟩ = some (.int .i64 (Gr.itm (Gr.rul g r).right q).sym) ∧ w.frozen? ⟨G r, q * 2 + 1, none⟩ = false := by
  obtain ⟨e0, e1⟩ := flatI_get (Gr.rul g r).right q hq
  have c0 := (h.its r hr).cells rfl (q * 2) _ e0
  have c1 := (h.its r hr).cells rfl (q * 2 + 1) _ e1
  rw [Addr.add_lit, Nat.zero_add] at c0 c1
  refine ⟨c0, c1, ?_⟩
  rcases (h.its r hr).2 with ⟨e, _⟩ | ⟨g', cap', cur, e1, _, hcur, _⟩
  · cases e
  · injection e1 with e1
    injection e1 with e1
    injection e1 with e1
    rw [e1]
    exact (show Kt.Blk w g' _ cur from hcur).frozen _
theorem OG.rules' {w : World} {base : Nat} {A : Option Addr} {n c : Nat} {g : List Gr.Rule} {G C : Nat → Nat} (h : OG w base (.slice A n c) g G C) (hlen : ∀ r, r < g.length → (Gr.rul g r).right.length ≤ 4611686018427387904) : Kt.Rules w w.heap.size A g := by
  obtain ⟨A', c', e, hr⟩ := h.rules hlen
  injection e with e1 e2 e3
  rw [e1]; exact hr
theorem counts_fit {g : List Gr.Rule} (hG : Gr.Good g) {tk : List Int} (h : tk.length ≤ 30) : (Nt.limbs (counts g tk)).length ≤ 1024 := by
  obtain ⟨ρ, hR⟩ := hG.ranked
  exact Gr.limbs_fit fun K hK => Gr.cnt_lt hR (by have := hG.len; omega) _ tk.length 0 0 tk.length (by omega) (by omega) hK
def nm5Z (pa pb : Nat) (a b a1 b1 : Int) (L : Nat → Bool) (_ : Nat → Value) (w : World) : Prop :=
  (L 6 = false → Kt.Blk w pa 3 #[.int .i64 a]) ∧ (L 6 = true → Kt.Blk w pa 3 #[.int .i64 a1]) ∧ (L 7 = false → Kt.Blk w pb 3 #[.int .i64 b]) ∧ (L 7 = true → Kt.Blk w pb 3 #[.int .i64 b1]) ∧ (L 6 = true → L 0 = true) ∧ (L 7 = true → L 3 = true)
def nmfSlot : Nat → Nat := fun j => match j with | 0 => 37 | 1 => 38 | 2 => 39 | 3 => 40 | 4 => 41 | 5 => 42 | 6 => 100006 | 7 => 100007 | _ => 999999
def nmfS : List Nat := [37, 38, 39, 40, 41, 42]
set_option linter.unusedVariables false in
def nmfR (pa pb : Nat) (a b a1 b1 : Int) : Nat → Value → World → Prop := fun j u w => match j with | 0 => u = (.int .i64 a) | 1 => u = (.int .i64 (pickF a 63)) | 2 => u = (.int .i64 a1) | 3 => u = (.int .i64 b) | 4 => u = (.int .i64 (pickF b 63)) | 5 => u = (.int .i64 b1) | 6 => True | 7 => True | _ => True
def nmfP (a0 : Act) (W : World) (pa pb : Nat) (a b a1 b1 : Int) : Kt.RxP := ⟨8, nmfSlot, nmfS, a0, W, fun q => q = pa ∨ q = pb, nmfR pa pb a b a1 b1, nm5Z pa pb a b a1 b1⟩
theorem nmf_ok {a0 : Act} {W : World} {pa pb : Nat} {a b a1 b1 : Int} {listed : Array Bool} {act : Act} {w : World} (_ : Kt.RxI (nmfP a0 W pa pb a b a1 b1) listed act w) : Kt.RxOk (nmfP a0 W pa pb a b a1 b1) := by
  refine ⟨fun i hi j hj => (by decide : ∀ i, i < 8 → ∀ j, j < 8 → nmfSlot i = nmfSlot j → i = j) i hi j hj, fun j u w w' h hk => ?_⟩
  rcases j with _ | _ | _ | _ | _ | _ | _ | _ | j
  · exact h
  · exact h
  · exact h
  · exact h
  · exact h
  · exact h
  · exact h
  · exact h
  · exact h

def nmtSlot : Nat → Nat := fun j => match j with | 0 => 119 | 1 => 120 | 2 => 121 | 3 => 122 | 4 => 123 | 5 => 124 | 6 => 125 | 7 => 126 | 8 => 127 | 9 => 128 | _ => 999999
def nmtS : List Nat := [119, 120, 121, 122, 123, 124, 125, 126, 127, 128]
set_option linter.unusedVariables false in
def nmtR (u1 o1 c1 u2 o2 c2 N i : Nat) (d0 d1 d2 : Int) (Ad : Option Addr) (nd cd : Nat) (e0 e1 e2 : Int) (Ae : Option Addr) (ne ce : Nat) : Nat → Value → World → Prop := fun j u w => match j with | 0 => u = (.slice (some ⟨u1, o1, none⟩) N c1) | 1 => u = (.int .i64 (i : Int)) | 2 => u = (.pointer (some ⟨u1, o1 + i * 4, none⟩)) | 3 => u = (.agg #[.int .i64 d0, .int .i64 d1, .int .i64 d2, .slice Ad nd cd]) | 4 => u = (.slice (some ⟨u2, o2, none⟩) N c2) | 5 => u = (.int .i64 (i : Int)) | 6 => u = (.pointer (some ⟨u2, o2 + i * 4, none⟩)) | 7 => u = (.agg #[.int .i64 e0, .int .i64 e1, .int .i64 e2, .slice Ae ne ce]) | 8 => u = (.bool true) | 9 => u = (.bool false) | _ => True
def nmtP (a0 : Act) (W : World) (u1 o1 c1 u2 o2 c2 N i : Nat) (d0 d1 d2 : Int) (Ad : Option Addr) (nd cd : Nat) (e0 e1 e2 : Int) (Ae : Option Addr) (ne ce : Nat) : Kt.RxP := ⟨10, nmtSlot, nmtS, a0, W, fun _ => False, nmtR u1 o1 c1 u2 o2 c2 N i d0 d1 d2 Ad nd cd e0 e1 e2 Ae ne ce, fun _ _ _ => True⟩
theorem nmt_ok {a0 : Act} {W : World} {u1 o1 c1 u2 o2 c2 N i : Nat} {d0 d1 d2 : Int} {Ad : Option Addr} {nd cd : Nat} {e0 e1 e2 : Int} {Ae : Option Addr} {ne ce : Nat} {listed : Array Bool} {act : Act} {w : World} (_ : Kt.RxI (nmtP a0 W u1 o1 c1 u2 o2 c2 N i d0 d1 d2 Ad nd cd e0 e1 e2 Ae ne ce) listed act w) : Kt.RxOk (nmtP a0 W u1 o1 c1 u2 o2 c2 N i d0 d1 d2 Ad nd cd e0 e1 e2 Ae ne ce) := by
  refine ⟨fun i hi j hj => (by decide : ∀ i, i < 10 → ∀ j, j < 10 → nmtSlot i = nmtSlot j → i = j) i hi j hj, fun j u w w' h hk => ?_⟩
  rcases j with _ | _ | _ | _ | _ | _ | _ | _ | _ | _ | j
  · exact h
  · exact h
  · exact h
  · exact h
  · exact h
  · exact h
  · exact h
  · exact h
  · exact h
  · exact h
  · exact h

set_option maxRecDepth 100000 in
set_option maxHeartbeats 4000000 in
theorem walk_GrammarNamed (w : World) (A : Option Addr) (cp : Nat) (g : List Gr.Rule) (lg : g.length ≤ 4398046511104) (hg : Kt.Rules w w.heap.size A g) (wg : WfR g)
    (T : Option Addr) (ct : Nat) (tk : List Int) (_lt : tk.length ≤ ct) (_mt : ct ≤ maxLen) (ht : Kt.Ints w w.heap.size .u16 T tk) (_wt : ∀ i ∈ tk, (Lit.int .u16 i).wf = true) (zt : tk.length * 2 ≤ 140737488351232) (_kt : T = none → ct = 0)
    (a : Int) (_wa : (Lit.int .i64 a).wf = true) (b : Int) (_wb : (Lit.int .i64 b).wf = true) :
    Calls Try.prog 4 #[.slice A g.length cp, .slice T tk.length ct, .int .i64 a, .int .i64 b] w fun e w' => e = .returned (.bool true) ∧ Below w.heap.size w w' := by
  obtain ⟨n, hn⟩ : ∃ n, Hid (g.length = n) := ⟨_, Lib.hid rfl⟩
  obtain ⟨nt, hnt⟩ : ∃ nt, Hid (tk.length = nt) := ⟨_, Lib.hid rfl⟩
  rw [hn.out] at lg
  rw [hnt.out] at zt
  rw [hn.out, hnt.out]
  obtain ⟨w0, hw0⟩ : ∃ w0, (w.alloc (.cells #[.int .i64 a] 3)).alloc (.cells #[.int .i64 b] 3) = w0 := ⟨_, rfl⟩
  have hb0 : Below w.heap.size w w0 := by rw [← hw0]; exact ((Below.refl _ _).alloc (Nat.le_refl _) _).alloc (by simp) _
  have ka : Kt.Blk w0 w.heap.size 3 #[.int .i64 a] := by rw [← hw0]; exact (Kt.Blk.new w _ _).alloc _
  have kb : Kt.Blk w0 (w.heap.size + 1) 3 #[.int .i64 b] := by rw [← hw0]; exact Kt.Blk.new' _ _ _ _ (by simp)
  have HG := Lib.hid hg
  have HT := Lib.hid ht
  have HW := Lib.hid wg
  clear hg ht wg _lt _mt _wt
  go_enter Try.func4, Try.ntmps4
  go_wp2_with fail
  refine (awake_any w0).mono ?_
  rintro e w1 ⟨rfl, b1⟩
  have hb1 : Below w.heap.size w w1 := hb0.trans (b1.mono hb0.size)
  have ka1 := ka.on b1
  have kb1 := kb.on b1
  clear hw0 b1 hb0 ka kb
  have HKA := Lib.hid ka1
  have HKB := Lib.hid kb1
  clear ka1 kb1
  go_wp2_with fail
  refine (great_any g nt A n cp T ct w1 hn.out (by omega) (HG.out.on hb1)).mono ?_
  rintro e w2 ⟨rfl, ⟨rfl, hfine⟩ | rfl⟩
  · go_wp2_with fail
    refine (Valid_any g A n cp w1 hn.out (by omega) (HG.out.on hb1)).mono ?_
    rintro e w3 ⟨hb3, c, rfl, hc⟩
    have hb3' : Below w.heap.size w w3 := hb1.trans (hb3.mono hb1.size)
    by_cases hcz : c = 0
    · subst hcz
      have hGood := hc.good.1 rfl
      by_cases hnt12 : 12 < nt
      · have d1 : decide ((nt : Int) > 12) = true := by simp; omega
        clear hc
        go_wp2_with fail
        go_ret
        exact ⟨rfl, hb3'⟩
      · have d1 : decide ((nt : Int) > 12) = false := by simp; omega
        have ka3 := HKA.out.on hb3
        have kb3 := HKB.out.on hb3
        have HGD := Lib.hid hGood
        have hs3 := hb3'.size
        clear hc hGood hfine
        have hpab : w.heap.size ≠ w.heap.size + 1 := by omega
        have hba := pickF_bd a (n := 63) (by decide)
        have hbb := pickF_bd b (n := 63) (by decide)
        obtain ⟨hba0, hba1⟩ : 0 ≤ pickF a 63 ∧ pickF a 63 < 63 := hba
        obtain ⟨hbb0, hbb1⟩ : 0 ≤ pickF b 63 ∧ pickF b 63 < 63 := hbb
        obtain ⟨a1, ha1⟩ : ∃ a1, 1 + pickF a 63 = a1 := ⟨_, rfl⟩
        obtain ⟨b1, hb1'⟩ : ∃ b1, 1 + pickF b 63 = b1 := ⟨_, rfl⟩
        have hwa1 : IntKind.i64.wrap a1 = a1 := IntWalk.i64_in _ (by omega)
        have hwb1 : IntKind.i64.wrap b1 = b1 := IntWalk.i64_in _ (by omega)
        go_wp2_with fail
        refine Kt.region_inv (Kt.RxI (nmfP _ w3 w.heap.size (w.heap.size + 1) a b a1 b1)) (by kernel_rfl) ?hg (Kt.RxI.start ⟨fun _ => ka3, fun q => (by cases q), fun _ => kb3, fun q => (by cases q), fun q => (by cases q), fun q => (by cases q)⟩) ?hstep ?hdone
        case hg =>
          intro q o ho
          rcases q with _ | _ | _ | _ | _ | _ | _ | _ | q
          all_goals first | (cases Option.some.inj ho; rfl) | (exfalso; simp at ho)
        case hstep =>
          intro listed act w2 q o hI ho hn hpre
          have ok := nmf_ok hI
          rcases q with _ | _ | _ | _ | _ | _ | _ | _ | q
          · cases Option.some.inj ho
            obtain ⟨z1, z2, z3, z4, z5, z6⟩ := hI.st
            have hst : Kt.lis listed 6 = false := by
              cases h : Kt.lis listed 6 with
              | false => rfl
              | true =>
                have h9 : listed.getD 0 false = true := z5 h
                rw [Kt.getD_no hn] at h9; cases h9
            have cB : w2.cell? ⟨w.heap.size, 0, none⟩ = some (.int .i64 a) := (z1 hst).cell 0
            have f6 : act.tmps[6]?.getD undef = .pointer (some ⟨w.heap.size, 0, none⟩) := (Kt.val_get act 6).symm.trans (hI.frame.val_out (s := 6) (show 6 ∉ nmfS by decide))
            have hk := hI.put ok (j := 0) (s := 37) (v := .int .i64 a) (w' := _) (Nat.le_of_ble_eq_true rfl) rfl (show (37 : Nat) ∈ nmfS by decide) (Nat.le_of_ble_eq_true rfl) (Kt.Kp.refl _ _) rfl ⟨z1, z2, z3, z4, ⟨fun _ => rfl, z6⟩⟩
            refine Kt.op_opq hk ?_
            clear hk
            intro KK hkk
            unfold Oper.wp
            go_simp
            exact hkk
          · cases Option.some.inj ho
            have e0 : act.tmps[37]?.getD undef = .int .i64 a := hI.eq (j := 0) (Nat.le_of_ble_eq_true rfl) rfl (fun _ _ h => h) (hpre ⟨0, .data⟩ (by simp) rfl)
            refine Kt.op_opc (s := 38) (fun v w3 => v = .int .i64 (pickF a 63) ∧ w3 = w2) ?_ ?_
            · intro KK hkk
              unfold Oper.wp
              go_simp
              refine (pick_any a 63 (by decide) (by decide) w2).mono ?_
              rintro e w3 ⟨rfl, rfl⟩
              exact hkk _ _ ⟨rfl, rfl⟩
            rintro v3 w3 ⟨rfl, rfl⟩
            exact hI.put ok (j := 1) (s := 38) (v := .int .i64 (pickF a 63)) (w' := _) (Nat.le_of_ble_eq_true rfl) rfl (show (38 : Nat) ∈ nmfS by decide) (Nat.le_of_ble_eq_true rfl) (Kt.Kp.refl _ _) rfl hI.st
          · cases Option.some.inj ho
            have e1 : act.tmps[38]?.getD undef = .int .i64 (pickF a 63) := hI.eq (j := 1) (Nat.le_of_ble_eq_true rfl) rfl (fun _ _ h => h) (hpre ⟨1, .data⟩ (by simp) rfl)
            have hk := hI.put ok (j := 2) (s := 39) (v := .int .i64 a1) (Nat.le_of_ble_eq_true rfl) rfl (show (39 : Nat) ∈ nmfS by decide) (Nat.le_of_ble_eq_true rfl) (Kt.Kp.refl _ _) rfl hI.st
            refine Kt.op_opq hk ?_
            clear hk
            intro KK hkk
            unfold Oper.wp
            go_simp
            exact hkk
          · cases Option.some.inj ho
            obtain ⟨z1, z2, z3, z4, z5, z6⟩ := hI.st
            have hst : Kt.lis listed 7 = false := by
              cases h : Kt.lis listed 7 with
              | false => rfl
              | true =>
                have h9 : listed.getD 3 false = true := z6 h
                rw [Kt.getD_no hn] at h9; cases h9
            have cB : w2.cell? ⟨(w.heap.size + 1), 0, none⟩ = some (.int .i64 b) := (z3 hst).cell 0
            have f7 : act.tmps[7]?.getD undef = .pointer (some ⟨(w.heap.size + 1), 0, none⟩) := (Kt.val_get act 7).symm.trans (hI.frame.val_out (s := 7) (show 7 ∉ nmfS by decide))
            have hk := hI.put ok (j := 3) (s := 40) (v := .int .i64 b) (w' := _) (Nat.le_of_ble_eq_true rfl) rfl (show (40 : Nat) ∈ nmfS by decide) (Nat.le_of_ble_eq_true rfl) (Kt.Kp.refl _ _) rfl ⟨z1, z2, z3, z4, ⟨z5, fun _ => rfl⟩⟩
            refine Kt.op_opq hk ?_
            clear hk
            intro KK hkk
            unfold Oper.wp
            go_simp
            exact hkk
          · cases Option.some.inj ho
            have e3 : act.tmps[40]?.getD undef = .int .i64 b := hI.eq (j := 3) (Nat.le_of_ble_eq_true rfl) rfl (fun _ _ h => h) (hpre ⟨3, .data⟩ (by simp) rfl)
            refine Kt.op_opc (s := 41) (fun v w3 => v = .int .i64 (pickF b 63) ∧ w3 = w2) ?_ ?_
            · intro KK hkk
              unfold Oper.wp
              go_simp
              refine (pick_any b 63 (by decide) (by decide) w2).mono ?_
              rintro e w3 ⟨rfl, rfl⟩
              exact hkk _ _ ⟨rfl, rfl⟩
            rintro v3 w3 ⟨rfl, rfl⟩
            exact hI.put ok (j := 4) (s := 41) (v := .int .i64 (pickF b 63)) (w' := _) (Nat.le_of_ble_eq_true rfl) rfl (show (41 : Nat) ∈ nmfS by decide) (Nat.le_of_ble_eq_true rfl) (Kt.Kp.refl _ _) rfl hI.st
          · cases Option.some.inj ho
            have e4 : act.tmps[41]?.getD undef = .int .i64 (pickF b 63) := hI.eq (j := 4) (Nat.le_of_ble_eq_true rfl) rfl (fun _ _ h => h) (hpre ⟨4, .data⟩ (by simp) rfl)
            have hk := hI.put ok (j := 5) (s := 42) (v := .int .i64 b1) (Nat.le_of_ble_eq_true rfl) rfl (show (42 : Nat) ∈ nmfS by decide) (Nat.le_of_ble_eq_true rfl) (Kt.Kp.refl _ _) rfl hI.st
            refine Kt.op_opq hk ?_
            clear hk
            intro KK hkk
            unfold Oper.wp
            go_simp
            exact hkk
          · cases Option.some.inj ho
            have e2 : act.tmps[39]?.getD undef = .int .i64 a1 := hI.eq (j := 2) (Nat.le_of_ble_eq_true rfl) rfl (fun _ _ h => h) (hpre ⟨2, .data⟩ (by simp) rfl)
            obtain ⟨z1, z2, z3, z4, z5, z6⟩ := hI.st
            have hB := z1 (Kt.getD_no hn)
            have cB : w2.cell? ⟨w.heap.size, 0, none⟩ = some (.int .i64 a) := hB.cell 0
            have fB : w2.frozen? ⟨w.heap.size, 0, none⟩ = false := hB.frozen 0
            have f6 : act.tmps[6]?.getD undef = .pointer (some ⟨w.heap.size, 0, none⟩) := (Kt.val_get act 6).symm.trans (hI.frame.val_out (s := 6) (show 6 ∉ nmfS by decide))
            have hk := hI.store ok (j := 6) (w' := w2.setCell ⟨w.heap.size, 0, none⟩ (.int .i64 a1)) (Nat.le_of_ble_eq_true rfl) (Kt.Kp.set (p := ⟨w.heap.size, 0, none⟩) (.inl rfl) _) trivial ?_
            · refine Kt.op_opq0 hk ?_
              clear hk
              intro KK hkk
              unfold Oper.wp
              go_simp
              exact hkk
            refine ⟨fun q => absurd (show true = false from q) (by decide), fun _ => ?_, fun q => ?_, fun q => ?_, fun _ => hpre ⟨0, .phase⟩ (by simp) rfl, z6⟩
            · exact hB.set_ 0 _
            · exact (z3 q).far (p := ⟨w.heap.size, 0, none⟩) hpab.symm _
            · exact (z4 q).far (p := ⟨w.heap.size, 0, none⟩) hpab.symm _
          · cases Option.some.inj ho
            have e5 : act.tmps[42]?.getD undef = .int .i64 b1 := hI.eq (j := 5) (Nat.le_of_ble_eq_true rfl) rfl (fun _ _ h => h) (hpre ⟨5, .data⟩ (by simp) rfl)
            obtain ⟨z1, z2, z3, z4, z5, z6⟩ := hI.st
            have hB := z3 (Kt.getD_no hn)
            have cB : w2.cell? ⟨(w.heap.size + 1), 0, none⟩ = some (.int .i64 b) := hB.cell 0
            have fB : w2.frozen? ⟨(w.heap.size + 1), 0, none⟩ = false := hB.frozen 0
            have f7 : act.tmps[7]?.getD undef = .pointer (some ⟨(w.heap.size + 1), 0, none⟩) := (Kt.val_get act 7).symm.trans (hI.frame.val_out (s := 7) (show 7 ∉ nmfS by decide))
            have hk := hI.store ok (j := 7) (w' := w2.setCell ⟨(w.heap.size + 1), 0, none⟩ (.int .i64 b1)) (Nat.le_of_ble_eq_true rfl) (Kt.Kp.set (p := ⟨(w.heap.size + 1), 0, none⟩) (.inr rfl) _) trivial ?_
            · refine Kt.op_opq0 hk ?_
              clear hk
              intro KK hkk
              unfold Oper.wp
              go_simp
              exact hkk
            refine ⟨fun q => ?_, fun q => ?_, fun q => absurd (show true = false from q) (by decide), fun _ => ?_, z5, fun _ => hpre ⟨3, .phase⟩ (by simp) rfl⟩
            · exact (z1 q).far (p := ⟨(w.heap.size + 1), 0, none⟩) hpab _
            · exact (z2 q).far (p := ⟨(w.heap.size + 1), 0, none⟩) hpab _
            · exact hB.set_ 0 _
          · exfalso; simp at ho
        case hdone =>
          intro listed act w2 hI hr
          have hup := Kt.all_up (fun q o ho => by
            rcases q with _ | _ | _ | _ | _ | _ | _ | _ | q
            all_goals first | (cases Option.some.inj ho; decide) | (exfalso; simp at ho)) hI.size hr
          have hst := hI.st
          have hkept := hI.kept
          rw [hI.frame.out]
          simp only [nmfP, nmfS, Kt.sets]
          obtain ⟨_, y2, _, y4, _, _⟩ := hst
          have yA := y2 (hup 6 (by decide))
          have yB := y4 (hup 7 (by decide))
          clear y2 y4
          generalize Kt.val act 37 = v37
          generalize Kt.val act 38 = v38
          generalize Kt.val act 39 = v39
          generalize Kt.val act 40 = v40
          generalize Kt.val act 41 = v41
          generalize Kt.val act 42 = v42
          simp only [List.setIfInBounds_toArray, List.set_cons_zero, List.set_cons_succ]
          clear hI hr hup
          obtain ⟨wB, rfl⟩ : ∃ wB, wB = w2 := ⟨_, rfl⟩
          have hbz : Below w.heap.size w wB := hb3'.trans (hkept.to_below hs3 (fun q hq e => by rcases e with e | e <;> omega))
          have HA1 : Hid (1 ≤ a1 ∧ a1 ≤ 63) := Lib.hid ⟨by omega, by omega⟩
          have HB1 : Hid (1 ≤ b1 ∧ b1 ≤ 63) := Lib.hid ⟨by omega, by omega⟩
          have hsz := hkept.size
          have HYA := Lib.hid yA
          have HYB := Lib.hid yB
          clear ha1 hb1' hba0 hba1 hbb0 hbb1 yA yB hkept ka3 kb3
          clear hwa1 hwb1
          go_wp2_with fail
          refine (copyRules_any g HGD.out A n cp wB hn.out (HG.out.on hbz)).mono ?_
          rintro e w4 ⟨hb4, v, G, C, rfl, hO⟩
          have hr8 : ∀ r, r < g.length → (Gr.rul g r).right.length ≤ 8 := fun r hr => (HGD.out.ok r hr).parts.2.2.1
          obtain ⟨A', cz, rfl, _⟩ := hO.rules (fun r hr => by have := hr8 r hr; omega)
          rw [hn.out] at hO
          have HO := Lib.hid hO
          have HR8 := Lib.hid hr8
          have hs4 := hb4.size
          rw [hn.out]
          clear hO hr8
          go_wp2_with fail
          go_loopw [11] (fun s wr => ∃ k : Nat, k ≤ n ∧ s = .int .i64 k ∧ Hid (OG wr wB.heap.size (.slice A' n cz) (Gr.stR (Gr.swp a1 b1) (fun x => Gr.swp a1 b1 x.sym) g k 0 false) G C) ∧ Below wB.heap.size wB wr) (fun s _ => n - (intOf s).toNat)
          case atStart => exact ⟨0, Nat.zero_le _, rfl, Lib.hid (by rw [Gr.stR_zero]; exact HO.out), hb4⟩
          case round =>
            obtain ⟨k, hk, rfl, hOk, hbel⟩ := hrel
            have hsr := hbel.size
            by_cases hlt : k < n
            · have hkg : k < g.length := by rw [hn.out]; exact hlt
              obtain ⟨_, hl1, hl8, _⟩ := (HGD.out.ok k hkg).parts
              obtain ⟨gb, cap9, he9, hgb1, hgb2⟩ := hOk.out.own.form (by rw [Gr.stR_len]; omega)
              injection he9 with he9 hx1 hx2
              subst he9
              clear hx1 hx2
              have hrk : Gr.rul (Gr.stR (Gr.swp a1 b1) (fun x => Gr.swp a1 b1 x.sym) g k 0 false) k = Gr.rul g k := by
                rw [Gr.stR_rul _ _ _ _ hkg, if_neg (Nat.lt_irrefl _), if_pos rfl]
                simp
              obtain ⟨hc1, hc2, hf1⟩ := hOk.out.cellL (r := k) (by rw [Gr.stR_len]; exact hkg)
              rw [hrk] at hc1 hc2
              obtain ⟨lf, hlf⟩ : ∃ lf, Hid ((Gr.rul g k).left = lf) := ⟨_, Lib.hid rfl⟩
              obtain ⟨m, hm⟩ : ∃ m, Hid ((Gr.rul g k).right.length = m) := ⟨_, Lib.hid rfl⟩
              obtain ⟨gi, hgi⟩ : ∃ gi, Hid (G k = gi) := ⟨_, Lib.hid rfl⟩
              obtain ⟨cq, hcq⟩ : ∃ cq, Hid (C k = cq) := ⟨_, Lib.hid rfl⟩
              rw [hlf.out] at hc1
              rw [hm.out, hgi.out, hcq.out] at hc2
              rw [hm.out] at hl8
              have hag : w.heap.size < wB.heap.size := HYA.out.lt
              have hbg : w.heap.size + 1 < wB.heap.size := HYB.out.lt
              have ca0 : wr.cell? ⟨w.heap.size, 0, none⟩ = some (.int .i64 a1) := (HYA.out.below hbel hag).cell 0
              have cb0 : wr.cell? ⟨w.heap.size + 1, 0, none⟩ = some (.int .i64 b1) := (HYB.out.below hbel hbg).cell 0
              clear hl1 hrk
              go_wp2_with fail
              refine (swap_any a1 b1 lf w.heap.size (w.heap.size + 1) wr ca0 cb0).mono ?_
              rintro e w5 ⟨rfl, rfl⟩
              have hO1 : Hid (OG (w5.setCell ⟨gb, k * 2, none⟩ (.int .i64 (Gr.swp a1 b1 lf))) wB.heap.size (.slice (some ⟨gb, 0, none⟩) n cz) (Gr.stR (Gr.swp a1 b1) (fun x => Gr.swp a1 b1 x.sym) g k 0 true) G C) := Lib.hid (by
                refine OG.setLeft (r := k) hOk.out (by rw [Gr.stR_len, hn.out]) (by rw [Gr.stR_len]; exact hkg) (by rw [Gr.stR_len, Gr.stR_len]) (fun r hr hne => ?_) ?_ ?_
                · rw [Gr.stR_len] at hr
                  rw [Gr.stR_rul _ _ _ _ hr, Gr.stR_rul _ _ _ _ hr, if_neg hne, if_neg hne]
                · rw [Gr.stR_rul _ _ _ _ hkg, if_neg (Nat.lt_irrefl _), if_pos rfl, ← hlf.out]; rfl
                · rw [Gr.stR_rul _ _ _ _ hkg, Gr.stR_rul _ _ _ _ hkg, if_neg (Nat.lt_irrefl _), if_pos rfl]; simp)
              have hbel1 : Below wB.heap.size wB (w5.setCell ⟨gb, k * 2, none⟩ (.int .i64 (Gr.swp a1 b1 lf))) := hbel.setCell (p := ⟨gb, k * 2, none⟩) hgb1 _
              clear hOk hc2 ca0 cb0
              go_wp2_with fail
              clear hc1 hf1
              obtain ⟨wo, hwo⟩ : ∃ wo, w5.setCell ⟨gb, k * 2, none⟩ (.int .i64 (Gr.swp a1 b1 lf)) = wo := ⟨_, rfl⟩
              rw [hwo] at hO1 hbel1 ⊢
              clear hwo hbel hsr
              go_loopw [12] (fun s wr => ∃ q : Nat, q ≤ m ∧ s = .int .i64 q ∧ Hid (OG wr wB.heap.size (.slice (some ⟨gb, 0, none⟩) n cz) (Gr.stR (Gr.swp a1 b1) (fun x => Gr.swp a1 b1 x.sym) g k q true) G C) ∧ Below wB.heap.size wB wr) (fun s _ => m - (intOf s).toNat)
              case atStart => exact ⟨0, Nat.zero_le _, rfl, hO1, hbel1⟩
              case round =>
                obtain ⟨q, hq, rfl, hOq, hbel⟩ := hrel
                have hsr := hbel.size
                have hrk : Gr.rul (Gr.stR (Gr.swp a1 b1) (fun x => Gr.swp a1 b1 x.sym) g k q true) k = ⟨Gr.swp a1 b1 (Gr.rul g k).left, ((Gr.rul g k).right.take q).map (Gr.mapI fun x => Gr.swp a1 b1 x.sym) ++ (Gr.rul g k).right.drop q⟩ := by
                  rw [Gr.stR_rul _ _ _ _ hkg, if_neg (Nat.lt_irrefl _), if_pos rfl]; rfl
                obtain ⟨hc1, hc2, _⟩ := hOq.out.cellL (r := k) (by rw [Gr.stR_len]; exact hkg)
                rw [hrk, Gr.stI_len, hm.out, hgi.out, hcq.out] at hc2
                by_cases hqm : q < m
                · have hqr : q < (Gr.rul g k).right.length := by rw [hm.out]; exact hqm
                  obtain ⟨_, hc3, hf3⟩ := hOq.out.cellI (r := k) (q := q) (by rw [Gr.stR_len]; exact hkg) (by rw [hrk, Gr.stI_len]; exact hqr)
                  rw [hrk, Gr.stI_get _ _ hqr, hgi.out] at hc3
                  rw [hgi.out] at hf3
                  obtain ⟨sy, hsy⟩ : ∃ sy, Hid ((Gr.itm (Gr.rul g k).right q).sym = sy) := ⟨_, Lib.hid rfl⟩
                  rw [hsy.out] at hc3
                  have ca : wr.cell? ⟨w.heap.size, 0, none⟩ = some (.int .i64 a1) := (HYA.out.below hbel hag).cell 0
                  have cb : wr.cell? ⟨w.heap.size + 1, 0, none⟩ = some (.int .i64 b1) := (HYB.out.below hbel hbg).cell 0
                  have hgi1 : wB.heap.size ≤ gi := by
                    have := ((hOq.out.its k (by rw [Gr.stR_len]; exact hkg)).lt (G k) rfl).1
                    rw [hgi.out] at this; exact this
                  have hO2 : Hid (OG (wr.drew.setCell ⟨gi, q * 2 + 1, none⟩ (.int .i64 (Gr.swp a1 b1 sy))) wB.heap.size (.slice (some ⟨gb, 0, none⟩) n cz) (Gr.stR (Gr.swp a1 b1) (fun x => Gr.swp a1 b1 x.sym) g k (q + 1) true) G C) := Lib.hid (by
                    rw [← hgi.out]
                    refine OG.setSym (r := k) (q := q) (hOq.out.below (show Below wr.heap.size wr wr.drew from ⟨rfl, rfl, rfl, Nat.le_refl _, fun _ _ => rfl⟩)) (by rw [Gr.stR_len]; exact hkg) (by rw [hrk, Gr.stI_len]; exact hqr) (by rw [Gr.stR_len, Gr.stR_len]) (fun r hr hne => ?_) ?_ ?_
                    · rw [Gr.stR_len] at hr
                      rw [Gr.stR_rul _ _ _ _ hr, Gr.stR_rul _ _ _ _ hr, if_neg hne, if_neg hne]
                    · rw [hrk, Gr.stR_rul _ _ _ _ hkg, if_neg (Nat.lt_irrefl _), if_pos rfl]; rfl
                    · rw [hrk, Gr.stR_rul _ _ _ _ hkg, if_neg (Nat.lt_irrefl _), if_pos rfl]
                      show ((Gr.rul g k).right.take (q + 1)).map _ ++ (Gr.rul g k).right.drop (q + 1) = _
                      rw [Gr.itm_set _ _ hqr, Gr.stI_get _ _ hqr, hsy.out])
                  have hbel2 : Below wB.heap.size wB (wr.drew.setCell ⟨gi, q * 2 + 1, none⟩ (.int .i64 (Gr.swp a1 b1 sy))) := (hbel.trans (show Below wB.heap.size wr wr.drew from ⟨rfl, rfl, rfl, Nat.le_refl _, fun _ _ => rfl⟩)).setCell (p := ⟨gi, q * 2 + 1, none⟩) hgi1 _
                  clear hOq hrk hc1 hgi1
                  go_wp2_with fail
                  refine Kt.wp_any_act ?_
                  intro a0 ha0
                  have q9 : Kt.val a0 9 = .func (.func 16) #[] #[.pointer (some ⟨w.heap.size, 0, none⟩), .pointer (some ⟨(w.heap.size + 1), 0, none⟩)] := by rw [ha0]; rfl
                  have q10 : Kt.val a0 10 = .slice (some ⟨gb, 0, none⟩) n cz := by rw [ha0]; rfl
                  have q11 : Kt.val a0 11 = .int .i64 (k : Int) := by rw [ha0]; rfl
                  have q12 : Kt.val a0 12 = .int .i64 (q : Int) := by rw [ha0]; rfl
                  have qsz : 92 ≤ a0.tmps.size := by rw [ha0]; exact Nat.le_of_ble_eq_true rfl
                  have HA0 := Lib.hid ha0
                  clear ha0
                  refine Kt.region_inv (Kt.RxI (nmsP a0 wr gb n cz gi m cq w.heap.size (w.heap.size + 1) k q a1 b1 sy (wr.drew.setCell ⟨gi, q * 2 + 1, none⟩ (.int .i64 (Gr.swp a1 b1 sy))))) (by kernel_rfl) ?hg (Kt.RxI.start nms_start) ?hstep ?hdone
                  case hg =>
                    intro q o ho
                    rcases q with _ | _ | _ | _ | _ | _ | _ | _ | _ | _ | _ | _ | _ | _ | _ | _ | _ | _ | _ | _ | q
                    all_goals first | (cases Option.some.inj ho; rfl) | (exfalso; simp at ho)
                  case hstep =>
                    intro listed act w2 q o hI ho hn hpre
                    clear HG HT HW HKA HKB HGD HYA HYB HO HR8 hO2 hbel2 hbel1 hO1 HA0 hb1 hb3 hb3' hbz hb4 hbel HA1 HB1
                    have ok := nms_ok hI
                    rcases q with _ | _ | _ | _ | _ | _ | _ | _ | _ | _ | _ | _ | _ | _ | _ | _ | _ | _ | _ | _ | q
                    · cases Option.some.inj ho
                      have hwd := nms_at hI (j := 0) (by decide) hn
                      refine Kt.op_move rfl ?_
                      rw [show act.eval (.tmp 10) = .slice (some ⟨gb, 0, none⟩) n cz from (hI.frame.val_out (s := 10) (show 10 ∉ nmsS by decide)).trans q10]
                      exact hI.put ok (j := 0) (Nat.le_of_ble_eq_true rfl) rfl (show (73 : Nat) ∈ nmsS by decide) (Nat.lt_of_lt_of_le (show 73 < 92 by decide) qsz) (Kt.Kp.refl _ _) rfl (nms_up hI (by decide))
                    · cases Option.some.inj ho
                      have hwd := nms_at hI (j := 1) (by decide) hn
                      refine Kt.op_move rfl ?_
                      rw [show act.eval (.tmp 11) = .int .i64 (k : Int) from (hI.frame.val_out (s := 11) (show 11 ∉ nmsS by decide)).trans q11]
                      exact hI.put ok (j := 1) (Nat.le_of_ble_eq_true rfl) rfl (show (74 : Nat) ∈ nmsS by decide) (Nat.lt_of_lt_of_le (show 74 < 92 by decide) qsz) (Kt.Kp.refl _ _) rfl (nms_up hI (by decide))
                    · cases Option.some.inj ho
                      have e0 : act.tmps[73]?.getD undef = .slice (some ⟨gb, 0, none⟩) n cz := hI.eq (j := 0) (Nat.le_of_ble_eq_true rfl) rfl (fun _ _ h => h) (hpre ⟨0, .data⟩ (by simp) rfl)
                      have e1 : act.tmps[74]?.getD undef = .int .i64 (k : Int) := hI.eq (j := 1) (Nat.le_of_ble_eq_true rfl) rfl (fun _ _ h => h) (hpre ⟨1, .data⟩ (by simp) rfl)
                      have hwd := nms_at hI (j := 2) (by decide) hn
                      subst hwd
                      have hk := hI.put ok (j := 2) (s := 75) (v := .pointer (some ⟨gb, k * 2, none⟩)) (Nat.le_of_ble_eq_true rfl) rfl (show (75 : Nat) ∈ nmsS by decide) (Nat.lt_of_lt_of_le (show 75 < 92 by decide) qsz) (Kt.Kp.refl _ _) rfl (nms_up hI (by decide))
                      refine Kt.op_opq hk ?_
                      clear hk
                      intro KK hkk
                      unfold Oper.wp
                      go_simp
                      exact hkk
                    · cases Option.some.inj ho
                      have e2 : act.tmps[75]?.getD undef = .pointer (some ⟨gb, k * 2, none⟩) := hI.eq (j := 2) (Nat.le_of_ble_eq_true rfl) rfl (fun _ _ h => h) (hpre ⟨2, .data⟩ (by simp) rfl)
                      have hwd := nms_at hI (j := 3) (by decide) hn
                      subst hwd
                      have hk := hI.put ok (j := 3) (s := 76) (v := .pointer (some ⟨gb, k * 2 + 1, none⟩)) (Nat.le_of_ble_eq_true rfl) rfl (show (76 : Nat) ∈ nmsS by decide) (Nat.lt_of_lt_of_le (show 76 < 92 by decide) qsz) (Kt.Kp.refl _ _) rfl (nms_up hI (by decide))
                      refine Kt.op_opq hk ?_
                      clear hk
                      intro KK hkk
                      unfold Oper.wp
                      go_simp
                      exact hkk
                    · cases Option.some.inj ho
                      have e3 : act.tmps[76]?.getD undef = .pointer (some ⟨gb, k * 2 + 1, none⟩) := hI.eq (j := 3) (Nat.le_of_ble_eq_true rfl) rfl (fun _ _ h => h) (hpre ⟨3, .data⟩ (by simp) rfl)
                      have hwd := nms_at hI (j := 4) (by decide) hn
                      subst hwd
                      have hk := hI.put ok (j := 4) (s := 77) (v := .slice (some ⟨gi, 0, none⟩) m cq) (Nat.le_of_ble_eq_true rfl) rfl (show (77 : Nat) ∈ nmsS by decide) (Nat.lt_of_lt_of_le (show 77 < 92 by decide) qsz) (Kt.Kp.refl _ _) rfl (nms_up hI (by decide))
                      refine Kt.op_opq hk ?_
                      clear hk
                      intro KK hkk
                      unfold Oper.wp
                      go_simp
                      exact hkk
                    · cases Option.some.inj ho
                      have hwd := nms_at hI (j := 5) (by decide) hn
                      refine Kt.op_move rfl ?_
                      rw [show act.eval (.tmp 12) = .int .i64 (q : Int) from (hI.frame.val_out (s := 12) (show 12 ∉ nmsS by decide)).trans q12]
                      exact hI.put ok (j := 5) (Nat.le_of_ble_eq_true rfl) rfl (show (78 : Nat) ∈ nmsS by decide) (Nat.lt_of_lt_of_le (show 78 < 92 by decide) qsz) (Kt.Kp.refl _ _) rfl (nms_up hI (by decide))
                    · cases Option.some.inj ho
                      have hwd := nms_at hI (j := 6) (by decide) hn
                      refine Kt.op_move rfl ?_
                      rw [show act.eval (.tmp 9) = .func (.func 16) #[] #[.pointer (some ⟨w.heap.size, 0, none⟩), .pointer (some ⟨(w.heap.size + 1), 0, none⟩)] from (hI.frame.val_out (s := 9) (show 9 ∉ nmsS by decide)).trans q9]
                      exact hI.put ok (j := 6) (Nat.le_of_ble_eq_true rfl) rfl (show (79 : Nat) ∈ nmsS by decide) (Nat.lt_of_lt_of_le (show 79 < 92 by decide) qsz) (Kt.Kp.refl _ _) rfl (nms_up hI (by decide))
                    · cases Option.some.inj ho
                      have hwd := nms_at hI (j := 7) (by decide) hn
                      refine Kt.op_move rfl ?_
                      rw [show act.eval (.tmp 10) = .slice (some ⟨gb, 0, none⟩) n cz from (hI.frame.val_out (s := 10) (show 10 ∉ nmsS by decide)).trans q10]
                      exact hI.put ok (j := 7) (Nat.le_of_ble_eq_true rfl) rfl (show (80 : Nat) ∈ nmsS by decide) (Nat.lt_of_lt_of_le (show 80 < 92 by decide) qsz) (Kt.Kp.refl _ _) rfl (nms_up hI (by decide))
                    · cases Option.some.inj ho
                      have hwd := nms_at hI (j := 8) (by decide) hn
                      refine Kt.op_move rfl ?_
                      rw [show act.eval (.tmp 11) = .int .i64 (k : Int) from (hI.frame.val_out (s := 11) (show 11 ∉ nmsS by decide)).trans q11]
                      exact hI.put ok (j := 8) (Nat.le_of_ble_eq_true rfl) rfl (show (81 : Nat) ∈ nmsS by decide) (Nat.lt_of_lt_of_le (show 81 < 92 by decide) qsz) (Kt.Kp.refl _ _) rfl (nms_up hI (by decide))
                    · cases Option.some.inj ho
                      have e7 : act.tmps[80]?.getD undef = .slice (some ⟨gb, 0, none⟩) n cz := hI.eq (j := 7) (Nat.le_of_ble_eq_true rfl) rfl (fun _ _ h => h) (hpre ⟨7, .data⟩ (by simp) rfl)
                      have e8 : act.tmps[81]?.getD undef = .int .i64 (k : Int) := hI.eq (j := 8) (Nat.le_of_ble_eq_true rfl) rfl (fun _ _ h => h) (hpre ⟨8, .data⟩ (by simp) rfl)
                      have hwd := nms_at hI (j := 9) (by decide) hn
                      subst hwd
                      have hk := hI.put ok (j := 9) (s := 82) (v := .pointer (some ⟨gb, k * 2, none⟩)) (Nat.le_of_ble_eq_true rfl) rfl (show (82 : Nat) ∈ nmsS by decide) (Nat.lt_of_lt_of_le (show 82 < 92 by decide) qsz) (Kt.Kp.refl _ _) rfl (nms_up hI (by decide))
                      refine Kt.op_opq hk ?_
                      clear hk
                      intro KK hkk
                      unfold Oper.wp
                      go_simp
                      exact hkk
                    · cases Option.some.inj ho
                      have e9 : act.tmps[82]?.getD undef = .pointer (some ⟨gb, k * 2, none⟩) := hI.eq (j := 9) (Nat.le_of_ble_eq_true rfl) rfl (fun _ _ h => h) (hpre ⟨9, .data⟩ (by simp) rfl)
                      have hwd := nms_at hI (j := 10) (by decide) hn
                      subst hwd
                      have hk := hI.put ok (j := 10) (s := 83) (v := .pointer (some ⟨gb, k * 2 + 1, none⟩)) (Nat.le_of_ble_eq_true rfl) rfl (show (83 : Nat) ∈ nmsS by decide) (Nat.lt_of_lt_of_le (show 83 < 92 by decide) qsz) (Kt.Kp.refl _ _) rfl (nms_up hI (by decide))
                      refine Kt.op_opq hk ?_
                      clear hk
                      intro KK hkk
                      unfold Oper.wp
                      go_simp
                      exact hkk
                    · cases Option.some.inj ho
                      have e10 : act.tmps[83]?.getD undef = .pointer (some ⟨gb, k * 2 + 1, none⟩) := hI.eq (j := 10) (Nat.le_of_ble_eq_true rfl) rfl (fun _ _ h => h) (hpre ⟨10, .data⟩ (by simp) rfl)
                      have hwd := nms_at hI (j := 11) (by decide) hn
                      subst hwd
                      have hk := hI.put ok (j := 11) (s := 84) (v := .slice (some ⟨gi, 0, none⟩) m cq) (Nat.le_of_ble_eq_true rfl) rfl (show (84 : Nat) ∈ nmsS by decide) (Nat.lt_of_lt_of_le (show 84 < 92 by decide) qsz) (Kt.Kp.refl _ _) rfl (nms_up hI (by decide))
                      refine Kt.op_opq hk ?_
                      clear hk
                      intro KK hkk
                      unfold Oper.wp
                      go_simp
                      exact hkk
                    · cases Option.some.inj ho
                      have hwd := nms_at hI (j := 12) (by decide) hn
                      refine Kt.op_move rfl ?_
                      rw [show act.eval (.tmp 12) = .int .i64 (q : Int) from (hI.frame.val_out (s := 12) (show 12 ∉ nmsS by decide)).trans q12]
                      exact hI.put ok (j := 12) (Nat.le_of_ble_eq_true rfl) rfl (show (85 : Nat) ∈ nmsS by decide) (Nat.lt_of_lt_of_le (show 85 < 92 by decide) qsz) (Kt.Kp.refl _ _) rfl (nms_up hI (by decide))
                    · cases Option.some.inj ho
                      have e11 : act.tmps[84]?.getD undef = .slice (some ⟨gi, 0, none⟩) m cq := hI.eq (j := 11) (Nat.le_of_ble_eq_true rfl) rfl (fun _ _ h => h) (hpre ⟨11, .data⟩ (by simp) rfl)
                      have e12 : act.tmps[85]?.getD undef = .int .i64 (q : Int) := hI.eq (j := 12) (Nat.le_of_ble_eq_true rfl) rfl (fun _ _ h => h) (hpre ⟨12, .data⟩ (by simp) rfl)
                      have hwd := nms_at hI (j := 13) (by decide) hn
                      subst hwd
                      have hk := hI.put ok (j := 13) (s := 86) (v := .pointer (some ⟨gi, q * 2, none⟩)) (Nat.le_of_ble_eq_true rfl) rfl (show (86 : Nat) ∈ nmsS by decide) (Nat.lt_of_lt_of_le (show 86 < 92 by decide) qsz) (Kt.Kp.refl _ _) rfl (nms_up hI (by decide))
                      refine Kt.op_opq hk ?_
                      clear hk
                      intro KK hkk
                      unfold Oper.wp
                      go_simp
                      exact hkk
                    · cases Option.some.inj ho
                      have e13 : act.tmps[86]?.getD undef = .pointer (some ⟨gi, q * 2, none⟩) := hI.eq (j := 13) (Nat.le_of_ble_eq_true rfl) rfl (fun _ _ h => h) (hpre ⟨13, .data⟩ (by simp) rfl)
                      have hwd := nms_at hI (j := 14) (by decide) hn
                      subst hwd
                      have hk := hI.put ok (j := 14) (s := 87) (v := .pointer (some ⟨gi, q * 2 + 1, none⟩)) (Nat.le_of_ble_eq_true rfl) rfl (show (87 : Nat) ∈ nmsS by decide) (Nat.lt_of_lt_of_le (show 87 < 92 by decide) qsz) (Kt.Kp.refl _ _) rfl (nms_up hI (by decide))
                      refine Kt.op_opq hk ?_
                      clear hk
                      intro KK hkk
                      unfold Oper.wp
                      go_simp
                      exact hkk
                    · cases Option.some.inj ho
                      have e14 : act.tmps[87]?.getD undef = .pointer (some ⟨gi, q * 2 + 1, none⟩) := hI.eq (j := 14) (Nat.le_of_ble_eq_true rfl) rfl (fun _ _ h => h) (hpre ⟨14, .data⟩ (by simp) rfl)
                      have hwd := nms_at hI (j := 15) (by decide) hn
                      subst hwd
                      have hk := hI.put ok (j := 15) (s := 88) (v := .int .i64 sy) (Nat.le_of_ble_eq_true rfl) rfl (show (88 : Nat) ∈ nmsS by decide) (Nat.lt_of_lt_of_le (show 88 < 92 by decide) qsz) (Kt.Kp.refl _ _) rfl (nms_up hI (by decide))
                      refine Kt.op_opq hk ?_
                      clear hk
                      intro KK hkk
                      unfold Oper.wp
                      go_simp
                      exact hkk
                    · cases Option.some.inj ho
                      have e6 : act.tmps[79]?.getD undef = .func (.func 16) #[] #[.pointer (some ⟨w.heap.size, 0, none⟩), .pointer (some ⟨(w.heap.size + 1), 0, none⟩)] := hI.eq (j := 6) (Nat.le_of_ble_eq_true rfl) rfl (fun _ _ h => h) (hpre ⟨6, .data⟩ (by simp) rfl)
                      have e15 : act.tmps[88]?.getD undef = .int .i64 sy := hI.eq (j := 15) (Nat.le_of_ble_eq_true rfl) rfl (fun _ _ h => h) (hpre ⟨15, .data⟩ (by simp) rfl)
                      have hwd := nms_at hI (j := 16) (by decide) hn
                      subst hwd
                      refine Kt.op_opc (s := 89) (fun v w3 => v = .int .i64 (Gr.swp a1 b1 sy) ∧ w3 = wr.drew) ?_ ?_
                      · intro KK hkk
                        unfold Oper.wp
                        go_simp
                        refine (swap_any a1 b1 sy w.heap.size (w.heap.size + 1) wr.drew ca cb).mono ?_
                        rintro e w3 ⟨rfl, rfl⟩
                        exact hkk _ _ ⟨rfl, rfl⟩
                      rintro v3 w3 ⟨rfl, rfl⟩
                      exact hI.put ok (j := 16) (s := 89) (v := .int .i64 (Gr.swp a1 b1 sy)) (w' := _) (Nat.le_of_ble_eq_true rfl) rfl (show (89 : Nat) ∈ nmsS by decide) (Nat.lt_of_lt_of_le (show 89 < 92 by decide) qsz) (Kt.Kp.refl _ _) rfl (nms_up hI (by decide))
                    · cases Option.some.inj ho
                      have e4 : act.tmps[77]?.getD undef = .slice (some ⟨gi, 0, none⟩) m cq := hI.eq (j := 4) (Nat.le_of_ble_eq_true rfl) rfl (fun _ _ h => h) (hpre ⟨4, .data⟩ (by simp) rfl)
                      have e5 : act.tmps[78]?.getD undef = .int .i64 (q : Int) := hI.eq (j := 5) (Nat.le_of_ble_eq_true rfl) rfl (fun _ _ h => h) (hpre ⟨5, .data⟩ (by simp) rfl)
                      have hk := hI.put ok (j := 17) (s := 90) (v := .pointer (some ⟨gi, q * 2, none⟩)) (Nat.le_of_ble_eq_true rfl) rfl (show (90 : Nat) ∈ nmsS by decide) (Nat.lt_of_lt_of_le (show 90 < 92 by decide) qsz) (Kt.Kp.refl _ _) rfl (nms_up hI (by decide))
                      refine Kt.op_opq hk ?_
                      clear hk
                      intro KK hkk
                      unfold Oper.wp
                      go_simp
                      exact hkk
                    · cases Option.some.inj ho
                      have e17 : act.tmps[90]?.getD undef = .pointer (some ⟨gi, q * 2, none⟩) := hI.eq (j := 17) (Nat.le_of_ble_eq_true rfl) rfl (fun _ _ h => h) (hpre ⟨17, .data⟩ (by simp) rfl)
                      have hk := hI.put ok (j := 18) (s := 91) (v := .pointer (some ⟨gi, q * 2 + 1, none⟩)) (Nat.le_of_ble_eq_true rfl) rfl (show (91 : Nat) ∈ nmsS by decide) (Nat.lt_of_lt_of_le (show 91 < 92 by decide) qsz) (Kt.Kp.refl _ _) rfl (nms_up hI (by decide))
                      refine Kt.op_opq hk ?_
                      clear hk
                      intro KK hkk
                      unfold Oper.wp
                      go_simp
                      exact hkk
                    · cases Option.some.inj ho
                      have hall : ∀ j, j < 17 → listed.getD j false = true := fun j hj => by
                        rcases j with _ | _ | _ | _ | _ | _ | _ | _ | _ | _ | _ | _ | _ | _ | _ | _ | _ | j
                        all_goals first | exact hpre ⟨0, .phase⟩ (by simp) rfl | exact hpre ⟨1, .phase⟩ (by simp) rfl | exact hpre ⟨2, .phase⟩ (by simp) rfl | exact hpre ⟨3, .phase⟩ (by simp) rfl | exact hpre ⟨4, .phase⟩ (by simp) rfl | exact hpre ⟨5, .phase⟩ (by simp) rfl | exact hpre ⟨6, .phase⟩ (by simp) rfl | exact hpre ⟨7, .phase⟩ (by simp) rfl | exact hpre ⟨8, .phase⟩ (by simp) rfl | exact hpre ⟨9, .phase⟩ (by simp) rfl | exact hpre ⟨10, .phase⟩ (by simp) rfl | exact hpre ⟨11, .phase⟩ (by simp) rfl | exact hpre ⟨12, .phase⟩ (by simp) rfl | exact hpre ⟨13, .phase⟩ (by simp) rfl | exact hpre ⟨14, .phase⟩ (by simp) rfl | exact hpre ⟨15, .phase⟩ (by simp) rfl | exact hpre ⟨16, .phase⟩ (by simp) rfl | (exfalso; omega)
                      have e18 : act.tmps[91]?.getD undef = .pointer (some ⟨gi, q * 2 + 1, none⟩) := hI.eq (j := 18) (Nat.le_of_ble_eq_true rfl) rfl (fun _ _ h => h) (hpre ⟨18, .data⟩ (by simp) rfl)
                      have e16 : act.tmps[89]?.getD undef = .int .i64 (Gr.swp a1 b1 sy) := hI.eq (j := 16) (Nat.le_of_ble_eq_true rfl) rfl (fun _ _ h => h) (hall 16 (by decide))
                      have hwd : w2 = wr.drew := hI.st.1 (Kt.getD_no hn)
                      subst hwd
                      have hk := hI.store ok (j := 19) (w' := wr.drew.setCell ⟨gi, q * 2 + 1, none⟩ (.int .i64 (Gr.swp a1 b1 sy))) (Nat.le_of_ble_eq_true rfl) (Kt.Kp.set (p := ⟨gi, q * 2 + 1, none⟩) trivial _) trivial (Kt.still_last (V' := fun _ => undef) hall)
                      refine Kt.op_opq0 hk ?_
                      clear hk
                      intro KK hkk
                      unfold Oper.wp
                      go_simp
                      exact hkk
                    · exfalso; simp at ho
                  case hdone =>
                    intro listed act w2 hI hr
                    have hup := Kt.all_up (fun q o ho => by
                      rcases q with _ | _ | _ | _ | _ | _ | _ | _ | _ | _ | _ | _ | _ | _ | _ | _ | _ | _ | _ | _ | q
                      all_goals first | (cases Option.some.inj ho; decide) | (exfalso; simp at ho)) hI.size hr
                    have hst := hI.st
                    have hkept := hI.kept
                    have ha0 := HA0.out
                    subst ha0
                    rw [hI.frame.out]
                    simp only [nmsP, nmsS, Kt.sets]
                    have hw9 := (hst.2 (hup 19 (by decide))).1
                    clear hst
                    generalize Kt.val act 73 = v73
                    generalize Kt.val act 74 = v74
                    generalize Kt.val act 75 = v75
                    generalize Kt.val act 76 = v76
                    generalize Kt.val act 77 = v77
                    generalize Kt.val act 78 = v78
                    generalize Kt.val act 79 = v79
                    generalize Kt.val act 80 = v80
                    generalize Kt.val act 81 = v81
                    generalize Kt.val act 82 = v82
                    generalize Kt.val act 83 = v83
                    generalize Kt.val act 84 = v84
                    generalize Kt.val act 85 = v85
                    generalize Kt.val act 86 = v86
                    generalize Kt.val act 87 = v87
                    generalize Kt.val act 88 = v88
                    generalize Kt.val act 89 = v89
                    generalize Kt.val act 90 = v90
                    generalize Kt.val act 91 = v91
                    simp only [List.setIfInBounds_toArray, List.set_cons_zero, List.set_cons_succ]
                    clear hI hr hup
                    subst hw9
                    clear hkept
                    go_wp2_with fail
                    go_roundw
                    case rel => exact ⟨q + 1, by omega, by go_num, hO2, hbel2⟩
                    case measure => simp [intOf]; omega
                · obtain rfl : q = m := by omega
                  have hO3 : Hid (OG wr wB.heap.size (.slice (some ⟨gb, 0, none⟩) n cz) (Gr.stR (Gr.swp a1 b1) (fun x => Gr.swp a1 b1 x.sym) g (k + 1) 0 false) G C) := Lib.hid (by
                    rw [← Gr.stR_next, hm.out]; exact hOq.out)
                  clear hOq hrk hc1
                  go_wp2_with fail
                  go_roundw
                  case rel =>
                    exact ⟨k + 1, by omega, by go_num, hO3, hbel⟩
                  case measure => simp [intOf]; omega
            · obtain rfl : k = n := by omega
              have hO4 : OG wr wB.heap.size (.slice A' k cz) (Gr.nam a1 b1 g) G C := by
                have := hOk.out
                rw [← hn.out, Gr.stR_all] at this
                rw [← hn.out]
                exact this
              have hnl : (Gr.nam a1 b1 g).length = k := by rw [← hn.out]; exact List.length_map _
              have hGn : Gr.Good (Gr.nam a1 b1 g) := Gr.nam_good HA1.out HB1.out HGD.out
              have hRn : Kt.Rules wr wr.heap.size A' (Gr.nam a1 b1 g) := hO4.rules' (fun r hr => by have := (hGn.ok r hr).parts.2.2.1; omega)
              have hbw : Below w.heap.size w wr := hbz.trans (hbel.mono hbz.size)
              have HGn := Lib.hid hGn
              have HRn := Lib.hid hRn
              have HNL := Lib.hid hnl
              have hsw := hbw.size
              clear hOk hO4 hGn hRn hnl HO HR8 HYA HYB hb4 hs4
              go_wp2_with fail
              refine (Trees_any g tk A k cp T nt ct wr hn.out (by omega) hnt.out (by omega) (by omega) HW.out (HG.out.on hbw) (HT.out.on hbw) 50 (by omega)).mono ?_
              rintro e w5 ⟨hb5, vl, c, rfl, hk5, hlv5⟩
              obtain rfl : c = 0 := hk5.good.2 ⟨HGD.out, by rw [hnt.out]; omega⟩
              rw [if_pos rfl] at hlv5
              have hbw5 : Below w.heap.size w w5 := hbw.trans (hb5.mono hsw)
              have hs5 := hb5.size
              have HL5 := Lib.hid (hlv5.less (M' := fun _ => False) (fun _ h => h.elim))
              clear hk5 hlv5
              go_wp2_with fail
              refine (Trees_any (Gr.nam a1 b1 g) tk A' k cz T nt ct w5 HNL.out (by omega) hnt.out (by omega) (by omega) (nam_wf HW.out) (HRn.out.on hb5) (HT.out.on hbw5) 50 (by omega)).mono ?_
              rintro e w6 ⟨hb6, vm, c, rfl, hk6, hlv6⟩
              obtain rfl : c = 0 := hk6.good.2 ⟨HGn.out, by rw [hnt.out]; omega⟩
              rw [if_pos rfl, nam_derivs HA1.out.1 HB1.out.1] at hlv6
              have hbw6 : Below w.heap.size w w6 := hbw5.trans (hb6.mono (by omega))
              have hs6 := hb6.size
              have hl6 := HL5.out.keep (W' := w6) fun q hq _ => hb6.block q hq
              have hm6 := hlv6.less (M' := fun _ => False) (fun _ h => h.elim)
              have hR6 : Kt.Rules w6 w6.heap.size A' (Gr.nam a1 b1 g) := (HRn.out.on hb5).on hb6
              obtain ⟨L, hL⟩ : ∃ L, Hid ((derivs g tk).take 50 = L) := ⟨_, Lib.hid rfl⟩
              rw [hL.out] at hl6 hm6
              obtain ⟨B1, c1, b1', o1, vs1, rfl, hA1', _, hl63, hcl1, htr1⟩ := hl6
              obtain ⟨B2, c2, b2', o2, vs2, rfl, hA2', _, _, hcl2, htr2⟩ := hm6
              obtain ⟨N, hN⟩ : ∃ N, Hid (L.length = N) := ⟨_, Lib.hid rfl⟩
              rw [hN.out] at hl63 hcl1 hcl2 htr1 htr2 hA1' hA2' ⊢
              have HR6 := Lib.hid hR6
              have HC1 := Lib.hid hcl1
              have HC2 := Lib.hid hcl2
              have HT1 := Lib.hid htr1
              have HT2 := Lib.hid htr2
              have HA1x := Lib.hid hA1'
              have HA2x := Lib.hid hA2'
              clear hk6 hlv6 hR6 hcl1 hcl2 htr1 htr2 hA1' hA2' HL5 HRn hb5 hb6 hbw hbw5 hbel hs5 hs6 hsw hbz hsr hsz
              go_wp2_with fail
              go_loopw [17] (fun s wr => ∃ i : Nat, i ≤ N ∧ s = .int .i64 i ∧ Below w6.heap.size w6 wr) (fun s _ => N - (intOf s).toNat)
              case atStart => exact ⟨0, Nat.zero_le _, rfl, Below.refl _ _⟩
              case round =>
                obtain ⟨i, hi, rfl, hbel⟩ := hrel
                have hsr := hbel.size
                by_cases hlt2 : i < N
                · obtain ⟨rfl, _, hlb1⟩ := HA1x.out (by omega)
                  obtain ⟨rfl, _, hlb2⟩ := HA2x.out (by omega)
                  obtain ⟨ve, hve⟩ : ∃ ve, ve = vs1 i := ⟨_, rfl⟩
                  obtain ⟨vf, hvf⟩ : ∃ vf, vf = vs2 i := ⟨_, rfl⟩
                  have htk : Kt.TV wr (fun _ => False) (L.getD i Kt.noTr) ve := by
                    rw [hve]; exact (HT1.out i hlt2).keep fun q hq _ => hbel.block q hq
                  have htf : Kt.TV wr (fun _ => False) (L.getD i Kt.noTr) vf := by
                    rw [hvf]; exact (HT2.out i hlt2).keep fun q hq _ => hbel.block q hq
                  obtain ⟨d0, d1', d2, Ad, nd, cd, rfl⟩ := tv_form htk
                  obtain ⟨e0, e1, e2, Ae, ne, ce, rfl⟩ := tv_form htf
                  have hcl : ∀ q, q < 4 → wr.cell? ⟨b1', o1 + i * 4 + q, none⟩ = (#[Value.int .i64 d0, .int .i64 d1', .int .i64 d2, .slice Ad nd cd] : Array Value)[q]? := fun q hq => by
                    have := HC1.out i hlt2 q hq
                    rw [← hve] at this
                    exact (hbel.cell (p := ⟨b1', o1 + i * 4 + q, none⟩) hlb1).trans this
                  have hcm : ∀ q, q < 4 → wr.cell? ⟨b2', o2 + i * 4 + q, none⟩ = (#[Value.int .i64 e0, .int .i64 e1, .int .i64 e2, .slice Ae ne ce] : Array Value)[q]? := fun q hq => by
                    have := HC2.out i hlt2 q hq
                    rw [← hvf] at this
                    exact (hbel.cell (p := ⟨b2', o2 + i * 4 + q, none⟩) hlb2).trans this
                  have hx10 : wr.cell? ⟨b1', o1 + i * 4, none⟩ = some (.int .i64 d0) := hcl 0 (by omega)
                  have hx11 : wr.cell? ⟨b1', o1 + i * 4 + 1, none⟩ = some (.int .i64 d1') := hcl 1 (by omega)
                  have hx12 : wr.cell? ⟨b1', o1 + i * 4 + 2, none⟩ = some (.int .i64 d2) := hcl 2 (by omega)
                  have hx13 : wr.cell? ⟨b1', o1 + i * 4 + 3, none⟩ = some (.slice Ad nd cd) := hcl 3 (by omega)
                  have hx20 : wr.cell? ⟨b2', o2 + i * 4, none⟩ = some (.int .i64 e0) := hcm 0 (by omega)
                  have hx21 : wr.cell? ⟨b2', o2 + i * 4 + 1, none⟩ = some (.int .i64 e1) := hcm 1 (by omega)
                  have hx22 : wr.cell? ⟨b2', o2 + i * 4 + 2, none⟩ = some (.int .i64 e2) := hcm 2 (by omega)
                  have hx23 : wr.cell? ⟨b2', o2 + i * 4 + 3, none⟩ = some (.slice Ae ne ce) := hcm 3 (by omega)
                  have lx1 : b1' < wr.heap.size := by omega
                  have lx2 : b2' < wr.heap.size := by omega
                  have T1 := Lib.hid htk
                  have T2 := Lib.hid htf
                  clear hcl hcm hve hvf htk htf
                  go_wp2_with fail
                  refine Kt.wp_any_act ?_
                  intro a0 ha0
                  have q13 : Kt.val a0 13 = .slice (some ⟨b1', o1, none⟩) N c1 := by rw [ha0]; rfl
                  have q15 : Kt.val a0 15 = .slice (some ⟨b2', o2, none⟩) N c2 := by rw [ha0]; rfl
                  have q17 : Kt.val a0 17 = .int .i64 (i : Int) := by rw [ha0]; rfl
                  have qsz : 129 ≤ a0.tmps.size := by rw [ha0]; exact Nat.le_of_ble_eq_true rfl
                  have HA0 := Lib.hid ha0
                  clear ha0
                  refine Kt.region_inv (Kt.RxI (nmtP a0 wr b1' o1 c1 b2' o2 c2 N i d0 d1' d2 Ad nd cd e0 e1 e2 Ae ne ce)) (by kernel_rfl) ?hg (Kt.RxI.start trivial) ?hstep ?hdone
                  case hg =>
                    intro q o ho
                    rcases q with _ | _ | _ | _ | _ | _ | _ | _ | _ | _ | q
                    all_goals first | (cases Option.some.inj ho; rfl) | (exfalso; simp at ho)
                  case hstep =>
                    intro listed act w2 q o hI ho hn hpre
                    have ok := nmt_ok hI
                    rcases q with _ | _ | _ | _ | _ | _ | _ | _ | _ | _ | q
                    · cases Option.some.inj ho
                      refine Kt.op_move rfl ?_
                      rw [show act.eval (.tmp 13) = .slice (some ⟨b1', o1, none⟩) N c1 from (hI.frame.val_out (s := 13) (show 13 ∉ nmtS by decide)).trans q13]
                      exact hI.put ok (j := 0) (Nat.le_of_ble_eq_true rfl) rfl (show (119 : Nat) ∈ nmtS by decide) (Nat.lt_of_lt_of_le (show 119 < 129 by decide) qsz) (Kt.Kp.refl _ _) rfl hI.st
                    · cases Option.some.inj ho
                      refine Kt.op_move rfl ?_
                      rw [show act.eval (.tmp 17) = .int .i64 (i : Int) from (hI.frame.val_out (s := 17) (show 17 ∉ nmtS by decide)).trans q17]
                      exact hI.put ok (j := 1) (Nat.le_of_ble_eq_true rfl) rfl (show (120 : Nat) ∈ nmtS by decide) (Nat.lt_of_lt_of_le (show 120 < 129 by decide) qsz) (Kt.Kp.refl _ _) rfl hI.st
                    · cases Option.some.inj ho
                      have e0 : act.tmps[119]?.getD undef = .slice (some ⟨b1', o1, none⟩) N c1 := hI.eq (j := 0) (Nat.le_of_ble_eq_true rfl) rfl (fun _ _ h => h) (hpre ⟨0, .data⟩ (by simp) rfl)
                      have e1 : act.tmps[120]?.getD undef = .int .i64 (i : Int) := hI.eq (j := 1) (Nat.le_of_ble_eq_true rfl) rfl (fun _ _ h => h) (hpre ⟨1, .data⟩ (by simp) rfl)
                      have hk := hI.put ok (j := 2) (s := 121) (v := .pointer (some ⟨b1', o1 + i * 4, none⟩)) (Nat.le_of_ble_eq_true rfl) rfl (show (121 : Nat) ∈ nmtS by decide) (Nat.lt_of_lt_of_le (show 121 < 129 by decide) qsz) (Kt.Kp.refl _ _) rfl hI.st
                      refine Kt.op_opq hk ?_
                      clear hk
                      intro KK hkk
                      unfold Oper.wp
                      go_simp
                      exact hkk
                    · cases Option.some.inj ho
                      have e2 : act.tmps[121]?.getD undef = .pointer (some ⟨b1', o1 + i * 4, none⟩) := hI.eq (j := 2) (Nat.le_of_ble_eq_true rfl) rfl (fun _ _ h => h) (hpre ⟨2, .data⟩ (by simp) rfl)
                      have c0 : w2.cell? ⟨b1', o1 + i * 4, none⟩ = some (.int .i64 d0) := hI.cell lx1 (fun h => h) hx10
                      have c1 : w2.cell? ⟨b1', o1 + i * 4 + 1, none⟩ = some (.int .i64 d1') := hI.cell lx1 (fun h => h) hx11
                      have c2 : w2.cell? ⟨b1', o1 + i * 4 + 2, none⟩ = some (.int .i64 d2) := hI.cell lx1 (fun h => h) hx12
                      have c3 : w2.cell? ⟨b1', o1 + i * 4 + 3, none⟩ = some (.slice Ad nd cd) := hI.cell lx1 (fun h => h) hx13
                      have hk := hI.put ok (j := 3) (s := 122) (v := .agg #[.int .i64 d0, .int .i64 d1', .int .i64 d2, .slice Ad nd cd]) (Nat.le_of_ble_eq_true rfl) rfl (show (122 : Nat) ∈ nmtS by decide) (Nat.lt_of_lt_of_le (show 122 < 129 by decide) qsz) (Kt.Kp.refl _ _) rfl hI.st
                      refine Kt.op_opq hk ?_
                      clear hk
                      intro KK hkk
                      unfold Oper.wp
                      go_simp
                      exact hkk
                    · cases Option.some.inj ho
                      refine Kt.op_move rfl ?_
                      rw [show act.eval (.tmp 15) = .slice (some ⟨b2', o2, none⟩) N c2 from (hI.frame.val_out (s := 15) (show 15 ∉ nmtS by decide)).trans q15]
                      exact hI.put ok (j := 4) (Nat.le_of_ble_eq_true rfl) rfl (show (123 : Nat) ∈ nmtS by decide) (Nat.lt_of_lt_of_le (show 123 < 129 by decide) qsz) (Kt.Kp.refl _ _) rfl hI.st
                    · cases Option.some.inj ho
                      refine Kt.op_move rfl ?_
                      rw [show act.eval (.tmp 17) = .int .i64 (i : Int) from (hI.frame.val_out (s := 17) (show 17 ∉ nmtS by decide)).trans q17]
                      exact hI.put ok (j := 5) (Nat.le_of_ble_eq_true rfl) rfl (show (124 : Nat) ∈ nmtS by decide) (Nat.lt_of_lt_of_le (show 124 < 129 by decide) qsz) (Kt.Kp.refl _ _) rfl hI.st
                    · cases Option.some.inj ho
                      have e4 : act.tmps[123]?.getD undef = .slice (some ⟨b2', o2, none⟩) N c2 := hI.eq (j := 4) (Nat.le_of_ble_eq_true rfl) rfl (fun _ _ h => h) (hpre ⟨4, .data⟩ (by simp) rfl)
                      have e5 : act.tmps[124]?.getD undef = .int .i64 (i : Int) := hI.eq (j := 5) (Nat.le_of_ble_eq_true rfl) rfl (fun _ _ h => h) (hpre ⟨5, .data⟩ (by simp) rfl)
                      have hk := hI.put ok (j := 6) (s := 125) (v := .pointer (some ⟨b2', o2 + i * 4, none⟩)) (Nat.le_of_ble_eq_true rfl) rfl (show (125 : Nat) ∈ nmtS by decide) (Nat.lt_of_lt_of_le (show 125 < 129 by decide) qsz) (Kt.Kp.refl _ _) rfl hI.st
                      refine Kt.op_opq hk ?_
                      clear hk
                      intro KK hkk
                      unfold Oper.wp
                      go_simp
                      exact hkk
                    · cases Option.some.inj ho
                      have e6 : act.tmps[125]?.getD undef = .pointer (some ⟨b2', o2 + i * 4, none⟩) := hI.eq (j := 6) (Nat.le_of_ble_eq_true rfl) rfl (fun _ _ h => h) (hpre ⟨6, .data⟩ (by simp) rfl)
                      have c0 : w2.cell? ⟨b2', o2 + i * 4, none⟩ = some (.int .i64 e0) := hI.cell lx2 (fun h => h) hx20
                      have c1 : w2.cell? ⟨b2', o2 + i * 4 + 1, none⟩ = some (.int .i64 e1) := hI.cell lx2 (fun h => h) hx21
                      have c2 : w2.cell? ⟨b2', o2 + i * 4 + 2, none⟩ = some (.int .i64 e2) := hI.cell lx2 (fun h => h) hx22
                      have c3 : w2.cell? ⟨b2', o2 + i * 4 + 3, none⟩ = some (.slice Ae ne ce) := hI.cell lx2 (fun h => h) hx23
                      have hk := hI.put ok (j := 7) (s := 126) (v := .agg #[.int .i64 e0, .int .i64 e1, .int .i64 e2, .slice Ae ne ce]) (Nat.le_of_ble_eq_true rfl) rfl (show (126 : Nat) ∈ nmtS by decide) (Nat.lt_of_lt_of_le (show 126 < 129 by decide) qsz) (Kt.Kp.refl _ _) rfl hI.st
                      refine Kt.op_opq hk ?_
                      clear hk
                      intro KK hkk
                      unfold Oper.wp
                      go_simp
                      exact hkk
                    · cases Option.some.inj ho
                      have e3 : act.tmps[122]?.getD undef = .agg #[.int .i64 d0, .int .i64 d1', .int .i64 d2, .slice Ad nd cd] := hI.eq (j := 3) (Nat.le_of_ble_eq_true rfl) rfl (fun _ _ h => h) (hpre ⟨3, .data⟩ (by simp) rfl)
                      have e7 : act.tmps[126]?.getD undef = .agg #[.int .i64 e0, .int .i64 e1, .int .i64 e2, .slice Ae ne ce] := hI.eq (j := 7) (Nat.le_of_ble_eq_true rfl) rfl (fun _ _ h => h) (hpre ⟨7, .data⟩ (by simp) rfl)
                      have hbw : Below wr.heap.size wr w2 := hI.kept.to_below (Nat.le_refl _) (fun _ _ h => h)
                      refine Kt.op_opc (s := 127) (fun v w3 => v = .bool true ∧ Below w2.heap.size w2 w3) ?_ ?_
                      · intro KK hkk
                        unfold Oper.wp
                        go_simp
                        refine (same_any _ _ _ _ _ w2 (T1.out.keep fun q hq _ => hbw.block q hq) (T2.out.keep fun q hq _ => hbw.block q hq)).mono ?_
                        rintro e w3 ⟨rfl, hb3⟩
                        exact hkk _ _ ⟨rfl, hb3⟩
                      rintro v3 w3 ⟨rfl, hb3⟩
                      exact hI.put ok (j := 8) (s := 127) (v := .bool true) (w' := w3) (Nat.le_of_ble_eq_true rfl) rfl (show (127 : Nat) ∈ nmtS by decide) (Nat.lt_of_lt_of_le (show 127 < 129 by decide) qsz) (Kt.Kp.below _ hb3) rfl trivial
                    · cases Option.some.inj ho
                      have e8 : act.tmps[127]?.getD undef = .bool true := hI.eq (j := 8) (Nat.le_of_ble_eq_true rfl) rfl (fun _ _ h => h) (hpre ⟨8, .data⟩ (by simp) rfl)
                      have hk := hI.put ok (j := 9) (s := 128) (v := .bool false) (Nat.le_of_ble_eq_true rfl) rfl (show (128 : Nat) ∈ nmtS by decide) (Nat.lt_of_lt_of_le (show 128 < 129 by decide) qsz) (Kt.Kp.refl _ _) rfl hI.st
                      refine Kt.op_opq hk ?_
                      clear hk
                      intro KK hkk
                      unfold Oper.wp
                      go_simp
                      exact hkk
                    · exfalso; simp at ho
                  case hdone =>
                    intro listed act w2 hI hr
                    have hup := Kt.all_up (fun q o ho => by
                      rcases q with _ | _ | _ | _ | _ | _ | _ | _ | _ | _ | q
                      all_goals first | (cases Option.some.inj ho; decide) | (exfalso; simp at ho)) hI.size hr
                    have z128 : Kt.val act 128 = .bool false := hI.res 9 (Nat.le_of_ble_eq_true rfl) (hup 9 (Nat.le_of_ble_eq_true rfl))
                    have hst := hI.st
                    have hkept := hI.kept
                    have ha0 := HA0.out
                    subst ha0
                    rw [hI.frame.out]
                    simp only [nmtP, nmtS, Kt.sets]
                    generalize Kt.val act 119 = v119
                    generalize Kt.val act 120 = v120
                    generalize Kt.val act 121 = v121
                    generalize Kt.val act 122 = v122
                    generalize Kt.val act 123 = v123
                    generalize Kt.val act 124 = v124
                    generalize Kt.val act 125 = v125
                    generalize Kt.val act 126 = v126
                    generalize Kt.val act 127 = v127
                    generalize Kt.val act 128 = v128 at z128 ⊢
                    simp only [List.setIfInBounds_toArray, List.set_cons_zero, List.set_cons_succ]
                    subst z128
                    clear hI hr hup
                    have hbz2 : Below w6.heap.size w6 w2 := hbel.trans ((hkept.to_below (Nat.le_refl _) (fun _ _ h => h)).mono hsr)
                    go_wp2_with fail
                    go_roundw
                    case rel => exact ⟨i + 1, by omega, by go_num, hbz2⟩
                    case measure => simp [intOf]; omega
                · obtain rfl : i = N := by omega
                  have hbwr : Below w.heap.size w wr := hbw6.trans (hbel.mono hbw6.size)
                  have hR7 := HR6.out.on hbel
                  have hswr := hbwr.size
                  go_wp2_with fail
                  refine (Count_any g tk A k cp T nt ct wr hn.out (by omega) hnt.out (by omega) (by omega) HW.out (HG.out.on hbwr) (HT.out.on hbwr)).mono ?_
                  rintro e w7 ⟨hb7, v7, c, rfl, hk7, hv7⟩
                  obtain rfl : c = 0 := hk7.good.2 ⟨HGD.out, by rw [hnt.out]; omega⟩
                  rw [if_pos rfl] at hv7
                  have hbw7 : Below w.heap.size w w7 := hbwr.trans (hb7.mono hswr)
                  have hs7 := hb7.size
                  have HV7 := Lib.hid hv7
                  clear hk7 hv7
                  go_wp2_with fail
                  refine (Count_any (Gr.nam a1 b1 g) tk A' k cz T nt ct w7 HNL.out (by omega) hnt.out (by omega) (by omega) (nam_wf HW.out) (hR7.on hb7) (HT.out.on hbw7)).mono ?_
                  rintro e w8 ⟨hb8, v8, c, rfl, hk8, hv8⟩
                  obtain rfl : c = 0 := hk8.good.2 ⟨HGn.out, by rw [hnt.out]; omega⟩
                  rw [if_pos rfl, nam_counts HA1.out.1 HB1.out.1] at hv8
                  have hbw8 : Below w.heap.size w w8 := hbw7.trans (hb8.mono (by omega))
                  have hs8 := hbw8.size
                  have HV8 := Lib.hid hv8
                  have hlen : (Nt.limbs (counts g tk)).length ≤ 4611686018427387904 := Nat.le_trans (counts_fit HGD.out (by rw [hnt.out]; omega)) (by decide)
                  clear hk8 hv8
                  go_wp2_with fail
                  refine (same_num (HV7.out.on hb8) HV8.out hlen).mono ?_
                  rintro e w9 ⟨rfl, hb9⟩
                  have hdd : decide (counts g tk = counts g tk) = true := by simp
                  rw [hdd]
                  have hbw9 : Below w.heap.size w w9 := hbw8.trans (hb9.mono hs8)
                  clear hdd
                  go_wp2_with fail
                  go_ret
                  exact ⟨rfl, hbw9⟩
    · have hce : (c != 0) = true := by simp [hcz]
      clear hcz hc
      go_wp2_with fail
      go_ret
      exact ⟨rfl, hb3'⟩
  · go_wp2_with fail
    go_ret
    exact ⟨rfl, hb1⟩
end Go.Proofs.Ytkclifdbdnigaaa
end
