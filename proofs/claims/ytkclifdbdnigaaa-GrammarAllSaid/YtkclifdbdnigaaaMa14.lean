/- Joined: CrA, GrH, LwA, NaA. -/
import Derived.Test.YtkclifdbdnigaaaMa12
import Derived.Test.YtkclifdbdnigaaaMa13
import Derived.Test.YtkclifdbdnigaaaMa04
section
/- CopyRules: a grammar in memory of its own. -/
namespace Go.Proofs.Ytkclifdbdnigaaa
open Go Go.RowKit
theorem Try.infoRule : (Try.prog.info? 37).map (fun i => (i.zero, i.size, i.bytes)) = some (some (.agg #[.int .i64 0, .slice none 0 0]), 2, 32) := by kernel_rfl
theorem Try.infoItem : (Try.prog.info? 40).map (fun i => (i.zero, i.size, i.bytes)) = some (some (.agg #[.int .u16 0, .int .i64 0]), 2, 16) := by kernel_rfl
/-- What the region has done: 6 an empty slice, 12 the items appended to it, 13 the rule, 14 a slice of it, 15 that appended, 16 assigned. -/
def crrZ (W : World) (base k : Nat) (v0 : Value) (xs : List Value) (lf : Int) (m : Nat) (news : List Value) (L : Nat → Bool) (V : Nat → Value) (w : World) : Prop :=
  (L 16 = false → V 16 = v0) ∧
  (L 15 = false → Below W.heap.size W w) ∧
  (L 6 = true → L 12 = false → ∃ b, V 6 = .slice (some ⟨b, 0, none⟩) 0 0 ∧ Kt.Blk w b 40 #[] ∧ W.heap.size ≤ b) ∧
  (L 12 = true → ∃ g cap, V 12 = .slice (some ⟨g, 0, none⟩) m cap ∧ W.heap.size ≤ g ∧ w.ownsRow W.heap.size 40 2 (V 12) m news) ∧
  (L 14 = true → L 15 = false → ∃ gb, V 14 = .slice (some ⟨gb, 0, none⟩) 1 1 ∧ Kt.Blk w gb 37 #[.int .i64 lf, V 12]) ∧
  (L 15 = true → ∃ g2 cap2 g cap, V 12 = .slice (some ⟨g, 0, none⟩) m cap ∧ W.heap.size ≤ g ∧ V 15 = .slice (some ⟨g2, 0, none⟩) (k + 1) cap2 ∧ (v0.ownBlock = some g2 ∨ W.heap.size ≤ g2) ∧
    w.ownsRow base 37 2 (V 15) (k + 1) (xs ++ [.int .i64 lf, .slice (some ⟨g, 0, none⟩) m cap]) ∧ g ≠ g2 ∧ ∀ q, q < W.heap.size → v0.ownBlock ≠ some q → w.heap[q]? = W.heap[q]?) ∧
  ((L 12 = true → L 6 = true) ∧ (L 15 = true → L 12 = true ∧ L 14 = true) ∧ (L 14 = true → L 13 = true) ∧ (L 16 = true → L 0 = true) ∧ (L 13 = true → L 12 = true) ∧ (L 13 = true → V 13 = .agg #[.int .i64 lf, V 12])) ∧
  ((L 16 = true → L 15 = true) ∧ (L 16 = true → V 16 = V 15))
theorem crrZ_start {W : World} {base k : Nat} {v0 : Value} {xs : List Value} {lf : Int} {m : Nat} {news : List Value} {V : Nat → Value} (h : V 16 = v0) : crrZ W base k v0 xs lf m news (fun _ => false) V W.drew :=
  ⟨fun _ => h, fun _ => ⟨rfl, rfl, rfl, Nat.le_refl _, fun _ _ => rfl⟩, fun q => (by cases q), fun q => (by cases q), fun q => (by cases q), fun q => (by cases q), ⟨fun q => (by cases q), fun q => (by cases q), fun q => (by cases q), fun q => (by cases q), fun q => (by cases q), fun q => (by cases q)⟩, ⟨fun q => (by cases q), fun q => (by cases q)⟩⟩
def crrSlot : Nat → Nat := fun j => match j with | 0 => 11 | 1 => 12 | 2 => 13 | 3 => 14 | 4 => 15 | 5 => 16 | 6 => 17 | 7 => 18 | 8 => 19 | 9 => 20 | 10 => 21 | 11 => 22 | 12 => 23 | 13 => 24 | 14 => 25 | 15 => 26 | 16 => 3 | _ => 999999
def crrS : List Nat := [3, 11, 12, 13, 14, 15, 16, 17, 18, 19, 20, 21, 22, 23, 24, 25, 26]
set_option linter.unusedVariables false in
def crrR (gb go n cp base k : Nat) (v0 : Value) (xs : List Value) (lf : Int) (ib io m c9 : Nat) (news : List Value) : Nat → Value → World → Prop := fun j u w => match j with | 0 => u = (v0) | 1 => u = (.slice (some ⟨gb, go, none⟩) n cp) | 2 => u = (.int .i64 (k : Int)) | 3 => u = (.pointer (some ⟨gb, go + k * 2, none⟩)) | 4 => u = (.pointer (some ⟨gb, go + k * 2, none⟩)) | 5 => u = (.int .i64 lf) | 6 => True | 7 => u = (.slice (some ⟨gb, go, none⟩) n cp) | 8 => u = (.int .i64 (k : Int)) | 9 => u = (.pointer (some ⟨gb, go + k * 2, none⟩)) | 10 => u = (.pointer (some ⟨gb, go + k * 2 + 1, none⟩)) | 11 => u = (.slice (some ⟨ib, io, none⟩) m c9) | 12 => True | 13 => True | 14 => True | 15 => True | 16 => True | _ => True
def crrP (a0 : Act) (W : World) (gb go n cp base k : Nat) (v0 : Value) (xs : List Value) (lf : Int) (ib io m c9 : Nat) (news : List Value) : Kt.RxP := ⟨17, crrSlot, crrS, a0, W, fun q => v0.ownBlock = some q ∨ W.heap.size ≤ q, crrR gb go n cp base k v0 xs lf ib io m c9 news, crrZ W base k v0 xs lf m news⟩
theorem crr_ok {a0 : Act} {W : World} {gb go n cp base k : Nat} {v0 : Value} {xs : List Value} {lf : Int} {ib io m c9 : Nat} {news : List Value} {listed : Array Bool} {act : Act} {w : World} (_ : Kt.RxI (crrP a0 W gb go n cp base k v0 xs lf ib io m c9 news) listed act w) : Kt.RxOk (crrP a0 W gb go n cp base k v0 xs lf ib io m c9 news) := by
  refine ⟨fun i hi j hj => (by decide : ∀ i, i < 17 → ∀ j, j < 17 → crrSlot i = crrSlot j → i = j) i hi j hj, fun j u w w' h hk => ?_⟩
  rcases j with _ | _ | _ | _ | _ | _ | _ | _ | _ | _ | _ | _ | _ | _ | _ | _ | _ | j
  · exact h
  · exact h
  · exact h
  · exact h
  · exact h
  · exact h
  · exact h
  · exact h
  · exact h
  · exact h
  · exact h
  · exact h
  · exact h
  · exact h
  · exact h
  · exact h
  · exact h
  · exact h

/-- The cells of items. -/
def flatI (l : List Gr.Item) : List Value := l.flatMap fun x => [.int .u16 x.cls, .int .i64 x.sym]
theorem flatI_len : ∀ l : List Gr.Item, (flatI l).length = l.length * 2
  | [] => rfl
  | x :: l => by
    rw [show flatI (x :: l) = [.int .u16 x.cls, .int .i64 x.sym] ++ flatI l from rfl, List.length_append, flatI_len l]
    simp
    omega
theorem flatI_get : ∀ (l : List Gr.Item) (k : Nat), k < l.length → (flatI l)[k * 2]? = some (.int .u16 (Gr.itm l k).cls) ∧ (flatI l)[k * 2 + 1]? = some (.int .i64 (Gr.itm l k).sym)
  | [], k, h => absurd h (Nat.not_lt_zero k)
  | x :: l, 0, _ => ⟨rfl, rfl⟩
  | x :: l, k + 1, h => by
    have ih := flatI_get l k (by simpa using h)
    rw [show flatI (x :: l) = [.int .u16 x.cls, .int .i64 x.sym] ++ flatI l from rfl]
    refine ⟨?_, ?_⟩
    · rw [List.getElem?_append_right (by simp; omega), show (k + 1) * 2 - [Value.int .u16 x.cls, .int .i64 x.sym].length = k * 2 from by simp; omega]
      exact ih.1
    · rw [List.getElem?_append_right (by simp; omega), show (k + 1) * 2 + 1 - [Value.int .u16 x.cls, .int .i64 x.sym].length = k * 2 + 1 from by simp; omega]
      exact ih.2
theorem flatI_one (l : List Gr.Item) : ∀ u ∈ flatI l, u.oneCell' = true := fun u hu => by
  obtain ⟨x, _, hu⟩ := List.mem_flatMap.1 hu
  simp only [List.mem_cons, List.not_mem_nil, or_false] at hu
  rcases hu with rfl | rfl <;> rfl
/-- The cells of rules: their items in the blocks of G. -/
def flatR (G C : Nat → Nat) (g : List Gr.Rule) : List Value := (List.range g.length).flatMap fun r => [.int .i64 (Gr.rul g r).left, .slice (some ⟨G r, 0, none⟩) (Gr.rul g r).right.length (C r)]
theorem flatR_succ (G C : Nat → Nat) (g : List Gr.Rule) (k : Nat) (h : k < g.length) : flatR G C (g.take k) ++ [.int .i64 (Gr.rul g k).left, .slice (some ⟨G k, 0, none⟩) (Gr.rul g k).right.length (C k)] = flatR G C (g.take (k + 1)) := by
  have hr : ∀ n r, r < n → n ≤ g.length → Gr.rul (g.take n) r = Gr.rul g r := fun n r h1 h2 => by unfold Gr.rul; simp [h1]
  unfold flatR
  rw [List.length_take, List.length_take, Nat.min_eq_left (by omega), Nat.min_eq_left (by omega), List.range_succ, List.flatMap_append]
  congr 1
  · refine Gr.flatMap_same _ fun r hr2 => ?_
    rw [List.mem_range] at hr2
    rw [hr k r hr2 (by omega), hr (k + 1) r (by omega) (by omega)]
  · simp [hr (k + 1) k (by omega) (by omega)]
/-- A grammar in memory of the call's own, from base on: its rules in a row, the items of each in a row of their own. -/
structure OG (w : World) (base : Nat) (v : Value) (g : List Gr.Rule) (G C : Nat → Nat) : Prop where
  own : w.ownsRow base 37 2 v g.length (flatR G C g)
  its : ∀ r, r < g.length → w.ownsRow base 40 2 (.slice (some ⟨G r, 0, none⟩) (Gr.rul g r).right.length (C r)) (Gr.rul g r).right.length (flatI (Gr.rul g r).right)
  ne : ∀ r, r < g.length → v.ownBlock ≠ some (G r)
  inj : ∀ r, r < g.length → ∀ r', r' < g.length → G r = G r' → r = r'
theorem OG.snoc {w w2 : World} {base k g2 cap2 gx capx : Nat} {v : Value} {g : List Gr.Rule} {G C : Nat → Nat} (h : OG w base v (g.take k) G C) (hk : k < g.length)
    (hown : w2.ownsRow base 37 2 (.slice (some ⟨g2, 0, none⟩) (k + 1) cap2) (k + 1) (flatR G C (g.take k) ++ [.int .i64 (Gr.rul g k).left, .slice (some ⟨gx, 0, none⟩) (Gr.rul g k).right.length capx]))
    (hgo : w2.ownsRow w.heap.size 40 2 (.slice (some ⟨gx, 0, none⟩) (Gr.rul g k).right.length capx) (Gr.rul g k).right.length (flatI (Gr.rul g k).right)) (hbase : base ≤ w.heap.size)
    (hat : v.ownBlock = some g2 ∨ w.heap.size ≤ g2) (hne : gx ≠ g2) (hgx : w.heap.size ≤ gx) (hkk : ∀ q, q < w.heap.size → v.ownBlock ≠ some q → w2.heap[q]? = w.heap[q]?) :
    OG w2 base (.slice (some ⟨g2, 0, none⟩) (k + 1) cap2) (g.take (k + 1)) (fun r => if r = k then gx else G r) (fun r => if r = k then capx else C r) := by
  have hlen : (g.take k).length = k := by rw [List.length_take]; omega
  have hlen1 : (g.take (k + 1)).length = k + 1 := by rw [List.length_take]; omega
  have hr : ∀ n r, r < n → Gr.rul (g.take n) r = Gr.rul g r := fun n r h1 => by unfold Gr.rul; simp [h1]
  have hlt : ∀ r, r < k → G r < w.heap.size := fun r hrk => ((h.its r (by rw [hlen]; exact hrk)).lt (G r) rfl).2
  refine ⟨?_, fun r hrl => ?_, fun r hrl => ?_, fun r hrl r' hrl' e => ?_⟩
  · rw [hlen1, ← flatR_succ _ _ g k hk]
    have e1 : flatR (fun r => if r = k then gx else G r) (fun r => if r = k then capx else C r) (g.take k) = flatR G C (g.take k) := by
      unfold flatR
      refine Gr.flatMap_same _ fun r hr2 => ?_
      rw [List.mem_range, hlen] at hr2
      have hrk : r ≠ k := by omega
      simp only [hrk, if_false]
    rw [e1, if_pos rfl, if_pos rfl]
    exact hown
  · rw [hlen1] at hrl
    rw [hr (k + 1) r hrl]
    by_cases e : r = k
    · subst e
      rw [if_pos rfl, if_pos rfl]
      exact hgo.mono hbase
    · rw [if_neg e, if_neg e]
      have h1 := h.its r (by rw [hlen]; omega)
      rw [hr k r (by omega)] at h1
      refine Kt.ownsRow_keep h1 fun g' e' => ?_
      have e2 : G r = g' := by simpa [Value.ownBlock] using e'
      subst e2
      exact hkk _ (hlt r (by omega)) (h.ne r (by rw [hlen]; omega))
  · rw [hlen1] at hrl
    intro e'
    have e2 : g2 = if r = k then gx else G r := by simpa [Value.ownBlock] using e'
    by_cases e : r = k
    · rw [if_pos e] at e2; exact hne e2.symm
    · rw [if_neg e] at e2
      rcases hat with a | a
      · exact h.ne r (by rw [hlen]; omega) (by rw [a, e2])
      · have := hlt r (by omega); omega
  · rw [hlen1] at hrl hrl'
    by_cases a : r = k <;> by_cases b : r' = k
    · omega
    · exfalso
      simp only [a, b, if_true, if_false] at e
      have := hlt r' (by omega); omega
    · exfalso
      simp only [a, b, if_true, if_false] at e
      have := hlt r (by omega); omega
    · simp only [a, b, if_false] at e
      exact h.inj r (by rw [hlen]; omega) r' (by rw [hlen]; omega) e
set_option maxRecDepth 20000 in
set_option maxHeartbeats 4000000 in
theorem copyRules_any (g : List Gr.Rule) (hG : Gr.Good g) (A : Option Addr) (n cp : Nat) (w : World) (hl : g.length = n) (hg : Kt.Rules w w.heap.size A g) :
    Calls Try.prog 17 #[.slice A n cp] w fun e w' => Below w.heap.size w w' ∧ ∃ v G C, e = .returned v ∧ OG w' w.heap.size v g G C := by
  have hn200 : n ≤ 200 := by rw [← hl]; exact hG.len
  have HG := Lib.hid hG
  have HL := Lib.hid hl
  obtain ⟨i0, hi0, hz0, hz1, hz2⟩ := info_parts Try.infoRule
  obtain ⟨i1, hi1, hy0, hy1, hy2⟩ := info_parts Try.infoItem
  clear hG hl
  go_enter Try.func17, Try.ntmps17
  go_wp2_with fail
  go_loopw [3, 4] (fun o s wr => ∃ (k : Nat) (G C : Nat → Nat), k ≤ n ∧ s = .int .i64 k ∧ Hid (OG wr w.heap.size o (g.take k) G C) ∧ Below w.heap.size w wr) (fun _ s _ => n - (intOf s).toNat)
  case atStart => exact ⟨0, fun _ => 0, fun _ => 0, Nat.zero_le _, rfl, Lib.hid ⟨World.ownsRow_nil _ _ _ _, fun r hr => by simp at hr, fun r hr => by simp at hr, fun r hr => by simp at hr⟩, Below.refl _ _⟩
  case round =>
    obtain ⟨k, G, C, hk, rfl, hO, hbel⟩ := hrel
    have hsr := hbel.size
    by_cases hlt : k < n
    · obtain ⟨gb, go, rfl, hgbl, hc⟩ := (hg.below hbel) (by have := HL.out; omega)
      obtain ⟨hc1, A', c9, hc2, hlr, hit⟩ := hc k (by have := HL.out; omega)
      obtain ⟨hs, hl1, hl8, hits⟩ := (HG.out.ok k (by have := HL.out; omega)).parts
      obtain ⟨lf, hlf⟩ : ∃ lf, Hid ((Gr.rul g k).left = lf) := ⟨_, Lib.hid rfl⟩
      obtain ⟨m, hm⟩ : ∃ m, Hid ((Gr.rul g k).right.length = m) := ⟨_, Lib.hid rfl⟩
      obtain ⟨ib, io, rfl, hib, hci⟩ := hit (by omega)
      obtain ⟨news, hnews0⟩ : ∃ news, Hid (flatI (Gr.rul g k).right = news) := ⟨_, Lib.hid rfl⟩
      rw [hlf.out] at hc1
      rw [hm.out] at hc2 hl1 hl8 hci
      have hnl : news.length = m * 2 := by rw [← hnews0.out, flatI_len, hm.out]
      have hn1 : ∀ u ∈ news, u.oneCell' = true := by rw [← hnews0.out]; exact flatI_one _
      have hnews : ∀ j u, news[j]? = some u → wr.cell? ((⟨ib, io, none⟩ : Addr).add j) = some u := fun j u hu => by
        have hjl : j < m * 2 := by
          have := (List.getElem?_eq_some_iff.1 hu).1
          omega
        have h1 := flatI_get (Gr.rul g k).right (j / 2) (by rw [hm.out]; omega)
        rw [hnews0.out] at h1
        have h2 := hci (j / 2) (by omega)
        rw [Addr.add_lit]
        rcases Nat.mod_two_eq_zero_or_one j with e | e
        · rw [show j / 2 * 2 = j from by omega] at h1 h2
          rw [hu] at h1
          injection h1.1 with h1
          rw [h1]; exact h2.1
        · rw [show j / 2 * 2 + 1 = j from by omega] at h1
          rw [show io + j / 2 * 2 + 1 = io + j from by omega] at h2
          rw [hu] at h1
          injection h1.2 with h1
          rw [h1]; exact h2.2
      have hOw0 := hO.out.own
      have hlen : (g.take k).length = k := by rw [List.length_take]; have := HL.out; omega
      rw [hlen] at hOw0
      obtain ⟨xs, hxs⟩ : ∃ xs, Hid (flatR G C (g.take k) = xs) := ⟨_, Lib.hid rfl⟩
      rw [hxs.out] at hOw0
      have hOw : wr.ownsRow w.heap.size 37 2 u3 k xs := hOw0
      have hbaseW : w.heap.size ≤ wr.heap.size := hsr
      have lib : ib < wr.heap.size := by omega
      have lgb : gb < wr.heap.size := by omega
      have hXg : ¬ (u3.ownBlock = some gb ∨ wr.heap.size ≤ gb) := by
        rintro (e | e)
        · have := (hOw.lt gb e).1; omega
        · omega
      clear hc hit hci hits hlr hOw0
      go_wp2_with fail
      refine Kt.region_inv (Kt.RxI (crrP _ wr gb go n cp w.heap.size k u3 xs lf ib io m c9 news)) (by kernel_rfl) ?hg (Kt.RxI.start (crrZ_start rfl)) ?hstep ?hdone
      case hg =>
        intro q o ho
        rcases q with _ | _ | _ | _ | _ | _ | _ | _ | _ | _ | _ | _ | _ | _ | _ | _ | _ | q
        all_goals first | (cases Option.some.inj ho; rfl) | (exfalso; simp at ho)
      case hstep =>
        intro listed act w2 q o hI ho hn hpre
        have ok := crr_ok hI
        rcases q with _ | _ | _ | _ | _ | _ | _ | _ | _ | _ | _ | _ | _ | _ | _ | _ | _ | q
        · cases Option.some.inj ho
          obtain ⟨z1, z2, z3, z4, z5, z6, z7, z8⟩ := hI.st
          have h16 : Kt.lis listed 16 = false := by
            cases h : Kt.lis listed 16 with
            | false => rfl
            | true =>
              have h9 : listed.getD 0 false = true := (z7.2.2.2.1 h)
              rw [Kt.getD_no hn] at h9; cases h9
          have e3 : Kt.val act 3 = u3 := z1 h16
          refine Kt.op_move rfl ?_
          rw [show act.eval (.tmp 3) = u3 from e3]
          exact hI.put ok (j := 0) (s := 11) (v := u3) (w' := w2) (Nat.le_of_ble_eq_true rfl) rfl (show (11 : Nat) ∈ crrS by decide) (Nat.le_of_ble_eq_true rfl) (Kt.Kp.refl _ _) rfl ⟨z1, z2, z3, z4, z5, z6, ⟨z7.1, z7.2.1, z7.2.2.1, fun q => (by first | rfl | exact z7.2.2.2.1 q), z7.2.2.2.2⟩, z8⟩
        · cases Option.some.inj ho
          refine Kt.op_move rfl ?_
          rw [show act.eval (.tmp 0) = .slice (some ⟨gb, go, none⟩) n cp from hI.frame.val_out (s := 0) (show 0 ∉ crrS by decide)]
          exact hI.put ok (j := 1) (Nat.le_of_ble_eq_true rfl) rfl (show (12 : Nat) ∈ crrS by decide) (Nat.le_of_ble_eq_true rfl) (Kt.Kp.refl _ _) rfl hI.st
        · cases Option.some.inj ho
          refine Kt.op_move rfl ?_
          rw [show act.eval (.tmp 4) = .int .i64 (k : Int) from hI.frame.val_out (s := 4) (show 4 ∉ crrS by decide)]
          exact hI.put ok (j := 2) (Nat.le_of_ble_eq_true rfl) rfl (show (13 : Nat) ∈ crrS by decide) (Nat.le_of_ble_eq_true rfl) (Kt.Kp.refl _ _) rfl hI.st
        · cases Option.some.inj ho
          have e1 : act.tmps[12]?.getD undef = .slice (some ⟨gb, go, none⟩) n cp := hI.eq (j := 1) (Nat.le_of_ble_eq_true rfl) rfl (fun _ _ h => h) (hpre ⟨1, .data⟩ (by simp) rfl)
          have e2 : act.tmps[13]?.getD undef = .int .i64 (k : Int) := hI.eq (j := 2) (Nat.le_of_ble_eq_true rfl) rfl (fun _ _ h => h) (hpre ⟨2, .data⟩ (by simp) rfl)
          have hk := hI.put ok (j := 3) (s := 14) (v := .pointer (some ⟨gb, go + k * 2, none⟩)) (w' := w2) (Nat.le_of_ble_eq_true rfl) rfl (show (14 : Nat) ∈ crrS by decide) (Nat.le_of_ble_eq_true rfl) (Kt.Kp.refl _ _) rfl hI.st
          refine Kt.op_opq hk ?_
          clear hk
          intro KK hkk
          unfold Oper.wp
          go_simp
          exact hkk
        · cases Option.some.inj ho
          have e3 : act.tmps[14]?.getD undef = .pointer (some ⟨gb, go + k * 2, none⟩) := hI.eq (j := 3) (Nat.le_of_ble_eq_true rfl) rfl (fun _ _ h => h) (hpre ⟨3, .data⟩ (by simp) rfl)
          have hk := hI.put ok (j := 4) (s := 15) (v := .pointer (some ⟨gb, go + k * 2, none⟩)) (w' := w2) (Nat.le_of_ble_eq_true rfl) rfl (show (15 : Nat) ∈ crrS by decide) (Nat.le_of_ble_eq_true rfl) (Kt.Kp.refl _ _) rfl hI.st
          refine Kt.op_opq hk ?_
          clear hk
          intro KK hkk
          unfold Oper.wp
          go_simp
          exact hkk
        · cases Option.some.inj ho
          have e4 : act.tmps[15]?.getD undef = .pointer (some ⟨gb, go + k * 2, none⟩) := hI.eq (j := 4) (Nat.le_of_ble_eq_true rfl) rfl (fun _ _ h => h) (hpre ⟨4, .data⟩ (by simp) rfl)
          have c0 : w2.cell? ⟨gb, go + k * 2, none⟩ = some (.int .i64 lf) := hI.cell lgb hXg hc1
          have hk := hI.put ok (j := 5) (s := 16) (v := .int .i64 lf) (w' := w2) (Nat.le_of_ble_eq_true rfl) rfl (show (16 : Nat) ∈ crrS by decide) (Nat.le_of_ble_eq_true rfl) (Kt.Kp.refl _ _) rfl hI.st
          refine Kt.op_opq hk ?_
          clear hk
          intro KK hkk
          unfold Oper.wp
          go_simp
          exact hkk
        · cases Option.some.inj ho
          obtain ⟨z1, z2, z3, z4, z5, z6, z7, z8⟩ := hI.st
          have h12 : Kt.lis listed 12 = false := by
            cases h : Kt.lis listed 12 with
            | false => rfl
            | true =>
              have h9 : listed.getD 6 false = true := (z7.1 h)
              rw [Kt.getD_no hn] at h9; cases h9
          have h15 : Kt.lis listed 15 = false := by
            cases h : Kt.lis listed 15 with
            | false => rfl
            | true =>
              have h9 : listed.getD 6 false = true := (z7.1 (z7.2.1 h).1)
              rw [Kt.getD_no hn] at h9; cases h9
          have hba : Below w2.heap.size w2 (w2.alloc (.cells #[] 40)) := (Below.refl _ _).alloc (Nat.le_refl _) _
          have hbw := (z2 h15)
          have hk := hI.put ok (j := 6) (s := 17) (v := .slice (some ⟨w2.heap.size, 0, none⟩) 0 0) (w' := w2.alloc (.cells #[] 40)) (Nat.le_of_ble_eq_true rfl) rfl (show (17 : Nat) ∈ crrS by decide) (Nat.le_of_ble_eq_true rfl) (Kt.Kp.below _ hba) trivial ?_
          · refine Kt.op_opq hk ?_
            clear hk
            intro KK hkk
            unfold Oper.wp
            go_simp
            exact hkk
          refine ⟨z1, fun _ => hbw.trans (hba.mono hbw.size), fun _ _ => ⟨w2.heap.size, rfl, Kt.Blk.new _ _ _, hbw.size⟩, fun q => absurd (h12.symm.trans q) (by decide), fun q _ => ?_, fun q => absurd (h15.symm.trans q) (by decide), ⟨fun _ => rfl, z7.2⟩, z8⟩
          exact absurd (h12.symm.trans (z7.2.2.2.2.1 (z7.2.2.1 q))) (by decide)
        · cases Option.some.inj ho
          refine Kt.op_move rfl ?_
          rw [show act.eval (.tmp 0) = .slice (some ⟨gb, go, none⟩) n cp from hI.frame.val_out (s := 0) (show 0 ∉ crrS by decide)]
          exact hI.put ok (j := 7) (Nat.le_of_ble_eq_true rfl) rfl (show (18 : Nat) ∈ crrS by decide) (Nat.le_of_ble_eq_true rfl) (Kt.Kp.refl _ _) rfl hI.st
        · cases Option.some.inj ho
          refine Kt.op_move rfl ?_
          rw [show act.eval (.tmp 4) = .int .i64 (k : Int) from hI.frame.val_out (s := 4) (show 4 ∉ crrS by decide)]
          exact hI.put ok (j := 8) (Nat.le_of_ble_eq_true rfl) rfl (show (19 : Nat) ∈ crrS by decide) (Nat.le_of_ble_eq_true rfl) (Kt.Kp.refl _ _) rfl hI.st
        · cases Option.some.inj ho
          have e7 : act.tmps[18]?.getD undef = .slice (some ⟨gb, go, none⟩) n cp := hI.eq (j := 7) (Nat.le_of_ble_eq_true rfl) rfl (fun _ _ h => h) (hpre ⟨7, .data⟩ (by simp) rfl)
          have e8 : act.tmps[19]?.getD undef = .int .i64 (k : Int) := hI.eq (j := 8) (Nat.le_of_ble_eq_true rfl) rfl (fun _ _ h => h) (hpre ⟨8, .data⟩ (by simp) rfl)
          have hk := hI.put ok (j := 9) (s := 20) (v := .pointer (some ⟨gb, go + k * 2, none⟩)) (w' := w2) (Nat.le_of_ble_eq_true rfl) rfl (show (20 : Nat) ∈ crrS by decide) (Nat.le_of_ble_eq_true rfl) (Kt.Kp.refl _ _) rfl hI.st
          refine Kt.op_opq hk ?_
          clear hk
          intro KK hkk
          unfold Oper.wp
          go_simp
          exact hkk
        · cases Option.some.inj ho
          have e9 : act.tmps[20]?.getD undef = .pointer (some ⟨gb, go + k * 2, none⟩) := hI.eq (j := 9) (Nat.le_of_ble_eq_true rfl) rfl (fun _ _ h => h) (hpre ⟨9, .data⟩ (by simp) rfl)
          have hk := hI.put ok (j := 10) (s := 21) (v := .pointer (some ⟨gb, go + k * 2 + 1, none⟩)) (w' := w2) (Nat.le_of_ble_eq_true rfl) rfl (show (21 : Nat) ∈ crrS by decide) (Nat.le_of_ble_eq_true rfl) (Kt.Kp.refl _ _) rfl hI.st
          refine Kt.op_opq hk ?_
          clear hk
          intro KK hkk
          unfold Oper.wp
          go_simp
          exact hkk
        · cases Option.some.inj ho
          have e10 : act.tmps[21]?.getD undef = .pointer (some ⟨gb, go + k * 2 + 1, none⟩) := hI.eq (j := 10) (Nat.le_of_ble_eq_true rfl) rfl (fun _ _ h => h) (hpre ⟨10, .data⟩ (by simp) rfl)
          have c0 : w2.cell? ⟨gb, go + k * 2 + 1, none⟩ = some (.slice (some ⟨ib, io, none⟩) m c9) := hI.cell lgb hXg hc2
          have hk := hI.put ok (j := 11) (s := 22) (v := .slice (some ⟨ib, io, none⟩) m c9) (w' := w2) (Nat.le_of_ble_eq_true rfl) rfl (show (22 : Nat) ∈ crrS by decide) (Nat.le_of_ble_eq_true rfl) (Kt.Kp.refl _ _) rfl hI.st
          refine Kt.op_opq hk ?_
          clear hk
          intro KK hkk
          unfold Oper.wp
          go_simp
          exact hkk
        · cases Option.some.inj ho
          have e11 : act.tmps[22]?.getD undef = .slice (some ⟨ib, io, none⟩) m c9 := hI.eq (j := 11) (Nat.le_of_ble_eq_true rfl) rfl (fun _ _ h => h) (hpre ⟨11, .data⟩ (by simp) rfl)
          obtain ⟨z1, z2, z3, z4, z5, z6, z7, z8⟩ := hI.st
          have l6 : listed.getD 6 false = true := hpre ⟨6, .data⟩ (by simp) rfl
          have h12 : Kt.lis listed 12 = false := Kt.getD_no hn
          have h15 : Kt.lis listed 15 = false := by
            cases h : Kt.lis listed 15 with
            | false => rfl
            | true =>
              have h9 : listed.getD 12 false = true := (z7.2.1 h).1
              rw [Kt.getD_no hn] at h9; cases h9
          have h14 : Kt.lis listed 14 = false := by
            cases h : Kt.lis listed 14 with
            | false => rfl
            | true =>
              have h9 : listed.getD 12 false = true := (z7.2.2.2.2.1 (z7.2.2.1 h))
              rw [Kt.getD_no hn] at h9; cases h9
          have h13 : Kt.lis listed 13 = false := by
            cases h : Kt.lis listed 13 with
            | false => rfl
            | true =>
              have h9 : listed.getD 12 false = true := (z7.2.2.2.2.1 h)
              rw [Kt.getD_no hn] at h9; cases h9
          have hbw := z2 h15
          obtain ⟨b, e6, hbb, hbl⟩ := z3 l6 h12
          replace e6 : Kt.val act 17 = .slice (some ⟨b, 0, none⟩) 0 0 := e6
          have e6b : act.eval (.tmp 17) = .slice (some ⟨b, 0, none⟩) 0 0 := e6
          have e11b : act.eval (.tmp 22) = .slice (some ⟨ib, io, none⟩) m c9 := (Kt.val_get act 22).trans e11
          have hown2 : w2.ownsRow wr.heap.size 40 2 (.slice (some ⟨b, 0, none⟩) 0 0) 0 [] := ⟨rfl, .inr ⟨b, 0, #[], rfl, hbl, hbb, Nat.le_refl _, Nat.zero_le _, rfl, rfl⟩⟩
          have hnw : ∀ j u, news[j]? = some u → w2.cell? ((⟨ib, io, none⟩ : Addr).add j) = some u := fun j u hu => by
            have := hnews j u hu
            rw [Addr.add_lit] at this ⊢
            exact (hbw.cell (p := ⟨ib, io + j, none⟩) lib).trans this
          refine wp_append_lies (P := Try.prog) w2 (.tmp 17) (.tmp 22) 35 rfl wr.heap.size 40 i1 (.agg #[.int .u16 0, .int .i64 0]) 2 16 Try.underlying35 hi1 hy0 hy1 hy2 rfl (by decide) _ 0 [] e6b hown2 ⟨ib, io, none⟩ m c9 news e11b hnl hnw hn1 (by omega) (by unfold maxLen; omega) (by omega) hbw.size _ rfl (fun g cap w3 h1 h2 h3 h4 => ?_)
          have hbq : ∀ q, (Value.slice (some ⟨b, 0, none⟩) 0 0).ownBlock = some q → wr.heap.size ≤ q := fun q hq => by
            have h9 : b = q := by simpa [Value.ownBlock] using hq
            omega
          have hbd : Below wr.heap.size wr w3 := hbw.grown h2 hbw.size hbq
          have hgl : wr.heap.size ≤ g := (World.ownsRow.lt h1 g rfl).1
          refine hI.put ok (j := 12) (s := 23) (w' := w3) (Nat.le_of_ble_eq_true rfl) rfl (show (23 : Nat) ∈ crrS by decide) (Nat.le_of_ble_eq_true rfl) (Kt.Kp.grown h2 fun q hq => .inr (hbq q hq)) trivial ⟨z1, fun _ => hbd, fun _ q => absurd (show true = false from q) (by decide), fun _ => ⟨g, cap, by show Value.slice _ (0 + m) cap = _; rw [Nat.zero_add], hgl, ?_⟩, fun q => absurd (h14.symm.trans q) (by decide), fun q => absurd (h15.symm.trans q) (by decide), ⟨fun _ => l6, fun q => absurd (h15.symm.trans q) (by decide), fun q => absurd (h14.symm.trans q) (by decide), z7.2.2.2.1, fun q => absurd (h13.symm.trans q) (by decide), fun q => absurd (h13.symm.trans q) (by decide)⟩, z8⟩
          rw [Nat.zero_add, List.nil_append] at h1
          show w3.ownsRow _ _ _ (.slice (some ⟨g, 0, none⟩) (0 + m) cap) m news
          rw [Nat.zero_add]
          exact h1
        · cases Option.some.inj ho
          have e5 : act.tmps[16]?.getD undef = .int .i64 lf := hI.eq (j := 5) (Nat.le_of_ble_eq_true rfl) rfl (fun _ _ h => h) (hpre ⟨5, .data⟩ (by simp) rfl)
          obtain ⟨z1, z2, z3, z4, z5, z6, z7, z8⟩ := hI.st
          have l12 : listed.getD 12 false = true := hpre ⟨12, .data⟩ (by simp) rfl
          obtain ⟨g, cap, e12, hgl, hgo⟩ := z4 l12
          have e12v : Kt.val act 23 = .slice (some ⟨g, 0, none⟩) m cap := e12
          have e12b : act.tmps[23]?.getD undef = .slice (some ⟨g, 0, none⟩) m cap := (Kt.val_get act 23).symm.trans e12v
          have h14 : Kt.lis listed 14 = false := by
            cases h : Kt.lis listed 14 with
            | false => rfl
            | true =>
              have h9 : listed.getD 13 false = true := (z7.2.2.1 h)
              rw [Kt.getD_no hn] at h9; cases h9
          have h15 : Kt.lis listed 15 = false := by
            cases h : Kt.lis listed 15 with
            | false => rfl
            | true =>
              have h9 : listed.getD 13 false = true := (z7.2.2.1 (z7.2.1 h).2)
              rw [Kt.getD_no hn] at h9; cases h9
          have hk := hI.put ok (j := 13) (s := 24) (v := .agg #[.int .i64 lf, .slice (some ⟨g, 0, none⟩) m cap]) (w' := w2) (Nat.le_of_ble_eq_true rfl) rfl (show (24 : Nat) ∈ crrS by decide) (Nat.le_of_ble_eq_true rfl) (Kt.Kp.refl _ _) trivial ?_
          · refine Kt.op_opq hk ?_
            clear hk
            intro KK hkk
            unfold Oper.wp
            go_simp
            exact hkk
          refine ⟨z1, z2, z3, z4, fun q => absurd (h14.symm.trans q) (by decide), fun q => absurd (h15.symm.trans q) (by decide), ⟨z7.1, fun q => absurd (h15.symm.trans q) (by decide), fun q => absurd (h14.symm.trans q) (by decide), z7.2.2.2.1, fun _ => l12, fun _ => ?_⟩, z8⟩
          exact congrArg (fun x => Value.agg #[.int .i64 lf, x]) e12.symm
        · cases Option.some.inj ho
          obtain ⟨z1, z2, z3, z4, z5, z6, z7, z8⟩ := hI.st
          have l13 : listed.getD 13 false = true := hpre ⟨13, .data⟩ (by simp) rfl
          have l12 : listed.getD 12 false = true := z7.2.2.2.2.1 l13
          obtain ⟨g, cap, e12, hgl, hgo⟩ := z4 l12
          have e13 := z7.2.2.2.2.2 l13
          rw [show Kt.vals _ act 12 = .slice (some ⟨g, 0, none⟩) m cap from e12] at e13
          replace e13 : Kt.val act 24 = .agg #[.int .i64 lf, .slice (some ⟨g, 0, none⟩) m cap] := e13
          have e13b : act.tmps[24]?.getD undef = .agg #[.int .i64 lf, .slice (some ⟨g, 0, none⟩) m cap] := (Kt.val_get act 24).symm.trans e13
          have h15 : Kt.lis listed 15 = false := by
            cases h : Kt.lis listed 15 with
            | false => rfl
            | true =>
              have h9 : listed.getD 14 false = true := (z7.2.1 h).2
              rw [Kt.getD_no hn] at h9; cases h9
          have hbw := z2 h15
          have hba : Below w2.heap.size w2 (w2.alloc (.cells #[.int .i64 lf, .slice (some ⟨g, 0, none⟩) m cap] 37)) := (Below.refl _ _).alloc (Nat.le_refl _) _
          have hk := hI.put ok (j := 14) (s := 25) (v := .slice (some ⟨w2.heap.size, 0, none⟩) 1 1) (w' := w2.alloc (.cells #[.int .i64 lf, .slice (some ⟨g, 0, none⟩) m cap] 37)) (Nat.le_of_ble_eq_true rfl) rfl (show (25 : Nat) ∈ crrS by decide) (Nat.le_of_ble_eq_true rfl) (Kt.Kp.below _ hba) trivial ?_
          · refine Kt.op_opq hk ?_
            clear hk
            intro KK hkk
            unfold Oper.wp
            go_simp
            exact hkk
          refine ⟨z1, fun _ => hbw.trans (hba.mono hbw.size), fun q r => ?_, fun _ => ⟨g, cap, e12, hgl, ?_⟩, fun _ _ => ⟨w2.heap.size, rfl, ?_⟩, fun q => absurd (h15.symm.trans q) (by decide), ⟨z7.1, fun q => absurd (h15.symm.trans q) (by decide), fun _ => l13, z7.2.2.2⟩, z8⟩
          · obtain ⟨b, k1, k2, k3⟩ := z3 q r
            exact ⟨b, k1, k2.alloc _, k3⟩
          · exact Kt.ownsRow_keep hgo fun g' e => hba.block g' (hgo.lt g' e).2
          · exact (congrArg (fun x => Kt.Blk (w2.alloc (.cells #[.int .i64 lf, .slice (some ⟨g, 0, none⟩) m cap] 37)) w2.heap.size 37 #[.int .i64 lf, x]) e12).mpr (Kt.Blk.new _ _ _)
        · cases Option.some.inj ho
          have e0 : act.tmps[11]?.getD undef = u3 := hI.eq (j := 0) (Nat.le_of_ble_eq_true rfl) rfl (fun _ _ h => h) (hpre ⟨0, .data⟩ (by simp) rfl)
          obtain ⟨z1, z2, z3, z4, z5, z6, z7, z8⟩ := hI.st
          have l14 : listed.getD 14 false = true := hpre ⟨14, .data⟩ (by simp) rfl
          have l0 : listed.getD 0 false = true := hpre ⟨0, .data⟩ (by simp) rfl
          have l13 : listed.getD 13 false = true := z7.2.2.1 l14
          have l12 : listed.getD 12 false = true := z7.2.2.2.2.1 l13
          obtain ⟨g, cap, e12, hgl, hgo⟩ := z4 l12
          have h15 : Kt.lis listed 15 = false := Kt.getD_no hn
          have h16 : Kt.lis listed 16 = false := by
            cases h : Kt.lis listed 16 with
            | false => rfl
            | true =>
              have h9 : listed.getD 15 false = true := (z8.1 h)
              rw [Kt.getD_no hn] at h9; cases h9
          have hbw := z2 h15
          obtain ⟨gb2, e14, hb14⟩ := z5 l14 h15
          rw [show Kt.vals _ act 12 = .slice (some ⟨g, 0, none⟩) m cap from e12] at hb14 hgo
          replace e14 : Kt.val act 25 = .slice (some ⟨gb2, 0, none⟩) 1 1 := e14
          have e14b : act.eval (.tmp 25) = .slice (some ⟨gb2, 0, none⟩) 1 1 := e14
          have e0b : act.eval (.tmp 11) = u3 := (Kt.val_get act 11).trans e0
          have hown2 : w2.ownsRow w.heap.size 37 2 u3 k xs := Kt.ownsRow_keep hOw fun g' e => hbw.block g' (hOw.lt g' e).2
          refine wp_append_lies (P := Try.prog) w2 (.tmp 11) (.tmp 25) 22 rfl w.heap.size 37 i0 (.agg #[.int .i64 0, .slice none 0 0]) 2 32 Try.underlying22 hi0 hz0 hz1 hz2 rfl (by decide) u3 k xs e0b hown2 ⟨gb2, 0, none⟩ 1 1 [.int .i64 lf, .slice (some ⟨g, 0, none⟩) m cap] e14b rfl (World.news_of_block hb14) (by intro u hu; simp at hu; rcases hu with rfl | rfl <;> rfl) (by decide) (by unfold maxLen; omega) (by omega) (Nat.le_trans hbaseW hbw.size) _ rfl (fun g2 cap2 w3 h1 h2 h3 h4 => ?_)
          have hgg : u3.ownBlock ≠ some g := fun e => by have := (hOw.lt g e).2; omega
          have hg2 : g < w2.heap.size := (hgo.lt g rfl).2
          have hne2 : g ≠ g2 := by
            rintro rfl
            rcases h3 with e | e
            · exact hgg e
            · omega
          refine hI.put ok (j := 15) (s := 26) (w' := w3) (Nat.le_of_ble_eq_true rfl) rfl (show (26 : Nat) ∈ crrS by decide) (Nat.le_of_ble_eq_true rfl) (Kt.Kp.grown h2 fun q hq => .inl hq) trivial ⟨z1, fun q => absurd (show true = false from q) (by decide), fun q r => ?_, fun _ => ⟨g, cap, e12, hgl, ?_⟩, fun _ q => absurd (show true = false from q) (by decide), fun _ => ⟨g2, cap2, g, cap, e12, hgl, rfl, ?_, h1, hne2, ?_⟩, ⟨z7.1, fun _ => ⟨l12, l14⟩, z7.2.2⟩, ⟨fun _ => rfl, fun q => absurd (h16.symm.trans q) (by decide)⟩⟩
          · exact absurd ((show Kt.lis listed 12 = true from l12).symm.trans r) (by decide)
          · refine (congrArg (fun x => World.ownsRow w3 wr.heap.size 40 2 x m news) e12).mpr (Kt.ownsRow_keep hgo fun g' e => h2.block g' (hgo.lt g' e).2 fun e2 => ?_)
            have e9 : g = g' := by simpa [Value.ownBlock] using e
            subst e9
            exact hgg e2.symm
          · rcases h3 with e | e
            · exact .inl e
            · exact .inr (by have := hbw.size; omega)
          · exact fun q hq hnq => (h2.block q (Nat.lt_of_lt_of_le hq hbw.size) fun e => hnq e.symm).trans (hbw.block q hq)
        · cases Option.some.inj ho
          obtain ⟨z1, z2, z3, z4, z5, z6, z7, z8⟩ := hI.st
          have l15 : listed.getD 15 false = true := hpre ⟨15, .data⟩ (by simp) rfl
          have l0 : listed.getD 0 false = true := hpre ⟨0, .phase⟩ (by simp) rfl
          refine Kt.op_assign rfl ?_
          refine hI.put ok (j := 16) (s := 3) (Nat.le_of_ble_eq_true rfl) rfl (show (3 : Nat) ∈ crrS by decide) (Nat.le_of_ble_eq_true rfl) (Kt.Kp.refl _ _) trivial ⟨fun q => absurd (show true = false from q) (by decide), z2, z3, z4, z5, z6, ⟨z7.1, z7.2.1, z7.2.2.1, fun _ => l0, z7.2.2.2.2⟩, ⟨fun _ => l15, fun _ => rfl⟩⟩
        · exfalso; simp at ho
      case hdone =>
        intro listed act w2 hI hr
        have hup := Kt.all_up (fun q o ho => by
          rcases q with _ | _ | _ | _ | _ | _ | _ | _ | _ | _ | _ | _ | _ | _ | _ | _ | _ | q
          all_goals first | (cases Option.some.inj ho; decide) | (exfalso; simp at ho)) hI.size hr
        have hst := hI.st
        have hkept := hI.kept
        rw [hI.frame.out]
        simp only [crrP, crrS, Kt.sets]
        obtain ⟨y1, y2, y3, y4, y5, y6, y7, y8⟩ := hst
        obtain ⟨g2, cap2, gx, capx, e12, hgl, e15, hat2, hown15, hne2, hkk15⟩ := y6 (hup 15 (by decide))
        obtain ⟨g9, cap9, e12x, _, hgo⟩ := y4 (hup 12 (by decide))
        have g16 := (y8.2 (hup 16 (by decide)))
        rw [e15] at g16 hown15
        replace g16 : Kt.val act 3 = .slice (some ⟨g2, 0, none⟩) (k + 1) cap2 := g16
        rw [e12] at hgo
        clear y1 y2 y3 y4 y5 y6 y7 y8 e15 e12 e12x
        generalize Kt.val act 3 = v3 at g16 ⊢
        generalize Kt.val act 11 = v11
        generalize Kt.val act 12 = v12
        generalize Kt.val act 13 = v13
        generalize Kt.val act 14 = v14
        generalize Kt.val act 15 = v15
        generalize Kt.val act 16 = v16
        generalize Kt.val act 17 = v17
        generalize Kt.val act 18 = v18
        generalize Kt.val act 19 = v19
        generalize Kt.val act 20 = v20
        generalize Kt.val act 21 = v21
        generalize Kt.val act 22 = v22
        generalize Kt.val act 23 = v23
        generalize Kt.val act 24 = v24
        generalize Kt.val act 25 = v25
        generalize Kt.val act 26 = v26
        simp only [List.setIfInBounds_toArray, List.set_cons_zero, List.set_cons_succ]
        subst g16
        clear hI hr hup
        have hbz : Below w.heap.size w w2 := hbel.trans (hkept.to_below hsr (fun q hq e => by
          rcases e with e | e
          · have := (hOw.lt q e).1; omega
          · omega))
        have hOZ : Hid (OG w2 w.heap.size (.slice (some ⟨g2, 0, none⟩) (k + 1) cap2) (g.take (k + 1)) (fun r => if r = k then gx else G r) (fun r => if r = k then capx else C r)) := Lib.hid (by
          refine OG.snoc hO.out (by have := HL.out; omega) ?_ ?_ hsr hat2 hne2 hgl hkk15
          · rw [hlf.out, hm.out, hxs.out]; exact hown15
          · rw [hm.out, hnews0.out]; exact hgo)
        clear hown15 hgo hkk15
        go_wp2_with fail
        go_roundw
        case rel => exact ⟨k + 1, _, _, by omega, by go_num, hOZ, hbz⟩
        case measure => simp [intOf]; omega
    · obtain rfl : k = n := by omega
      have htk : g.take k = g := List.take_of_length_le (by rw [HL.out]; exact Nat.le_refl _)
      have hOZ := hO.out
      rw [htk] at hOZ
      go_wp2
      go_ret
      exact ⟨hbel, _, G, C, rfl, hOZ⟩
end Go.Proofs.Ytkclifdbdnigaaa
end
section
/- great: whether a grammar or tokens are more than the statements examine. -/
namespace Gr
/-- What a grammar and tokens are that are not great. -/
structure Fine (g : List Rule) (nt : Nat) : Prop where
  r12 : ∀ r, r < g.length → (rul g r).right.length ≤ 12
  g230 : g.length ≤ 230
  t60 : nt ≤ 60
  t12 : nt ≤ 12 ∨ 40 < nt
end Gr
namespace Go.Proofs.Ytkclifdbdnigaaa
open Go Go.RowKit
theorem great_fin {g : List Gr.Rule} {nt : Nat} {B : Bool} (h : B = false → Gr.Fine g nt) : Ending.returned (.bool B) = .returned (.bool false) ∧ Gr.Fine g nt ∨ Ending.returned (.bool B) = .returned (.bool true) := by
  cases B with
  | false => exact .inl ⟨rfl, h rfl⟩
  | true => exact .inr rfl
set_option maxHeartbeats 1000000 in
theorem great_any (g : List Gr.Rule) (nt : Nat) (A : Option Addr) (n cp : Nat) (T : Option Addr) (ct : Nat) (w : World) (hl : g.length = n) (hn : n ≤ 4611686018427387904) (hg : Kt.Rules w w.heap.size A g) :
    Calls Try.prog 10 #[.slice A n cp, .slice T nt ct] w fun e w' => w = w' ∧ (e = .returned (.bool false) ∧ Gr.Fine g nt ∨ e = .returned (.bool true)) := by
  have HL := Lib.hid hl
  clear hl
  go_enter Try.func10, Try.ntmps10
  go_wp2
  go_loopw [5] (fun i wr => ∃ k : Nat, k ≤ n ∧ i = .int .i64 k ∧ wr = w ∧ Hid (∀ r, r < k → (Gr.rul g r).right.length ≤ 12)) (fun i _ => n - (intOf i).toNat)
  case atStart => exact ⟨0, Nat.zero_le _, rfl, rfl, Lib.hid (fun r hr => by omega)⟩
  case round =>
    obtain ⟨k, hk, rfl, rfl, hz⟩ := hrel
    by_cases hlt : k < n
    · obtain ⟨b, o, rfl, hb, hc⟩ := hg (by have := HL.out; omega)
      obtain ⟨c1, A', c', c2, hlr, hit⟩ := hc k (by have := HL.out; omega)
      obtain ⟨m, hm⟩ : ∃ m, Hid ((Gr.rul g k).right.length = m) := ⟨_, Lib.hid rfl⟩
      rw [hm.out] at c2 hlr
      clear c1 hc hit
      by_cases hbig : 12 < m
      · have d1 : ((m : Int) > 12) = True := by simp; omega
        go_wp2
        go_ret
        exact ⟨by first | rfl | trivial, by first | exact .inr rfl | trivial⟩
      · have d1 : ((m : Int) > 12) = False := by simp; omega
        have HZ : Hid (∀ r, r < k + 1 → (Gr.rul g r).right.length ≤ 12) := Lib.hid fun r hr => by
          by_cases e : r = k
          · subst e; rw [hm.out]; omega
          · exact hz.out r (by omega)
        go_wp2
        go_roundw
        case rel => exact ⟨k + 1, by omega, by go_num, trivial, HZ⟩
        case measure => simp [intOf]; omega
    · obtain rfl : k = n := by omega
      have HF : Hid (∀ r, r < g.length → (Gr.rul g r).right.length ≤ 12) := Lib.hid (by rw [HL.out]; exact hz.out)
      go_wp2_with fail
      all_goals go_ret
      all_goals (refine ⟨by first | rfl | trivial, great_fin fun hB => ?_⟩; have hgl := HL.out; try simp at hB)
      all_goals exact ⟨HF.out, by omega, by omega, by omega⟩
end Go.Proofs.Ytkclifdbdnigaaa
end
section
/- What the laws of grammars share: a number picked; a grammar of the call's own as one that is read. -/
namespace Go.Proofs.Ytkclifdbdnigaaa
open Go Go.RowKit
def pickF (x : Int) (n : Nat) : Int := if x.tmod n < 0 then x.tmod n + n else x.tmod n
theorem pickF_bd (x : Int) {n : Nat} (h : 0 < n) : 0 ≤ pickF x n ∧ pickF x n < n := by
  unfold pickF
  have h1 := Int.tmod_lt_of_pos x (show (0 : Int) < n by omega)
  have h2 : -(n : Int) < x.tmod n := Int.lt_tmod_of_pos x (by omega)
  split <;> omega
theorem pick_any (x : Int) (n : Nat) (h : 0 < n) (hn : n ≤ 1000) (w : World) : Calls Try.prog 15 #[.int .i64 x, .int .i64 (n : Int)] w fun e w' => e = .returned (.int .i64 (pickF x n)) ∧ w = w' := by
  have hb := pickF_bd x h
  have d1 : ((n : Int) < 1) = False := by simp; omega
  have d2 : ((n : Int) == 0) = false := by simp; omega
  have hd : Hid (pickF x n = if x.tmod n < 0 then x.tmod n + n else x.tmod n) := Lib.hid rfl
  have h1 := Int.tmod_lt_of_pos x (show (0 : Int) < n by omega)
  have h2 : -(n : Int) < x.tmod n := Int.lt_tmod_of_pos x (by omega)
  obtain ⟨r, hr⟩ : ∃ r, x.tmod n = r := ⟨_, rfl⟩
  rw [hr] at h1 h2 hd
  go_enter Try.func15, Try.ntmps15
  go_wp2_with fail
  all_goals go_ret
  all_goals (refine ⟨?_, rfl⟩; rw [hd.out])
  · rw [if_pos (by omega)]; rfl
  · rw [if_neg (by omega)]; rfl
theorem flatR_get (G C : Nat → Nat) (g : List Gr.Rule) (r q : Nat) (hr : r < g.length) (hq : q < 2) : (flatR G C g)[r * 2 + q]? = ([.int .i64 (Gr.rul g r).left, .slice (some ⟨G r, 0, none⟩) (Gr.rul g r).right.length (C r)] : List Value)[q]? := by
  have key : ∀ (f : Nat → List Value), (∀ i, (f i).length = 2) → ∀ n r, r < n → ((List.range n).flatMap f)[r * 2 + q]? = (f r)[q]? := by
    intro f hf n
    induction n with
    | zero => intro r h; omega
    | succ n ih =>
      intro r h
      have hl : ((List.range n).flatMap f).length = n * 2 := by
        rw [List.length_flatMap]
        simp [hf, List.map_const', List.sum_replicate_nat]
      rw [List.range_succ, List.flatMap_append]
      by_cases e : r < n
      · rw [List.getElem?_append_left (by omega)]
        exact ih r e
      · obtain rfl : r = n := by omega
        rw [List.getElem?_append_right (by omega), hl, show r * 2 + q - r * 2 = q from by omega]
        simp
  exact key _ (fun _ => rfl) _ r hr
/-- A grammar of the call's own is one that can be read. -/
theorem OG.rules {w : World} {base : Nat} {v : Value} {g : List Gr.Rule} {G C : Nat → Nat} (h : OG w base v g G C) (hlen : ∀ r, r < g.length → (Gr.rul g r).right.length ≤ 4611686018427387904) : ∃ A c, v = .slice A g.length c ∧ Kt.Rules w w.heap.size A g := by
  rcases h.own.2 with ⟨rfl, h0⟩ | ⟨gb, cap, cur, rfl, hb, hcur, _⟩
  · exact ⟨none, 0, by rw [h0], fun hp => by omega⟩
  · refine ⟨_, cap, rfl, fun _ => ⟨gb, 0, rfl, (h.own.lt gb rfl).2, fun r hr => ?_⟩⟩
    have hfl : ∀ q, q < 2 → (flatR G C g)[r * 2 + q]? = ([.int .i64 (Gr.rul g r).left, .slice (some ⟨G r, 0, none⟩) (Gr.rul g r).right.length (C r)] : List Value)[q]? := fun q hq => flatR_get G C g r q hr hq
    have c0 := h.own.cells rfl (r * 2) _ (hfl 0 (by omega))
    have c1 := h.own.cells rfl (r * 2 + 1) _ (hfl 1 (by omega))
    rw [Addr.add_lit] at c0 c1
    refine ⟨by simpa using c0, some ⟨G r, 0, none⟩, C r, by simpa [Nat.add_assoc] using c1, hlen r hr, fun hp => ⟨G r, 0, rfl, ((h.its r hr).lt (G r) rfl).2, fun k hk => ?_⟩⟩
    obtain ⟨e0, e1⟩ := flatI_get _ k hk
    have d0 := (h.its r hr).cells rfl (k * 2) _ e0
    have d1 := (h.its r hr).cells rfl (k * 2 + 1) _ e1
    rw [Addr.add_lit] at d0 d1
    exact ⟨by simpa using d0, by simpa [Nat.add_assoc] using d1⟩
end Go.Proofs.Ytkclifdbdnigaaa
end
section
/- A grammar of the call's own, turned symbol by symbol. -/
namespace Gr
def mapI (fs : Item → Int) (x : Item) : Item := ⟨x.cls, fs x⟩
def mapR (fl : Int → Int) (fs : Item → Int) (r : Rule) : Rule := ⟨fl r.left, r.right.map (mapI fs)⟩
/-- The rules ahead of k are turned, and of rule k the symbol (if b) and the first q items. -/
def stR (fl : Int → Int) (fs : Item → Int) (g : List Rule) (k q : Nat) (b : Bool) : List Rule :=
  (List.range g.length).map fun r => if r < k then mapR fl fs (rul g r) else if r = k then ⟨if b then fl (rul g r).left else (rul g r).left, ((rul g r).right.take q).map (mapI fs) ++ (rul g r).right.drop q⟩ else rul g r
variable {fl : Int → Int} {fs : Item → Int} {g : List Rule}
theorem stR_len (k q : Nat) (b : Bool) : (stR fl fs g k q b).length = g.length := by simp [stR]
theorem rul_map (f : Nat → Rule) (n r : Nat) (h : r < n) : rul ((List.range n).map f) r = f r := by
  unfold rul
  simp [List.getElem?_range h]
theorem stR_rul (k q : Nat) (b : Bool) (r : Nat) (h : r < g.length) : rul (stR fl fs g k q b) r = if r < k then mapR fl fs (rul g r) else if r = k then ⟨if b then fl (rul g r).left else (rul g r).left, ((rul g r).right.take q).map (mapI fs) ++ (rul g r).right.drop q⟩ else rul g r := rul_map _ _ _ h
theorem ext_rul {g h : List Rule} (hl : g.length = h.length) (hr : ∀ r, r < g.length → rul g r = rul h r) : g = h := by
  refine List.ext_getElem hl fun r h1 h2 => ?_
  have := hr r h1
  unfold rul at this
  rw [List.getD_eq_getElem?_getD, List.getD_eq_getElem?_getD, List.getElem?_eq_getElem h1, List.getElem?_eq_getElem h2] at this
  exact this
theorem stR_zero : stR fl fs g 0 0 false = g := ext_rul (stR_len _ _ _) fun r hr => by
  rw [stR_len] at hr
  rw [stR_rul _ _ _ _ hr, if_neg (by omega)]
  split
  · simp
  · rfl
theorem stR_next (k : Nat) : stR fl fs g k (rul g k).right.length true = stR fl fs g (k + 1) 0 false := ext_rul (by rw [stR_len, stR_len]) fun r hr => by
  rw [stR_len] at hr
  rw [stR_rul _ _ _ _ hr, stR_rul _ _ _ _ hr]
  by_cases h1 : r < k
  · rw [if_pos h1, if_pos (by omega)]
  · by_cases h2 : r = k
    · subst h2
      rw [if_neg h1, if_pos rfl, if_pos (show r < r + 1 by omega)]
      unfold mapR
      simp
    · rw [if_neg h1, if_neg h2, if_neg (by omega)]
      split <;> simp
theorem stR_all : stR fl fs g g.length 0 false = g.map (mapR fl fs) := ext_rul (by rw [stR_len, List.length_map]) fun r hr => by
  rw [stR_len] at hr
  rw [stR_rul _ _ _ _ hr, if_pos hr]
  unfold rul
  simp [hr]
theorem itm_set (l : List Item) (q : Nat) (hq : q < l.length) : (l.take (q + 1)).map (mapI fs) ++ l.drop (q + 1) = ((l.take q).map (mapI fs) ++ l.drop q).set q ⟨(itm l q).cls, fs (itm l q)⟩ := by
  have e1 : itm l q = l[q] := by unfold itm; rw [List.getD_eq_getElem?_getD, List.getElem?_eq_getElem hq]; rfl
  rw [List.set_append_right _ _ (by simp [List.length_take]; omega), List.length_map, List.length_take, Nat.min_eq_left (by omega), Nat.sub_self, List.drop_eq_getElem_cons hq, List.set_cons_zero, List.take_add_one, List.getElem?_eq_getElem hq, e1]
  simp only [Option.toList_some, List.map_append, List.map_cons, List.map_nil, List.append_assoc, List.singleton_append]
  rfl
theorem stI_get (l : List Item) (q : Nat) (hq : q < l.length) : itm ((l.take q).map (mapI fs) ++ l.drop q) q = itm l q := by
  unfold itm
  simp only [List.getD_eq_getElem?_getD]
  rw [List.getElem?_append_right (by simp [List.length_take]; omega)]
  simp [List.length_take, Nat.min_eq_left (Nat.le_of_lt hq)]
theorem stI_len (l : List Item) (q : Nat) : ((l.take q).map (mapI fs) ++ l.drop q).length = l.length := by
  simp [List.length_take, List.length_drop]
  omega
end Gr
namespace Go.Proofs.Ytkclifdbdnigaaa
open Go Go.RowKit
theorem ownsRow_set {w : World} {base e sz gb n cap : Nat} {xs : List Value} (h : w.ownsRow base e sz (.slice (some ⟨gb, 0, none⟩) n cap) n xs) (j : Nat) (_ : j < xs.length) (u : Value) :
    (w.setCell ⟨gb, j, none⟩ u).ownsRow base e sz (.slice (some ⟨gb, 0, none⟩) n cap) n (xs.set j u) := by
  obtain ⟨hl, h2⟩ := h
  refine ⟨by rw [List.length_set]; exact hl, ?_⟩
  rcases h2 with ⟨h3, _⟩ | ⟨g', cap', cur, e1, hb, hcur, hle, hmx, hsz, htk⟩
  · cases h3
  · injection e1 with e1 e2 e3
    injection e1 with e1
    injection e1 with e1
    subst e1 e3
    have hblk : Kt.Blk w gb e cur := hcur
    refine .inr ⟨gb, cap, _, rfl, hb, hblk.set_ j u, hle, hmx, by simp [hsz], ?_⟩
    rw [Array.toList_setIfInBounds, List.take_set, htk]
theorem flatR_len (G C : Nat → Nat) (g : List Gr.Rule) : (flatR G C g).length = g.length * 2 := by
  unfold flatR
  rw [List.length_flatMap]
  simp [List.map_const', List.sum_replicate_nat]
theorem OG.setLeft {w : World} {base : Nat} {v : Value} {g g' : List Gr.Rule} {G C : Nat → Nat} {gb cap r : Nat} {x : Int} (h : OG w base v g G C) (hv : v = .slice (some ⟨gb, 0, none⟩) g.length cap) (hr : r < g.length) (hl : g'.length = g.length)
    (hne : ∀ k, k < g.length → k ≠ r → Gr.rul g' k = Gr.rul g k) (hx : (Gr.rul g' r).left = x) (hR : (Gr.rul g' r).right = (Gr.rul g r).right) : OG (w.setCell ⟨gb, r * 2, none⟩ (.int .i64 x)) base v g' G C := by
  subst hv
  have hob : (Value.slice (some ⟨gb, 0, none⟩) g.length cap).ownBlock = some gb := rfl
  have hown := ownsRow_set h.own (r * 2) (by rw [flatR_len]; omega) (.int .i64 x)
  have hfr : flatR G C g' = (flatR G C g).set (r * 2) (.int .i64 x) := by
    refine List.ext_getElem? fun i => ?_
    by_cases hi : i < g.length * 2
    · have hi2 : i = i / 2 * 2 + i % 2 := by omega
      have e1 := flatR_get G C g' (i / 2) (i % 2) (by omega) (by omega)
      have e2 := flatR_get G C g (i / 2) (i % 2) (by omega) (by omega)
      rw [← hi2] at e1 e2
      rw [e1]
      by_cases hk : i / 2 = r
      · rw [hk] at e1 e2 ⊢
        rcases Nat.mod_two_eq_zero_or_one i with e | e
        · have : i = r * 2 := by omega
          rw [e, this, List.getElem?_set_self (by rw [flatR_len]; omega), hx]
          rfl
        · rw [List.getElem?_set_ne (by omega), e2, hR, e]
          rfl
      · rw [List.getElem?_set_ne (by omega), e2, hne _ (by omega) hk]
    · rw [List.getElem?_eq_none (by rw [flatR_len, hl]; omega), List.getElem?_eq_none (by rw [List.length_set, flatR_len]; omega)]
  have hri : ∀ k, k < g.length → (Gr.rul g' k).right = (Gr.rul g k).right := fun k hk => by
    by_cases e : k = r
    · subst e; exact hR
    · rw [hne k hk e]
  refine ⟨by rw [hl, hfr]; exact hown, fun k hk => ?_, fun k hk => h.ne k (by rw [← hl]; exact hk), fun k hk k' hk' => h.inj k (by rw [← hl]; exact hk) k' (by rw [← hl]; exact hk')⟩
  rw [hl] at hk
  rw [hri k hk]
  refine Kt.ownsRow_keep (h.its k hk) fun q hq => Below.heap_setCell _ _ _ _ ?_
  have e2 : G k = q := by simpa [Value.ownBlock] using hq
  subst e2
  intro e
  exact h.ne k hk (by rw [hob]; exact congrArg some e.symm)
theorem OG.setSym {w : World} {base : Nat} {v : Value} {g g' : List Gr.Rule} {G C : Nat → Nat} {r q : Nat} {y : Int} (h : OG w base v g G C) (hr : r < g.length) (hq : q < (Gr.rul g r).right.length) (hl : g'.length = g.length)
    (hne : ∀ k, k < g.length → k ≠ r → Gr.rul g' k = Gr.rul g k) (hx : (Gr.rul g' r).left = (Gr.rul g r).left) (hR : (Gr.rul g' r).right = (Gr.rul g r).right.set q ⟨(Gr.itm (Gr.rul g r).right q).cls, y⟩) : OG (w.setCell ⟨G r, q * 2 + 1, none⟩ (.int .i64 y)) base v g' G C := by
  have hri : ∀ k, k < g.length → (Gr.rul g' k).right.length = (Gr.rul g k).right.length := fun k hk => by
    by_cases e : k = r
    · subst e; rw [hR, List.length_set]
    · rw [hne k hk e]
  have hfr : flatR G C g' = flatR G C g := by
    unfold flatR
    rw [hl]
    refine Gr.flatMap_same _ fun k hk => ?_
    rw [List.mem_range] at hk
    rw [hri k hk]
    by_cases e : k = r
    · subst e; rw [hx]
    · rw [hne k hk e]
  have hfi : flatI (Gr.rul g' r).right = (flatI (Gr.rul g r).right).set (q * 2 + 1) (.int .i64 y) := by
    rw [hR]
    refine List.ext_getElem? fun i => ?_
    by_cases hi : i < (Gr.rul g r).right.length * 2
    · have hi2 : i = i / 2 * 2 + i % 2 := by omega
      have e1 := flatI_get ((Gr.rul g r).right.set q ⟨(Gr.itm (Gr.rul g r).right q).cls, y⟩) (i / 2) (by rw [List.length_set]; omega)
      have e2 := flatI_get (Gr.rul g r).right (i / 2) (by omega)
      have e3 : Gr.itm ((Gr.rul g r).right.set q ⟨(Gr.itm (Gr.rul g r).right q).cls, y⟩) (i / 2) = if i / 2 = q then ⟨(Gr.itm (Gr.rul g r).right q).cls, y⟩ else Gr.itm (Gr.rul g r).right (i / 2) := by
        unfold Gr.itm
        simp only [List.getD_eq_getElem?_getD]
        by_cases e : i / 2 = q
        · rw [if_pos e, e, List.getElem?_set_self hq]; rfl
        · rw [if_neg e, List.getElem?_set_ne (fun h => e h.symm)]
      rw [e3] at e1
      rcases Nat.mod_two_eq_zero_or_one i with e | e
      · rw [show i / 2 * 2 = i from by omega] at e1 e2
        rw [e1.1, List.getElem?_set_ne (by omega), e2.1]
        by_cases e4 : i / 2 = q
        · rw [if_pos e4, e4]
        · rw [if_neg e4]
      · rw [show i / 2 * 2 + 1 = i from by omega] at e1 e2
        rw [e1.2]
        by_cases e4 : i / 2 = q
        · rw [if_pos e4, show i = q * 2 + 1 from by omega, List.getElem?_set_self (by rw [flatI_len]; omega)]
        · rw [if_neg e4, List.getElem?_set_ne (by omega), e2.2]
    · rw [List.getElem?_eq_none (by rw [flatI_len, List.length_set]; omega), List.getElem?_eq_none (by rw [List.length_set, flatI_len]; omega)]
  refine ⟨?_, fun k hk => ?_, fun k hk => h.ne k (by rw [← hl]; exact hk), fun k hk k' hk' => h.inj k (by rw [← hl]; exact hk) k' (by rw [← hl]; exact hk')⟩
  · rw [hl, hfr]
    exact Kt.ownsRow_keep h.own fun b hb => Below.heap_setCell _ _ _ _ fun e => h.ne r hr (by rw [hb]; exact congrArg some e)
  · rw [hl] at hk
    by_cases e : k = r
    · subst e
      rw [hri k hk, hfi]
      exact ownsRow_set (h.its k hk) _ (by rw [flatI_len]; omega) _
    · rw [hne k hk e]
      refine Kt.ownsRow_keep (h.its k hk) fun b hb => Below.heap_setCell _ _ _ _ ?_
      have e2 : G k = b := by simpa [Value.ownBlock] using hb
      subst e2
      exact fun e3 => e (h.inj k hk r hr e3)
theorem OG.below {w w' : World} {base : Nat} {v : Value} {g : List Gr.Rule} {G C : Nat → Nat} (h : OG w base v g G C) (hb : Below w.heap.size w w') : OG w' base v g G C :=
  ⟨Kt.ownsRow_keep h.own fun b e => hb.block b (h.own.lt b e).2, fun r hr => Kt.ownsRow_keep (h.its r hr) fun b e => hb.block b ((h.its r hr).lt b e).2, h.ne, h.inj⟩
end Go.Proofs.Ytkclifdbdnigaaa
end
