/- Joined: GrL, GrP, GrF. -/
import Derived.Test.YtkclifdbdnigaaaMa11
import Derived.Deep.Upon
import Derived.ArgAppend
import Derived.Deep.AppendLies
import Derived.Laws.AppendOwnNone
section
/- A tree put ahead of others: an append that makes memory of its own. -/
namespace Go.Proofs.Ytkclifdbdnigaaa
open Go Go.RowKit
theorem Try.infoTree : (Try.prog.info? 46).map (fun i => (i.zero, i.size, i.bytes)) = some (some (.agg #[.int .i64 0, .int .i64 0, .int .i64 0, .slice none 0 0]), 4, 48) := by kernel_rfl
theorem lv_one {w : World} {M : Nat → Prop} {t : Gr.Tr} {x0 x1 x2 x3 : Value} {gb : Nat} (hb : Kt.Blk w gb 46 #[x0, x1, x2, x3]) (hgb : ¬ M gb) (ht : Kt.TV w M t (.agg #[x0, x1, x2, x3])) : Kt.LV w M [t] (.slice (some ⟨gb, 0, none⟩) 1 1) := by
  refine ⟨_, 1, gb, 0, fun _ => .agg #[x0, x1, x2, x3], rfl, fun _ => ⟨rfl, hgb, hb.lt⟩, Nat.le_refl _, by simp, fun k hk q hq => ?_, fun k hk => ?_⟩
  · have hk0 : k = 0 := by simpa using hk
    subst hk0
    rw [show 0 + 0 * 4 + q = q from by omega]
    exact hb.cell q
  · have hk0 : k = 0 := by simpa using hk
    subst hk0
    exact ht
/-- The cells of a slice of trees, as a list. -/
theorem lv_cells {w : World} {b off n : Nat} {vs : Nat → Value} (hc : ∀ k, k < n → ∀ q, q < 4 → w.cell? ⟨b, off + k * 4 + q, none⟩ = (vs k).cells[q]?) (h4 : ∀ k, k < n → ∃ x0 x1 x2 x3, vs k = .agg #[x0, x1, x2, x3]) :
    ∃ news : List Value, news.length = n * 4 ∧ (∀ j u, news[j]? = some u → w.cell? ((⟨b, off, none⟩ : Addr).add j) = some u) ∧ (∀ k, k < n → ∀ q, q < 4 → news[k * 4 + q]? = (vs k).cells[q]?) ∧ ∀ u ∈ news, ∃ k q, k < n ∧ q < 4 ∧ (vs k).cells[q]? = some u := by
  have key : ∀ k, k < n → ∀ q, q < 4 → ∃ u, (vs k).cells[q]? = some u ∧ w.cell? ⟨b, off + (k * 4 + q), none⟩ = some u := fun k hk q hq => by
    obtain ⟨x0, x1, x2, x3, e⟩ := h4 k hk
    have h1 := hc k hk q hq
    rw [show off + (k * 4 + q) = off + k * 4 + q from by omega, h1, e]
    match q, hq with
    | 0, _ => exact ⟨x0, rfl, rfl⟩
    | 1, _ => exact ⟨x1, rfl, rfl⟩
    | 2, _ => exact ⟨x2, rfl, rfl⟩
    | 3, _ => exact ⟨x3, rfl, rfl⟩
  have hget : ∀ k, k < n → ∀ q, q < 4 → ((List.range (n * 4)).map fun j => (w.cell? ⟨b, off + j, none⟩).getD undef)[k * 4 + q]? = (vs k).cells[q]? := fun k hk q hq => by
    obtain ⟨u, h1, h2⟩ := key k hk q hq
    rw [List.getElem?_map, List.getElem?_range (by omega), h1]
    simp [h2]
  refine ⟨(List.range (n * 4)).map fun j => (w.cell? ⟨b, off + j, none⟩).getD undef, by simp, fun j u hj => ?_, hget, fun u hu => ?_⟩
  · have hlt : j < n * 4 := by
      have := (List.getElem?_eq_some_iff.1 hj).1
      simpa using this
    have h1 := hget (j / 4) (by omega) (j % 4) (by omega)
    rw [show j / 4 * 4 + j % 4 = j from by omega, hj] at h1
    obtain ⟨u', h2, h3⟩ := key (j / 4) (by omega) (j % 4) (by omega)
    rw [show off + (j / 4 * 4 + j % 4) = off + j from by omega] at h3
    rw [h2] at h1
    injection h1 with h1
    subst h1
    simpa [Addr.add_lit] using h3
  · obtain ⟨j, hj⟩ := List.mem_iff_getElem?.1 hu
    have hlt : j < n * 4 := by
      have := (List.getElem?_eq_some_iff.1 hj).1
      simpa using this
    have h1 := hget (j / 4) (by omega) (j % 4) (by omega)
    rw [show j / 4 * 4 + j % 4 = j from by omega, hj] at h1
    exact ⟨j / 4, j % 4, by omega, by omega, h1.symm⟩
theorem below_none2 {w w' : World} (h : w.grownBy w' none) : Below w.heap.size w w' := ⟨h.os, h.tape, h.output, h.size, fun i hi => h.block i hi (by simp)⟩
theorem append_tree {w : World} {M : Nat → Prop} {t : Gr.Tr} {y : List Gr.Tr} {vb x0 x1 x2 x3 : Value} {gb : Nat} (ty : TypeId) (hb : Kt.Blk w gb 46 #[x0, x1, x2, x3]) (hgb : ¬ M gb) (ht : Kt.TV w M t (.agg #[x0, x1, x2, x3])) (hy : Kt.LV w M y vb) (hlen : y.length ≤ 100) (hM : ∀ k, M k → k < w.heap.size) :
    ∃ va w', (Builtin.append_ #[41, 41] ty #[.slice (some ⟨gb, 0, none⟩) 1 1, vb]).run Try.prog w = .ok va w' ∧ Kt.LV w' M (t :: y) va ∧ Below w.heap.size w w' := by
  obtain ⟨i0, hi0, hz0, hz1, hz2⟩ := info_parts Try.infoTree
  obtain ⟨A, c, b, off, vs, rfl, hA, hle, h63, hc, hts⟩ := hy
  by_cases hn : 0 < y.length
  · obtain ⟨rfl, hbM, hbl⟩ := hA hn
    obtain ⟨news, hl, hnews, hget, _⟩ := lv_cells hc (fun k hk => (hts k hk).cells4)
    obtain ⟨v', w', hrun, hown, hgrow⟩ := run_append_arg_grows (P := Try.prog) (w := w) 41 ty 46 i0 (.agg #[.int .i64 0, .int .i64 0, .int .i64 0, .slice none 0 0]) 4 48 Try.underlying41 hi0 hz0 hz1 hz2 rfl (by decide) ⟨gb, 0, none⟩ 1 1 [x0, x1, x2, x3] rfl
      (World.news_of_block hb) ⟨b, off, none⟩ y.length c news hl hnews (by omega) (by unfold maxLen; omega) (by omega)
    refine ⟨v', w', hrun, ?_, below_none2 hgrow⟩
    obtain ⟨g, cap, rfl, hg1, hg2⟩ := World.ownsRow.form hown (by omega)
    have hkeep : ∀ k, k < w.heap.size → ¬ M k → w'.heap[k]? = w.heap[k]? := fun k hk _ => hgrow.block k hk (by simp)
    obtain ⟨_, hsh⟩ := hown
    have hcap : 1 + y.length ≤ cap := by
      rcases hsh with ⟨h1, _⟩ | ⟨g', cap', cur, h1, _, _, h2, _⟩
      · cases h1
      · injection h1 with _ _ h1; omega
    refine ⟨some ⟨g, 0, none⟩, cap, g, 0, fun k => if k = 0 then .agg #[x0, x1, x2, x3] else vs (k - 1), by rw [List.length_cons, Nat.add_comm], fun _ => ⟨rfl, fun e => by have := hM g e; omega, hg2⟩, by rw [List.length_cons]; omega, by rw [List.length_cons]; omega, fun k hk q hq => ?_, fun k hk => ?_⟩
    · have hget2 : ([x0, x1, x2, x3] ++ news)[k * 4 + q]? = ((fun k => if k = 0 then Value.agg #[x0, x1, x2, x3] else vs (k - 1)) k).cells[q]? := by
        by_cases h0 : k = 0
        · subst h0
          rw [List.getElem?_append_left (by simp; omega)]
          match q, hq with
          | 0, _ => rfl
          | 1, _ => rfl
          | 2, _ => rfl
          | 3, _ => rfl
        · rw [List.length_cons] at hk
          rw [List.getElem?_append_right (by simp; omega)]
          have := hget (k - 1) (by omega) q hq
          simp only [h0, if_false]
          rw [← this, show k * 4 + q - [x0, x1, x2, x3].length = (k - 1) * 4 + q from by simp; omega]
      obtain ⟨u, hu⟩ : ∃ u, ([x0, x1, x2, x3] ++ news)[k * 4 + q]? = some u := by
        rw [List.length_cons] at hk
        exact ⟨_, List.getElem?_eq_getElem (by rw [List.length_append, hl]; simp; omega)⟩
      rw [← hget2, hu]
      have := World.ownsRow.cells (w := w') (v := .slice (some ⟨g, 0, none⟩) (1 + y.length) cap) ⟨by assumption, hsh⟩ (g := g) rfl (k * 4 + q) u hu
      simpa [Addr.add_lit, Nat.add_assoc] using this
    · by_cases h0 : k = 0
      · subst h0
        exact ht.keep hkeep
      · rw [List.length_cons] at hk
        obtain ⟨k', rfl⟩ : ∃ k', k = k' + 1 := ⟨k - 1, by omega⟩
        have := (hts k' (by omega)).keep hkeep
        simp only [h0, if_false, Nat.add_sub_cancel]
        exact this
  · obtain rfl : y = [] := List.eq_nil_of_length_eq_zero (by omega)
    refine ⟨_, w, run_append_nothing (P := Try.prog) w 41 41 ty 46 i0 Try.underlying41 hi0 _ 1 1 (Nat.le_refl _) _ ?_, lv_one hb hgb ht, Below.refl _ _⟩
    cases A with
    | none => exact Src.ofNil w Try.underlying41 c
    | some a => exact Src.ofSlice w Try.underlying41 a 0 c [] (by simp) (fun j u h => by simp at h) (fun u h => by cases h)
/-! ### The region that yields such a list -/
/-- The operations: 0 loads yield, 1 loads the tree, 2 lays it in a block, 3 takes the others, 4 appends, 5 yields, 6 turns the answer. -/
structure YR where
  a0 : Act
  W : World
  M : Nat → Prop
  t : Gr.Tr
  y : List Gr.Tr
  yv : Value
  tv : Value
  cs : Array Value
  vb : Value
  Post : Bool → World → Prop
def yrS : List Nat := [61, 62, 63, 64, 65, 66, 67]
structure YI (p : YR) (listed : Array Bool) (act : Act) (w : World) : Prop where
  size : listed.size = 7
  frame : Kt.Fr yrS p.a0 act
  p0 : listed.getD 0 false = true → Kt.val act 61 = p.yv
  p1 : listed.getD 1 false = true → Kt.val act 62 = p.tv
  p3 : listed.getD 3 false = true → Kt.val act 64 = p.vb
  w0 : listed.getD 2 false = false → w = p.W.drew
  w2 : listed.getD 2 false = true → listed.getD 4 false = false → w = p.W.drew.alloc (.cells p.cs 46) ∧ Kt.val act 63 = .slice (some ⟨p.W.heap.size, 0, none⟩) 1 1
  w4 : listed.getD 4 false = true → listed.getD 5 false = false → Below p.W.heap.size p.W w ∧ Kt.LV w p.M (p.t :: p.y) (Kt.val act 65)
  w5 : listed.getD 5 false = true → ∃ b, Kt.val act 66 = .bool b ∧ p.Post b w ∧ (listed.getD 6 false = true → Kt.val act 67 = .bool (!b))
  c2 : listed.getD 2 false = true → listed.getD 1 false = true
  c4 : listed.getD 4 false = true → listed.getD 2 false = true ∧ listed.getD 3 false = true
  c5 : listed.getD 5 false = true → listed.getD 4 false = true ∧ listed.getD 0 false = true
  c6 : listed.getD 6 false = true → listed.getD 5 false = true
variable {p : YR} {listed : Array Bool} {act : Act} {w w' : World}
theorem YI.start : YI p (Array.replicate 7 false) p.a0 p.W.drew := by
  refine ⟨by simp, Kt.Fr.refl _ _, ?_, ?_, ?_, fun _ => rfl, ?_, ?_, ?_, ?_, ?_, ?_, ?_⟩
  all_goals (intro h; simp at h)
theorem yset {l : Array Bool} {i j : Nat} {b : Bool} (h : (l.setIfInBounds i true).getD j false = b) (hne : i ≠ j) : l.getD j false = b := by rw [Kt.getD_setL hne] at h; exact h
theorem yset' {l : Array Bool} {i j : Nat} (h : l.getD j false = true) : (l.setIfInBounds i true).getD j false = true := by
  by_cases e : i = j
  · subst e
    by_cases hs : i < l.size
    · exact Kt.getD_same hs
    · exact absurd h (by simp [hs])
  · rw [Kt.getD_setL e]; exact h
theorem yput {act : Act} {i s : Nat} {v u : Value} (h : Kt.val act s = u) (hne : i ≠ s) : Kt.val (act.put (some i) v) s = u := by rw [Kt.val_put_ne hne]; exact h
-- STEPS BEGIN
theorem YI.s0 (h : YI p listed act w) (hroom : 68 ≤ p.a0.tmps.size) (hn : listed.getD 0 true = false) : YI p (listed.setIfInBounds 0 true) (act.put (some 61) p.yv) w := by
  have hvp : ∀ v, Kt.val (act.put (some 61) v) 61 = v := fun v => Kt.val_put (by rw [h.frame.2.1]; omega) v
  have hno : listed.getD 0 false = false := Kt.getD_no hn
  have hself : (listed.setIfInBounds 0 true).getD 0 false = true := Kt.getD_same (by rw [h.size]; decide)
  refine ⟨?_, ?_, ?_, ?_, ?_, ?_, ?_, ?_, ?_, ?_, ?_, ?_, ?_⟩
  · exact by simp [h.size]
  · exact h.frame.put (by decide) _
  · exact fun _ => hvp _
  · exact fun q => yput (h.p1 (yset q (by decide))) (by decide)
  · exact fun q => yput (h.p3 (yset q (by decide))) (by decide)
  · exact fun q => h.w0 (yset q (by decide))
  · exact fun q r => ⟨(h.w2 (yset q (by decide)) (yset r (by decide))).1, yput (h.w2 (yset q (by decide)) (yset r (by decide))).2 (by decide)⟩
  · exact fun q r => ⟨(h.w4 (yset q (by decide)) (yset r (by decide))).1, by rw [Kt.val_put_ne (by decide)]; exact (h.w4 (yset q (by decide)) (yset r (by decide))).2⟩
  · exact fun q => by
      obtain ⟨b1, g1, g2, g3⟩ := h.w5 (yset q (by decide))
      exact ⟨b1, yput g1 (by decide), g2, fun r => yput (g3 (yset r (by decide))) (by decide)⟩
  · exact fun q => yset' (h.c2 (yset q (by decide)))
  · exact fun q => ⟨yset' (h.c4 (yset q (by decide))).1, yset' (h.c4 (yset q (by decide))).2⟩
  · exact fun q => ⟨yset' (h.c5 (yset q (by decide))).1, yset' (h.c5 (yset q (by decide))).2⟩
  · exact fun q => yset' (h.c6 (yset q (by decide)))
theorem YI.s1 (h : YI p listed act w) (hroom : 68 ≤ p.a0.tmps.size) (hn : listed.getD 1 true = false) : YI p (listed.setIfInBounds 1 true) (act.put (some 62) p.tv) w := by
  have hvp : ∀ v, Kt.val (act.put (some 62) v) 62 = v := fun v => Kt.val_put (by rw [h.frame.2.1]; omega) v
  have hno : listed.getD 1 false = false := Kt.getD_no hn
  have hself : (listed.setIfInBounds 1 true).getD 1 false = true := Kt.getD_same (by rw [h.size]; decide)
  refine ⟨?_, ?_, ?_, ?_, ?_, ?_, ?_, ?_, ?_, ?_, ?_, ?_, ?_⟩
  · exact by simp [h.size]
  · exact h.frame.put (by decide) _
  · exact fun q => yput (h.p0 (yset q (by decide))) (by decide)
  · exact fun _ => hvp _
  · exact fun q => yput (h.p3 (yset q (by decide))) (by decide)
  · exact fun q => h.w0 (yset q (by decide))
  · exact fun q r => ⟨(h.w2 (yset q (by decide)) (yset r (by decide))).1, yput (h.w2 (yset q (by decide)) (yset r (by decide))).2 (by decide)⟩
  · exact fun q r => ⟨(h.w4 (yset q (by decide)) (yset r (by decide))).1, by rw [Kt.val_put_ne (by decide)]; exact (h.w4 (yset q (by decide)) (yset r (by decide))).2⟩
  · exact fun q => by
      obtain ⟨b1, g1, g2, g3⟩ := h.w5 (yset q (by decide))
      exact ⟨b1, yput g1 (by decide), g2, fun r => yput (g3 (yset r (by decide))) (by decide)⟩
  · exact fun q => yset' (h.c2 (yset q (by decide)))
  · exact fun q => ⟨yset' (h.c4 (yset q (by decide))).1, yset' (h.c4 (yset q (by decide))).2⟩
  · exact fun q => ⟨yset' (h.c5 (yset q (by decide))).1, yset' (h.c5 (yset q (by decide))).2⟩
  · exact fun q => yset' (h.c6 (yset q (by decide)))
theorem YI.s2 (h : YI p listed act w) (hroom : 68 ≤ p.a0.tmps.size) (hn : listed.getD 2 true = false) (h1 : listed.getD 1 false = true) : YI p (listed.setIfInBounds 2 true) (act.put (some 63) (.slice (some ⟨p.W.heap.size, 0, none⟩) 1 1)) (p.W.drew.alloc (.cells p.cs 46)) := by
  have hvp : ∀ v, Kt.val (act.put (some 63) v) 63 = v := fun v => Kt.val_put (by rw [h.frame.2.1]; omega) v
  have hno : listed.getD 2 false = false := Kt.getD_no hn
  have hself : (listed.setIfInBounds 2 true).getD 2 false = true := Kt.getD_same (by rw [h.size]; decide)
  refine ⟨?_, ?_, ?_, ?_, ?_, ?_, ?_, ?_, ?_, ?_, ?_, ?_, ?_⟩
  · exact by simp [h.size]
  · exact h.frame.put (by decide) _
  · exact fun q => yput (h.p0 (yset q (by decide))) (by decide)
  · exact fun q => yput (h.p1 (yset q (by decide))) (by decide)
  · exact fun q => yput (h.p3 (yset q (by decide))) (by decide)
  · exact fun q => by rw [hself] at q; cases q
  · exact fun _ _ => ⟨rfl, hvp _⟩
  · exact fun q _ => by have := (h.c4 (yset q (by decide))).1; rw [hno] at this; cases this
  · exact fun q => by have := (h.c4 (h.c5 (yset q (by decide))).1).1; rw [hno] at this; cases this
  · exact fun _ => yset' h1
  · exact fun q => ⟨yset' (h.c4 (yset q (by decide))).1, yset' (h.c4 (yset q (by decide))).2⟩
  · exact fun q => ⟨yset' (h.c5 (yset q (by decide))).1, yset' (h.c5 (yset q (by decide))).2⟩
  · exact fun q => yset' (h.c6 (yset q (by decide)))
theorem YI.s3 (h : YI p listed act w) (hroom : 68 ≤ p.a0.tmps.size) (hn : listed.getD 3 true = false) : YI p (listed.setIfInBounds 3 true) (act.put (some 64) p.vb) w := by
  have hvp : ∀ v, Kt.val (act.put (some 64) v) 64 = v := fun v => Kt.val_put (by rw [h.frame.2.1]; omega) v
  have hno : listed.getD 3 false = false := Kt.getD_no hn
  have hself : (listed.setIfInBounds 3 true).getD 3 false = true := Kt.getD_same (by rw [h.size]; decide)
  refine ⟨?_, ?_, ?_, ?_, ?_, ?_, ?_, ?_, ?_, ?_, ?_, ?_, ?_⟩
  · exact by simp [h.size]
  · exact h.frame.put (by decide) _
  · exact fun q => yput (h.p0 (yset q (by decide))) (by decide)
  · exact fun q => yput (h.p1 (yset q (by decide))) (by decide)
  · exact fun _ => hvp _
  · exact fun q => h.w0 (yset q (by decide))
  · exact fun q r => ⟨(h.w2 (yset q (by decide)) (yset r (by decide))).1, yput (h.w2 (yset q (by decide)) (yset r (by decide))).2 (by decide)⟩
  · exact fun q r => ⟨(h.w4 (yset q (by decide)) (yset r (by decide))).1, by rw [Kt.val_put_ne (by decide)]; exact (h.w4 (yset q (by decide)) (yset r (by decide))).2⟩
  · exact fun q => by
      obtain ⟨b1, g1, g2, g3⟩ := h.w5 (yset q (by decide))
      exact ⟨b1, yput g1 (by decide), g2, fun r => yput (g3 (yset r (by decide))) (by decide)⟩
  · exact fun q => yset' (h.c2 (yset q (by decide)))
  · exact fun q => ⟨yset' (h.c4 (yset q (by decide))).1, yset' (h.c4 (yset q (by decide))).2⟩
  · exact fun q => ⟨yset' (h.c5 (yset q (by decide))).1, yset' (h.c5 (yset q (by decide))).2⟩
  · exact fun q => yset' (h.c6 (yset q (by decide)))
theorem YI.s4 (h : YI p listed act w) (hroom : 68 ≤ p.a0.tmps.size) (hn : listed.getD 4 true = false) (h2 : listed.getD 2 false = true) (h3 : listed.getD 3 false = true) {va : Value} (hb : Below p.W.heap.size p.W w') (hv : Kt.LV w' p.M (p.t :: p.y) va) : YI p (listed.setIfInBounds 4 true) (act.put (some 65) va) w' := by
  have hvp : ∀ v, Kt.val (act.put (some 65) v) 65 = v := fun v => Kt.val_put (by rw [h.frame.2.1]; omega) v
  have hno : listed.getD 4 false = false := Kt.getD_no hn
  have hself : (listed.setIfInBounds 4 true).getD 4 false = true := Kt.getD_same (by rw [h.size]; decide)
  refine ⟨?_, ?_, ?_, ?_, ?_, ?_, ?_, ?_, ?_, ?_, ?_, ?_, ?_⟩
  · exact by simp [h.size]
  · exact h.frame.put (by decide) _
  · exact fun q => yput (h.p0 (yset q (by decide))) (by decide)
  · exact fun q => yput (h.p1 (yset q (by decide))) (by decide)
  · exact fun q => yput (h.p3 (yset q (by decide))) (by decide)
  · exact fun q => by rw [yset q (by decide)] at h2; cases h2
  · exact fun _ q => by rw [hself] at q; cases q
  · exact fun _ _ => ⟨hb, by rw [hvp]; exact hv⟩
  · exact fun q => by have := (h.c5 (yset q (by decide))).1; rw [hno] at this; cases this
  · exact fun q => yset' (h.c2 (yset q (by decide)))
  · exact fun _ => ⟨yset' h2, yset' h3⟩
  · exact fun q => ⟨yset' (h.c5 (yset q (by decide))).1, yset' (h.c5 (yset q (by decide))).2⟩
  · exact fun q => yset' (h.c6 (yset q (by decide)))
theorem YI.s5 (h : YI p listed act w) (hroom : 68 ≤ p.a0.tmps.size) (hn : listed.getD 5 true = false) (h4 : listed.getD 4 false = true) (h0 : listed.getD 0 false = true) {b : Bool} (hp : p.Post b w') : YI p (listed.setIfInBounds 5 true) (act.put (some 66) (.bool b)) w' := by
  have hvp : ∀ v, Kt.val (act.put (some 66) v) 66 = v := fun v => Kt.val_put (by rw [h.frame.2.1]; omega) v
  have hno : listed.getD 5 false = false := Kt.getD_no hn
  have hself : (listed.setIfInBounds 5 true).getD 5 false = true := Kt.getD_same (by rw [h.size]; decide)
  refine ⟨?_, ?_, ?_, ?_, ?_, ?_, ?_, ?_, ?_, ?_, ?_, ?_, ?_⟩
  · exact by simp [h.size]
  · exact h.frame.put (by decide) _
  · exact fun q => yput (h.p0 (yset q (by decide))) (by decide)
  · exact fun q => yput (h.p1 (yset q (by decide))) (by decide)
  · exact fun q => yput (h.p3 (yset q (by decide))) (by decide)
  · exact fun q => by have h9 := (h.c4 h4).1; rw [yset q (by decide)] at h9; cases h9
  · exact fun _ q => by rw [yset q (by decide)] at h4; cases h4
  · exact fun _ q => by rw [hself] at q; cases q
  · exact fun _ => ⟨b, hvp _, hp, fun q => by have := h.c6 (yset q (by decide)); rw [hno] at this; cases this⟩
  · exact fun q => yset' (h.c2 (yset q (by decide)))
  · exact fun q => ⟨yset' (h.c4 (yset q (by decide))).1, yset' (h.c4 (yset q (by decide))).2⟩
  · exact fun _ => ⟨yset' h4, yset' h0⟩
  · exact fun q => yset' (h.c6 (yset q (by decide)))
theorem YI.s6 (h : YI p listed act w) (hroom : 68 ≤ p.a0.tmps.size) (hn : listed.getD 6 true = false) (h5 : listed.getD 5 false = true) {b : Bool} (hv : Kt.val act 66 = .bool b) : YI p (listed.setIfInBounds 6 true) (act.put (some 67) (.bool (!b))) w := by
  have hvp : ∀ v, Kt.val (act.put (some 67) v) 67 = v := fun v => Kt.val_put (by rw [h.frame.2.1]; omega) v
  have hno : listed.getD 6 false = false := Kt.getD_no hn
  have hself : (listed.setIfInBounds 6 true).getD 6 false = true := Kt.getD_same (by rw [h.size]; decide)
  refine ⟨?_, ?_, ?_, ?_, ?_, ?_, ?_, ?_, ?_, ?_, ?_, ?_, ?_⟩
  · exact by simp [h.size]
  · exact h.frame.put (by decide) _
  · exact fun q => yput (h.p0 (yset q (by decide))) (by decide)
  · exact fun q => yput (h.p1 (yset q (by decide))) (by decide)
  · exact fun q => yput (h.p3 (yset q (by decide))) (by decide)
  · exact fun q => h.w0 (yset q (by decide))
  · exact fun q r => ⟨(h.w2 (yset q (by decide)) (yset r (by decide))).1, yput (h.w2 (yset q (by decide)) (yset r (by decide))).2 (by decide)⟩
  · exact fun q r => ⟨(h.w4 (yset q (by decide)) (yset r (by decide))).1, by rw [Kt.val_put_ne (by decide)]; exact (h.w4 (yset q (by decide)) (yset r (by decide))).2⟩
  · exact fun q => by
      obtain ⟨b1, g1, g2, _⟩ := h.w5 (yset q (by decide))
      rw [hv] at g1
      injection g1 with g1
      subst g1
      exact ⟨b, yput hv (by decide), g2, fun _ => hvp _⟩
  · exact fun q => yset' (h.c2 (yset q (by decide)))
  · exact fun q => ⟨yset' (h.c4 (yset q (by decide))).1, yset' (h.c4 (yset q (by decide))).2⟩
  · exact fun q => ⟨yset' (h.c5 (yset q (by decide))).1, yset' (h.c5 (yset q (by decide))).2⟩
  · exact fun _ => yset' h5
end Go.Proofs.Ytkclifdbdnigaaa
end
section
/- Rounds in rounds: trees behind them; the region that yields; the length of lists of parts. -/
namespace Go.Proofs.Ytkclifdbdnigaaa
open Go Go.RowKit
variable {X : ChX}
theorem tv_more {W : World} {S : Nat → Prop} {t : Gr.Tr} {v : Value} (h : Kt.TV W S t v) : Kt.TV W (fun k => S k ∨ W.heap.size ≤ k) t v := by
  induction h with
  | node r i j l A c b off vs hA hle h63 hc ht ih =>
    refine .node r i j l A c b off vs (fun hp => ?_) hle h63 hc ih
    obtain ⟨h1, h2, h3⟩ := hA hp
    exact ⟨h1, fun e => by rcases e with e | e; exact h2 e; omega, h3⟩
theorem lv_more {W : World} {S : Nat → Prop} {l : List Gr.Tr} {v : Value} (h : Kt.LV W S l v) : Kt.LV W (fun k => S k ∨ W.heap.size ≤ k) l v := by
  obtain ⟨A, c, b, off, vs, e, hA, hle, h63, hc, ht⟩ := h
  refine ⟨A, c, b, off, vs, e, fun hp => ?_, hle, h63, hc, fun k hk => tv_more (ht k hk)⟩
  obtain ⟨h1, h2, h3⟩ := hA hp
  exact ⟨h1, fun e => by rcases e with e | e; exact h2 e; omega, h3⟩
theorem up_later {W W' : World} {M M' : Nat → Prop} (hs : Kt.Sub M W M' W') : ∀ k, up X M' k → up X M k ∨ W.heap.size ≤ k := fun k hk => by
  rcases hk with e | e
  · rcases hs.old k e with e | e
    · exact .inl (.inl e)
    · exact .inr e
  · exact .inl (.inr e)
/-- A tree behind a range's rounds. -/
theorem tv_later {W W' : World} {M M' : Nat → Prop} {t : Gr.Tr} {v : Value} (h : Kt.TV W (up X M) t v) (hc : Kt.Ch X.b1 X.b2 M W W') (hs : Kt.Sub M W M' W') : Kt.TV W' (up X M') t v :=
  (Kt.TV.keep (tv_more h) fun k hk hn => hc.same k hk (fun e => hn (.inl (.inl e))) (fun e => hn (.inl (.inr (.inl e)))) (fun e => hn (.inl (.inr (.inr e))))).less (up_later hs)
/-- At a range's round: the record has turned. -/
theorem tv_round {W W' : World} {M : Nat → Prop} {l : Nat} {t : Gr.Tr} {v : Value} (h : Kt.TV W (up X fun k => M k ∨ k = l) t v) (hs : ∀ k, k < W.heap.size → k ≠ l → W'.heap[k]? = W.heap[k]?) : Kt.TV W' (up X M) t v :=
  (h.keep fun k hk hn => hs k hk (fun e => hn (.inl (.inr e)))).less fun _ hq => hq.imp .inl id
theorem lv_round {W W' : World} {M : Nat → Prop} {l : Nat} {t : List Gr.Tr} {v : Value} (h : Kt.LV W (up X fun k => M k ∨ k = l) t v) (hs : ∀ k, k < W.heap.size → k ≠ l → W'.heap[k]? = W.heap[k]?) : Kt.LV W' (up X M) t v :=
  (h.keep fun k hk hn => hs k hk (fun e => hn (.inl (.inr e)))).less fun _ hq => hq.imp .inl id
theorem YI.no5 {p : YR} {listed : Array Bool} {act : Act} {w : World} (h : YI p listed act w) {i : Nat} (hi : i < 6) (hn : listed.getD i true = false) : listed.getD 5 false = false := by
  cases h5 : listed.getD 5 false with
  | false => rfl
  | true =>
    have hno := Kt.getD_no hn
    have h4 := h.c5 h5
    have h23 := h.c4 h4.1
    have h1 := h.c2 h23.1
    rcases i with _ | _ | _ | _ | _ | _ | i
    · rw [h4.2] at hno; cases hno
    · rw [h1] at hno; cases hno
    · rw [h23.1] at hno; cases hno
    · rw [h23.2] at hno; cases hno
    · rw [h4.1] at hno; cases hno
    · rw [h5] at hno; cases hno
    · omega
theorem YI.below {p : YR} {listed : Array Bool} {act : Act} {w : World} (h : YI p listed act w) (h5 : listed.getD 5 false = false) : Below p.W.heap.size p.W w := by
  cases h2 : listed.getD 2 false with
  | false => rw [h.w0 h2]; exact ⟨rfl, rfl, rfl, Nat.le_refl _, fun _ _ => rfl⟩
  | true =>
    cases h4 : listed.getD 4 false with
    | true => exact (h.w4 h4 h5).1
    | false =>
      rw [(h.w2 h2 h4).1]
      have : Below p.W.heap.size p.W p.W.drew := ⟨rfl, rfl, rfl, Nat.le_refl _, fun _ _ => rfl⟩
      exact this.alloc (Nat.le_refl _) _
theorem op_append {P : Program} {o : Oper} {a : Act} {w w' : World} {K : Act → World → Prop} {Q : Exit → Act → World → Prop} {s x : Operand} {T : Array TypeId} {vs vx v : Value} (ho : o.op = .call { callee := .builtin .append, args := #[s, x], argTypes := T }) (hs : a.eval s = vs) (hx : a.eval x = vx)
    (hr : (Builtin.append_ T o.type #[vs, vx]).run P w = .ok v w') (h : K (a.put o.dst v) w') : Oper.wp P o a w K Q := by
  unfold Oper.wp execOp
  simp only [ho, resolve, invoke, builtin, Sem.run_bind, Sem.run_pure, Result.andThen_ok, List.map_toArray, List.map_cons, List.map_nil, hs, hx, hr]
  exact h
theorem parts_len (hit : Nat → Int → Bool) (D : Int → Nat → Nat → List Gr.Tr) : ∀ (l : List Gr.Item) (i j : Nat), ∀ y ∈ Gr.parts hit D l i j, y.length ≤ l.length
  | [], i, j, y, hy => by
    rw [Gr.parts] at hy
    split at hy
    · rw [List.mem_singleton] at hy; subst hy; simp
    · cases hy
  | x :: l, i, j, y, hy => by
    rw [Gr.parts] at hy
    split at hy
    · obtain ⟨m, _, hy⟩ := List.mem_flatMap.1 hy
      obtain ⟨a, _, hy⟩ := List.mem_flatMap.1 hy
      obtain ⟨z, hz, rfl⟩ := List.mem_map.1 hy
      have := parts_len hit D l m j z hz
      simp only [List.length_cons]
      omega
    · split at hy
      · have := parts_len hit D l (i + 1) j y hy
        simp only [List.length_cons]
        omega
      · cases hy
theorem tv_form {W : World} {M : Nat → Prop} {t : Gr.Tr} {v : Value} (h : Kt.TV W M t v) : ∃ (a0 a1 a2 : Int) (A4 : Option Addr) (n4 c4 : Nat), v = .agg #[.int .i64 a0, .int .i64 a1, .int .i64 a2, .slice A4 n4 c4] := by
  cases h with
  | node _ _ _ _ A c b off vs hA hle h63 hc ht => exact ⟨_, _, _, _, _, _, rfl⟩
theorem tv_on {W W' : World} {M M' : Nat → Prop} {t : Gr.Tr} {v : Value} (h : Kt.TV W (up X M) t v) (hk : ∀ k, k < W.heap.size → ¬ M k → k ≠ X.b1 → k ≠ X.b2 → W'.heap[k]? = W.heap[k]?) (hs : ∀ k, M' k → M k ∨ W.heap.size ≤ k) : Kt.TV W' (up X M') t v := by
  refine (Kt.TV.keep (tv_more h) fun k hlt hn => hk k hlt (fun e => hn (.inl (.inl e))) (fun e => hn (.inl (.inr (.inl e)))) (fun e => hn (.inl (.inr (.inr e))))).less fun k e => ?_
  rcases e with e | e
  · rcases hs k e with e | e
    · exact .inl (.inl e)
    · exact .inr e
  · exact .inl (.inr e)
end Go.Proofs.Ytkclifdbdnigaaa
end
section
/- A slice of trees in a row of the call's own; a tree's copy. -/
namespace Kt
open Go Go.RowKit
def flatV (vs : List Value) : List Value := vs.flatMap fun x => x.cells.toList
theorem flatV_snoc (vs : List Value) (x : Value) : flatV (vs ++ [x]) = flatV vs ++ x.cells.toList := by simp [flatV]
theorem flatV_len : ∀ (vs : List Value), (∀ k, k < vs.length → ∃ x0 x1 x2 x3, vs.getD k undef = .agg #[x0, x1, x2, x3]) → (flatV vs).length = vs.length * 4
  | [], _ => rfl
  | x :: vs, h => by
    obtain ⟨x0, x1, x2, x3, e⟩ := h 0 (by simp)
    have e2 : x = .agg #[x0, x1, x2, x3] := e
    have ih := flatV_len vs fun k hk => h (k + 1) (by simpa using hk)
    subst e2
    rw [show flatV (.agg #[x0, x1, x2, x3] :: vs) = [x0, x1, x2, x3] ++ flatV vs from rfl, List.length_append, ih]
    simp
    omega
theorem flatV_get : ∀ (vs : List Value), (∀ k, k < vs.length → ∃ x0 x1 x2 x3, vs.getD k undef = .agg #[x0, x1, x2, x3]) → ∀ k q, k < vs.length → q < 4 → (flatV vs)[k * 4 + q]? = (vs.getD k undef).cells[q]?
  | [], _, k, _, hk, _ => absurd hk (Nat.not_lt_zero k)
  | x :: vs, h, 0, q, _, hq => by
    obtain ⟨x0, x1, x2, x3, e⟩ := h 0 (by simp)
    have e2 : x = .agg #[x0, x1, x2, x3] := e
    subst e2
    rw [show flatV (.agg #[x0, x1, x2, x3] :: vs) = [x0, x1, x2, x3] ++ flatV vs from rfl, List.getElem?_append_left (by simp; omega)]
    match q, hq with
    | 0, _ => rfl
    | 1, _ => rfl
    | 2, _ => rfl
    | 3, _ => rfl
  | x :: vs, h, k + 1, q, hk, hq => by
    obtain ⟨x0, x1, x2, x3, e⟩ := h 0 (by simp)
    have e2 : x = .agg #[x0, x1, x2, x3] := e
    have ih := flatV_get vs (fun k hk => h (k + 1) (by simpa using hk)) k q (by simpa using hk) hq
    subst e2
    rw [show flatV (.agg #[x0, x1, x2, x3] :: vs) = [x0, x1, x2, x3] ++ flatV vs from rfl, List.getElem?_append_right (by simp; omega), show (k + 1) * 4 + q - [x0, x1, x2, x3].length = k * 4 + q from by simp; omega, ih]
    rfl
/-- The slice v is a row of the call's own, from base on, and is the trees l: their values are vs, in blocks that are neither of M nor the row's. -/
structure OTv (W : World) (base : Nat) (M : Nat → Prop) (l : List Gr.Tr) (v : Value) (vs : List Value) : Prop where
  len : vs.length = l.length
  own : W.ownsRow base 46 4 v l.length (flatV vs)
  tr : ∀ k, k < l.length → TV W (fun b => M b ∨ v.ownBlock = some b) (l.getD k noTr) (vs.getD k undef)
variable {W W' : World} {base : Nat} {M M' : Nat → Prop} {l : List Gr.Tr} {v : Value} {vs : List Value}
theorem OTv.shape (h : OTv W base M l v vs) : ∃ A c, v = .slice A l.length c := by
  rcases h.own.2 with ⟨rfl, h0⟩ | ⟨g, cap, cur, rfl, _⟩
  · exact ⟨none, 0, by rw [h0]⟩
  · exact ⟨_, _, rfl⟩
theorem OTv.nil (W : World) (base : Nat) (M : Nat → Prop) : OTv W base M [] (.slice none 0 0) [] := ⟨rfl, World.ownsRow_nil _ _ _ _, fun k hk => by simp at hk⟩
theorem OTv.form4 (h : OTv W base M l v vs) : ∀ k, k < vs.length → ∃ x0 x1 x2 x3, vs.getD k undef = .agg #[x0, x1, x2, x3] := fun k hk => (h.tr k (by rw [← h.len]; exact hk)).cells4
theorem ownsRow_keep {W W' : World} {base sz n : Nat} {e : TypeId} {v : Value} {xs : List Value} (h : W.ownsRow base e sz v n xs) (hk : ∀ g, v.ownBlock = some g → W'.heap[g]? = W.heap[g]?) : W'.ownsRow base e sz v n xs := by
  refine ⟨h.1, ?_⟩
  rcases h.2 with h2 | ⟨g, cap, cur, rfl, h3, h4, h5⟩
  · exact .inl h2
  · exact .inr ⟨g, cap, cur, rfl, h3, (hk g rfl).trans h4, h5⟩
theorem OTv.keep (h : OTv W base M l v vs) (hk : ∀ k, k < W.heap.size → ¬ M k → W'.heap[k]? = W.heap[k]?) (hg : ∀ g, v.ownBlock = some g → ¬ M g) : OTv W' base M l v vs :=
  ⟨h.len, ownsRow_keep h.own fun g e => hk g (h.own.lt g e).2 (hg g e), fun k hkl => (h.tr k hkl).keep fun b hb hn => hk b hb fun e => hn (.inl e)⟩
theorem OTv.below (h : OTv W base M l v vs) (hb : Below W.heap.size W W') : OTv W' base M l v vs :=
  ⟨h.len, ownsRow_keep h.own fun g e => hb.block g (h.own.lt g e).2, fun k hkl => (h.tr k hkl).keep fun b hb2 _ => hb.block b hb2⟩
theorem OTv.less (h : OTv W base M l v vs) (hM : ∀ k, M' k → M k) : OTv W base M' l v vs := ⟨h.len, h.own, fun k hk => (h.tr k hk).less fun b hb => hb.elim (fun e => .inl (hM b e)) .inr⟩
theorem OTv.snoc {W' : World} {t : Gr.Tr} {x0 x1 x2 x3 : Value} {g cap : Nat} (h : OTv W base M l v vs) (ht : TV W (fun b => M b ∨ v.ownBlock = some b) t (.agg #[x0, x1, x2, x3]))
    (hown : W'.ownsRow base 46 4 (.slice (some ⟨g, 0, none⟩) (l.length + 1) cap) (l.length + 1) (flatV vs ++ [x0, x1, x2, x3])) (hgr : W.grownBy W' v.ownBlock) (hat : v.ownBlock = some g ∨ W.heap.size ≤ g) :
    OTv W' base M (l ++ [t]) (.slice (some ⟨g, 0, none⟩) (l.length + 1) cap) (vs ++ [.agg #[x0, x1, x2, x3]]) := by
  have mv : ∀ {t' : Gr.Tr} {u : Value}, TV W (fun b => M b ∨ v.ownBlock = some b) t' u → TV W' (fun b => M b ∨ (Value.slice (some ⟨g, 0, none⟩) (l.length + 1) cap).ownBlock = some b) t' u := fun {t' u} h0 => by
    have h1 := (Go.Proofs.Ytkclifdbdnigaaa.tv_more h0).keep (W' := W') fun k hk hn => hgr.block k hk fun e => hn (.inl (.inr e.symm))
    refine h1.less fun b hb => ?_
    rcases hb with hb | hb
    · exact .inl (.inl hb)
    · have hb2 : g = b := by simpa [Value.ownBlock] using hb
      subst hb2
      rcases hat with e | e
      · exact .inl (.inr e)
      · exact .inr e
  refine ⟨by simp [h.len], ?_, fun k hk => ?_⟩
  · rw [flatV_snoc, List.length_append]
    exact hown
  · rw [List.length_append] at hk
    rcases Nat.lt_or_ge k l.length with hlt | hge
    · have e1 : (l ++ [t]).getD k noTr = l.getD k noTr := by simp [List.getElem?_append_left hlt]
      have e2 : (vs ++ [Value.agg #[x0, x1, x2, x3]]).getD k undef = vs.getD k undef := by simp [List.getElem?_append_left (by rw [h.len]; exact hlt : k < vs.length)]
      rw [e1, e2]
      exact mv (h.tr k hlt)
    · obtain rfl : k = l.length := by simp at hk; omega
      have e1 : (l ++ [t]).getD l.length noTr = t := by simp
      have e2 : (vs ++ [Value.agg #[x0, x1, x2, x3]]).getD l.length undef = Value.agg #[x0, x1, x2, x3] := by rw [← h.len]; simp
      rw [e1, e2]
      exact mv ht
theorem OTv.lv (h : OTv W base M l v vs) (h63 : l.length ≤ 4611686018427387904) (hg : ∀ g, v.ownBlock = some g → ¬ M g) : LV W M l v := by
  have h4 := h.form4
  rcases h.own.2 with ⟨rfl, h0⟩ | ⟨g, cap, cur, rfl, hb, hcur, hle, hmx, hsz, htk⟩
  · obtain rfl : l = [] := List.eq_nil_of_length_eq_zero h0
    exact LV.nil W M
  · refine ⟨_, cap, g, 0, fun k => vs.getD k undef, rfl, fun _ => ⟨rfl, hg g rfl, (h.own.lt g rfl).2⟩, hle, h63, fun k hk q hq => ?_, fun k hk => (h.tr k hk).less fun b hb => .inl hb⟩
    have e := flatV_get vs h4 k q (by rw [h.len]; exact hk) hq
    have hlen := flatV_len vs h4
    obtain ⟨u, hu⟩ : ∃ u, (flatV vs)[k * 4 + q]? = some u := ⟨_, List.getElem?_eq_getElem (by rw [hlen, h.len]; omega)⟩
    have := h.own.cells rfl (k * 4 + q) u hu
    show W.cell? ⟨g, 0 + k * 4 + q, none⟩ = (vs.getD k undef).cells[q]?
    rw [← e, hu]
    simpa [Addr.add_lit, Nat.add_assoc] using this
/-- No node has more than 8 parts. -/
inductive Small : Gr.Tr → Prop
  | node (r i j : Nat) (l : List Gr.Tr) (h8 : l.length ≤ 8) (hs : ∀ k, k < l.length → Small (l.getD k noTr)) : Small (.node r i j l)
theorem take_tr (l : List Gr.Tr) (k : Nat) (h : k < l.length) : l.take k ++ [l.getD k noTr] = l.take (k + 1) := by
  rw [List.take_add_one, List.getElem?_eq_getElem h]
  simp [List.getElem?_eq_getElem h]
noncomputable def tsz (t : Gr.Tr) : Nat := SizeOf.sizeOf t
theorem size_sub {l : List Gr.Tr} {k : Nat} (h : k < l.length) (r i j : Nat) : tsz (l.getD k noTr) < tsz (Gr.Tr.node r i j l) := by
  unfold tsz
  have h1 : l.getD k noTr ∈ l := by
    rw [List.getD_eq_getElem?_getD, List.getElem?_eq_getElem h]
    exact List.getElem_mem h
  have := List.sizeOf_lt_of_mem h1
  simp only [Gr.Tr.node.sizeOf_spec]
  omega
end Kt
namespace Go.Proofs.Ytkclifdbdnigaaa
open Go Go.RowKit
def CopyPost (t : Gr.Tr) (w : World) (e : Ending) (w' : World) : Prop := Below w.heap.size w w' ∧ ∃ v', e = .returned v' ∧ Kt.TV w' (fun k => k < w.heap.size) t v'
set_option maxRecDepth 10000 in
set_option maxHeartbeats 1000000 in
theorem copied_step (t : Gr.Tr) (IH : ∀ t', Kt.tsz t' < Kt.tsz t → ∀ (M : Nat → Prop) (v : Value) (w : World), Kt.Small t' → Kt.TV w M t' v → Calls Try.prog 49 #[v] w (CopyPost t' w))
    (M : Nat → Prop) (v : Value) (w : World) (hS : Kt.Small t) (hT : Kt.TV w M t v) : Calls Try.prog 49 #[v] w (CopyPost t w) := by
  obtain ⟨i0, hi0, hz0, hz1, hz2⟩ := info_parts Try.infoTree
  obtain ⟨r, i, j, l⟩ := t
  obtain ⟨s, rfl, A, c, b, off, vs, rfl, hA, hle, h63, hc, ht⟩ := hT.parts
  obtain ⟨h8, hss⟩ : l.length ≤ 8 ∧ ∀ k, k < l.length → Kt.Small (l.getD k Kt.noTr) := by
    cases hS with
    | node _ _ _ _ h8 hs => exact ⟨h8, hs⟩
  have HI := Lib.hid IH
  have HSS := Lib.hid hss
  have HTS := Lib.hid ht
  have HA := Lib.hid hA
  have HC := Lib.hid hc
  obtain ⟨n, hn⟩ : ∃ n, Hid (l.length = n) := ⟨_, Lib.hid rfl⟩
  clear IH ht hA hc hT hS hss
  rw [hn.out] at h8 hle h63 ⊢
  go_enter Try.func49, Try.ntmps49
  go_wp2_with fail
  obtain ⟨w1, hw1⟩ : ∃ w1, (w.alloc (.cells #[.int .i64 (r : Int), .int .i64 (i : Int), .int .i64 (j : Int), .slice A n c] 46)).alloc (.cells #[.int .i64 0, .int .i64 0, .int .i64 0, .slice none 0 0] 46) = w1 := ⟨_, rfl⟩
  have hs1 : w1.heap.size = w.heap.size + 2 := by rw [← hw1]; simp
  have hb1 : Below w.heap.size w w1 := by rw [← hw1]; exact ((Below.refl _ _).alloc (Nat.le_refl _) _).alloc (by simp) _
  have k1 : Kt.Blk w1 w.heap.size 46 #[.int .i64 (r : Int), .int .i64 (i : Int), .int .i64 (j : Int), .slice A n c] := by rw [← hw1]; exact (Kt.Blk.new w _ _).alloc _
  have k2 : Kt.Blk w1 (w.heap.size + 1) 46 #[.int .i64 0, .int .i64 0, .int .i64 0, .slice none 0 0] := by rw [← hw1]; exact Kt.Blk.new' _ _ _ _ (by simp)
  rw [hw1]
  have K1 := Lib.hid k1
  have K2 := Lib.hid k2
  have hlt1 : w.heap.size + 1 < w1.heap.size := by omega
  clear hw1 k1 k2 hs1
  go_loopw [3, 9] (fun o s wr => ∃ (k : Nat) (vs' : List Value), k ≤ n ∧ s = .int .i64 k ∧ Hid (Kt.OTv wr w1.heap.size (fun b => b < w1.heap.size) (l.take k) o vs') ∧ Below w1.heap.size w1 wr) (fun _ s _ => n - (intOf s).toNat)
  case atStart => exact ⟨0, [], Nat.zero_le _, rfl, Lib.hid (Kt.OTv.nil _ _ _), Below.refl _ _⟩
  case round =>
    obtain ⟨k, vs', hk, rfl, hO, hbel⟩ := hrel
    have hsr := hbel.size
    have hlen : (l.take k).length = k := by rw [List.length_take]; have := hn.out; omega
    obtain ⟨A3, c3', rfl⟩ := hO.out.shape
    rw [hlen] at hO ⊢
    by_cases hlt : k < n
    · obtain ⟨rfl, _, hbl⟩ := HA.out (by rw [hn.out]; omega)
      obtain ⟨ve, hve⟩ : ∃ ve, ve = vs k := ⟨_, rfl⟩
      have hb1r : Below w.heap.size w wr := hb1.trans (hbel.mono (by omega))
      have htk : Kt.TV wr M (l.getD k Kt.noTr) ve := by
        rw [hve]
        exact (HTS.out k (by rw [hn.out]; exact hlt)).keep fun q hq _ => hb1r.block q hq
      obtain ⟨a0, a1, a2, A4, n4, c4, rfl⟩ := tv_form htk
      have hcl : ∀ q, q < 4 → wr.cell? ⟨b, off + k * 4 + q, none⟩ = (#[Value.int .i64 a0, .int .i64 a1, .int .i64 a2, .slice A4 n4 c4] : Array Value)[q]? := fun q hq => by
        have := HC.out k (by rw [hn.out]; exact hlt) q hq
        rw [← hve] at this
        exact (hb1r.cell (p := ⟨b, off + k * 4 + q, none⟩) hbl).trans this
      have c0 : wr.cell? ⟨b, off + k * 4, none⟩ = some (.int .i64 a0) := hcl 0 (by omega)
      have c1 : wr.cell? ⟨b, off + k * 4 + 1, none⟩ = some (.int .i64 a1) := hcl 1 (by omega)
      have c2 : wr.cell? ⟨b, off + k * 4 + 2, none⟩ = some (.int .i64 a2) := hcl 2 (by omega)
      have c3 : wr.cell? ⟨b, off + k * 4 + 3, none⟩ = some (.slice A4 n4 c4) := hcl 3 (by omega)
      clear hcl hve
      go_wp2_with fail
      have hba : Below wr.heap.size wr (wr.alloc (.cells #[.int .i64 a0, .int .i64 a1, .int .i64 a2, .slice A4 n4 c4] 46)) := (Below.refl _ _).alloc (Nat.le_refl _) _
      refine (HI.out _ (Kt.size_sub (by rw [hn.out]; exact hlt) r i j) M _ _ (HSS.out k (by rw [hn.out]; exact hlt)) (htk.keep fun q hq _ => hba.block q hq)).mono ?_
      rintro e w3 ⟨hb3, v', rfl, ht3⟩
      obtain ⟨d0, d1, d2, A5, n5, c5, rfl⟩ := tv_form ht3
      have hb3' : Below wr.heap.size wr w3 := hba.trans (hb3.mono (by simp))
      have hO3 := hO.out.below hb3'
      have hbel3 : Below w1.heap.size w1 w3 := hbel.trans (hb3'.mono hsr)
      have hs3 := hbel3.size
      have hsw := hb3.size
      have hown : w3.ownsRow w1.heap.size 46 4 (.slice A3 k c3') k (Kt.flatV vs') := by have := hO3.own; rwa [hlen] at this
      have hown2 : (w3.alloc (.cells #[.int .i64 d0, .int .i64 d1, .int .i64 d2, .slice A5 n5 c5] 46)).ownsRow w1.heap.size 46 4 (.slice A3 k c3') k (Kt.flatV vs') := hown.alloc _
      have hgn : ∀ g, (Value.slice A3 k c3').ownBlock = some g → w1.heap.size ≤ g := fun g e => (hown.lt g e).1
      have hr9 : ∀ g, (Value.slice A3 k c3').ownBlock = some g → g < wr.heap.size := fun g e => (hO.out.own.lt g e).2
      have HT3 := Lib.hid ht3
      have HO3 := Lib.hid hO3
      clear hO3 hO ht3 htk hown c0 c1 c2 c3 hba hb3
      go_wp2_with (at_builtin; go_loud (refine wpList_append_lies _ rfl (.tmp 13) (.tmp 16) 41 rfl w1.heap.size 46 i0 (.agg #[.int .i64 0, .int .i64 0, .int .i64 0, .slice none 0 0]) 4 48 Try.underlying41 hi0 hz0 hz1 hz2 rfl (by decide) _ k (Kt.flatV vs') rfl hown2 ⟨w3.heap.size, 0, none⟩ 1 1 [.int .i64 d0, .int .i64 d1, .int .i64 d2, .slice A5 n5 c5] rfl rfl (World.news_of_block (Kt.Blk.new _ _ _)) (by intro u hu; simp at hu; rcases hu with rfl | rfl | rfl | rfl <;> rfl) (by decide) (by unfold maxLen; omega) (by omega) (by simp; omega) _ rfl ?_))
      intro gg cap w4 hown4 hgr4 hat4 hlt4
      have hO4 := HO3.out.below ((Below.refl w3.heap.size w3).alloc (Nat.le_refl w3.heap.size) (.cells #[.int .i64 d0, .int .i64 d1, .int .i64 d2, .slice A5 n5 c5] 46))
      have hT4 : Kt.TV (w3.alloc (.cells #[.int .i64 d0, .int .i64 d1, .int .i64 d2, .slice A5 n5 c5] 46)) (fun b => b < w1.heap.size ∨ (Value.slice A3 k c3').ownBlock = some b) (l.getD k Kt.noTr) (.agg #[.int .i64 d0, .int .i64 d1, .int .i64 d2, .slice A5 n5 c5]) :=
        (HT3.out.keep fun q hq _ => ((Below.refl w3.heap.size w3).alloc (Nat.le_refl w3.heap.size) _).block q hq).less fun q hq => by
          rcases hq with hq | hq
          · show q < (World.alloc _ _).heap.size
            simp; omega
          · have := hr9 q hq
            show q < (World.alloc _ _).heap.size
            simp; omega
      have hO5 := hO4.snoc hT4 (W' := w4) (g := gg) (cap := cap) (by rw [hlen]; exact hown4) hgr4 (by rcases hat4 with e | e; exact .inl e; exact .inr (by simp; omega))
      rw [hlen, Kt.take_tr l k (by rw [hn.out]; exact hlt)] at hO5
      have hbel4 : Below w1.heap.size w1 w4 := (hbel3.alloc hs3 _).grown hgr4 (by simp; omega) (fun g hg => hgn g hg)
      have HO5 := Lib.hid hO5
      clear hO4 hT4 hO5 hown4 hgr4 hown2 HO3 HT3
      go_wp2_with fail
      go_roundw
      case rel => exact ⟨k + 1, vs' ++ [.agg #[.int .i64 d0, .int .i64 d1, .int .i64 d2, .slice A5 n5 c5]], by omega, by go_num, HO5, hbel4⟩
      case measure => simp [intOf]; omega
    · obtain rfl : k = n := by omega
      have hx0 : wr.cell? ⟨w.heap.size, 0, none⟩ = some (.int .i64 (r : Int)) := ((K1.out.below hbel (by omega)).cell 0)
      have hx1 : wr.cell? ⟨w.heap.size, 1, none⟩ = some (.int .i64 (i : Int)) := ((K1.out.below hbel (by omega)).cell 1)
      have hx2 : wr.cell? ⟨w.heap.size, 2, none⟩ = some (.int .i64 (j : Int)) := ((K1.out.below hbel (by omega)).cell 2)
      have hx3 : wr.cell? ⟨w.heap.size, 3, none⟩ = some (.slice A k c) := ((K1.out.below hbel (by omega)).cell 3)
      have hf03 : wr.frozen? ⟨w.heap.size, 3, none⟩ = false := (K1.out.below hbel (by omega)).frozen 3
      have hy0 : wr.cell? ⟨w.heap.size + 1, 0, none⟩ = some (.int .i64 0) := (K2.out.below hbel (by omega)).cell 0
      have hy1 : wr.cell? ⟨w.heap.size + 1, 1, none⟩ = some (.int .i64 0) := (K2.out.below hbel (by omega)).cell 1
      have hy2 : wr.cell? ⟨w.heap.size + 1, 2, none⟩ = some (.int .i64 0) := (K2.out.below hbel (by omega)).cell 2
      have hy3 : wr.cell? ⟨w.heap.size + 1, 3, none⟩ = some (.slice none 0 0) := (K2.out.below hbel (by omega)).cell 3
      have hg0 : wr.frozen? ⟨w.heap.size + 1, 0, none⟩ = false := (K2.out.below hbel (by omega)).frozen 0
      have hg1 : wr.frozen? ⟨w.heap.size + 1, 1, none⟩ = false := (K2.out.below hbel (by omega)).frozen 1
      have hg2 : wr.frozen? ⟨w.heap.size + 1, 2, none⟩ = false := (K2.out.below hbel (by omega)).frozen 2
      have hg3 : wr.frozen? ⟨w.heap.size + 1, 3, none⟩ = false := (K2.out.below hbel (by omega)).frozen 3
      have HLV := hO.out
      have HK := (K2.out.below hbel (by omega))
      obtain ⟨wz, hwz⟩ : ∃ wz, ((((wr.setCell ⟨w.heap.size, 3, none⟩ (.slice A3 k c3')).setCell ⟨w.heap.size + 1, 0, none⟩ (.int .i64 (r : Int))).setCell ⟨w.heap.size + 1, 1, none⟩ (.int .i64 (i : Int))).setCell ⟨w.heap.size + 1, 2, none⟩ (.int .i64 (j : Int))).setCell ⟨w.heap.size + 1, 3, none⟩ (.slice A3 k c3') = wz := ⟨_, rfl⟩
      have hlw := hbel.size
      have hbz : Below w1.heap.size w1 wr := hbel
      have hsame : ∀ q, w1.heap.size ≤ q → wz.heap[q]? = wr.heap[q]? := fun q hq => by
        rw [← hwz, Below.heap_setCell _ _ _ _ (by show q ≠ w.heap.size + 1; omega), Below.heap_setCell _ _ _ _ (by show q ≠ w.heap.size + 1; omega), Below.heap_setCell _ _ _ _ (by show q ≠ w.heap.size + 1; omega), Below.heap_setCell _ _ _ _ (by show q ≠ w.heap.size + 1; omega), Below.heap_setCell _ _ _ _ (by show q ≠ w.heap.size; omega)]
      have hbl : Below w.heap.size w wz := by
        rw [← hwz]
        exact (((((hb1.trans (hbel.mono (by omega))).setCell (p := ⟨w.heap.size, 3, none⟩) (Nat.le_refl _) _).setCell (p := ⟨w.heap.size + 1, 0, none⟩) (Nat.le_succ _) _).setCell (p := ⟨w.heap.size + 1, 1, none⟩) (Nat.le_succ _) _).setCell (p := ⟨w.heap.size + 1, 2, none⟩) (Nat.le_succ _) _).setCell (p := ⟨w.heap.size + 1, 3, none⟩) (Nat.le_succ _) _
      have hrow : Kt.Blk wz (w.heap.size + 1) 46 #[.int .i64 (r : Int), .int .i64 (i : Int), .int .i64 (j : Int), .slice A3 k c3'] := by
        rw [← hwz]
        exact ((((HK.far (p := ⟨w.heap.size, 3, none⟩) (by show w.heap.size + 1 ≠ w.heap.size; omega) _).set_ 0 _).set_ 1 _).set_ 2 _).set_ 3 _
      have htl : l.take k = l := List.take_of_length_le (by rw [hn.out]; exact Nat.le_refl _)
      rw [htl] at HLV
      have hLV := HLV.lv (by rw [hn.out]; exact h63) (fun g hg => by have := (HLV.own.lt g hg).1; omega)
      have hLZ : Kt.LV wz (fun b => b < w1.heap.size) l (.slice A3 k c3') := hLV.keep fun q _ hn => hsame q (by omega)
      have hTZ : Kt.TV wz (fun b => b < w.heap.size) (.node r i j l) (.agg #[.int .i64 (r : Int), .int .i64 (i : Int), .int .i64 (j : Int), .slice A3 k c3']) := (Kt.TV.of_list hLZ r i j).less fun q hq => by show q < w1.heap.size; omega
      have HWZ := Lib.hid hwz
      have HR := Lib.hid hrow
      have HTZ := Lib.hid hTZ
      clear hwz hrow hTZ hLZ hLV HLV HK hsame hO
      go_wp2_with fail
      rw [HWZ.out]
      exact bodyPost_ret (results_cell_row rfl _ _ (w.heap.size + 1) 46 _ (0, 0) _ rfl HR.out Try.underlying46 rfl (by kernel_rfl)) rfl ⟨hbl, _, rfl, HTZ.out⟩
theorem copy_any (t : Gr.Tr) : ∀ (M : Nat → Prop) (v : Value) (w : World), Kt.Small t → Kt.TV w M t v → Calls Try.prog 49 #[v] w (CopyPost t w) := by
  have key : ∀ n (t : Gr.Tr), Kt.tsz t ≤ n → ∀ (M : Nat → Prop) (v : Value) (w : World), Kt.Small t → Kt.TV w M t v → Calls Try.prog 49 #[v] w (CopyPost t w) := by
    intro n
    induction n with
    | zero => exact fun t ht M v w hS hT => copied_step t (fun t' h => by omega) M v w hS hT
    | succ n ih => exact fun t ht M v w hS hT => copied_step t (fun t' h => ih t' (by omega)) M v w hS hT
  exact key _ t (Nat.le_refl _)
end Go.Proofs.Ytkclifdbdnigaaa
end
