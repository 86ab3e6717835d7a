/- Joined: BkA. -/
import Derived.Test.YtkclifdbdnigaaaMf03
import Derived.Test.YtkclifdbdnigaaaMf02
import Derived.Test.YtkclifdbdnigaaaMf01
import Derived.Deep.AppendLies
section
/- back: a tree for the reference, in memory of the call's own. -/
namespace Kt
/-- No node has more parts than memory bears. -/
inductive FitI : Gr.TrI → Prop
  | node (r i j : Int) (l : List Gr.TrI) (h : l.length * 48 ≤ 140737488351232) (hs : ∀ k, k < l.length → FitI (l.getD k noTrI)) : FitI (.node r i j l)
end Kt
namespace Go.Proofs.Ytkclifdbdnigaaa
open Go Go.RowKit
theorem Try.infoRefTree : (Try.prog.info? 60).map (fun i => (i.zero, i.size, i.bytes)) = some (some (.agg #[.int .i64 0, .int .i64 0, .int .i64 0, .slice none 0 0]), 4, 48) := by kernel_rfl
def BackPost (x : Gr.TrI) (w : World) (e : Ending) (w' : World) : Prop := Below w.heap.size w w' ∧ ∃ v', e = .returned v' ∧ Kt.TVJ w' (fun k => k < w.heap.size) x v'
set_option maxRecDepth 100000 in
set_option maxHeartbeats 4000000 in
theorem back_step (x : Gr.TrI) (IH : ∀ y : Gr.TrI, y.size < x.size → ∀ (v : Value) (w : World), Kt.FitI y → Kt.TVI w y v → Calls Try.prog 28 #[v] w (BackPost y w))
    (v : Value) (w : World) (hF : Kt.FitI x) (hv : Kt.TVI w x v) : Calls Try.prog 28 #[v] w (BackPost x w) := by
  obtain ⟨i0, hi0, hz0, hz1, hz2⟩ := info_parts Try.infoRefTree
  obtain ⟨r, fr, t0, sub⟩ := x
  obtain ⟨v4, rfl, hl4⟩ := hv.parts
  obtain ⟨hfit, hfs⟩ : sub.length * 48 ≤ 140737488351232 ∧ ∀ k, k < sub.length → Kt.FitI (sub.getD k Kt.noTrI) := by
    cases hF with
    | node _ _ _ _ h hs => exact ⟨h, hs⟩
  have HI : Hid (∀ y ∈ sub, ∀ (v : Value) (w : World), Kt.FitI y → Kt.TVI w y v → Calls Try.prog 28 #[v] w (BackPost y w)) := Lib.hid (fun y hy => IH y (Gr.size_mem hy r fr t0))
  have HL4 := Lib.hid hl4
  have HFS := Lib.hid hfs
  obtain ⟨A4, c4, b4, off4, vs4, rfl, hA4, hle4, h634, hcells4, _⟩ := hl4
  obtain ⟨ns, hns⟩ : ∃ m, Hid (sub.length = m) := ⟨_, Lib.hid rfl⟩
  rw [hns.out] at HL4 h634 hfit ⊢
  obtain ⟨rb, hrb⟩ : ∃ rb, w.heap.size + 1 + 1 = rb := ⟨_, rfl⟩
  obtain ⟨w1, hw1⟩ : ∃ w1, ((w.alloc (.cells #[.int .i64 r, .int .i64 fr, .int .i64 t0, .slice A4 ns c4] 46)).alloc (.cells #[.int .i64 0, .int .i64 0, .int .i64 0, .slice none 0 0] 60)).alloc (.cells #[.int .i64 r, .int .i64 fr, .int .i64 t0, .slice none 0 0] 60) = w1 := ⟨_, rfl⟩
  have hs1 : w1.heap.size = w.heap.size + 3 := by rw [← hw1]; simp
  have hb1 : Below w.heap.size w w1 := by rw [← hw1]; exact (((Below.refl _ _).alloc (Nat.le_refl _) _).alloc (by simp) _).alloc (by simp; omega) _
  have k1 : Kt.Blk w1 w.heap.size 46 #[.int .i64 r, .int .i64 fr, .int .i64 t0, .slice A4 ns c4] := by rw [← hw1]; exact ((Kt.Blk.new w _ _).alloc _).alloc _
  have k2 : Kt.Blk w1 (w.heap.size + 1) 60 #[.int .i64 0, .int .i64 0, .int .i64 0, .slice none 0 0] := by rw [← hw1]; exact (Kt.Blk.new' _ _ _ _ (by simp)).alloc _
  have k3 : Kt.Blk w1 rb 60 #[.int .i64 r, .int .i64 fr, .int .i64 t0, .slice none 0 0] := by rw [← hw1, ← hrb]; exact Kt.Blk.new' _ _ _ _ (by simp)
  have HK1 := Lib.hid k1
  have HK2 := Lib.hid k2
  have HK3 := Lib.hid k3
  have HB1 := Lib.hid hb1
  have HW1 := Lib.hid hw1
  have HRB := Lib.hid hrb
  clear IH hv hF k1 k2 k3 hb1 hA4 hle4 hcells4 hw1 hfs hrb
  go_enter Try.func28, Try.ntmps28
  go_wp2_with fail
  rw [HW1.out, HRB.out]
  have hrw : w.heap.size + 1 < rb := by have := HRB.out; omega
  have hrb1 : rb + 1 = w1.heap.size := by have := HRB.out; omega
  go_loopw [4] (fun s wr => ∃ (q : Nat) (v : Value) (vs : List Value), q ≤ ns ∧ s = .int .i64 q ∧ Hid (Kt.Blk wr rb 60 #[.int .i64 r, .int .i64 fr, .int .i64 t0, v]) ∧ Hid (Kt.OTJ 60 wr (rb + 1) (fun b => b ≤ rb) (sub.take q) v vs) ∧ Below rb w1 wr) (fun s _ => ns - (intOf s).toNat)
  case atStart => exact ⟨0, .slice none 0 0, [], Nat.zero_le _, rfl, HK3, Lib.hid (Kt.OTJ.nil _ _ _), Below.refl _ _⟩
  case round =>
    obtain ⟨q, v, vs, hq, rfl, hKb, hO, hbl⟩ := hrel
    rename World => wl
    have hsl := hbl.size
    have hbw : Below w.heap.size w wl := HB1.out.trans (hbl.mono (by omega))
    have hTq : (sub.take q).length = q := by rw [List.length_take, hns.out]; omega
    have x3 : wl.cell? ⟨w.heap.size, 3, none⟩ = some (.slice A4 ns c4) := (HK1.out.below hbl (by omega)).cell 3
    obtain ⟨A3, c3, rfl⟩ := hO.out.shape
    rw [hTq] at hKb hO
    have hkb := hKb.out
    have hrbl : rb + 1 ≤ wl.heap.size := hkb.lt
    have b0 : wl.cell? ⟨rb, 0, none⟩ = some (.int .i64 r) := hkb.cell 0
    have b1 : wl.cell? ⟨rb, 1, none⟩ = some (.int .i64 fr) := hkb.cell 1
    have b2 : wl.cell? ⟨rb, 2, none⟩ = some (.int .i64 t0) := hkb.cell 2
    have b3 : wl.cell? ⟨rb, 3, none⟩ = some (.slice A3 q c3) := hkb.cell 3
    clear hkb
    by_cases hlt : q < ns
    · have dq : decide ((q : Int) < ns) = true := by simp; omega
      have hql : q < sub.length := by rw [hns.out]; exact hlt
      obtain ⟨bs, os, ve, rfl, hbs, hcell, hte⟩ := HL4.out.at hql
      have hft := HFS.out q hql
      have hTs := Kt.take_trI sub q hql
      obtain ⟨tt, htt⟩ : ∃ tt, Hid (sub.getD q Kt.noTrI = tt) := ⟨_, Lib.hid rfl⟩
      rw [htt.out] at hte hft hTs
      have HTS := Lib.hid hTs
      have hmem : tt ∈ sub := by
        rw [← htt.out, List.getD_eq_getElem?_getD, List.getElem?_eq_getElem hql]
        exact List.getElem_mem hql
      obtain ⟨a0, a1, At, nt4, ct4, rfl⟩ := hte.form
      obtain ⟨a2, ha2⟩ : ∃ a, Hid (tt.fin = a) := ⟨_, Lib.hid rfl⟩
      rw [ha2.out] at hte hcell
      have z0 : wl.cell? ⟨bs, os + q * 4, none⟩ = some (.int .i64 a0) := (hbw.cell (p := ⟨bs, os + q * 4, none⟩) hbs).trans (hcell 0 (by omega))
      have z1 : wl.cell? ⟨bs, os + q * 4 + 1, none⟩ = some (.int .i64 a1) := (hbw.cell (p := ⟨bs, os + q * 4 + 1, none⟩) hbs).trans (hcell 1 (by omega))
      have z2 : wl.cell? ⟨bs, os + q * 4 + 2, none⟩ = some (.int .i64 a2) := (hbw.cell (p := ⟨bs, os + q * 4 + 2, none⟩) hbs).trans (hcell 2 (by omega))
      have z3 : wl.cell? ⟨bs, os + q * 4 + 3, none⟩ = some (.slice At nt4 ct4) := (hbw.cell (p := ⟨bs, os + q * 4 + 3, none⟩) hbs).trans (hcell 3 (by omega))
      have HCALL := Lib.hid (HI.out tt hmem _ wl.drew hft ((hte.on hbw).on (Below.refl wl.heap.size wl).drew))
      have hO' := hO.out
      have HOL : Hid (wl.ownsRow (rb + 1) 60 4 (.slice A3 q c3) q (Kt.flatV vs)) := Lib.hid (by have := hO'.own; rwa [hTq] at this)
      clear hcell hte hmem hft hTs hO'
      go_upto_region 5 with fail
      go_region_law (first
        | (refine law_fn (.call { callee := .value (.func 28), args := #[.tmp 25], argTypes := #[46] }) rfl rfl 26 (fun w v w3 => Below wl.heap.size wl w3 ∧ ∃ d0 d1 d2 A5 n5 c5, v = .agg #[.int .i64 d0, .int .i64 d1, .int .i64 d2, .slice A5 n5 c5] ∧ Hid (Kt.TVJ w3 (fun k => k < wl.heap.size) tt v)) ?_ ?_
           · intro KK hkk
             unfold Oper.wp
             go_simp
             refine HCALL.out.mono ?_
             rintro e w3 ⟨hb3, v', rfl, ht3⟩
             obtain ⟨d0, d1, A5, n5, c5, he⟩ := ht3.toI.form
             exact hkk _ _ ⟨(Below.refl wl.heap.size wl).drew.trans hb3, d0, d1, _, A5, n5, c5, he, Lib.hid ht3⟩
           rintro _ w3 ⟨hb3, d0, d1, d2, A5, n5, c5, rfl, HT3⟩
           obtain ⟨w3a, hw3a⟩ : ∃ w3a, Hid (w3.alloc (.cells #[.int .i64 d0, .int .i64 d1, .int .i64 d2, .slice A5 n5 c5] 60) = w3a) := ⟨_, Lib.hid rfl⟩
           have hb3a : Below w3.heap.size w3 (w3.alloc (.cells #[.int .i64 d0, .int .i64 d1, .int .i64 d2, .slice A5 n5 c5] 60)) := (Below.refl _ _).alloc (Nat.le_refl _) _
           have b33 : w3.cell? ⟨rb, 3, none⟩ = some (.slice A3 q c3) := (hb3.cell (p := ⟨rb, 3, none⟩) hrbl).trans b3
           have b34 : (w3.alloc (.cells #[.int .i64 d0, .int .i64 d1, .int .i64 d2, .slice A5 n5 c5] 60)).cell? ⟨rb, 3, none⟩ = some (.slice A3 q c3) := (hb3a.cell (p := ⟨rb, 3, none⟩) (Nat.lt_of_lt_of_le hrbl hb3.size)).trans b33)
        | (refine step_append_lies _ rfl (.tmp 20) (.tmp 27) 58 rfl (rb + 1) 60 i0 (.agg #[.int .i64 0, .int .i64 0, .int .i64 0, .slice none 0 0]) 4 48 Try.underlying58 hi0 hz0 hz1 hz2 rfl (by decide) (.slice A3 q c3) q (Kt.flatV vs) ?_ (Kt.ownsRow_keep HOL.out fun g' e => (hb3a.block g' (Nat.lt_of_lt_of_le (HOL.out.lt g' e).2 hb3.size)).trans (hb3.block g' (HOL.out.lt g' e).2)) ⟨w3.heap.size, 0, none⟩ 1 1 [.int .i64 d0, .int .i64 d1, .int .i64 d2, .slice A5 n5 c5] ?_ rfl (World.news_of_block (Kt.Blk.new w3 _ _)) ?_ (by decide) ?_ ?_ ?_ _ rfl ?_
           · simp [Act.eval]
           · simp [Act.eval]
           · intro u hu
             simp only [List.mem_cons, List.not_mem_nil, or_false] at hu
             rcases hu with rfl | rfl | rfl | rfl <;> rfl
           · unfold maxLen
             omega
           · omega
           · exact Nat.le_trans hrbl (Nat.le_trans hb3.size hb3a.size)
           intro gg cap w4 hown4 hgr4 hat4 hlt4
           have hbl3a : Below wl.heap.size wl (w3.alloc (.cells #[.int .i64 d0, .int .i64 d1, .int .i64 d2, .slice A5 n5 c5] 60)) := hb3.trans (hb3a.mono hb3.size)
           have HK4 : Kt.Blk w4 rb 60 #[.int .i64 r, .int .i64 fr, .int .i64 t0, .slice A3 q c3] := (hgr4.block rb (Nat.lt_of_lt_of_le hrbl hbl3a.size) fun e => by have := (HOL.out.lt rb e.symm).1; omega).trans ((hbl3a.block rb hrbl).trans hKb.out)
           have b43 : w4.cell? ⟨rb, 3, none⟩ = some (.slice A3 q c3) := HK4.cell 3
           have f43 : w4.frozen? ⟨rb, 3, none⟩ = false := HK4.frozen 3))
      all_goals
        have hO4 := hO.out.below hbl3a
        have hT4 : Kt.TVJ (w3.alloc (.cells #[.int .i64 d0, .int .i64 d1, .int .i64 d2, .slice A5 n5 c5] 60)) (fun b => b ≤ rb ∨ (Value.slice A3 q c3).ownBlock = some b) tt (.agg #[.int .i64 d0, .int .i64 d1, .int .i64 d2, .slice A5 n5 c5]) :=
          (HT3.out.keep fun p hp _ => hb3a.block p hp).less fun p hp => by
            rcases hp with hp | hp
            · show p < wl.heap.size
              omega
            · exact (HOL.out.lt p hp).2
        have hO5 := hO4.snoc hT4 (W' := w4) (g := gg) (cap := cap) (by rw [hTq]; exact hown4) hgr4 (by
          rcases hat4 with e | e
          · exact .inl e
          · exact .inr (Nat.le_of_eq e.symm))
        rw [hTq, HTS.out] at hO5
        have hO6 := hO5.keep (W' := w4.setCell ⟨rb, 3, none⟩ (.slice (some ⟨gg, 0, none⟩) (q + 1) cap)) (fun p _ hn => Below.heap_setCell w4 _ _ p fun e => hn (Nat.le_of_eq e)) (fun p e => by
          have := (hO5.own.lt p e).1
          omega)
        have HO6 := Lib.hid hO6
        have HK5 := Lib.hid (HK4.set_ 3 (.slice (some ⟨gg, 0, none⟩) (q + 1) cap))
        have hb5 : Below rb w1 (w4.setCell ⟨rb, 3, none⟩ (.slice (some ⟨gg, 0, none⟩) (q + 1) cap)) := ((hbl.trans (hbl3a.mono (by omega))).grown hgr4 (by have := hbl3a.size; omega) (fun p hp => by have := (HOL.out.lt p hp).1; omega)).setCell (p := ⟨rb, 3, none⟩) (Nat.le_refl _) _
        clear hO4 hT4 hO5 hO6 hown4 hgr4 hat4 hlt4 HK4 b43 f43 hbl3a hb3a b33 b34 HT3 HOL hO hKb z0 z1 z2 z3 b0 b1 b2 b3
        go_wp2_with fail
        go_roundw
        case rel => exact ⟨q + 1, _, _, by omega, by go_num, HK5, HO6, hb5⟩
        case measure => simp [intOf]; omega
    · obtain rfl : q = ns := by omega
      have hlw := hO.out
      rw [List.take_of_length_le (by rw [hns.out]; exact Nat.le_refl _)] at hlw
      have hk2 := HK2.out.below hbl (by omega)
      have hy0 : wl.cell? ⟨w.heap.size + 1, 0, none⟩ = some (.int .i64 0) := hk2.cell 0
      have hy1 : wl.cell? ⟨w.heap.size + 1, 1, none⟩ = some (.int .i64 0) := hk2.cell 1
      have hy2 : wl.cell? ⟨w.heap.size + 1, 2, none⟩ = some (.int .i64 0) := hk2.cell 2
      have hy3 : wl.cell? ⟨w.heap.size + 1, 3, none⟩ = some (.slice none 0 0) := hk2.cell 3
      have hg0 : wl.frozen? ⟨w.heap.size + 1, 0, none⟩ = false := hk2.frozen 0
      have hg1 : wl.frozen? ⟨w.heap.size + 1, 1, none⟩ = false := hk2.frozen 1
      have hg2 : wl.frozen? ⟨w.heap.size + 1, 2, none⟩ = false := hk2.frozen 2
      have hg3 : wl.frozen? ⟨w.heap.size + 1, 3, none⟩ = false := hk2.frozen 3
      obtain ⟨wz, hwz⟩ : ∃ wz, (((wl.setCell ⟨w.heap.size + 1, 0, none⟩ (.int .i64 r)).setCell ⟨w.heap.size + 1, 1, none⟩ (.int .i64 fr)).setCell ⟨w.heap.size + 1, 2, none⟩ (.int .i64 t0)).setCell ⟨w.heap.size + 1, 3, none⟩ (.slice A3 q c3) = wz := ⟨_, rfl⟩
      have hsame : ∀ p, w.heap.size + 1 < p → wz.heap[p]? = wl.heap[p]? := fun p hp => by
        rw [← hwz, Below.heap_setCell _ _ _ _ (by show p ≠ w.heap.size + 1; omega), Below.heap_setCell _ _ _ _ (by show p ≠ w.heap.size + 1; omega), Below.heap_setCell _ _ _ _ (by show p ≠ w.heap.size + 1; omega), Below.heap_setCell _ _ _ _ (by show p ≠ w.heap.size + 1; omega)]
      have hbz : Below w.heap.size w wz := by
        rw [← hwz]
        exact ((((hbw.setCell (p := ⟨w.heap.size + 1, 0, none⟩) (Nat.le_succ _) _).setCell (p := ⟨w.heap.size + 1, 1, none⟩) (Nat.le_succ _) _).setCell (p := ⟨w.heap.size + 1, 2, none⟩) (Nat.le_succ _) _).setCell (p := ⟨w.heap.size + 1, 3, none⟩) (Nat.le_succ _) _)
      have hrow : Kt.Blk wz (w.heap.size + 1) 60 #[.int .i64 r, .int .i64 fr, .int .i64 t0, .slice A3 q c3] := by
        rw [← hwz]
        exact (((hk2.set_ 0 _).set_ 1 _).set_ 2 _).set_ 3 _
      have hLV := hlw.lv (by rw [hns.out]; exact h634) (fun p hp => by have := (hlw.own.lt p hp).1; omega)
      have hLZ : Kt.LVJ wz (fun b => b ≤ rb) sub (.slice A3 q c3) := hLV.keep fun p _ hn => hsame p (by have : ¬ p ≤ rb := hn; omega)
      have hTZ : Kt.TVJ wz (fun b => b < w.heap.size) (.node r fr t0 sub) (.agg #[.int .i64 r, .int .i64 fr, .int .i64 t0, .slice A3 q c3]) := (Kt.TVJ.of_list hLZ r fr t0).less fun p hp => by
        have hp2 : p < w.heap.size := hp
        show p ≤ rb
        omega
      have HWZ := Lib.hid hwz
      have HR := Lib.hid hrow
      have HTZ := Lib.hid hTZ
      clear hwz hrow hTZ hLZ hLV hlw hk2 hsame hO hKb
      go_wp2_with fail
      rw [HWZ.out]
      exact bodyPost_ret (results_cell_row rfl _ _ (w.heap.size + 1) 60 _ (0, 0) _ rfl HR.out Try.underlying60 rfl (by kernel_rfl)) rfl ⟨hbz, _, rfl, HTZ.out⟩
theorem back_any (x : Gr.TrI) : ∀ (v : Value) (w : World), Kt.FitI x → Kt.TVI w x v → Calls Try.prog 28 #[v] w (BackPost x w) := by
  have key : ∀ n (x : Gr.TrI), x.size ≤ n → ∀ (v : Value) (w : World), Kt.FitI x → Kt.TVI w x v → Calls Try.prog 28 #[v] w (BackPost x w) := by
    intro n
    induction n with
    | zero => intro x hx; obtain ⟨r, i, j, l⟩ := x; rw [Gr.TrI.size] at hx; omega
    | succ n ih => exact fun x hx => back_step x fun y hy => ih y (by omega)
  exact key _ x (Nat.le_refl _)
end Go.Proofs.Ytkclifdbdnigaaa
end
