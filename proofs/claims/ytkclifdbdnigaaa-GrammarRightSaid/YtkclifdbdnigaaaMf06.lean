/- Joined: RiX, FrT. -/
import Derived.Test.YtkclifdbdnigaaaMf03
import Derived.Test.YtkclifdbdnigaaaMf04
import Derived.Test.YtkclifdbdnigaaaMf05
import Derived.Test.YtkclifdbdnigaaaMa21
import Derived.Test.YtkclifdbdnigaaaMa13
import Derived.Deep.Slices
section
/- The walk of GrammarRight. -/
namespace Go.Proofs.Ytkclifdbdnigaaa
open Go Go.RowKit
/-- Both answers are the same. -/
theorem right_same {g : List Gr.Rule} {tk : List Int} {nt : Nat} {x : Gr.TrI} {f : Nat} {c d : Int} (hc : Gr.KCode g nt c) (hd : Gr.CCode g nt d) :
    (decide (d = 0) && (decide (x.frm = 0) && (decide (x.fin = nt) && Gr.refT g (hitf tk) nt f x 0))) = (decide (c = 0) && Gr.isT g (hitf tk) f x 0 0 nt) := by
  obtain rfl : c = d := hc.ref.uniq hd
  by_cases h0 : c = 0
  · rw [decide_eq_true h0]
    have hG := (hc.good.1 h0).1
    have h := Gr.ref_isT (hit := hitf tk) (nt := nt) (fun r hr => (hG.ok r hr).parts.2.1) f x 0 0 nt (by omega) (by omega)
    rw [Bool.eq_iff_iff]
    simp only [Bool.and_eq_true, decide_eq_true_eq, Bool.true_and]
    rw [h]
  · rw [decide_eq_false h0]; rfl
set_option maxRecDepth 100000 in
set_option maxHeartbeats 4000000 in
theorem walk_GrammarRight (w : World) (A : Option Addr) (cp : Nat) (g : List Gr.Rule) (lg : g.length ≤ 4398046511104) (hg : Kt.Rules w w.heap.size A g) (wg : WfR g)
    (T : Option Addr) (ct : Nat) (tk : List Int) (_lt : tk.length ≤ ct) (_mt : ct ≤ maxLen) (ht : Kt.Ints w w.heap.size .u16 T tk) (_wt : ∀ i ∈ tk, (Lit.int .u16 i).wf = true) (zt : tk.length * 2 ≤ 140737488351232) (_kt : T = none → ct = 0)
    (x : Gr.TrI) (v : Value) (hv : Kt.TVI w x v) (hF : Kt.FitI x) :
    Calls Try.prog 6 #[.slice A g.length cp, .slice T tk.length ct, v] w fun e w' => e = .returned (.bool true) ∧ Below w.heap.size w w' := by
  obtain ⟨n, hn⟩ : ∃ n, Hid (g.length = n) := ⟨_, Lib.hid rfl⟩
  obtain ⟨nt, hnt⟩ : ∃ nt, Hid (tk.length = nt) := ⟨_, Lib.hid rfl⟩
  obtain ⟨a0, a1, A4, n4, c4, rfl⟩ := hv.form
  obtain ⟨a2, ha2⟩ : ∃ a2, Hid (x.fin = a2) := ⟨_, Lib.hid rfl⟩
  rw [ha2.out] at hv ⊢
  rw [hn.out] at lg
  rw [hnt.out] at zt
  rw [hn.out, hnt.out]
  obtain ⟨w0, hw0⟩ : ∃ w0, (w.alloc (.cells #[.int .i64 a0, .int .i64 a1, .int .i64 a2, .slice A4 n4 c4] 46)) = w0 := ⟨_, rfl⟩
  have hb0 : Below w.heap.size w w0 := by rw [← hw0]; exact (Below.refl _ _).alloc (Nat.le_refl _) _
  have k0 : Kt.Blk w0 w.heap.size 46 #[.int .i64 a0, .int .i64 a1, .int .i64 a2, .slice A4 n4 c4] := by rw [← hw0]; exact Kt.Blk.new w _ _
  have HG := Lib.hid (hg.on hb0)
  have HT := Lib.hid (ht.on hb0)
  have HV := Lib.hid (hv.on hb0)
  have HK := Lib.hid k0
  have HW := Lib.hid wg
  have HFT := Lib.hid hF
  have HB0 := Lib.hid hb0
  have hs0 := hb0.size
  have hlt0 := k0.lt
  have x00 : w0.cell? ⟨w.heap.size, 0, none⟩ = some (.int .i64 a0) := k0.cell 0
  have x01 : w0.cell? ⟨w.heap.size, 1, none⟩ = some (.int .i64 a1) := k0.cell 1
  have x02 : w0.cell? ⟨w.heap.size, 2, none⟩ = some (.int .i64 a2) := k0.cell 2
  have x03 : w0.cell? ⟨w.heap.size, 3, none⟩ = some (.slice A4 n4 c4) := k0.cell 3
  clear hg ht wg hv hF k0 hb0 _mt _wt _lt
  go_enter Try.func6, Try.ntmps6
  go_wp2_with fail
  refine (great_any g nt A n cp T ct w0 hn.out (by omega) HG.out).mono ?_
  rintro e w2 ⟨rfl, ⟨rfl, hfine⟩ | rfl⟩
  · have HFN := Lib.hid hfine
    have h230 := hfine.g230
    rw [hn.out] at h230
    clear hfine hw0
    go_wp2_with fail
    refine (size_any x _ w0 500 HV.out).mono ?_
    rintro e w3 ⟨⟨z, rfl⟩, hb3⟩
    have hb3' : Below w.heap.size w w3 := HB0.out.trans (hb3.mono hs0)
    have hs3 := hb3'.size
    by_cases hz : z > 500
    · have dz : decide (z > 500) = true := by simp [hz]
      clear hz
      go_wp2_with fail
      refine (awake_any w3).mono ?_
      rintro e w4 ⟨rfl, hb4⟩
      go_wp2_with fail
      go_ret
      exact ⟨rfl, hb3'.trans (hb4.mono hs3)⟩
    · have dz : decide (z > 500) = false := by simp; omega
      have HG3 := Lib.hid (HG.out.on hb3)
      have HT3 := Lib.hid (HT.out.on hb3)
      have HV3 := Lib.hid (HV.out.on hb3)
      have HK3 := Lib.hid (HK.out.on hb3)
      have hlt3 : w.heap.size < w3.heap.size := HK3.out.lt
      have x30 : w3.cell? ⟨w.heap.size, 0, none⟩ = some (.int .i64 a0) := HK3.out.cell 0
      have x31 : w3.cell? ⟨w.heap.size, 1, none⟩ = some (.int .i64 a1) := HK3.out.cell 1
      have x32 : w3.cell? ⟨w.heap.size, 2, none⟩ = some (.int .i64 a2) := HK3.out.cell 2
      have x33 : w3.cell? ⟨w.heap.size, 3, none⟩ = some (.slice A4 n4 c4) := HK3.out.cell 3
      have HD := Lib.hid ((Below.refl w3.heap.size w3).drew)
      clear hz HG HT HV HK x00 x01 x02 x03
      go_upto_region 3 with fail
      go_region_law (first
        | (refine law_fn (.call { callee := .value (.func 26), args := #[.tmp 16, .tmp 17, .tmp 18], argTypes := #[22, 31, 46] }) rfl rfl 19 (fun w v w4 => Below w3.heap.size w3 w4 ∧ ∃ Z : Bool, v = .bool Z ∧ Hid (∃ c, Gr.KCode g nt c ∧ Z = (decide (c = 0) && Gr.isT g (hitf tk) x.size x 0 0 nt))) ?_ ?_
           · intro KK hkk
             unfold Oper.wp
             go_simp
             refine (Right_any g tk A n cp T nt ct w3.drew x _ x.size (Nat.le_refl _) hn.out (by omega) hnt.out (by omega) (HG3.out.on HD.out) (HT3.out.on HD.out) (HV3.out.on HD.out)).mono ?_
             rintro e w4 ⟨hb4, c, hc, rfl⟩
             exact hkk _ _ ⟨HD.out.trans hb4, _, rfl, Lib.hid ⟨c, hc, rfl⟩⟩
           rintro _ w4 ⟨hb4, Z, rfl, HZ⟩
           have x40 : w4.cell? ⟨w.heap.size, 0, none⟩ = some (.int .i64 a0) := (hb4.cell (p := ⟨w.heap.size, 0, none⟩) hlt3).trans x30
           have x41 : w4.cell? ⟨w.heap.size, 1, none⟩ = some (.int .i64 a1) := (hb4.cell (p := ⟨w.heap.size, 1, none⟩) hlt3).trans x31
           have x42 : w4.cell? ⟨w.heap.size, 2, none⟩ = some (.int .i64 a2) := (hb4.cell (p := ⟨w.heap.size, 2, none⟩) hlt3).trans x32
           have x43 : w4.cell? ⟨w.heap.size, 3, none⟩ = some (.slice A4 n4 c4) := (hb4.cell (p := ⟨w.heap.size, 3, none⟩) hlt3).trans x33)
        | (refine law_fn (.call { callee := .value (.func 14), args := #[.tmp 20], argTypes := #[22] }) rfl rfl 21 (fun w v w5 => Below w3.heap.size w3 w5 ∧ ∃ A5 c5, v = .slice A5 n c5 ∧ Hid (Kt.Rules w5 w5.heap.size A5 g)) ?_ ?_
           · intro KK hkk
             unfold Oper.wp
             go_simp
             refine (other_any g A n cp w4 hn.out (by omega) (fun r hr => Nat.le_trans (HFN.out.r12 r hr) (by decide)) (HG3.out.on hb4)).mono ?_
             rintro e w5 ⟨hb5, A5, c5, rfl, hR⟩
             exact hkk _ _ ⟨hb4.trans (hb5.mono hb4.size), A5, c5, rfl, Lib.hid hR⟩
           rintro _ w5 ⟨hb5, A5, c5, rfl, HR5⟩
           have x50 : w5.cell? ⟨w.heap.size, 0, none⟩ = some (.int .i64 a0) := (hb5.cell (p := ⟨w.heap.size, 0, none⟩) hlt3).trans x30
           have x51 : w5.cell? ⟨w.heap.size, 1, none⟩ = some (.int .i64 a1) := (hb5.cell (p := ⟨w.heap.size, 1, none⟩) hlt3).trans x31
           have x52 : w5.cell? ⟨w.heap.size, 2, none⟩ = some (.int .i64 a2) := (hb5.cell (p := ⟨w.heap.size, 2, none⟩) hlt3).trans x32
           have x53 : w5.cell? ⟨w.heap.size, 3, none⟩ = some (.slice A4 n4 c4) := (hb5.cell (p := ⟨w.heap.size, 3, none⟩) hlt3).trans x33)
        | (refine law_fn (.call { callee := .value (.func 28), args := #[.tmp 23], argTypes := #[46] }) rfl rfl 24 (fun w v w6 => Below w5.heap.size w5 w6 ∧ ∃ d0 d1 d2 A6 n6 c6, v = .agg #[.int .i64 d0, .int .i64 d1, .int .i64 d2, .slice A6 n6 c6] ∧ Hid (Kt.TVI w6 x v)) ?_ ?_
           · intro KK hkk
             unfold Oper.wp
             go_simp
             refine (back_any x _ w5 HFT.out (HV3.out.on hb5)).mono ?_
             rintro e w6 ⟨hb6, v', rfl, hv6⟩
             obtain ⟨d0, d1, A6, n6, c6, he⟩ := hv6.toI.form
             exact hkk _ _ ⟨hb6, d0, d1, _, A6, n6, c6, he, Lib.hid hv6.toI⟩
           rintro _ w6 ⟨hb6, d0, d1, d2, A6, n6, c6, rfl, HV6⟩)
        | (refine law_fn (.call { callee := .value (.func 27), args := #[.tmp 21, .tmp 22, .tmp 24], argTypes := #[28, 31, 60] }) rfl rfl 25 (fun w v w7 => Below w6.heap.size w6 w7 ∧ v = .bool Z) ?_ ?_
           · intro KK hkk
             unfold Oper.wp
             go_simp
             refine (refRight_any g tk A5 n c5 T nt ct w6 x _ x.size (Nat.le_refl _) hn.out (by omega) hnt.out (by omega) (fun r hr => Nat.le_trans (HFN.out.r12 r hr) (by decide)) HW.out (HR5.out.on hb6) ((HT3.out.on hb5).on hb6) HV6.out).mono ?_
             rintro e w7 ⟨hb7, d, hd, rfl⟩
             refine hkk _ _ ⟨hb7, ?_⟩
             obtain ⟨c, hc, e9⟩ := HZ.out
             rw [e9, right_same hc hd]
           rintro _ w7 ⟨hb7, rfl⟩
           have hzz : (Z == Z) = true := by simp)
        | (go_simp
           refine (awake_any w7).mono ?_
           rintro e w8 ⟨rfl, hb8⟩))
      all_goals
        have hb38 : Below w3.heap.size w3 w8 := hb5.trans ((hb6.trans ((hb7.trans (hb8.mono hb7.size)).mono hb6.size)).mono hb5.size)
        have hbw8 : Below w.heap.size w w8 := hb3'.trans (hb38.mono hs3)
        go_wp2_with fail
        go_ret
        exact ⟨rfl, hbw8⟩
  · clear hw0
    go_wp2_with fail
    refine (awake_any w0).mono ?_
    rintro e w4 ⟨rfl, hb4⟩
    go_wp2_with fail
    go_ret
    exact ⟨rfl, HB0.out.trans (hb4.mono hs0)⟩
end Go.Proofs.Ytkclifdbdnigaaa
end
section
/- A tree that came in. -/
namespace Go.Proofs.Ytkclifdbdnigaaa
open Go Go.RowKit Go.ChangeShapes Go.WideShapes
section
variable {H : Type} {enc : TypeId × Value → H}
instance : Inhabited Gr.TrI := ⟨Kt.noTrI⟩
theorem bytesTree : Try.prog.bytesOf 46 = 48 := by kernel_rfl
theorem cellsTree : Try.prog.cellsOf 46 = 4 := by kernel_rfl
theorem cellsTrees : Try.prog.cellsOf 41 = 1 := by kernel_rfl
set_option maxRecDepth 100000 in
theorem open_tree_at (W : World) : ∀ (fuel : Nat) (cs : List Value) (d : DataW H) (ps : List MemPlace), DataW.trod enc Try.prog W 0 (fun _ => true) true fuel 46 cs = some (d, ps) → (∀ x ∈ d.weights Try.prog 46, x ≤ reachBytes) →
    ∃ (x : Gr.TrI) (v0 v1 v2 v3 : Value), cs = [v0, v1, v2, v3] ∧ Kt.TVI W x (.agg #[v0, v1, v2, v3]) ∧ Kt.FitI x := by
  intro fuel
  induction fuel using Nat.strongRecOn with
  | ind fuel ih =>
    intro cs d ps h hz
    obtain ⟨xs, n, hfu, hx, hl, hxl, hf⟩ := DataW.trod_struct Try.underlying46 h
    rw [cellsTree] at hl
    match xs, hxl, cs, hl with
    | [y0, y1, y2, y3], _, [v0, v1, v2, v3], _ =>
      have g0 : DataW.trod enc Try.prog W 0 (fun _ => true) true n 3 ((([v0, v1, v2, v3] : List Value).drop 0).take (Try.prog.cellsOf 3)) = ([y0, y1, y2, y3] : List (DataW H × List MemPlace))[0]? := hf 0 _ rfl
      have g1 : DataW.trod enc Try.prog W 0 (fun _ => true) true n 3 ((([v0, v1, v2, v3] : List Value).drop 1).take (Try.prog.cellsOf 3)) = ([y0, y1, y2, y3] : List (DataW H × List MemPlace))[1]? := hf 1 _ rfl
      have g2 : DataW.trod enc Try.prog W 0 (fun _ => true) true n 3 ((([v0, v1, v2, v3] : List Value).drop 2).take (Try.prog.cellsOf 3)) = ([y0, y1, y2, y3] : List (DataW H × List MemPlace))[2]? := hf 2 _ rfl
      have g3 : DataW.trod enc Try.prog W 0 (fun _ => true) true n 41 ((([v0, v1, v2, v3] : List Value).drop 3).take (Try.prog.cellsOf 41)) = ([y0, y1, y2, y3] : List (DataW H × List MemPlace))[3]? := hf 3 _ rfl
      rw [cellsInt] at g0 g1 g2
      rw [cellsTrees] at g3
      simp only [List.drop_zero, List.take_succ_cons, List.take_zero, List.drop_succ_cons, List.getElem?_cons_zero, List.getElem?_cons_succ] at g0 g1 g2 g3
      obtain ⟨i0, e0, _, _⟩ := DataW.trod_int Try.underlying3 g0
      obtain ⟨i1, e1, _, _⟩ := DataW.trod_int Try.underlying3 g1
      obtain ⟨i2, e2, _, _⟩ := DataW.trod_int Try.underlying3 g2
      obtain rfl : v0 = .int .i64 i0 := by simpa using e0
      obtain rfl : v1 = .int .i64 i1 := by simpa using e1
      obtain rfl : v2 = .int .i64 i2 := by simpa using e2
      have hd : d = .agg [y0.1, y1.1, y2.1, y3.1] := by
        have := congrArg Prod.fst hx
        simpa using this
      have hz3 : ∀ q ∈ y3.1.weights Try.prog 41, q ≤ reachBytes := fun q hq => hz q (by
        rw [hd]
        simp only [DataW.weights, Try.underlying46, List.map_cons, List.map_nil, DataW.weightsEach, List.mem_append]
        exact .inr (.inr (.inr (.inl hq))))
      rcases DataW.trod_slice Try.underlying41 g3 with ⟨hc, _⟩ | ⟨a, len, cap, elems, rest, n', hn', hc, hy, _, hlc, hcm, hel, hcell, _⟩
      · simp only [List.cons.injEq, and_true] at hc
        subst hc
        exact ⟨.node i0 i1 i2 [], _, _, _, _, rfl, .node i0 i1 i2 [] none 0 0 0 (fun _ => undef) (fun hp => by simp at hp) (Nat.le_refl _) (by simp) (fun k hk => by simp at hk) (fun k hk => by simp at hk), .node i0 i1 i2 [] (by simp) (fun k hk => by simp at hk)⟩
      · simp only [List.cons.injEq, and_true] at hc
        subst hc
        rw [cellsTree] at hcell
        have hyd : y3.1 = .slice (elems.map (·.1)) (rest.map (·.1)) := congrArg Prod.fst hy
        have hb : len * 48 ≤ reachBytes := by
          have := hz3 ((elems.length + rest.length) * 48) (by
            rw [hyd]
            simp [DataW.weights, Try.underlying41, bytesTree])
          rw [hel] at this
          omega
        have each : ∀ i, i < len → ∃ p : Gr.TrI × Value × Value × Value × Value, W.cells? 0 (a.add (i * 4)) 4 = some [p.2.1, p.2.2.1, p.2.2.2.1, p.2.2.2.2] ∧ Kt.TVI W p.1 (.agg #[p.2.1, p.2.2.1, p.2.2.2.1, p.2.2.2.2]) ∧ Kt.FitI p.1 := fun i hi => by
          have h1 := hcell i hi
          have hil : i < elems.length := by rw [hel]; exact hi
          rw [List.getElem?_eq_getElem hil, Option.bind_eq_some_iff] at h1
          obtain ⟨csi, h2, h3⟩ := h1
          obtain ⟨x, u0, u1, u2, u3, rfl, ht, hF⟩ := ih n' (by omega) csi elems[i].1 elems[i].2 h3 (fun q hq => hz3 q (by
            rw [hyd]
            simp only [DataW.weights, Try.underlying41, List.mem_cons, List.mem_append]
            exact .inr (.inl (weights_mem (List.mem_map.2 ⟨elems[i], List.getElem_mem hil, rfl⟩) q hq))))
          exact ⟨(x, u0, u1, u2, u3), h2, ht, hF⟩
        obtain ⟨p, hp⟩ := Deep.choose_lt each
        have hlen : ((List.range len).map fun i => (p i).1).length = len := by simp
        have hget : ∀ k, k < len → ((List.range len).map fun i => (p i).1).getD k Kt.noTrI = (p k).1 := fun k hk => by
          simp [List.getElem?_range hk]
        have hco : ∀ k, k < len → ∀ q, q < 4 → W.cell? (a.add (k * 4 + q)) = (Value.agg #[(p k).2.1, (p k).2.2.1, (p k).2.2.2.1, (p k).2.2.2.2]).cells[q]? := fun k hk q hq => by
          obtain ⟨_, _, hce⟩ := World.cells?_some (hp k hk).1
          have h9 := hce q (by omega)
          rw [Deep.add_add] at h9
          rw [h9]
          match q, hq with
          | 0, _ => rfl
          | 1, _ => rfl
          | 2, _ => rfl
          | 3, _ => rfl
        refine ⟨.node i0 i1 i2 ((List.range len).map fun i => (p i).1), _, _, _, _, rfl, ?_, .node _ _ _ _ (by rw [hlen]; unfold reachBytes at hb; omega) (fun k hk => by rw [hlen] at hk; rw [hget k hk]; exact (hp k hk).2.2)⟩
        by_cases h0 : 0 < len
        · have hfst := hco 0 h0 0 (by omega)
          have hfst' : W.cell? a = some (p 0).2.1 := by
            have h8 : a.add (0 * 4 + 0) = a := by simp [Addr.add]
            rw [h8] at hfst
            exact hfst
          obtain ⟨ab, ao, rfl⟩ := addr_plain hfst'
          have := Kt.TVI.node (W := W) i0 i1 i2 ((List.range len).map fun i => (p i).1) (some ⟨ab, ao, none⟩) cap ab ao (fun k => .agg #[(p k).2.1, (p k).2.2.1, (p k).2.2.2.1, (p k).2.2.2.2]) (fun _ => ⟨rfl, World.block_lt_of_cell? W ⟨ab, ao, none⟩ hfst'⟩) (by rw [hlen]; exact hlc) (by rw [hlen]; unfold reachBytes at hb; omega)
            (fun k hk q hq => by rw [hlen] at hk; have := hco k hk q hq; rw [Addr.add_lit] at this; rw [Nat.add_assoc]; exact this) (fun k hk => by rw [hlen] at hk; rw [hget k hk]; exact (hp k hk).2.1)
          rwa [hlen] at this
        · obtain rfl : len = 0 := by omega
          have := Kt.TVI.node (W := W) i0 i1 i2 [] (some a) cap 0 0 (fun _ => undef) (fun hp => by simp at hp) (Nat.zero_le _) (by simp) (fun k hk => by simp at hk) (fun k hk => by simp at hk)
          exact this
set_option maxRecDepth 100000 in
theorem open_tree {W : World} {r : Reach} {b0 : Nat} {v : Value} {d : DataW H} {ps : List MemPlace} (hv : Value.okWide Try.prog W r b0 46 v) (h : DataW.Trod enc Try.prog W 0 (fun _ => true) true 46 v d ps)
    (hz : ∀ x ∈ d.weights Try.prog 46, x ≤ reachBytes) : ∃ x : Gr.TrI, Kt.TVI W x v ∧ Kt.FitI x := by
  obtain ⟨cs, rfl, hsz⟩ := okWide_struct Try.underlying46 hv
  obtain ⟨fu, hf⟩ := h
  obtain ⟨x, v0, v1, v2, v3, e, ht, hF⟩ := open_tree_at W fu _ d ps hf hz
  have e2 : cs.toList = [v0, v1, v2, v3] := e
  obtain rfl : cs = #[v0, v1, v2, v3] := by
    apply Array.toList_inj.1
    exact e2
  exact ⟨x, ht, hF⟩
end
end Go.Proofs.Ytkclifdbdnigaaa
end
