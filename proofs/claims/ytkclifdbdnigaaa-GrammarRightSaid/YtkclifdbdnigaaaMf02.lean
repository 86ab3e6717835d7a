/- Joined: IsB, RiM, RtA, RfA. -/
import Derived.Test.YtkclifdbdnigaaaMf01
import Derived.Test.YtkclifdbdnigaaaMa11
import Derived.Deep.RegionLaw
import Derived.Deep.RegionWith
import Derived.Deep.DeepCutAuto
import Derived.StillTailTactics
import Derived.Test.YtkclifdbdnigaaaMa04
section
/- What isTree answers: the walk. -/
namespace Kt
open Go Go.RowKit
/-- A slice of trees in memory (their numbers are whole numbers). -/
def LVI (W : World) (l : List Gr.TrI) (v : Value) : Prop :=
  ∃ (A : Option Addr) (c b off : Nat) (vs : Nat → Value), v = .slice A l.length c ∧ (0 < l.length → A = some ⟨b, off, none⟩ ∧ b < W.heap.size) ∧ l.length ≤ c ∧ l.length ≤ 4611686018427387904 ∧
    (∀ k, k < l.length → ∀ q, q < 4 → W.cell? ⟨b, off + k * 4 + q, none⟩ = (vs k).cells[q]?) ∧ ∀ k, k < l.length → TVI W (l.getD k noTrI) (vs k)
theorem LVI.on {W W' : World} {l : List Gr.TrI} {v : Value} (h : LVI W l v) (hb : Below W.heap.size W W') : LVI W' l v := by
  obtain ⟨A, c, b, off, vs, e, hA, hle, h63, hc, ht⟩ := h
  refine ⟨A, c, b, off, vs, e, fun hp => ⟨(hA hp).1, Nat.lt_of_lt_of_le (hA hp).2 hb.size⟩, hle, h63, fun k hk q hq => ?_, fun k hk => (ht k hk).on hb⟩
  exact (hb.cell (p := ⟨b, off + k * 4 + q, none⟩) (hA (by omega)).2).trans (hc k hk q hq)
theorem TVI.form {W : World} {t : Gr.TrI} {v : Value} (h : TVI W t v) : ∃ (a0 a1 : Int) (A4 : Option Addr) (n4 c4 : Nat), v = .agg #[.int .i64 a0, .int .i64 a1, .int .i64 t.fin, .slice A4 n4 c4] := by
  cases h with
  | node _ _ _ _ A c b off vs hA hle h63 hc ht => exact ⟨_, _, _, _, _, rfl⟩
theorem TVI.parts {W : World} {r i j : Int} {l : List Gr.TrI} {v : Value} (h : TVI W (.node r i j l) v) : ∃ s, v = .agg #[.int .i64 r, .int .i64 i, .int .i64 j, s] ∧ LVI W l s := by
  cases h with
  | node _ _ _ _ A c b off vs hA hle h63 hc ht => exact ⟨_, rfl, A, c, b, off, vs, rfl, hA, hle, h63, hc, ht⟩
/-- The first tree of a slice, and the others. -/
theorem LVI.cons {W : World} {t : Gr.TrI} {ts : List Gr.TrI} {v : Value} (h : LVI W (t :: ts) v) : ∃ (c b off : Nat) (ve : Value), v = .slice (some ⟨b, off, none⟩) (ts.length + 1) c ∧ b < W.heap.size ∧ ts.length + 1 ≤ c ∧ ts.length + 1 ≤ 4611686018427387904 ∧
    (∀ q, q < 4 → W.cell? ⟨b, off + q, none⟩ = ve.cells[q]?) ∧ TVI W t ve ∧ LVI W ts (.slice (some ⟨b, off + 4, none⟩) ts.length (c - 1)) ∧ (c = 1 → ts = []) := by
  obtain ⟨A, c, b, off, vs, e, hA, hle, h63, hc, ht⟩ := h
  obtain ⟨rfl, hb⟩ := hA (by simp)
  rw [List.length_cons] at hle h63
  refine ⟨c, b, off, vs 0, e, hb, hle, h63, fun q hq => ?_, ht 0 (by simp), ⟨some ⟨b, off + 4, none⟩, c - 1, b, off + 4, fun k => vs (k + 1), rfl, fun _ => ⟨rfl, hb⟩, by omega, by omega, fun k hk q hq => ?_, fun k hk => ?_⟩, fun e => List.eq_nil_of_length_eq_zero (by omega)⟩
  · have := hc 0 (by simp) q hq
    rwa [Nat.zero_mul, Nat.add_zero] at this
  · have := hc (k + 1) (by simpa using hk) q hq
    rw [show off + 4 + k * 4 + q = off + (k + 1) * 4 + q from by omega]
    exact this
  · have := ht (k + 1) (by simpa using hk)
    rwa [List.getD_cons_succ] at this
end Kt
namespace Go.Proofs.Ytkclifdbdnigaaa
open Go Go.RowKit
/-- What isTree answers at a tree. -/
def IsTreeAt (g : List Gr.Rule) (tk : List Int) (f : Nat) (x : Gr.TrI) : Prop :=
  ∀ (A : Option Addr) (n cp : Nat) (T : Option Addr) (nt ct : Nat) (w : World) (v : Value) (s : Int) (i j : Nat), g.length = n → tk.length = nt → n ≤ 4611686018427387904 → nt ≤ 4611686018427387904 → i ≤ nt → j ≤ nt → Kt.Rules w w.heap.size A g → Kt.Ints w w.heap.size .u16 T tk → Kt.TVI w x v →
    Calls Try.prog 54 #[.slice A n cp, .slice T nt ct, v, .int .i64 s, .int .i64 (i : Int), .int .i64 (j : Int)] w fun e w' => e = .returned (.bool (Gr.isT g (hitf tk) f x s i j)) ∧ Below w.heap.size w w'
set_option maxRecDepth 100000 in
set_option maxHeartbeats 4000000 in
theorem isTree_step (g : List Gr.Rule) (tk : List Int) (f : Nat) (h8 : ∀ r, r < g.length → (Gr.rul g r).right.length ≤ 1000) (x : Gr.TrI) (hI : ∀ y : Gr.TrI, y.size < x.size → IsTreeAt g tk f y) : IsTreeAt g tk (f + 1) x := by
  intro A n cp T nt ct w v s i j hn hnt hn63 hnt63 hi hj hg ht hv
  obtain ⟨r, fr, t0, sub⟩ := x
  obtain ⟨v4, rfl, hl4⟩ := hv.parts
  have HI : Hid (∀ y ∈ sub, IsTreeAt g tk f y) := Lib.hid (fun y hy => hI y (Gr.size_mem hy r fr t0))
  have HL4 := Lib.hid hl4
  obtain ⟨A4, c4, b4, off4, vs4, rfl, _⟩ := hl4
  obtain ⟨ns, hns⟩ : ∃ m, Hid (sub.length = m) := ⟨_, Lib.hid rfl⟩
  rw [hns.out] at HL4 ⊢
  have HN := Lib.hid hn
  have HNT := Lib.hid hnt
  have HG := Lib.hid hg
  have HT := Lib.hid ht
  clear hI hn hnt ht hv
  obtain ⟨w1, hw1⟩ : ∃ w1, (w.alloc (.cells #[.int .i64 r, .int .i64 fr, .int .i64 t0, .slice A4 ns c4] 46)) = w1 := ⟨_, rfl⟩
  have hs1 : w1.heap.size = w.heap.size + 1 := by rw [← hw1]; simp
  have hb1 : Below w.heap.size w w1 := by rw [← hw1]; exact (Below.refl _ _).alloc (Nat.le_refl _) _
  have k1 : Kt.Blk w1 w.heap.size 46 #[.int .i64 r, .int .i64 fr, .int .i64 t0, .slice A4 ns c4] := by rw [← hw1]; exact Kt.Blk.new w _ _
  have x10 : w1.cell? ⟨w.heap.size, 0, none⟩ = some (.int .i64 r) := k1.cell 0
  have x11 : w1.cell? ⟨w.heap.size, 1, none⟩ = some (.int .i64 fr) := k1.cell 1
  have x12 : w1.cell? ⟨w.heap.size, 2, none⟩ = some (.int .i64 t0) := k1.cell 2
  have x13 : w1.cell? ⟨w.heap.size, 3, none⟩ = some (.slice A4 ns c4) := k1.cell 3
  have HB1 := Lib.hid hb1
  have hlt1 : w.heap.size < w1.heap.size := by omega
  have e0 : Gr.isT g (hitf tk) (f + 1) (.node r fr t0 sub) s i j = if r < 0 ∨ (g.length : Int) ≤ r ∨ (Gr.rul g r.toNat).left ≠ s ∨ fr ≠ i ∨ t0 ≠ j then false else Gr.isItems (hitf tk) (Gr.isT g (hitf tk) f) j (Gr.rul g r.toNat).right sub i := by rw [Gr.isT]
  have HE := Lib.hid e0
  obtain ⟨R, hR⟩ : ∃ R, Hid (Gr.isT g (hitf tk) (f + 1) (.node r fr t0 sub) s i j = R) := ⟨_, Lib.hid rfl⟩
  rw [hR.out] at HE ⊢
  clear k1 hb1 e0 hs1
  go_enter Try.func54, Try.ntmps54
  by_cases hr0 : r < 0
  · have d0 : decide (r < 0) = true := by simp [hr0]
    obtain rfl : R = false := by rw [HE.out, if_pos (.inl hr0)]
    go_wp2_with fail
    go_ret
    exact ⟨rfl, HB1.out⟩
  · have d0 : decide (r < 0) = false := by simp; omega
    by_cases hrn : (n : Int) ≤ r
    · have d1 : decide (r ≥ (n : Int)) = true := by simp [hrn]
      obtain rfl : R = false := by rw [HE.out, if_pos (.inr (.inl (by rw [HN.out]; exact hrn)))]
      go_wp2_with fail
      go_ret
      exact ⟨rfl, HB1.out⟩
    · obtain ⟨rn, rfl⟩ : ∃ rn : Nat, r = (rn : Int) := ⟨r.toNat, by omega⟩
      have d1 : decide (n ≤ rn) = false := by simp; omega
      have hrl : rn < n := by omega
      have hrg : rn < g.length := by rw [HN.out]; exact hrl
      obtain ⟨bA, oA, rfl, hbA, hcA⟩ := hg (by omega)
      obtain ⟨cl, A', c', cr, hlr, hit⟩ := hcA rn hrg
      obtain ⟨lf, hlf⟩ : ∃ lf, Hid ((Gr.rul g rn).left = lf) := ⟨_, Lib.hid rfl⟩
      obtain ⟨m, hm⟩ : ∃ m, Hid ((Gr.rul g rn).right.length = m) := ⟨_, Lib.hid rfl⟩
      have hm8 := h8 rn hrg
      rw [hlf.out] at cl
      rw [hm.out] at cr hlr hm8
      have HIT := Lib.hid hit
      have cl1 : w1.cell? ⟨bA, oA + rn * 2, none⟩ = some (.int .i64 lf) := (HB1.out.cell (p := ⟨bA, oA + rn * 2, none⟩) hbA).trans cl
      have cr1 : w1.cell? ⟨bA, oA + rn * 2 + 1, none⟩ = some (.slice A' m c') := (HB1.out.cell (p := ⟨bA, oA + rn * 2 + 1, none⟩) hbA).trans cr
      have HE2 : Hid (R = if lf ≠ s ∨ fr ≠ i ∨ t0 ≠ j then false else Gr.isItems (hitf tk) (Gr.isT g (hitf tk) f) j (Gr.rul g rn).right sub i) := Lib.hid (by
        rw [HE.out, show ((rn : Int)).toNat = rn from rfl, hlf.out]
        by_cases hc : lf ≠ s ∨ fr ≠ i ∨ t0 ≠ j
        · rw [if_pos (.inr (.inr hc)), if_pos hc]
        · rw [if_neg hc, if_neg (by rintro (h | h | h); exact hr0 h; exact hrn (by rw [← HN.out]; exact h); exact hc h)])
      clear hcA hit cl cr HE hr0 hrn hg
      by_cases hls : lf = s
      · have d2 : (lf != s) = false := by simp [hls]
        by_cases hfi : fr = (i : Int)
        · have d3 : (fr != (i : Int)) = false := by simp [hfi]
          by_cases htj : t0 = (j : Int)
          · have d4 : (t0 != (j : Int)) = false := by simp [htj]
            have HE3 : Hid (R = Gr.isItems (hitf tk) (Gr.isT g (hitf tk) f) j (Gr.rul g rn).right sub i) := Lib.hid (by rw [HE2.out, if_neg (by rintro (h | h | h); exact h hls; exact h hfi; exact h htj)])
            clear HE2
            subst hls hfi htj
            go_wp2_with fail
            go_quiet (fail)
            go_wp2_with fail
            have HIT1 : Hid (Kt.Items w1 w1.heap.size A' (Gr.rul g rn).right) := Lib.hid (HIT.out.on HB1.out)
            have HL1 := Lib.hid (HL4.out.on HB1.out)
            have HG1 : Hid (Kt.Rules w1 w1.heap.size (some ⟨bA, oA, none⟩) g) := Lib.hid (HG.out.on HB1.out)
            have HT1 : Hid (Kt.Ints w1 w1.heap.size .u16 T tk) := Lib.hid (HT.out.on HB1.out)
            clear HIT HL4 HT HG hw1 cl1 cr1 x10 x11 x12 x13 d0 d1 d2 d3 d4
            obtain ⟨L, hL⟩ : ∃ L, Hid ((Gr.rul g rn).right = L) := ⟨_, Lib.hid rfl⟩
            rw [hL.out] at HIT1 HE3 hm
            go_loopw [13, 14, 62] (fun u v s wr => ∃ (k p : Nat) (l : List Gr.TrI), k ≤ m ∧ p ≤ nt ∧ s = .int .i64 k ∧ u = .int .i64 p ∧ Hid (Kt.LVI wr l v) ∧ Hid (∀ y ∈ l, IsTreeAt g tk f y) ∧ Hid (R = Gr.isItems (hitf tk) (Gr.isT g (hitf tk) f) j (L.drop k) l p) ∧ Below w1.heap.size w1 wr) (fun _ _ s _ => m - (intOf s).toNat)
            case atStart => exact ⟨0, i, sub, Nat.zero_le _, hi, rfl, rfl, Lib.hid (HL1.out.on (Kt.below_of_drewN _ _)), HI, HE3, Kt.below_of_drewN _ _⟩
            case round =>
              obtain ⟨k, p, l, hk, hp, rfl, rfl, hl, hI, hE, hbl⟩ := hrel
              have hsl := hbl.size
              have hbw : Below w.heap.size w wr := HB1.out.trans (hbl.mono (by omega))
              by_cases hlt : k < m
              · have hkl : k < L.length := by rw [hm.out]; exact hlt
                obtain ⟨bI, oI, rfl, hbI, hcI⟩ := HIT1.out (by omega)
                obtain ⟨q0, q1⟩ := hcI k hkl
                obtain ⟨cx, hcx⟩ : ∃ cx, Hid ((Gr.itm L k).cls = cx) := ⟨_, Lib.hid rfl⟩
                obtain ⟨sx, hsx⟩ : ∃ sx, Hid ((Gr.itm L k).sym = sx) := ⟨_, Lib.hid rfl⟩
                rw [hcx.out] at q0
                rw [hsx.out] at q1
                have r0 : wr.cell? ⟨bI, oI + k * 2, none⟩ = some (.int .u16 cx) := (hbl.cell (p := ⟨bI, oI + k * 2, none⟩) hbI).trans q0
                have r1 : wr.cell? ⟨bI, oI + k * 2 + 1, none⟩ = some (.int .i64 sx) := (hbl.cell (p := ⟨bI, oI + k * 2 + 1, none⟩) hbI).trans q1
                have hdr : L.drop k = ⟨cx, sx⟩ :: L.drop (k + 1) := by
                  rw [List.drop_eq_getElem_cons hkl, ← hcx.out, ← hsx.out]
                  unfold Gr.itm
                  rw [List.getD_eq_getElem?_getD, List.getElem?_eq_getElem hkl]
                  rfl
                have hld : (L.drop (k + 1)).length = m - k - 1 := by rw [List.length_drop, hm.out]; omega
                have hE' := hE.out
                rw [hdr] at hE'
                have HE4 := Lib.hid hE'
                have hbl2 : Below w1.heap.size w1 (wr.alloc (.cells #[.int .u16 cx, .int .i64 sx] 40)) := hbl.alloc hsl _
                obtain ⟨w2, hw2⟩ : ∃ w2, wr.alloc (.cells #[.int .u16 cx, .int .i64 sx] 40) = w2 := ⟨_, rfl⟩
                have k2 : Kt.Blk w2 wr.heap.size 40 #[.int .u16 cx, .int .i64 sx] := by rw [← hw2]; exact Kt.Blk.new wr _ _
                have HL2 : Hid (Kt.LVI w2 l u14) := Lib.hid (by rw [← hw2]; exact hl.out.on ((Below.refl _ _).alloc (Nat.le_refl _) _))
                have y0 : w2.cell? ⟨wr.heap.size, 0, none⟩ = some (.int .u16 cx) := k2.cell 0
                have y1 : w2.cell? ⟨wr.heap.size, 1, none⟩ = some (.int .i64 sx) := k2.cell 1
                rw [hw2] at hbl2
                have hbw2 : Below w.heap.size w w2 := HB1.out.trans (hbl2.mono (by omega))
                have hs2 := hbl2.size
                clear hcI q0 q1 hE' hE hdr hl k2 hbI
                by_cases hjp : j ≤ p
                · have dj : decide (j ≤ p) = true := by simp [hjp]
                  obtain rfl : R = false := by rw [HE4.out]; exact Gr.isItems_late (by omega)
                  go_wp2_with fail
                  go_ret
                  exact ⟨rfl, hbw2⟩
                · have dj : decide (j ≤ p) = false := by simp; omega
                  by_cases hc0 : cx = 0
                  · have dc : (!(cx == 0)) = false := by simp [hc0]
                    have hm1 : IntKind.i64.wrap ((m : Int) - (k : Int)) = ((m - k : Nat) : Int) := by rw [IntWalk.i64_in _ (by omega)]; omega
                    have hm2 : IntKind.i64.wrap (((m - k : Nat) : Int) - 1) = ((m - k - 1 : Nat) : Int) := by rw [IntWalk.i64_in _ (by omega)]; omega
                    have hm3 : IntKind.i64.wrap ((j : Int) - ((m - k - 1 : Nat) : Int)) = (j : Int) - ((m - k - 1 : Nat) : Int) := IntWalk.i64_in _ (by omega)
                    cases l with
                    | nil =>
                      obtain rfl : R = false := by rw [HE4.out]; exact Gr.isItems_none (by omega) hc0
                      obtain ⟨A9, c9, _, _, _, rfl, _⟩ := HL2.out
                      subst hc0
                      go_wp2_with fail
                      go_ret
                      exact ⟨rfl, hbw2⟩
                    | cons t ts =>
                      have HE5 : Hid (R = if t.fin ≤ (p : Int) ∨ (j : Int) - ((m - k - 1 : Nat) : Int) < t.fin then false else Gr.isT g (hitf tk) f t sx p t.fin && Gr.isItems (hitf tk) (Gr.isT g (hitf tk) f) j (L.drop (k + 1)) ts t.fin) := Lib.hid (by
                        rw [HE4.out, Gr.isItems_sym (by omega) hc0, hld])
                      clear HE4
                      obtain ⟨cs, bs, os, ve, rfl, hbs, hcs, hs63, hcell, hte, htl, hc1⟩ := HL2.out.cons
                      obtain ⟨a0, a1, At, nt4, ct4, rfl⟩ := hte.form
                      obtain ⟨tt, htt⟩ : ∃ tt, Hid (t.fin = tt) := ⟨_, Lib.hid rfl⟩
                      rw [htt.out] at hcell hte HE5
                      have z0 : w2.cell? ⟨bs, os, none⟩ = some (.int .i64 a0) := hcell 0 (by omega)
                      have z1 : w2.cell? ⟨bs, os + 1, none⟩ = some (.int .i64 a1) := hcell 1 (by omega)
                      have z2 : w2.cell? ⟨bs, os + 2, none⟩ = some (.int .i64 tt) := hcell 2 (by omega)
                      have z3 : w2.cell? ⟨bs, os + 3, none⟩ = some (.slice At nt4 ct4) := hcell 3 (by omega)
                      have HTE := Lib.hid hte
                      have HTL := Lib.hid htl
                      obtain ⟨nl, hnl⟩ : ∃ nl, Hid (ts.length = nl) := ⟨_, Lib.hid rfl⟩
                      rw [hnl.out] at hcs hs63 HTL ⊢
                      have dn : ((nl : Int) + 1 == 0) = false := by simp; omega
                      clear hcell hte htl
                      by_cases hp1 : tt ≤ (p : Int)
                      · have dq : decide (tt ≤ (p : Int)) = true := by simp [hp1]
                        obtain rfl : R = false := by rw [HE5.out, if_pos (.inl hp1)]
                        subst hc0
                        clear hp1
                        go_wp2_with fail
                        go_ret
                        exact ⟨rfl, hbw2⟩
                      · have dq : decide (tt ≤ (p : Int)) = false := by simp; omega
                        by_cases hp2 : (j : Int) - ((m - k - 1 : Nat) : Int) < tt
                        · have dq2 : decide (tt > (j : Int) - ((m - k - 1 : Nat) : Int)) = true := by simp [hp2]
                          obtain rfl : R = false := by rw [HE5.out, if_pos (.inr hp2)]
                          subst hc0
                          clear hp1 hp2
                          go_wp2_with fail
                          go_ret
                          exact ⟨rfl, hbw2⟩
                        · have dq2 : decide (tt > (j : Int) - ((m - k - 1 : Nat) : Int)) = false := by simp; omega
                          obtain ⟨tn, rfl⟩ : ∃ tn : Nat, tt = (tn : Int) := ⟨tt.toNat, by omega⟩
                          have htn : p < tn ∧ tn ≤ j := by omega
                          have dq3 : decide (tn ≤ p) = false := by simp; omega
                          have HE6 : Hid (R = (Gr.isT g (hitf tk) f t sx p tn && Gr.isItems (hitf tk) (Gr.isT g (hitf tk) f) j (L.drop (k + 1)) ts tn)) := Lib.hid (by rw [HE5.out, if_neg (by omega)])
                          clear HE5 hp1 hp2
                          subst hc0
                          go_upto_region 16 with fail
                          go_still_tail 12, (by kernel_rfl)
                          change wpList _ _ _ _ _ w2.drew
                          have HD : Below w2.heap.size w2 w2.drew := (Below.refl _ _).drew
                          have HCALL := Lib.hid (hI.out t (by simp) (some ⟨bA, oA, none⟩) n cp T nt ct w2.drew _ sx p tn HN.out HNT.out hn63 hnt63 hp (by omega) ((HG1.out.on hbl2).on HD) ((HT1.out.on hbl2).on HD) (HTE.out.on HD))
                          go_wp2_with fail
                          refine HCALL.out.mono ?_
                          rintro e w3 ⟨rfl, hb3⟩
                          have hb23 : Below w2.heap.size w2 w3 := HD.trans hb3
                          have hbw3 : Below w.heap.size w w3 := hbw2.trans (hb23.mono hbw2.size)
                          have hbl3 : Below w1.heap.size w1 w3 := hbl2.trans (hb23.mono hs2)
                          obtain ⟨Q, hQ⟩ : ∃ Q, Hid (Gr.isT g (hitf tk) f t sx p tn = Q) := ⟨_, Lib.hid rfl⟩
                          rw [hQ.out] at HE6 ⊢
                          have z32 : w3.cell? ⟨bs, os + 2, none⟩ = some (.int .i64 (tn : Int)) := (hb23.cell (p := ⟨bs, os + 2, none⟩) hbs).trans z2
                          have HTL3 := Lib.hid (HTL.out.on hb23)
                          clear HCALL HD hb3
                          cases Q with
                          | false =>
                            obtain rfl : R = false := by rw [HE6.out]; rfl
                            go_wp2_with fail
                            go_ret
                            exact ⟨rfl, hbw3⟩
                          | true =>
                            have HE7 : Hid (R = Gr.isItems (hitf tk) (Gr.isT g (hitf tk) f) j (L.drop (k + 1)) ts tn) := Lib.hid (by rw [HE6.out]; rfl)
                            have HI2 : Hid (∀ y ∈ ts, IsTreeAt g tk f y) := Lib.hid (fun y hy => hI.out y (by simp [hy]))
                            clear HE6
                            by_cases hq : cs = 1
                            · obtain rfl := hc1 hq
                              subst hq
                              obtain rfl : nl = 0 := hnl.out.symm
                              go_wp2_with fail
                              go_quiet (fail)
                              go_wp2_with fail
                              go_roundw
                              case rel => exact ⟨k + 1, tn, [], by omega, by omega, by go_num, rfl, Lib.hid ⟨_, 0, 0, 0, fun _ => undef, rfl, fun h => by simp at h, Nat.le_refl _, by simp, fun k hk => by simp at hk, fun k hk => by simp at hk⟩, HI2, HE7, Kt.below_drewN hbl3 _⟩
                              case measure => simp [intOf]; omega
                            · have hq2 : ¬ cs - 1 = 0 := by omega
                              go_wp2_with fail
                              go_quiet (fail)
                              go_wp2_with fail
                              go_roundw
                              case rel => exact ⟨k + 1, tn, ts, by omega, by omega, by go_num, rfl, Lib.hid (HTL3.out.on (Kt.below_of_drewN _ _)), HI2, HE7, Kt.below_drewN hbl3 _⟩
                              case measure => simp [intOf]; omega
                  · have dc : (cx != 0) = true := by simp [hc0]
                    have HE5 : Hid (R = (hitf tk p cx && Gr.isItems (hitf tk) (Gr.isT g (hitf tk) f) j (L.drop (k + 1)) l ((p : Int) + 1))) := Lib.hid (by
                      rw [HE4.out, Gr.isItems_cls (by omega) hc0]
                      rfl)
                    clear HE4
                    obtain ⟨bT, oT, rfl, hbT, hcT⟩ := HT1.out (by rw [HNT.out]; omega)
                    obtain ⟨tv, htv⟩ : ∃ tv, Hid (Ls.nth tk p = tv) := ⟨_, Lib.hid rfl⟩
                    have z0 := (hbl2.cell (p := ⟨bT, oT + p, none⟩) hbT).trans (hcT p (by rw [HNT.out]; omega))
                    rw [htv.out] at z0
                    obtain ⟨av, hav⟩ : ∃ av, bits .and .u16 tv cx = av := ⟨_, rfl⟩
                    have hhit : hitf tk p cx = !(av == 0) := by unfold hitf; rw [htv.out, hav]
                    rw [hhit] at HE5
                    clear hhit hcT
                    by_cases ha0 : av = 0
                    · have da : (av == 0) = true := by simp [ha0]
                      obtain rfl : R = false := by rw [HE5.out, da]; rfl
                      clear ha0 hc0
                      go_wp2_with fail
                      go_quiet (fail)
                      go_wp2_with fail
                      go_ret
                      exact ⟨rfl, Kt.below_drewN hbw2 _⟩
                    · have da : (av == 0) = false := by simp [ha0]
                      have HE6 : Hid (R = Gr.isItems (hitf tk) (Gr.isT g (hitf tk) f) j (L.drop (k + 1)) l ((p + 1 : Nat) : Int)) := Lib.hid (by rw [HE5.out, da]; rfl)
                      clear ha0 hc0 HE5
                      have wp : IntKind.i64.wrap ((p : Int) + 1) = ((p + 1 : Nat) : Int) := by rw [IntWalk.i64_in _ (by omega)]; omega
                      go_wp2_with fail
                      go_quiet (fail)
                      go_wp2_with fail
                      go_roundw
                      case rel => exact ⟨k + 1, p + 1, l, by omega, by omega, by go_num, by first | rfl | go_num, Lib.hid (HL2.out.on (Kt.below_of_drewN _ _)), hI, HE6, Kt.below_drewN hbl2 _⟩
                      case measure => simp [intOf]; omega
              · obtain rfl : k = m := by omega
                have HE9 : Hid (R = (decide ((p : Int) = j) && l.isEmpty)) := Lib.hid (by
                  have := hE.out
                  rwa [List.drop_eq_nil_of_le (by rw [hm.out]; exact Nat.le_refl _), Gr.isItems] at this)
                obtain ⟨A9, c9, _, _, _, rfl, _⟩ := hl.out
                clear hE
                cases l with
                | nil =>
                  by_cases hpj : p = j
                  · have dp : ((p : Int) == (j : Int)) = true := by simp [hpj]
                    obtain rfl : R = true := by rw [HE9.out]; simp [hpj]
                    go_wp2_with fail
                    go_ret
                    exact ⟨rfl, hbw⟩
                  · have dp : ((p : Int) == (j : Int)) = false := by simp; omega
                    obtain rfl : R = false := by rw [HE9.out]; simp; omega
                    clear hpj
                    go_wp2_with fail
                    go_ret
                    exact ⟨rfl, hbw⟩
                | cons t ts =>
                  obtain rfl : R = false := by rw [HE9.out]; simp
                  obtain ⟨nl, hnl⟩ : ∃ nl, (t :: ts).length = nl + 1 := ⟨ts.length, rfl⟩
                  rw [hnl]
                  have dn : (((nl + 1 : Nat) : Int) == 0) = false := by simp; omega
                  by_cases hpj : p = j
                  · have dp : ((p : Int) == (j : Int)) = true := by simp [hpj]
                    go_wp2_with fail
                    go_ret
                    exact ⟨rfl, hbw⟩
                  · have dp : ((p : Int) == (j : Int)) = false := by simp; omega
                    clear hpj
                    go_wp2_with fail
                    go_ret
                    exact ⟨rfl, hbw⟩
          · have d4 : (t0 != (j : Int)) = true := by simp [htj]
            obtain rfl : R = false := by rw [HE2.out, if_pos (.inr (.inr htj))]
            clear htj
            subst hls hfi
            go_wp2_with fail
            go_ret
            exact ⟨rfl, HB1.out⟩
        · have d3 : (fr != (i : Int)) = true := by simp [hfi]
          obtain rfl : R = false := by rw [HE2.out, if_pos (.inr (.inl hfi))]
          clear hfi
          subst hls
          go_wp2_with fail
          go_ret
          exact ⟨rfl, HB1.out⟩
      · have d2 : (lf != s) = true := by simp [hls]
        obtain rfl : R = false := by rw [HE2.out, if_pos (.inl hls)]
        clear hls
        go_wp2_with fail
        go_ret
        exact ⟨rfl, HB1.out⟩
theorem isTree_any (g : List Gr.Rule) (tk : List Int) (h8 : ∀ r, r < g.length → (Gr.rul g r).right.length ≤ 1000) : ∀ (f : Nat) (x : Gr.TrI), x.size ≤ f → IsTreeAt g tk f x := by
  intro f
  induction f with
  | zero => intro x hx; obtain ⟨r, i, j, l⟩ := x; rw [Gr.TrI.size] at hx; omega
  | succ f ih => exact fun x hx => isTree_step g tk f h8 x fun y hy => ih y (by omega)
end Go.Proofs.Ytkclifdbdnigaaa
end
section
/- What the reference says of a tree: the plain law. -/
namespace Gr
def TrI.frm : TrI → Int
  | .node _ i _ _ => i
/-- The items of a rule against the trees of its symbols, as the reference looks at them. -/
def refItems (hit : Nat → Int → Bool) (nt : Nat) (chk : TrI → Int → Bool) (e : Int) : List Item → List TrI → Int → Bool
  | [], ts, i => decide (i = e) && ts.isEmpty
  | x :: l, ts, i =>
    if x.cls ≠ 0 then (if i < 0 ∨ (nt : Int) ≤ i then false else hit i.toNat x.cls && refItems hit nt chk e l ts (i + 1))
    else match ts with
      | [] => false
      | t :: ts => if t.frm ≠ i then false else chk t x.sym && refItems hit nt chk e l ts t.fin
def refT (g : List Rule) (hit : Nat → Int → Bool) (nt : Nat) : Nat → TrI → Int → Bool
  | 0, _, _ => false
  | f + 1, .node r fr t0 sub, s =>
    if r < 0 ∨ (g.length : Int) ≤ r ∨ (rul g r.toNat).left ≠ s then false else refItems hit nt (refT g hit nt f) t0 (rul g r.toNat).right sub fr
section
variable {hit : Nat → Int → Bool} {nt : Nat} {chk : TrI → Int → Bool} {e i : Int} {x : Item} {l : List Item}
theorem refItems_cls {ts : List TrI} (hx : x.cls ≠ 0) : refItems hit nt chk e (x :: l) ts i = if i < 0 ∨ (nt : Int) ≤ i then false else hit i.toNat x.cls && refItems hit nt chk e l ts (i + 1) := by
  rw [refItems.eq_def]; dsimp only; rw [if_pos hx]
theorem refItems_none (hx : x.cls = 0) : refItems hit nt chk e (x :: l) [] i = false := by
  rw [refItems.eq_def]; dsimp only; rw [if_neg (by simp [hx])]
theorem refItems_sym {t : TrI} {ts : List TrI} (hx : x.cls = 0) : refItems hit nt chk e (x :: l) (t :: ts) i = if t.frm ≠ i then false else chk t x.sym && refItems hit nt chk e l ts t.fin := by
  rw [refItems.eq_def]; dsimp only; rw [if_neg (by simp [hx])]
end
theorem refItems_len {hit : Nat → Int → Bool} {nt : Nat} {chk : TrI → Int → Bool} {e : Int} (hc : ∀ x s, chk x s = true → x.frm + 1 ≤ x.fin) : ∀ (l : List Item) (ts : List TrI) (i : Int), refItems hit nt chk e l ts i = true → i + l.length ≤ e
  | [], ts, i, h => by
    rw [refItems, Bool.and_eq_true, decide_eq_true_eq] at h
    simp
    omega
  | x :: l, ts, i, h => by
    rw [List.length_cons]
    by_cases hx : x.cls = 0
    · cases ts with
      | nil => rw [refItems_none hx] at h; cases h
      | cons t ts =>
        rw [refItems_sym hx] at h
        split at h
        · cases h
        · rename_i hf
          rw [Bool.and_eq_true] at h
          have h1 := hc _ _ h.1
          have h2 := refItems_len hc l ts _ h.2
          have h3 : t.frm = i := by simpa using hf
          omega
    · rw [refItems_cls hx] at h
      split at h
      · cases h
      · rw [Bool.and_eq_true] at h
        have h2 := refItems_len hc l ts _ h.2
        omega
theorem refT_len {g : List Rule} {hit : Nat → Int → Bool} {nt : Nat} (h1 : ∀ r, r < g.length → 1 ≤ (rul g r).right.length) : ∀ (f : Nat) (x : TrI) (s : Int), refT g hit nt f x s = true → x.frm + 1 ≤ x.fin := by
  intro f
  induction f with
  | zero => intro x s h; cases h
  | succ f ih =>
    intro x s h
    obtain ⟨r, fr, t0, sub⟩ := x
    rw [refT] at h
    split at h
    · cases h
    · rename_i hn
      have hr0 : ¬ r < 0 := fun h => hn (.inl h)
      have hr1 : ¬ (g.length : Int) ≤ r := fun h => hn (.inr (.inl h))
      have h2 := refItems_len ih _ _ _ h
      have h3 := h1 r.toNat (by omega)
      show fr + 1 ≤ t0
      omega
theorem items_ref {hit : Nat → Int → Bool} {nt : Nat} {chk : TrI → Int → Bool} {chk' : TrI → Int → Int → Int → Bool} {e : Int} (he : e ≤ nt) (hl : ∀ x s, chk x s = true → x.frm + 1 ≤ x.fin)
    (hc : ∀ x s (i j : Int), 0 ≤ i → j ≤ nt → (chk' x s i j = true ↔ x.frm = i ∧ x.fin = j ∧ chk x s = true)) : ∀ (l : List Item) (ts : List TrI) (i : Int), 0 ≤ i → isItems hit chk' e l ts i = refItems hit nt chk e l ts i
  | [], ts, i, _ => by rw [isItems, refItems]
  | x :: l, ts, i, hi => by
    rw [Bool.eq_iff_iff]
    by_cases hx : x.cls = 0
    · cases ts with
      | nil =>
        rw [refItems_none hx]
        by_cases h : e ≤ i
        · rw [isItems_late h]
        · rw [isItems_none (by omega) hx]
      | cons t ts =>
        rw [refItems_sym hx]
        constructor
        · intro h
          by_cases h1 : e ≤ i
          · rw [isItems_late h1] at h; cases h
          · rw [isItems_sym (by omega) hx] at h
            split at h
            · cases h
            · rename_i h2
              have h3 : i < t.fin ∧ t.fin ≤ e - l.length := by omega
              rw [Bool.and_eq_true] at h
              obtain ⟨k1, _, k3⟩ := (hc t x.sym i t.fin hi (by omega)).1 h.1
              rw [if_neg (by simpa using k1), k3, ← items_ref he hl hc l ts t.fin (by omega), h.2]
              rfl
        · intro h
          have hlen := refItems_len (hit := hit) (nt := nt) (e := e) hl (x :: l) (t :: ts) i (by rw [refItems_sym hx]; exact h)
          rw [List.length_cons] at hlen
          split at h
          · cases h
          · rename_i hf
            have hf2 : t.frm = i := by simpa using hf
            rw [Bool.and_eq_true] at h
            have h1 := hl _ _ h.1
            have h2 := refItems_len hl l ts _ h.2
            rw [isItems_sym (by omega) hx, if_neg (by omega), (hc t x.sym i t.fin hi (by omega)).2 ⟨hf2, rfl, h.1⟩, items_ref he hl hc l ts t.fin (by omega), h.2]
            rfl
    · rw [refItems_cls hx]
      constructor
      · intro h
        by_cases h1 : e ≤ i
        · rw [isItems_late h1] at h; cases h
        · rw [isItems_cls (by omega) hx, items_ref he hl hc l ts (i + 1) (by omega)] at h
          rw [if_neg (by omega)]
          exact h
      · intro h
        have hlen := refItems_len (hit := hit) (nt := nt) (e := e) hl (x :: l) ts i (by rw [refItems_cls hx]; exact h)
        rw [List.length_cons] at hlen
        rw [isItems_cls (by omega) hx, items_ref he hl hc l ts (i + 1) (by omega)]
        split at h
        · cases h
        · exact h
theorem ref_isT {g : List Rule} {hit : Nat → Int → Bool} {nt : Nat} (h1 : ∀ r, r < g.length → 1 ≤ (rul g r).right.length) : ∀ (f : Nat) (x : TrI) (s i j : Int), 0 ≤ i → j ≤ nt → (isT g hit f x s i j = true ↔ x.frm = i ∧ x.fin = j ∧ refT g hit nt f x s = true) := by
  intro f
  induction f with
  | zero => intro x s i j _ _; simp [isT, refT]
  | succ f ih =>
    intro x s i j hi hj
    obtain ⟨r, fr, t0, sub⟩ := x
    rw [isT, refT]
    show _ ↔ fr = i ∧ t0 = j ∧ _
    by_cases hc : r < 0 ∨ (g.length : Int) ≤ r ∨ (rul g r.toNat).left ≠ s
    · rw [if_pos hc, if_pos (by
        rcases hc with h | h | h
        · exact .inl h
        · exact .inr (.inl h)
        · exact .inr (.inr (.inl h)))]
      simp
    · rw [if_neg hc]
      by_cases hp : fr = i ∧ t0 = j
      · obtain ⟨rfl, rfl⟩ := hp
        rw [if_neg (by
          rintro (h | h | h | h | h)
          · exact hc (.inl h)
          · exact hc (.inr (.inl h))
          · exact hc (.inr (.inr h))
          · exact h rfl
          · exact h rfl), items_ref hj (refT_len h1 f) ih _ _ _ hi]
        simp
      · rw [if_pos (by
          by_cases h : fr = i
          · exact .inr (.inr (.inr (.inr fun h2 => hp ⟨h, h2⟩)))
          · exact .inr (.inr (.inr (.inl h))))]
        simp
        intro h h2
        exact absurd ⟨h, h2⟩ hp
end Gr
end
section
/- The reference: whether a tree is one of a symbol: the walk. -/
namespace Kt
open Go Go.RowKit
/-- A tree of a slice, by its place. -/
theorem LVI.at {W : World} {l : List Gr.TrI} {A : Option Addr} {n c k : Nat} (h : LVI W l (.slice A n c)) (hk : k < l.length) : ∃ (b off : Nat) (ve : Value), A = some ⟨b, off, none⟩ ∧ b < W.heap.size ∧ (∀ q, q < 4 → W.cell? ⟨b, off + k * 4 + q, none⟩ = ve.cells[q]?) ∧ TVI W (l.getD k noTrI) ve := by
  obtain ⟨A', c', b, off, vs, e, hA, hle, h63, hc, ht⟩ := h
  injection e with e1 e2 e3
  subst e1
  obtain ⟨e4, hb⟩ := hA (by omega)
  exact ⟨b, off, vs k, e4, hb, hc k hk, ht k hk⟩
theorem TVI.form2 {W : World} {t : Gr.TrI} {v : Value} (h : TVI W t v) : ∃ (a0 : Int) (A4 : Option Addr) (n4 c4 : Nat), v = .agg #[.int .i64 a0, .int .i64 t.frm, .int .i64 t.fin, .slice A4 n4 c4] := by
  cases h with
  | node _ _ _ _ A c b off vs hA hle h63 hc ht => exact ⟨_, _, _, _, rfl⟩
end Kt
namespace Go.Proofs.Ytkclifdbdnigaaa
open Go Go.RowKit
/-- What the reference answers at a tree. -/
def RefTreeAt (g : List Gr.Rule) (tk : List Int) (f : Nat) (x : Gr.TrI) : Prop :=
  ∀ (A : Option Addr) (n cp : Nat) (T : Option Addr) (nt ct : Nat) (w : World) (v : Value) (s : Int), g.length = n → tk.length = nt → n ≤ 4611686018427387904 → nt ≤ 4611686018427387904 → Kt.Rules w w.heap.size A g → Kt.Ints w w.heap.size .u16 T tk → Kt.TVI w x v →
    Calls Try.prog 56 #[.slice A n cp, .slice T nt ct, v, .int .i64 s] w fun e w' => e = .returned (.bool (Gr.refT g (hitf tk) nt f x s)) ∧ Below w.heap.size w w'
set_option maxRecDepth 100000 in
set_option maxHeartbeats 4000000 in
theorem refTree_step (g : List Gr.Rule) (tk : List Int) (f : Nat) (h8 : ∀ r, r < g.length → (Gr.rul g r).right.length ≤ 1000) (x : Gr.TrI) (hI : ∀ y : Gr.TrI, y.size < x.size → RefTreeAt g tk f y) : RefTreeAt g tk (f + 1) x := by
  intro A n cp T nt ct w v s hn hnt hn63 hnt63 hg ht hv
  obtain ⟨r, fr, t0, sub⟩ := x
  obtain ⟨v4, rfl, hl4⟩ := hv.parts
  have HI : Hid (∀ y ∈ sub, RefTreeAt g tk f y) := Lib.hid (fun y hy => hI y (Gr.size_mem hy r fr t0))
  have HL4 := Lib.hid hl4
  obtain ⟨A4, c4, b4, off4, vs4, rfl, _⟩ := hl4
  obtain ⟨ns, hns⟩ : ∃ m, Hid (sub.length = m) := ⟨_, Lib.hid rfl⟩
  rw [hns.out] at HL4 ⊢
  have hns63 : ns ≤ 4611686018427387904 := by
    obtain ⟨_, _, _, _, _, _, _, _, h63, _⟩ := HL4.out
    rw [← hns.out]; exact h63
  have HN := Lib.hid hn
  have HNT := Lib.hid hnt
  have HG := Lib.hid hg
  have HT := Lib.hid ht
  clear hI hn hnt ht hv
  obtain ⟨w1, hw1⟩ : ∃ w1, (w.alloc (.cells #[.int .i64 r, .int .i64 fr, .int .i64 t0, .slice A4 ns c4] 60)) = w1 := ⟨_, rfl⟩
  have hs1 : w1.heap.size = w.heap.size + 1 := by rw [← hw1]; simp
  have hb1 : Below w.heap.size w w1 := by rw [← hw1]; exact (Below.refl _ _).alloc (Nat.le_refl _) _
  have k1 : Kt.Blk w1 w.heap.size 60 #[.int .i64 r, .int .i64 fr, .int .i64 t0, .slice A4 ns c4] := by rw [← hw1]; exact Kt.Blk.new w _ _
  have x10 : w1.cell? ⟨w.heap.size, 0, none⟩ = some (.int .i64 r) := k1.cell 0
  have x11 : w1.cell? ⟨w.heap.size, 1, none⟩ = some (.int .i64 fr) := k1.cell 1
  have x12 : w1.cell? ⟨w.heap.size, 2, none⟩ = some (.int .i64 t0) := k1.cell 2
  have x13 : w1.cell? ⟨w.heap.size, 3, none⟩ = some (.slice A4 ns c4) := k1.cell 3
  have HK1 := Lib.hid k1
  have HB1 := Lib.hid hb1
  have hlt1 : w.heap.size < w1.heap.size := by omega
  have e0 : Gr.refT g (hitf tk) nt (f + 1) (.node r fr t0 sub) s = if r < 0 ∨ (g.length : Int) ≤ r ∨ (Gr.rul g r.toNat).left ≠ s then false else Gr.refItems (hitf tk) nt (Gr.refT g (hitf tk) nt f) t0 (Gr.rul g r.toNat).right sub fr := by rw [Gr.refT]
  have HE := Lib.hid e0
  obtain ⟨R, hR⟩ : ∃ R, Hid (Gr.refT g (hitf tk) nt (f + 1) (.node r fr t0 sub) s = R) := ⟨_, Lib.hid rfl⟩
  rw [hR.out] at HE ⊢
  clear k1 hb1 e0 hs1
  go_enter Try.func56, Try.ntmps56
  by_cases hr0 : r < 0
  · have d0 : decide (r < 0) = true := by simp [hr0]
    obtain rfl : R = false := by rw [HE.out, if_pos (.inl hr0)]
    go_wp2_with fail
    go_ret
    exact ⟨rfl, HB1.out⟩
  · have d0 : decide (r < 0) = false := by simp; omega
    by_cases hrn : (n : Int) ≤ r
    · have d1 : decide (r ≥ (n : Int)) = true := by simp [hrn]
      obtain rfl : R = false := by rw [HE.out, if_pos (.inr (.inl (by rw [HN.out]; exact hrn)))]
      go_wp2_with fail
      go_ret
      exact ⟨rfl, HB1.out⟩
    · obtain ⟨rn, rfl⟩ : ∃ rn : Nat, r = (rn : Int) := ⟨r.toNat, by omega⟩
      have d1 : decide (n ≤ rn) = false := by simp; omega
      have hrl : rn < n := by omega
      have hrg : rn < g.length := by rw [HN.out]; exact hrl
      obtain ⟨bA, oA, rfl, hbA, hcA⟩ := hg (by omega)
      obtain ⟨cl, A', c', cr, hlr, hit⟩ := hcA rn hrg
      obtain ⟨lf, hlf⟩ : ∃ lf, Hid ((Gr.rul g rn).left = lf) := ⟨_, Lib.hid rfl⟩
      obtain ⟨m, hm⟩ : ∃ m, Hid ((Gr.rul g rn).right.length = m) := ⟨_, Lib.hid rfl⟩
      have hm8 := h8 rn hrg
      rw [hlf.out] at cl
      rw [hm.out] at cr hlr hm8
      have HIT := Lib.hid hit
      have cl1 : w1.cell? ⟨bA, oA + rn * 2, none⟩ = some (.int .i64 lf) := (HB1.out.cell (p := ⟨bA, oA + rn * 2, none⟩) hbA).trans cl
      have cr1 : w1.cell? ⟨bA, oA + rn * 2 + 1, none⟩ = some (.slice A' m c') := (HB1.out.cell (p := ⟨bA, oA + rn * 2 + 1, none⟩) hbA).trans cr
      have HE2 : Hid (R = if lf ≠ s then false else Gr.refItems (hitf tk) nt (Gr.refT g (hitf tk) nt f) t0 (Gr.rul g rn).right sub fr) := Lib.hid (by
        rw [HE.out, show ((rn : Int)).toNat = rn from rfl, hlf.out]
        by_cases hc : lf ≠ s
        · rw [if_pos (.inr (.inr hc)), if_pos hc]
        · rw [if_neg hc, if_neg (by rintro (h | h | h); exact hr0 h; exact hrn (by rw [← HN.out]; exact h); exact hc h)])
      clear hcA hit cl cr HE hr0 hrn hg
      by_cases hls : lf = s
      · have d2 : (lf != s) = false := by simp [hls]
        have HE3 : Hid (R = Gr.refItems (hitf tk) nt (Gr.refT g (hitf tk) nt f) t0 (Gr.rul g rn).right sub fr) := Lib.hid (by rw [HE2.out, if_neg (by simp [hls])])
        clear HE2
        subst hls
        go_wp2_with fail
        have HIT1 : Hid (Kt.Items w1 w1.heap.size A' (Gr.rul g rn).right) := Lib.hid (HIT.out.on HB1.out)
        have HL1 := Lib.hid (HL4.out.on HB1.out)
        have HG1 : Hid (Kt.Rules w1 w1.heap.size (some ⟨bA, oA, none⟩) g) := Lib.hid (HG.out.on HB1.out)
        have HT1 : Hid (Kt.Ints w1 w1.heap.size .u16 T tk) := Lib.hid (HT.out.on HB1.out)
        clear HIT HL4 HT HG hw1 cl1 cr1 x10 x11 x12 x13 d0 d1 d2
        obtain ⟨L, hL⟩ : ∃ L, Hid ((Gr.rul g rn).right = L) := ⟨_, Lib.hid rfl⟩
        rw [hL.out] at HIT1 HE3 hm
        go_loopw [9, 10, 12] (fun u v s wr => ∃ (k q : Nat) (p : Int), k ≤ m ∧ q ≤ ns ∧ s = .int .i64 k ∧ v = .int .i64 q ∧ u = .int .i64 p ∧ Hid (R = Gr.refItems (hitf tk) nt (Gr.refT g (hitf tk) nt f) t0 (L.drop k) (sub.drop q) p) ∧ Below w1.heap.size w1 wr) (fun _ _ s _ => m - (intOf s).toNat)
        case atStart => exact ⟨0, 0, fr, Nat.zero_le _, Nat.zero_le _, rfl, rfl, rfl, HE3, Below.refl _ _⟩
        case round =>
          obtain ⟨k, q, p, hk, hq, rfl, rfl, rfl, hE, hbl⟩ := hrel
          have hsl := hbl.size
          have hbw : Below w.heap.size w wr := HB1.out.trans (hbl.mono (by omega))
          have hkk := HK1.out.below hbl (by omega)
          have x2 : wr.cell? ⟨w.heap.size, 2, none⟩ = some (.int .i64 t0) := hkk.cell 2
          have x3 : wr.cell? ⟨w.heap.size, 3, none⟩ = some (.slice A4 ns c4) := hkk.cell 3
          clear hkk
          by_cases hlt : k < m
          · have hkl : k < L.length := by rw [hm.out]; exact hlt
            obtain ⟨bI, oI, rfl, hbI, hcI⟩ := HIT1.out (by omega)
            obtain ⟨q0, q1⟩ := hcI k hkl
            obtain ⟨cx, hcx⟩ : ∃ cx, Hid ((Gr.itm L k).cls = cx) := ⟨_, Lib.hid rfl⟩
            obtain ⟨sx, hsx⟩ : ∃ sx, Hid ((Gr.itm L k).sym = sx) := ⟨_, Lib.hid rfl⟩
            rw [hcx.out] at q0
            rw [hsx.out] at q1
            have r0 : wr.cell? ⟨bI, oI + k * 2, none⟩ = some (.int .u16 cx) := (hbl.cell (p := ⟨bI, oI + k * 2, none⟩) hbI).trans q0
            have r1 : wr.cell? ⟨bI, oI + k * 2 + 1, none⟩ = some (.int .i64 sx) := (hbl.cell (p := ⟨bI, oI + k * 2 + 1, none⟩) hbI).trans q1
            have hdr : L.drop k = ⟨cx, sx⟩ :: L.drop (k + 1) := by
              rw [List.drop_eq_getElem_cons hkl, ← hcx.out, ← hsx.out]
              unfold Gr.itm
              rw [List.getD_eq_getElem?_getD, List.getElem?_eq_getElem hkl]
              rfl
            have hE' := hE.out
            rw [hdr] at hE'
            have HE4 := Lib.hid hE'
            clear hcI q0 q1 hE' hE hdr hbI
            by_cases hc0 : cx = 0
            · by_cases hqn : q = ns
              · have dq : decide (ns ≤ q) = true := by simp; omega
                obtain rfl : R = false := by
                  rw [HE4.out, show sub.drop q = [] from List.drop_eq_nil_of_le (by rw [hns.out, hqn]; exact Nat.le_refl _)]
                  exact Gr.refItems_none hc0
                subst hc0
                clear hqn
                go_wp2_with fail
                go_quiet (fail)
                go_wp2_with fail
                go_ret
                exact ⟨rfl, Kt.below_drewN hbw _⟩
              · have dq : decide (ns ≤ q) = false := by simp; omega
                have hql : q < sub.length := by rw [hns.out]; omega
                obtain ⟨bs, os, ve, rfl, hbs, hcell, hte⟩ := HL1.out.at hql
                obtain ⟨tt, htt⟩ : ∃ tt, Hid (sub.getD q Kt.noTrI = tt) := ⟨_, Lib.hid rfl⟩
                rw [htt.out] at hte
                have hds : sub.drop q = tt :: sub.drop (q + 1) := by
                  rw [List.drop_eq_getElem_cons hql, ← htt.out, List.getD_eq_getElem?_getD, List.getElem?_eq_getElem hql]
                  rfl
                have hmem : tt ∈ sub := by
                  rw [← htt.out, List.getD_eq_getElem?_getD, List.getElem?_eq_getElem hql]
                  exact List.getElem_mem hql
                have HE5 : Hid (R = if tt.frm ≠ p then false else Gr.refT g (hitf tk) nt f tt sx && Gr.refItems (hitf tk) nt (Gr.refT g (hitf tk) nt f) t0 (L.drop (k + 1)) (sub.drop (q + 1)) tt.fin) := Lib.hid (by rw [HE4.out, hds, Gr.refItems_sym hc0])
                obtain ⟨a0, At, nt4, ct4, rfl⟩ := hte.form2
                obtain ⟨a1, ha1⟩ : ∃ a, Hid (tt.frm = a) := ⟨_, Lib.hid rfl⟩
                obtain ⟨a2, ha2⟩ : ∃ a, Hid (tt.fin = a) := ⟨_, Lib.hid rfl⟩
                rw [ha1.out, ha2.out] at hte hcell HE5
                have z0 : wr.cell? ⟨bs, os + q * 4, none⟩ = some (.int .i64 a0) := (hbl.cell (p := ⟨bs, os + q * 4, none⟩) hbs).trans (hcell 0 (by omega))
                have z1 : wr.cell? ⟨bs, os + q * 4 + 1, none⟩ = some (.int .i64 a1) := (hbl.cell (p := ⟨bs, os + q * 4 + 1, none⟩) hbs).trans (hcell 1 (by omega))
                have z2 : wr.cell? ⟨bs, os + q * 4 + 2, none⟩ = some (.int .i64 a2) := (hbl.cell (p := ⟨bs, os + q * 4 + 2, none⟩) hbs).trans (hcell 2 (by omega))
                have z3 : wr.cell? ⟨bs, os + q * 4 + 3, none⟩ = some (.slice At nt4 ct4) := (hbl.cell (p := ⟨bs, os + q * 4 + 3, none⟩) hbs).trans (hcell 3 (by omega))
                have HTE := Lib.hid (hte.on hbl)
                have HIT2 := Lib.hid (HI.out tt hmem)
                have hqns : q < ns := by omega
                clear hcell hte hds hmem HE4
                by_cases hap : a1 = p
                · have da : (a1 != p) = false := by simp [hap]
                  have HE6 : Hid (R = (Gr.refT g (hitf tk) nt f tt sx && Gr.refItems (hitf tk) nt (Gr.refT g (hitf tk) nt f) t0 (L.drop (k + 1)) (sub.drop (q + 1)) a2)) := Lib.hid (by rw [HE5.out, if_neg (by simp [hap])])
                  clear HE5
                  subst hap hc0
                  go_upto_region 13 with fail
                  go_still_tail 28, (by kernel_rfl)
                  change wpList _ _ _ _ _ wr.drew
                  have HD : Below wr.heap.size wr wr.drew := (Below.refl _ _).drew
                  have HCALL := Lib.hid (HIT2.out (some ⟨bA, oA, none⟩) n cp T nt ct wr.drew _ sx HN.out HNT.out hn63 hnt63 ((HG1.out.on hbl).on HD) ((HT1.out.on hbl).on HD) (HTE.out.on HD))
                  go_wp2_with fail
                  refine HCALL.out.mono ?_
                  rintro e w3 ⟨rfl, hb3⟩
                  have hb23 : Below wr.heap.size wr w3 := HD.trans hb3
                  have hbw3 : Below w.heap.size w w3 := hbw.trans (hb23.mono hbw.size)
                  have hbl3 : Below w1.heap.size w1 w3 := hbl.trans (hb23.mono hsl)
                  obtain ⟨Q, hQ⟩ : ∃ Q, Hid (Gr.refT g (hitf tk) nt f tt sx = Q) := ⟨_, Lib.hid rfl⟩
                  rw [hQ.out] at HE6 ⊢
                  have hbsr : bs < wr.heap.size := Nat.lt_of_lt_of_le hbs hsl
                  have z32 : w3.cell? ⟨bs, os + q * 4 + 2, none⟩ = some (.int .i64 a2) := (hb23.cell (p := ⟨bs, os + q * 4 + 2, none⟩) hbsr).trans z2
                  have x33 : w3.cell? ⟨w.heap.size, 3, none⟩ = some (.slice (some ⟨bs, os, none⟩) ns c4) := (hb23.cell (p := ⟨w.heap.size, 3, none⟩) (by show w.heap.size < wr.heap.size; omega)).trans x3
                  clear HCALL HD hb3
                  cases Q with
                  | false =>
                    obtain rfl : R = false := by rw [HE6.out]; rfl
                    go_wp2_with fail
                    go_ret
                    exact ⟨rfl, hbw3⟩
                  | true =>
                    have HE7 : Hid (R = Gr.refItems (hitf tk) nt (Gr.refT g (hitf tk) nt f) t0 (L.drop (k + 1)) (sub.drop (q + 1)) a2) := Lib.hid (by rw [HE6.out]; rfl)
                    clear HE6
                    go_wp2_with fail
                    go_roundw
                    case rel => exact ⟨k + 1, q + 1, a2, by omega, by omega, by go_num, by go_num, rfl, HE7, hbl3⟩
                    case measure => simp [intOf]; omega
                · have da : (a1 != p) = true := by simp [hap]
                  obtain rfl : R = false := by rw [HE5.out, if_pos hap]
                  subst hc0
                  clear hap
                  go_wp2_with fail
                  go_quiet (fail)
                  go_wp2_with fail
                  go_ret
                  exact ⟨rfl, Kt.below_drewN hbw _⟩
            · have dc : (cx != 0) = true := by simp [hc0]
              by_cases hp0 : p < 0
              · have dp0 : decide (p < 0) = true := by simp [hp0]
                obtain rfl : R = false := by rw [HE4.out, Gr.refItems_cls hc0, if_pos (.inl hp0)]
                clear hc0 hp0
                go_wp2_with fail
                go_quiet (fail)
                go_wp2_with fail
                go_ret
                exact ⟨rfl, Kt.below_drewN hbw _⟩
              · have dp0 : decide (p < 0) = false := by simp; omega
                by_cases hpn : (nt : Int) ≤ p
                · have dp1 : decide (p ≥ (nt : Int)) = true := by simp [hpn]
                  obtain rfl : R = false := by rw [HE4.out, Gr.refItems_cls hc0, if_pos (.inr hpn)]
                  clear hc0 hp0 hpn
                  go_wp2_with fail
                  go_quiet (fail)
                  go_wp2_with fail
                  go_ret
                  exact ⟨rfl, Kt.below_drewN hbw _⟩
                · obtain ⟨pn, rfl⟩ : ∃ pn : Nat, p = (pn : Int) := ⟨p.toNat, by omega⟩
                  have dp1 : decide (nt ≤ pn) = false := by simp; omega
                  have hpl : pn < nt := by omega
                  have HE5 : Hid (R = (hitf tk pn cx && Gr.refItems (hitf tk) nt (Gr.refT g (hitf tk) nt f) t0 (L.drop (k + 1)) (sub.drop q) ((pn : Int) + 1))) := Lib.hid (by
                    rw [HE4.out, Gr.refItems_cls hc0, if_neg (by omega)]
                    rfl)
                  clear HE4
                  obtain ⟨bT, oT, rfl, hbT, hcT⟩ := HT1.out (by rw [HNT.out]; omega)
                  obtain ⟨tv, htv⟩ : ∃ tv, Hid (Ls.nth tk pn = tv) := ⟨_, Lib.hid rfl⟩
                  have z0 := (hbl.cell (p := ⟨bT, oT + pn, none⟩) hbT).trans (hcT pn (by rw [HNT.out]; omega))
                  rw [htv.out] at z0
                  obtain ⟨av, hav⟩ : ∃ av, bits .and .u16 tv cx = av := ⟨_, rfl⟩
                  have hhit : hitf tk pn cx = !(av == 0) := by unfold hitf; rw [htv.out, hav]
                  rw [hhit] at HE5
                  clear hhit hcT
                  by_cases ha0 : av = 0
                  · have da : (av == 0) = true := by simp [ha0]
                    obtain rfl : R = false := by rw [HE5.out, da]; rfl
                    clear ha0 hc0
                    go_wp2_with fail
                    go_quiet (fail)
                    go_wp2_with fail
                    go_ret
                    exact ⟨rfl, Kt.below_drewN hbw _⟩
                  · have da : (av == 0) = false := by simp [ha0]
                    have HE6 : Hid (R = Gr.refItems (hitf tk) nt (Gr.refT g (hitf tk) nt f) t0 (L.drop (k + 1)) (sub.drop q) ((pn : Int) + 1)) := Lib.hid (by rw [HE5.out, da]; rfl)
                    clear ha0 hc0 HE5
                    have wp : IntKind.i64.wrap ((pn : Int) + 1) = (pn : Int) + 1 := IntWalk.i64_in _ (by omega)
                    go_wp2_with fail
                    go_quiet (fail)
                    go_wp2_with fail
                    go_roundw
                    case rel => exact ⟨k + 1, q, (pn : Int) + 1, by omega, by omega, by go_num, rfl, rfl, HE6, Kt.below_drewN hbl _⟩
                    case measure => simp [intOf]; omega
          · obtain rfl : k = m := by omega
            have HE9 : Hid (R = (decide (p = t0) && (sub.drop q).isEmpty)) := Lib.hid (by
              have := hE.out
              rwa [List.drop_eq_nil_of_le (by rw [hm.out]; exact Nat.le_refl _), Gr.refItems] at this)
            have HEM : Hid ((sub.drop q).isEmpty = decide (q = ns)) := Lib.hid (by
              by_cases h : q = ns
              · rw [List.drop_eq_nil_of_le (by rw [hns.out, h]; exact Nat.le_refl _)]; simp [h]
              · rw [decide_eq_false h]
                cases hd : sub.drop q with
                | nil =>
                  have := List.drop_eq_nil_iff.1 hd
                  rw [hns.out] at this; omega
                | cons a l => rfl)
            clear hE
            by_cases hpj : p = t0
            · have dp : (p == t0) = true := by simp [hpj]
              by_cases hqn : q = ns
              · have dq : ((q : Int) == (ns : Int)) = true := by simp [hqn]
                obtain rfl : R = true := by rw [HE9.out, HEM.out]; simp [hpj, hqn]
                subst hpj hqn
                go_wp2_with fail
                go_ret
                exact ⟨rfl, hbw⟩
              · have dq : ((q : Int) == (ns : Int)) = false := by simp; omega
                obtain rfl : R = false := by rw [HE9.out, HEM.out]; simp [hqn]
                subst hpj
                clear hqn
                go_wp2_with fail
                go_ret
                exact ⟨rfl, hbw⟩
            · have dp : (p == t0) = false := by simp [hpj]
              obtain rfl : R = false := by rw [HE9.out]; simp [hpj]
              clear hpj
              go_wp2_with fail
              go_ret
              exact ⟨rfl, hbw⟩
      · have d2 : (lf != s) = true := by simp [hls]
        obtain rfl : R = false := by rw [HE2.out, if_pos hls]
        clear hls
        go_wp2_with fail
        go_ret
        exact ⟨rfl, HB1.out⟩
end Go.Proofs.Ytkclifdbdnigaaa
end
section
/- The reference: units of rules; whether a symbol derives itself, step by step: its walk. -/
namespace Gr
def unitI (r : Rule) : Int := match unit r with | some s => s | none => -1
/-- How many cells of a block are not set. -/
def offW (w : Go.World) (b : Nat) : Nat := ((List.range 64).filter fun t => match w.cell? ⟨b, t, none⟩ with | some (.bool false) => true | _ => false).length
theorem offW_eq {w : Go.World} {b : Nat} {on : Nat → Bool} (h : ∀ t, t < 64 → w.cell? ⟨b, t, none⟩ = some (.bool (on t))) : offW w b = offc on := by
  unfold offW offc
  congr 1
  refine List.filter_congr fun t ht => ?_
  rw [List.mem_range] at ht
  rw [h t ht]
  cases on t <;> rfl
/-- The measure of the search: none if nothing was found in the last round. -/
def moreM (v : Go.Value) (n : Nat) : Nat := match v with | .bool true => n + 1 | _ => 0
/-- What is reached is reached by paths. -/
def Snd (g : List Rule) (s : Nat) (on : Nat → Bool) : Prop := ∀ t, t < 64 → on t = true → Path g (s : Int) (t : Int)
/-- The first k rules lead to nothing new. -/
def Cls (g : List Rule) (s : Nat) (on : Nat → Bool) (k : Nat) : Prop := ∀ r, r < k → ∀ t : Nat, unit (rul g r) = some (t : Int) → ((rul g r).left = (s : Int) ∨ ∃ l : Nat, (rul g r).left = (l : Int) ∧ on l = true) → on t = true
theorem Path.snoc {g : List Rule} {s t u : Int} (h : Path g s t) (e : E g t u) : Path g s u := h.trans (.one e)
theorem Cls.path {g : List Rule} {s : Nat} {on : Nat → Bool} (h : Cls g s on g.length) (hb : ∀ a b, E g a b → (0 ≤ a ∧ a < 64) ∧ (0 ≤ b ∧ b < 64)) : ∀ a b, Path g a b → (a = (s : Int) ∨ ∃ l : Nat, a = (l : Int) ∧ on l = true) → ∃ t : Nat, b = (t : Int) ∧ on t = true := by
  intro a b hp
  induction hp with
  | @one a b e =>
    intro ha
    have h2 := hb _ _ e
    obtain ⟨r, hr, hl, hu⟩ := mem_tgts.1 e
    obtain ⟨t, rfl⟩ : ∃ t : Nat, b = (t : Int) := ⟨b.toNat, by omega⟩
    exact ⟨t, rfl, h r hr t hu (by rw [hl]; exact ha)⟩
  | @cons a b c e _ ih =>
    intro ha
    have h2 := hb _ _ e
    obtain ⟨r, hr, hl, hu⟩ := mem_tgts.1 e
    obtain ⟨t, rfl⟩ : ∃ t : Nat, b = (t : Int) := ⟨b.toNat, by omega⟩
    exact ih (.inr ⟨t, rfl, h r hr t hu (by rw [hl]; exact ha)⟩)
theorem Cls.self {g : List Rule} {s : Nat} {on : Nat → Bool} (h : Cls g s on g.length) (hb : ∀ a b, E g a b → (0 ≤ a ∧ a < 64) ∧ (0 ≤ b ∧ b < 64)) (hs : on s = false) : ¬ Path g (s : Int) (s : Int) := fun hp => by
  obtain ⟨t, ht, hon⟩ := h.path hb _ _ hp (.inl rfl)
  obtain rfl : s = t := by omega
  rw [hs] at hon; cases hon
theorem Cls.succ {g : List Rule} {s k : Nat} {on : Nat → Bool} (h : Cls g s on k) (h1 : ∀ t : Nat, unit (rul g k) = some (t : Int) → ((rul g k).left = (s : Int) ∨ ∃ l : Nat, (rul g k).left = (l : Int) ∧ on l = true) → on t = true) : Cls g s on (k + 1) := fun r hr t hu hl => by
  by_cases e : r = k
  · subst e; exact h1 t hu hl
  · exact h r (by omega) t hu hl
theorem Snd.upd {g : List Rule} {s : Nat} {on : Nat → Bool} (h : Snd g s on) {r tn ln : Nat} (hr : r < g.length) (hu : unit (rul g r) = some (tn : Int)) (hl : (rul g r).left = (ln : Int)) (hln : ln < 64) (hc : ln = s ∨ on ln = true) : Snd g s (upd on tn true) := fun t ht hon => by
  unfold Gr.upd at hon
  by_cases e : t = tn
  · subst e
    have he : E g (ln : Int) (t : Int) := mem_tgts.2 ⟨r, hr, hl, hu⟩
    rcases hc with rfl | hc
    · exact .one he
    · exact (h ln hln hc).snoc he
  · rw [if_neg e] at hon
    exact h t ht hon
end Gr
namespace Go.Proofs.Ytkclifdbdnigaaa
open Go Go.RowKit
theorem refUnit_any (s : Int) (A : Option Addr) (n cp : Nat) (l : List Gr.Item) (w : World) (hl : l.length = n) (hi : Kt.Items w w.heap.size A l) :
    Calls Try.prog 63 #[.agg #[.int .i64 s, .slice A n cp]] w fun e w' => e = .returned (.int .i64 (Gr.unitI ⟨s, l⟩)) ∧ Below w.heap.size w w' := by
  have HL := Lib.hid hl
  obtain ⟨w1, hw1⟩ : ∃ w1, (w.alloc (.cells #[.int .i64 s, .slice A n cp] 85)) = w1 := ⟨_, rfl⟩
  have hb1 : Below w.heap.size w w1 := by rw [← hw1]; exact (Below.refl _ _).alloc (Nat.le_refl _) _
  have k1 : Kt.Blk w1 w.heap.size 85 #[.int .i64 s, .slice A n cp] := by rw [← hw1]; exact Kt.Blk.new w _ _
  have x10 : w1.cell? ⟨w.heap.size, 0, none⟩ = some (.int .i64 s) := k1.cell 0
  have x11 : w1.cell? ⟨w.heap.size, 1, none⟩ = some (.slice A n cp) := k1.cell 1
  go_enter Try.func63, Try.ntmps63
  by_cases h1 : n = 1
  · have d1 : ((n : Int) == 1) = true := by simp [h1]
    obtain ⟨b, o, rfl, hb, hc⟩ := hi (by omega)
    obtain ⟨x, rfl⟩ : ∃ x, l = [x] := List.length_eq_one_iff.1 (by omega)
    obtain ⟨c0, c1⟩ := hc 0 (by simp)
    rw [Nat.zero_mul, Nat.add_zero] at c0 c1
    replace c0 : w1.cell? ⟨b, o, none⟩ = some (.int .u16 x.cls) := (hb1.cell (p := ⟨b, o, none⟩) hb).trans c0
    replace c1 : w1.cell? ⟨b, o + 1, none⟩ = some (.int .i64 x.sym) := (hb1.cell (p := ⟨b, o + 1, none⟩) hb).trans c1
    obtain ⟨xc, xs⟩ := x
    replace c0 : w1.cell? ⟨b, o, none⟩ = some (.int .u16 xc) := c0
    replace c1 : w1.cell? ⟨b, o + 1, none⟩ = some (.int .i64 xs) := c1
    have HN : Hid (0 < n) := Lib.hid (by omega)
    have hn0 : 0 < n := HN.out
    clear hc hl hi k1 h1
    by_cases hx : xc = 0
    · have dx : (xc == 0) = true := by simp [hx]
      have E : Hid (Gr.unitI ⟨s, [⟨xc, xs⟩]⟩ = xs) := Lib.hid (by unfold Gr.unitI; rw [Gr.unit_one s ⟨xc, xs⟩ hx])
      clear hx
      go_wp2_with fail
      go_ret
      exact ⟨by rw [E.out]; rfl, hb1⟩
    · have dx : (xc == 0) = false := by simp [hx]
      have E : Hid (Gr.unitI ⟨s, [⟨xc, xs⟩]⟩ = -1) := Lib.hid (by unfold Gr.unitI; rw [Gr.unit_cls s ⟨xc, xs⟩ hx])
      clear hx
      go_wp2_with fail
      go_ret
      exact ⟨by rw [E.out]; rfl, hb1⟩
  · have d1 : ((n : Int) == 1) = false := by simp; omega
    have E : Hid (Gr.unitI ⟨s, l⟩ = -1) := Lib.hid (by unfold Gr.unitI; rw [Gr.unit_long s l (by rw [HL.out]; exact h1)])
    clear h1 hl hi k1
    go_wp2_with fail
    go_ret
    exact ⟨by rw [E.out]; rfl, hb1⟩
theorem refSymbol_any (s : Int) (w : World) : Calls Try.prog 44 #[.int .i64 s] w fun e w' => e = .returned (.bool (Gr.symOk s)) ∧ w = w' := by
  by_cases h0 : 0 ≤ s
  · by_cases h1 : s ≤ 63
    · have E : Hid (Gr.symOk s = true) := Lib.hid (decide_eq_true ⟨h0, by omega⟩)
      go_enter Try.func44, Try.ntmps44
      go_wp2
      go_ret
      exact ⟨Kt.ret_bool E.out.symm, rfl⟩
    · have E : Hid (Gr.symOk s = false) := Lib.hid (decide_eq_false (by omega))
      go_enter Try.func44, Try.ntmps44
      go_wp2
      go_ret
      exact ⟨Kt.ret_bool E.out.symm, rfl⟩
  · have E : Hid (Gr.symOk s = false) := Lib.hid (decide_eq_false (by omega))
    go_enter Try.func44, Try.ntmps44
    go_wp2
    go_ret
    exact ⟨Kt.ret_bool E.out.symm, rfl⟩
end Go.Proofs.Ytkclifdbdnigaaa
end
