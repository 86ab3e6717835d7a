/- Joined: IsB, IsC. -/
import Derived.Test.YtkclifdbdnigaaaMg03
import Derived.Test.YtkclifdbdnigaaaMa11
import Derived.Test.YtkclifdbdnigaaaMg01
import Derived.Deep.RegionLaw
import Derived.Deep.RegionWith
import Derived.Deep.DeepCutAuto
import Derived.StillTailTactics
section
/- What isTree answers: the walk. -/
namespace Kt
open Go Go.RowKit
/-- A slice of trees in memory (their numbers are whole numbers). -/
def LVI (W : World) (l : List Gr.TrI) (v : Value) : Prop :=
  ∃ (A : Option Addr) (c b off : Nat) (vs : Nat → Value), v = .slice A l.length c ∧ (0 < l.length → A = some ⟨b, off, none⟩ ∧ b < W.heap.size) ∧ l.length ≤ c ∧ l.length ≤ 4611686018427387904 ∧
    (∀ k, k < l.length → ∀ q, q < 4 → W.cell? ⟨b, off + k * 4 + q, none⟩ = (vs k).cells[q]?) ∧ ∀ k, k < l.length → TVI W (l.getD k noTrI) (vs k)
theorem LVI.on {W W' : World} {l : List Gr.TrI} {v : Value} (h : LVI W l v) (hb : Below W.heap.size W W') : LVI W' l v := by
  obtain ⟨A, c, b, off, vs, e, hA, hle, h63, hc, ht⟩ := h
  refine ⟨A, c, b, off, vs, e, fun hp => ⟨(hA hp).1, Nat.lt_of_lt_of_le (hA hp).2 hb.size⟩, hle, h63, fun k hk q hq => ?_, fun k hk => (ht k hk).on hb⟩
  exact (hb.cell (p := ⟨b, off + k * 4 + q, none⟩) (hA (by omega)).2).trans (hc k hk q hq)
theorem TVI.form {W : World} {t : Gr.TrI} {v : Value} (h : TVI W t v) : ∃ (a0 a1 : Int) (A4 : Option Addr) (n4 c4 : Nat), v = .agg #[.int .i64 a0, .int .i64 a1, .int .i64 t.fin, .slice A4 n4 c4] := by
  cases h with
  | node _ _ _ _ A c b off vs hA hle h63 hc ht => exact ⟨_, _, _, _, _, rfl⟩
theorem TVI.parts {W : World} {r i j : Int} {l : List Gr.TrI} {v : Value} (h : TVI W (.node r i j l) v) : ∃ s, v = .agg #[.int .i64 r, .int .i64 i, .int .i64 j, s] ∧ LVI W l s := by
  cases h with
  | node _ _ _ _ A c b off vs hA hle h63 hc ht => exact ⟨_, rfl, A, c, b, off, vs, rfl, hA, hle, h63, hc, ht⟩
/-- The first tree of a slice, and the others. -/
theorem LVI.cons {W : World} {t : Gr.TrI} {ts : List Gr.TrI} {v : Value} (h : LVI W (t :: ts) v) : ∃ (c b off : Nat) (ve : Value), v = .slice (some ⟨b, off, none⟩) (ts.length + 1) c ∧ b < W.heap.size ∧ ts.length + 1 ≤ c ∧ ts.length + 1 ≤ 4611686018427387904 ∧
    (∀ q, q < 4 → W.cell? ⟨b, off + q, none⟩ = ve.cells[q]?) ∧ TVI W t ve ∧ LVI W ts (.slice (some ⟨b, off + 4, none⟩) ts.length (c - 1)) ∧ (c = 1 → ts = []) := by
  obtain ⟨A, c, b, off, vs, e, hA, hle, h63, hc, ht⟩ := h
  obtain ⟨rfl, hb⟩ := hA (by simp)
  rw [List.length_cons] at hle h63
  refine ⟨c, b, off, vs 0, e, hb, hle, h63, fun q hq => ?_, ht 0 (by simp), ⟨some ⟨b, off + 4, none⟩, c - 1, b, off + 4, fun k => vs (k + 1), rfl, fun _ => ⟨rfl, hb⟩, by omega, by omega, fun k hk q hq => ?_, fun k hk => ?_⟩, fun e => List.eq_nil_of_length_eq_zero (by omega)⟩
  · have := hc 0 (by simp) q hq
    rwa [Nat.zero_mul, Nat.add_zero] at this
  · have := hc (k + 1) (by simpa using hk) q hq
    rw [show off + 4 + k * 4 + q = off + (k + 1) * 4 + q from by omega]
    exact this
  · have := ht (k + 1) (by simpa using hk)
    rwa [List.getD_cons_succ] at this
end Kt
namespace Go.Proofs.Ytkclifdbdnigaaa
open Go Go.RowKit
/-- What isTree answers at a tree. -/
def IsTreeAt (g : List Gr.Rule) (tk : List Int) (f : Nat) (x : Gr.TrI) : Prop :=
  ∀ (A : Option Addr) (n cp : Nat) (T : Option Addr) (nt ct : Nat) (w : World) (v : Value) (s : Int) (i j : Nat), g.length = n → tk.length = nt → n ≤ 4611686018427387904 → nt ≤ 4611686018427387904 → i ≤ nt → j ≤ nt → Kt.Rules w w.heap.size A g → Kt.Ints w w.heap.size .u16 T tk → Kt.TVI w x v →
    Calls Try.prog 54 #[.slice A n cp, .slice T nt ct, v, .int .i64 s, .int .i64 (i : Int), .int .i64 (j : Int)] w fun e w' => e = .returned (.bool (Gr.isT g (hitf tk) f x s i j)) ∧ Below w.heap.size w w'
set_option maxRecDepth 100000 in
set_option maxHeartbeats 4000000 in
theorem isTree_step (g : List Gr.Rule) (tk : List Int) (f : Nat) (h8 : ∀ r, r < g.length → (Gr.rul g r).right.length ≤ 1000) (x : Gr.TrI) (hI : ∀ y : Gr.TrI, y.size < x.size → IsTreeAt g tk f y) : IsTreeAt g tk (f + 1) x := by
  intro A n cp T nt ct w v s i j hn hnt hn63 hnt63 hi hj hg ht hv
  obtain ⟨r, fr, t0, sub⟩ := x
  obtain ⟨v4, rfl, hl4⟩ := hv.parts
  have HI : Hid (∀ y ∈ sub, IsTreeAt g tk f y) := Lib.hid (fun y hy => hI y (Gr.size_mem hy r fr t0))
  have HL4 := Lib.hid hl4
  obtain ⟨A4, c4, b4, off4, vs4, rfl, _⟩ := hl4
  obtain ⟨ns, hns⟩ : ∃ m, Hid (sub.length = m) := ⟨_, Lib.hid rfl⟩
  rw [hns.out] at HL4 ⊢
  have HN := Lib.hid hn
  have HNT := Lib.hid hnt
  have HG := Lib.hid hg
  have HT := Lib.hid ht
  clear hI hn hnt ht hv
  obtain ⟨w1, hw1⟩ : ∃ w1, (w.alloc (.cells #[.int .i64 r, .int .i64 fr, .int .i64 t0, .slice A4 ns c4] 46)) = w1 := ⟨_, rfl⟩
  have hs1 : w1.heap.size = w.heap.size + 1 := by rw [← hw1]; simp
  have hb1 : Below w.heap.size w w1 := by rw [← hw1]; exact (Below.refl _ _).alloc (Nat.le_refl _) _
  have k1 : Kt.Blk w1 w.heap.size 46 #[.int .i64 r, .int .i64 fr, .int .i64 t0, .slice A4 ns c4] := by rw [← hw1]; exact Kt.Blk.new w _ _
  have x10 : w1.cell? ⟨w.heap.size, 0, none⟩ = some (.int .i64 r) := k1.cell 0
  have x11 : w1.cell? ⟨w.heap.size, 1, none⟩ = some (.int .i64 fr) := k1.cell 1
  have x12 : w1.cell? ⟨w.heap.size, 2, none⟩ = some (.int .i64 t0) := k1.cell 2
  have x13 : w1.cell? ⟨w.heap.size, 3, none⟩ = some (.slice A4 ns c4) := k1.cell 3
  have HB1 := Lib.hid hb1
  have hlt1 : w.heap.size < w1.heap.size := by omega
  have e0 : Gr.isT g (hitf tk) (f + 1) (.node r fr t0 sub) s i j = if r < 0 ∨ (g.length : Int) ≤ r ∨ (Gr.rul g r.toNat).left ≠ s ∨ fr ≠ i ∨ t0 ≠ j then false else Gr.isItems (hitf tk) (Gr.isT g (hitf tk) f) j (Gr.rul g r.toNat).right sub i := by rw [Gr.isT]
  have HE := Lib.hid e0
  obtain ⟨R, hR⟩ : ∃ R, Hid (Gr.isT g (hitf tk) (f + 1) (.node r fr t0 sub) s i j = R) := ⟨_, Lib.hid rfl⟩
  rw [hR.out] at HE ⊢
  clear k1 hb1 e0 hs1
  go_enter Try.func54, Try.ntmps54
  by_cases hr0 : r < 0
  · have d0 : decide (r < 0) = true := by simp [hr0]
    obtain rfl : R = false := by rw [HE.out, if_pos (.inl hr0)]
    go_wp2_with fail
    go_ret
    exact ⟨rfl, HB1.out⟩
  · have d0 : decide (r < 0) = false := by simp; omega
    by_cases hrn : (n : Int) ≤ r
    · have d1 : decide (r ≥ (n : Int)) = true := by simp [hrn]
      obtain rfl : R = false := by rw [HE.out, if_pos (.inr (.inl (by rw [HN.out]; exact hrn)))]
      go_wp2_with fail
      go_ret
      exact ⟨rfl, HB1.out⟩
    · obtain ⟨rn, rfl⟩ : ∃ rn : Nat, r = (rn : Int) := ⟨r.toNat, by omega⟩
      have d1 : decide (n ≤ rn) = false := by simp; omega
      have hrl : rn < n := by omega
      have hrg : rn < g.length := by rw [HN.out]; exact hrl
      obtain ⟨bA, oA, rfl, hbA, hcA⟩ := hg (by omega)
      obtain ⟨cl, A', c', cr, hlr, hit⟩ := hcA rn hrg
      obtain ⟨lf, hlf⟩ : ∃ lf, Hid ((Gr.rul g rn).left = lf) := ⟨_, Lib.hid rfl⟩
      obtain ⟨m, hm⟩ : ∃ m, Hid ((Gr.rul g rn).right.length = m) := ⟨_, Lib.hid rfl⟩
      have hm8 := h8 rn hrg
      rw [hlf.out] at cl
      rw [hm.out] at cr hlr hm8
      have HIT := Lib.hid hit
      have cl1 : w1.cell? ⟨bA, oA + rn * 2, none⟩ = some (.int .i64 lf) := (HB1.out.cell (p := ⟨bA, oA + rn * 2, none⟩) hbA).trans cl
      have cr1 : w1.cell? ⟨bA, oA + rn * 2 + 1, none⟩ = some (.slice A' m c') := (HB1.out.cell (p := ⟨bA, oA + rn * 2 + 1, none⟩) hbA).trans cr
      have HE2 : Hid (R = if lf ≠ s ∨ fr ≠ i ∨ t0 ≠ j then false else Gr.isItems (hitf tk) (Gr.isT g (hitf tk) f) j (Gr.rul g rn).right sub i) := Lib.hid (by
        rw [HE.out, show ((rn : Int)).toNat = rn from rfl, hlf.out]
        by_cases hc : lf ≠ s ∨ fr ≠ i ∨ t0 ≠ j
        · rw [if_pos (.inr (.inr hc)), if_pos hc]
        · rw [if_neg hc, if_neg (by rintro (h | h | h); exact hr0 h; exact hrn (by rw [← HN.out]; exact h); exact hc h)])
      clear hcA hit cl cr HE hr0 hrn hg
      by_cases hls : lf = s
      · have d2 : (lf != s) = false := by simp [hls]
        by_cases hfi : fr = (i : Int)
        · have d3 : (fr != (i : Int)) = false := by simp [hfi]
          by_cases htj : t0 = (j : Int)
          · have d4 : (t0 != (j : Int)) = false := by simp [htj]
            have HE3 : Hid (R = Gr.isItems (hitf tk) (Gr.isT g (hitf tk) f) j (Gr.rul g rn).right sub i) := Lib.hid (by rw [HE2.out, if_neg (by rintro (h | h | h); exact h hls; exact h hfi; exact h htj)])
            clear HE2
            subst hls hfi htj
            go_wp2_with fail
            go_quiet (fail)
            go_wp2_with fail
            have HIT1 : Hid (Kt.Items w1 w1.heap.size A' (Gr.rul g rn).right) := Lib.hid (HIT.out.on HB1.out)
            have HL1 := Lib.hid (HL4.out.on HB1.out)
            have HG1 : Hid (Kt.Rules w1 w1.heap.size (some ⟨bA, oA, none⟩) g) := Lib.hid (HG.out.on HB1.out)
            have HT1 : Hid (Kt.Ints w1 w1.heap.size .u16 T tk) := Lib.hid (HT.out.on HB1.out)
            clear HIT HL4 HT HG hw1 cl1 cr1 x10 x11 x12 x13 d0 d1 d2 d3 d4
            obtain ⟨L, hL⟩ : ∃ L, Hid ((Gr.rul g rn).right = L) := ⟨_, Lib.hid rfl⟩
            rw [hL.out] at HIT1 HE3 hm
            go_loopw [13, 14, 62] (fun u v s wr => ∃ (k p : Nat) (l : List Gr.TrI), k ≤ m ∧ p ≤ nt ∧ s = .int .i64 k ∧ u = .int .i64 p ∧ Hid (Kt.LVI wr l v) ∧ Hid (∀ y ∈ l, IsTreeAt g tk f y) ∧ Hid (R = Gr.isItems (hitf tk) (Gr.isT g (hitf tk) f) j (L.drop k) l p) ∧ Below w1.heap.size w1 wr) (fun _ _ s _ => m - (intOf s).toNat)
            case atStart => exact ⟨0, i, sub, Nat.zero_le _, hi, rfl, rfl, Lib.hid (HL1.out.on (Kt.below_of_drewN _ _)), HI, HE3, Kt.below_of_drewN _ _⟩
            case round =>
              obtain ⟨k, p, l, hk, hp, rfl, rfl, hl, hI, hE, hbl⟩ := hrel
              have hsl := hbl.size
              have hbw : Below w.heap.size w wr := HB1.out.trans (hbl.mono (by omega))
              by_cases hlt : k < m
              · have hkl : k < L.length := by rw [hm.out]; exact hlt
                obtain ⟨bI, oI, rfl, hbI, hcI⟩ := HIT1.out (by omega)
                obtain ⟨q0, q1⟩ := hcI k hkl
                obtain ⟨cx, hcx⟩ : ∃ cx, Hid ((Gr.itm L k).cls = cx) := ⟨_, Lib.hid rfl⟩
                obtain ⟨sx, hsx⟩ : ∃ sx, Hid ((Gr.itm L k).sym = sx) := ⟨_, Lib.hid rfl⟩
                rw [hcx.out] at q0
                rw [hsx.out] at q1
                have r0 : wr.cell? ⟨bI, oI + k * 2, none⟩ = some (.int .u16 cx) := (hbl.cell (p := ⟨bI, oI + k * 2, none⟩) hbI).trans q0
                have r1 : wr.cell? ⟨bI, oI + k * 2 + 1, none⟩ = some (.int .i64 sx) := (hbl.cell (p := ⟨bI, oI + k * 2 + 1, none⟩) hbI).trans q1
                have hdr : L.drop k = ⟨cx, sx⟩ :: L.drop (k + 1) := by
                  rw [List.drop_eq_getElem_cons hkl, ← hcx.out, ← hsx.out]
                  unfold Gr.itm
                  rw [List.getD_eq_getElem?_getD, List.getElem?_eq_getElem hkl]
                  rfl
                have hld : (L.drop (k + 1)).length = m - k - 1 := by rw [List.length_drop, hm.out]; omega
                have hE' := hE.out
                rw [hdr] at hE'
                have HE4 := Lib.hid hE'
                have hbl2 : Below w1.heap.size w1 (wr.alloc (.cells #[.int .u16 cx, .int .i64 sx] 40)) := hbl.alloc hsl _
                obtain ⟨w2, hw2⟩ : ∃ w2, wr.alloc (.cells #[.int .u16 cx, .int .i64 sx] 40) = w2 := ⟨_, rfl⟩
                have k2 : Kt.Blk w2 wr.heap.size 40 #[.int .u16 cx, .int .i64 sx] := by rw [← hw2]; exact Kt.Blk.new wr _ _
                have HL2 : Hid (Kt.LVI w2 l u14) := Lib.hid (by rw [← hw2]; exact hl.out.on ((Below.refl _ _).alloc (Nat.le_refl _) _))
                have y0 : w2.cell? ⟨wr.heap.size, 0, none⟩ = some (.int .u16 cx) := k2.cell 0
                have y1 : w2.cell? ⟨wr.heap.size, 1, none⟩ = some (.int .i64 sx) := k2.cell 1
                rw [hw2] at hbl2
                have hbw2 : Below w.heap.size w w2 := HB1.out.trans (hbl2.mono (by omega))
                have hs2 := hbl2.size
                clear hcI q0 q1 hE' hE hdr hl k2 hbI
                by_cases hjp : j ≤ p
                · have dj : decide (j ≤ p) = true := by simp [hjp]
                  obtain rfl : R = false := by rw [HE4.out]; exact Gr.isItems_late (by omega)
                  go_wp2_with fail
                  go_ret
                  exact ⟨rfl, hbw2⟩
                · have dj : decide (j ≤ p) = false := by simp; omega
                  by_cases hc0 : cx = 0
                  · have dc : (!(cx == 0)) = false := by simp [hc0]
                    have hm1 : IntKind.i64.wrap ((m : Int) - (k : Int)) = ((m - k : Nat) : Int) := by rw [IntWalk.i64_in _ (by omega)]; omega
                    have hm2 : IntKind.i64.wrap (((m - k : Nat) : Int) - 1) = ((m - k - 1 : Nat) : Int) := by rw [IntWalk.i64_in _ (by omega)]; omega
                    have hm3 : IntKind.i64.wrap ((j : Int) - ((m - k - 1 : Nat) : Int)) = (j : Int) - ((m - k - 1 : Nat) : Int) := IntWalk.i64_in _ (by omega)
                    cases l with
                    | nil =>
                      obtain rfl : R = false := by rw [HE4.out]; exact Gr.isItems_none (by omega) hc0
                      obtain ⟨A9, c9, _, _, _, rfl, _⟩ := HL2.out
                      subst hc0
                      go_wp2_with fail
                      go_ret
                      exact ⟨rfl, hbw2⟩
                    | cons t ts =>
                      have HE5 : Hid (R = if t.fin ≤ (p : Int) ∨ (j : Int) - ((m - k - 1 : Nat) : Int) < t.fin then false else Gr.isT g (hitf tk) f t sx p t.fin && Gr.isItems (hitf tk) (Gr.isT g (hitf tk) f) j (L.drop (k + 1)) ts t.fin) := Lib.hid (by
                        rw [HE4.out, Gr.isItems_sym (by omega) hc0, hld])
                      clear HE4
                      obtain ⟨cs, bs, os, ve, rfl, hbs, hcs, hs63, hcell, hte, htl, hc1⟩ := HL2.out.cons
                      obtain ⟨a0, a1, At, nt4, ct4, rfl⟩ := hte.form
                      obtain ⟨tt, htt⟩ : ∃ tt, Hid (t.fin = tt) := ⟨_, Lib.hid rfl⟩
                      rw [htt.out] at hcell hte HE5
                      have z0 : w2.cell? ⟨bs, os, none⟩ = some (.int .i64 a0) := hcell 0 (by omega)
                      have z1 : w2.cell? ⟨bs, os + 1, none⟩ = some (.int .i64 a1) := hcell 1 (by omega)
                      have z2 : w2.cell? ⟨bs, os + 2, none⟩ = some (.int .i64 tt) := hcell 2 (by omega)
                      have z3 : w2.cell? ⟨bs, os + 3, none⟩ = some (.slice At nt4 ct4) := hcell 3 (by omega)
                      have HTE := Lib.hid hte
                      have HTL := Lib.hid htl
                      obtain ⟨nl, hnl⟩ : ∃ nl, Hid (ts.length = nl) := ⟨_, Lib.hid rfl⟩
                      rw [hnl.out] at hcs hs63 HTL ⊢
                      have dn : ((nl : Int) + 1 == 0) = false := by simp; omega
                      clear hcell hte htl
                      by_cases hp1 : tt ≤ (p : Int)
                      · have dq : decide (tt ≤ (p : Int)) = true := by simp [hp1]
                        obtain rfl : R = false := by rw [HE5.out, if_pos (.inl hp1)]
                        subst hc0
                        clear hp1
                        go_wp2_with fail
                        go_ret
                        exact ⟨rfl, hbw2⟩
                      · have dq : decide (tt ≤ (p : Int)) = false := by simp; omega
                        by_cases hp2 : (j : Int) - ((m - k - 1 : Nat) : Int) < tt
                        · have dq2 : decide (tt > (j : Int) - ((m - k - 1 : Nat) : Int)) = true := by simp [hp2]
                          obtain rfl : R = false := by rw [HE5.out, if_pos (.inr hp2)]
                          subst hc0
                          clear hp1 hp2
                          go_wp2_with fail
                          go_ret
                          exact ⟨rfl, hbw2⟩
                        · have dq2 : decide (tt > (j : Int) - ((m - k - 1 : Nat) : Int)) = false := by simp; omega
                          obtain ⟨tn, rfl⟩ : ∃ tn : Nat, tt = (tn : Int) := ⟨tt.toNat, by omega⟩
                          have htn : p < tn ∧ tn ≤ j := by omega
                          have dq3 : decide (tn ≤ p) = false := by simp; omega
                          have HE6 : Hid (R = (Gr.isT g (hitf tk) f t sx p tn && Gr.isItems (hitf tk) (Gr.isT g (hitf tk) f) j (L.drop (k + 1)) ts tn)) := Lib.hid (by rw [HE5.out, if_neg (by omega)])
                          clear HE5 hp1 hp2
                          subst hc0
                          go_upto_region 16 with fail
                          go_still_tail 12, (by kernel_rfl)
                          change wpList _ _ _ _ _ w2.drew
                          have HD : Below w2.heap.size w2 w2.drew := (Below.refl _ _).drew
                          have HCALL := Lib.hid (hI.out t (by simp) (some ⟨bA, oA, none⟩) n cp T nt ct w2.drew _ sx p tn HN.out HNT.out hn63 hnt63 hp (by omega) ((HG1.out.on hbl2).on HD) ((HT1.out.on hbl2).on HD) (HTE.out.on HD))
                          go_wp2_with fail
                          refine HCALL.out.mono ?_
                          rintro e w3 ⟨rfl, hb3⟩
                          have hb23 : Below w2.heap.size w2 w3 := HD.trans hb3
                          have hbw3 : Below w.heap.size w w3 := hbw2.trans (hb23.mono hbw2.size)
                          have hbl3 : Below w1.heap.size w1 w3 := hbl2.trans (hb23.mono hs2)
                          obtain ⟨Q, hQ⟩ : ∃ Q, Hid (Gr.isT g (hitf tk) f t sx p tn = Q) := ⟨_, Lib.hid rfl⟩
                          rw [hQ.out] at HE6 ⊢
                          have z32 : w3.cell? ⟨bs, os + 2, none⟩ = some (.int .i64 (tn : Int)) := (hb23.cell (p := ⟨bs, os + 2, none⟩) hbs).trans z2
                          have HTL3 := Lib.hid (HTL.out.on hb23)
                          clear HCALL HD hb3
                          cases Q with
                          | false =>
                            obtain rfl : R = false := by rw [HE6.out]; rfl
                            go_wp2_with fail
                            go_ret
                            exact ⟨rfl, hbw3⟩
                          | true =>
                            have HE7 : Hid (R = Gr.isItems (hitf tk) (Gr.isT g (hitf tk) f) j (L.drop (k + 1)) ts tn) := Lib.hid (by rw [HE6.out]; rfl)
                            have HI2 : Hid (∀ y ∈ ts, IsTreeAt g tk f y) := Lib.hid (fun y hy => hI.out y (by simp [hy]))
                            clear HE6
                            by_cases hq : cs = 1
                            · obtain rfl := hc1 hq
                              subst hq
                              obtain rfl : nl = 0 := hnl.out.symm
                              go_wp2_with fail
                              go_quiet (fail)
                              go_wp2_with fail
                              go_roundw
                              case rel => exact ⟨k + 1, tn, [], by omega, by omega, by go_num, rfl, Lib.hid ⟨_, 0, 0, 0, fun _ => undef, rfl, fun h => by simp at h, Nat.le_refl _, by simp, fun k hk => by simp at hk, fun k hk => by simp at hk⟩, HI2, HE7, Kt.below_drewN hbl3 _⟩
                              case measure => simp [intOf]; omega
                            · have hq2 : ¬ cs - 1 = 0 := by omega
                              go_wp2_with fail
                              go_quiet (fail)
                              go_wp2_with fail
                              go_roundw
                              case rel => exact ⟨k + 1, tn, ts, by omega, by omega, by go_num, rfl, Lib.hid (HTL3.out.on (Kt.below_of_drewN _ _)), HI2, HE7, Kt.below_drewN hbl3 _⟩
                              case measure => simp [intOf]; omega
                  · have dc : (cx != 0) = true := by simp [hc0]
                    have HE5 : Hid (R = (hitf tk p cx && Gr.isItems (hitf tk) (Gr.isT g (hitf tk) f) j (L.drop (k + 1)) l ((p : Int) + 1))) := Lib.hid (by
                      rw [HE4.out, Gr.isItems_cls (by omega) hc0]
                      rfl)
                    clear HE4
                    obtain ⟨bT, oT, rfl, hbT, hcT⟩ := HT1.out (by rw [HNT.out]; omega)
                    obtain ⟨tv, htv⟩ : ∃ tv, Hid (Ls.nth tk p = tv) := ⟨_, Lib.hid rfl⟩
                    have z0 := (hbl2.cell (p := ⟨bT, oT + p, none⟩) hbT).trans (hcT p (by rw [HNT.out]; omega))
                    rw [htv.out] at z0
                    obtain ⟨av, hav⟩ : ∃ av, bits .and .u16 tv cx = av := ⟨_, rfl⟩
                    have hhit : hitf tk p cx = !(av == 0) := by unfold hitf; rw [htv.out, hav]
                    rw [hhit] at HE5
                    clear hhit hcT
                    by_cases ha0 : av = 0
                    · have da : (av == 0) = true := by simp [ha0]
                      obtain rfl : R = false := by rw [HE5.out, da]; rfl
                      clear ha0 hc0
                      go_wp2_with fail
                      go_quiet (fail)
                      go_wp2_with fail
                      go_ret
                      exact ⟨rfl, Kt.below_drewN hbw2 _⟩
                    · have da : (av == 0) = false := by simp [ha0]
                      have HE6 : Hid (R = Gr.isItems (hitf tk) (Gr.isT g (hitf tk) f) j (L.drop (k + 1)) l ((p + 1 : Nat) : Int)) := Lib.hid (by rw [HE5.out, da]; rfl)
                      clear ha0 hc0 HE5
                      have wp : IntKind.i64.wrap ((p : Int) + 1) = ((p + 1 : Nat) : Int) := by rw [IntWalk.i64_in _ (by omega)]; omega
                      go_wp2_with fail
                      go_quiet (fail)
                      go_wp2_with fail
                      go_roundw
                      case rel => exact ⟨k + 1, p + 1, l, by omega, by omega, by go_num, by first | rfl | go_num, Lib.hid (HL2.out.on (Kt.below_of_drewN _ _)), hI, HE6, Kt.below_drewN hbl2 _⟩
                      case measure => simp [intOf]; omega
              · obtain rfl : k = m := by omega
                have HE9 : Hid (R = (decide ((p : Int) = j) && l.isEmpty)) := Lib.hid (by
                  have := hE.out
                  rwa [List.drop_eq_nil_of_le (by rw [hm.out]; exact Nat.le_refl _), Gr.isItems] at this)
                obtain ⟨A9, c9, _, _, _, rfl, _⟩ := hl.out
                clear hE
                cases l with
                | nil =>
                  by_cases hpj : p = j
                  · have dp : ((p : Int) == (j : Int)) = true := by simp [hpj]
                    obtain rfl : R = true := by rw [HE9.out]; simp [hpj]
                    go_wp2_with fail
                    go_ret
                    exact ⟨rfl, hbw⟩
                  · have dp : ((p : Int) == (j : Int)) = false := by simp; omega
                    obtain rfl : R = false := by rw [HE9.out]; simp; omega
                    clear hpj
                    go_wp2_with fail
                    go_ret
                    exact ⟨rfl, hbw⟩
                | cons t ts =>
                  obtain rfl : R = false := by rw [HE9.out]; simp
                  obtain ⟨nl, hnl⟩ : ∃ nl, (t :: ts).length = nl + 1 := ⟨ts.length, rfl⟩
                  rw [hnl]
                  have dn : (((nl + 1 : Nat) : Int) == 0) = false := by simp; omega
                  by_cases hpj : p = j
                  · have dp : ((p : Int) == (j : Int)) = true := by simp [hpj]
                    go_wp2_with fail
                    go_ret
                    exact ⟨rfl, hbw⟩
                  · have dp : ((p : Int) == (j : Int)) = false := by simp; omega
                    clear hpj
                    go_wp2_with fail
                    go_ret
                    exact ⟨rfl, hbw⟩
          · have d4 : (t0 != (j : Int)) = true := by simp [htj]
            obtain rfl : R = false := by rw [HE2.out, if_pos (.inr (.inr htj))]
            clear htj
            subst hls hfi
            go_wp2_with fail
            go_ret
            exact ⟨rfl, HB1.out⟩
        · have d3 : (fr != (i : Int)) = true := by simp [hfi]
          obtain rfl : R = false := by rw [HE2.out, if_pos (.inr (.inl hfi))]
          clear hfi
          subst hls
          go_wp2_with fail
          go_ret
          exact ⟨rfl, HB1.out⟩
      · have d2 : (lf != s) = true := by simp [hls]
        obtain rfl : R = false := by rw [HE2.out, if_pos (.inl hls)]
        clear hls
        go_wp2_with fail
        go_ret
        exact ⟨rfl, HB1.out⟩
theorem isTree_any (g : List Gr.Rule) (tk : List Int) (h8 : ∀ r, r < g.length → (Gr.rul g r).right.length ≤ 1000) : ∀ (f : Nat) (x : Gr.TrI), x.size ≤ f → IsTreeAt g tk f x := by
  intro f
  induction f with
  | zero => intro x hx; obtain ⟨r, i, j, l⟩ := x; rw [Gr.TrI.size] at hx; omega
  | succ f ih => exact fun x hx => isTree_step g tk f h8 x fun y hy => ih y (by omega)
end Go.Proofs.Ytkclifdbdnigaaa
end
section
/- Right: whether a tree is a derivation. -/
namespace Gr
theorem isItems_up {hit : Nat → Int → Bool} {chk chk' : TrI → Int → Int → Int → Bool} (hc : ∀ x s a b, chk x s a b = true → chk' x s a b = true) (e : Int) : ∀ (l : List Item) (ts : List TrI) (i : Int), isItems hit chk e l ts i = true → isItems hit chk' e l ts i = true
  | [], ts, i, h => h
  | x :: l, ts, i, h => by
    by_cases h1 : e ≤ i
    · rw [isItems_late h1] at h; cases h
    · by_cases hx : x.cls = 0
      · cases ts with
        | nil => rw [isItems_none (by omega) hx] at h; cases h
        | cons t ts =>
          rw [isItems_sym (by omega) hx] at h ⊢
          by_cases h2 : t.fin ≤ i ∨ e - l.length < t.fin
          · rw [if_pos h2] at h; cases h
          · rw [if_neg h2] at h ⊢
            rw [Bool.and_eq_true] at h ⊢
            exact ⟨hc _ _ _ _ h.1, isItems_up hc e l ts _ h.2⟩
      · rw [isItems_cls (by omega) hx] at h ⊢
        rw [Bool.and_eq_true] at h ⊢
        exact ⟨h.1, isItems_up hc e l ts _ h.2⟩
theorem isT_up (g : List Rule) (hit : Nat → Int → Bool) : ∀ (f : Nat) (x : TrI) (s i j : Int), isT g hit f x s i j = true → isT g hit (f + 1) x s i j = true := by
  intro f
  induction f with
  | zero => intro x s i j h; cases h
  | succ f ih =>
    intro x s i j h
    obtain ⟨r, fr, t0, sub⟩ := x
    rw [isT] at h ⊢
    split at h
    · cases h
    · rename_i hn
      rw [if_neg hn]
      exact isItems_up ih j _ _ _ h
theorem isT_more (g : List Rule) (hit : Nat → Int → Bool) (f : Nat) (x : TrI) (s i j : Int) (h : isT g hit f x s i j = true) : ∀ k, isT g hit (f + k) x s i j = true
  | 0 => h
  | k + 1 => isT_up g hit (f + k) x s i j (isT_more g hit f x s i j h k)
end Gr
namespace Go.Proofs.Ytkclifdbdnigaaa
open Go Go.RowKit
set_option maxHeartbeats 1000000 in
theorem Right_any (g : List Gr.Rule) (tk : List Int) (A : Option Addr) (n cp : Nat) (T : Option Addr) (nt ct : Nat) (w : World) (x : Gr.TrI) (v : Value) (f : Nat) (hf : x.size ≤ f) (hl : g.length = n) (hn : n ≤ 4611686018427387904) (hnt : tk.length = nt) (hnt2 : nt ≤ 4611686018427387904)
    (hg : Kt.Rules w w.heap.size A g) (ht : Kt.Ints w w.heap.size .u16 T tk) (hv : Kt.TVI w x v) :
    Calls Try.prog 26 #[.slice A n cp, .slice T nt ct, v] w fun e w' => Below w.heap.size w w' ∧ ∃ c, Gr.KCode g nt c ∧ e = .returned (.bool (decide (c = 0) && Gr.isT g (hitf tk) f x 0 0 nt)) := by
  obtain ⟨a0, a1, A4, n4, c4, rfl⟩ := hv.form
  obtain ⟨a2, ha2⟩ : ∃ a2, Hid (x.fin = a2) := ⟨_, Lib.hid rfl⟩
  rw [ha2.out] at hv ⊢
  obtain ⟨w1, hw1⟩ : ∃ w1, (w.alloc (.cells #[.int .i64 a0, .int .i64 a1, .int .i64 a2, .slice A4 n4 c4] 46)) = w1 := ⟨_, rfl⟩
  have hb1 : Below w.heap.size w w1 := by rw [← hw1]; exact (Below.refl _ _).alloc (Nat.le_refl _) _
  have k1 : Kt.Blk w1 w.heap.size 46 #[.int .i64 a0, .int .i64 a1, .int .i64 a2, .slice A4 n4 c4] := by rw [← hw1]; exact Kt.Blk.new w _ _
  have HL := Lib.hid hl
  have HNT := Lib.hid hnt
  have HG := Lib.hid (hg.on hb1)
  have HT := Lib.hid (ht.on hb1)
  have HV := Lib.hid (hv.on hb1)
  have HF := Lib.hid hf
  have HK := Lib.hid k1
  clear hl hnt hg ht hv hf
  go_enter Try.func26, Try.ntmps26
  go_wp2_with fail
  refine (checked2_any g A n cp T nt ct w1 HL.out hn hnt2 HG.out).mono ?_
  rintro e w2 ⟨hb2, c, rfl, hc⟩
  have hb2' : Below w.heap.size w w2 := hb1.trans (hb2.mono hb1.size)
  have HC := Lib.hid hc
  by_cases hcz : c = 0
  · subst hcz
    have hG := (hc.good.1 rfl).1
    have k2 := HK.out.on hb2
    have x0 : w2.cell? ⟨w.heap.size, 0, none⟩ = some (.int .i64 a0) := k2.cell 0
    have x1 : w2.cell? ⟨w.heap.size, 1, none⟩ = some (.int .i64 a1) := k2.cell 1
    have x2 : w2.cell? ⟨w.heap.size, 2, none⟩ = some (.int .i64 a2) := k2.cell 2
    have x3 : w2.cell? ⟨w.heap.size, 3, none⟩ = some (.slice A4 n4 c4) := k2.cell 3
    have HI := Lib.hid (isTree_any g tk (fun r hr => Nat.le_trans (hG.ok r hr).parts.2.2.1 (by decide)) f x HF.out A n cp T nt ct w2 _ 0 0 nt HL.out HNT.out hn hnt2 (Nat.zero_le _) (Nat.le_refl _) (HG.out.on hb2) (HT.out.on hb2) (HV.out.on hb2))
    clear hc hG k2 k1 hw1
    go_wp2_with fail
    refine HI.out.mono ?_
    rintro e w3 ⟨rfl, hb3⟩
    go_wp2_with fail
    go_ret
    exact ⟨hb2'.trans (hb3.mono hb2'.size), 0, HC.out, rfl⟩
  · have heb : (c == 0) = false := by simp [hcz]
    have HCZ := Lib.hid hcz
    clear hcz hc k1 hw1
    go_wp2_with fail
    go_ret
    exact ⟨hb2', c, HC.out, by rw [decide_eq_false HCZ.out]; rfl⟩
/-- A derivation passes. -/
theorem Right_yes (g : List Gr.Rule) (tk : List Int) (A : Option Addr) (n cp : Nat) (T : Option Addr) (nt ct : Nat) (w : World) (x : Gr.TrI) (v : Value) (hl : g.length = n) (hn : n ≤ 4611686018427387904) (hnt : tk.length = nt) (hnt2 : nt ≤ 40) (hG : Gr.Good g) (F : Nat) (hx : Gr.isT g (hitf tk) F x 0 0 nt = true)
    (hg : Kt.Rules w w.heap.size A g) (ht : Kt.Ints w w.heap.size .u16 T tk) (hv : Kt.TVI w x v) :
    Calls Try.prog 26 #[.slice A n cp, .slice T nt ct, v] w fun e w' => e = .returned (.bool true) ∧ Below w.heap.size w w' := by
  refine (Right_any g tk A n cp T nt ct w x v (F + x.size) (by omega) hl hn hnt (by omega) hg ht hv).mono ?_
  rintro e w' ⟨hb, c, hc, rfl⟩
  obtain rfl : c = 0 := hc.good.2 ⟨hG, hnt2⟩
  rw [Gr.isT_more g (hitf tk) F x 0 0 nt hx]
  exact ⟨rfl, hb⟩
end Go.Proofs.Ytkclifdbdnigaaa
end
