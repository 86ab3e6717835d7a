/- Joined: OrA, SeM, SeL. -/
import Derived.Test.YtkclifdbdnigaaaMg01
import Derived.Test.YtkclifdbdnigaaaMa19
import Derived.StillTailTactics
import Derived.Deep.RegionWith
import Derived.Deep.DeepCutAuto
import Derived.Laws.AppendOwnNone
import Derived.Deep.RegionLaw
section
/- order: the walk. -/
namespace Gr
theorem parts_sym {α : Type} {hit : Nat → Int → Bool} {t : Int → Nat → Nat → List α} {x : Item} {l : List Item} {i j : Nat} {y : List α} (hx : x.cls = 0) (h : y ∈ parts hit t (x :: l) i j) : ∃ a rest m, y = a :: rest ∧ i < m ∧ m ≤ j ∧ a ∈ t x.sym i m ∧ rest ∈ parts hit t l m j := by
  rw [parts, if_pos hx] at h
  obtain ⟨m, hm, h⟩ := List.mem_flatMap.1 h
  obtain ⟨a, ha, h⟩ := List.mem_flatMap.1 h
  obtain ⟨rest, hr, rfl⟩ := List.mem_map.1 h
  rw [List.mem_range'_1] at hm
  exact ⟨a, rest, m, rfl, by omega, by omega, ha, hr⟩
theorem parts_cls {α : Type} {hit : Nat → Int → Bool} {t : Int → Nat → Nat → List α} {x : Item} {l : List Item} {i j : Nat} {y : List α} (hx : x.cls ≠ 0) (h : y ∈ parts hit t (x :: l) i j) : y ∈ parts hit t l (i + 1) j := by
  rw [parts, if_neg hx] at h
  split at h
  · exact h
  · cases h
theorem drop_cons {l : List Tr} {q : Nat} {a : Tr} {rest : List Tr} (h : l.drop q = a :: rest) : q < l.length ∧ l.getD q Kt.noTr = a ∧ l.drop (q + 1) = rest := by
  have hq : q < l.length := by
    by_cases h2 : q < l.length
    · exact h2
    · rw [List.drop_eq_nil_of_le (by omega)] at h; cases h
  have h2 := List.drop_eq_getElem_cons hq
  rw [h] at h2
  injection h2 with h3 h4
  exact ⟨hq, by rw [List.getD_eq_getElem?_getD, List.getElem?_eq_getElem hq]; exact h3.symm, h4.symm⟩
end Gr
namespace Go.Proofs.Ytkclifdbdnigaaa
open Go Go.RowKit
theorem LVat {w : World} {M : Nat → Prop} {l : List Gr.Tr} {A : Option Addr} {n c q : Nat} (h : Kt.LV w M l (.slice A n c)) (hq : q < l.length) : ∃ (b off : Nat) (ve : Value), A = some ⟨b, off, none⟩ ∧ b < w.heap.size ∧ (∀ z, z < 4 → w.cell? ⟨b, off + q * 4 + z, none⟩ = ve.cells[z]?) ∧ Kt.TV w M (l.getD q Kt.noTr) ve := by
  obtain ⟨A', c', b, off, vs, e, hA, hle, h63, hc, ht⟩ := h
  injection e with e1 e2 e3
  subst e1
  obtain ⟨e4, _, hb⟩ := hA (by omega)
  exact ⟨b, off, vs q, e4, hb, hc q hq, ht q hq⟩
theorem TVform {w : World} {M : Nat → Prop} {t : Gr.Tr} {v : Value} (h : Kt.TV w M t v) : ∃ (a0 a1 : Int) (A4 : Option Addr) (n4 c4 : Nat), v = .agg #[.int .i64 a0, .int .i64 a1, .int .i64 (t.tend : Int), .slice A4 n4 c4] := by
  cases h with
  | node r i j l A c b off vs hA hle h63 hc ht => exact ⟨_, _, _, _, _, rfl⟩
/-- What order answers at two derivations. -/
def OrderAt (g : List Gr.Rule) (hit : Nat → Int → Bool) (f : Nat) : Prop :=
  ∀ (a b : Gr.Tr) (s s' : Int) (i j i' j' : Nat), a ∈ Gr.T g hit f s i j → b ∈ Gr.T g hit f s' i' j' → j ≤ 1000 → j' ≤ 1000 → ∀ (A : Option Addr) (n cp : Nat) (w : World) (va vb : Value) (Ma Mb : Nat → Prop), g.length = n → n ≤ 1000 → Kt.Rules w w.heap.size A g → Kt.TV w Ma a va → Kt.TV w Mb b vb →
    Calls Try.prog 31 #[.slice A n cp, va, vb] w fun e w' => e = .returned (.int .i64 (Gr.ordT g f a b)) ∧ Below w.heap.size w w'
set_option maxRecDepth 100000 in
set_option maxHeartbeats 4000000 in
theorem order_step (g : List Gr.Rule) (hit : Nat → Int → Bool) (f : Nat) (h8 : ∀ r, r < g.length → (Gr.rul g r).right.length ≤ 1000) (IH : OrderAt g hit f) : OrderAt g hit (f + 1) := by
  intro a b s s' i0 j i0' j' ha hb hj hj' A n cp w va vb Ma Mb hn hn1 hg hva hvb
  rw [Gr.T] at ha hb
  obtain ⟨r, hr, ha⟩ := List.mem_flatMap.1 ha
  obtain ⟨ya, hya, rfl⟩ := List.mem_map.1 ha
  obtain ⟨r', hr', hb⟩ := List.mem_flatMap.1 hb
  obtain ⟨yb, hyb, rfl⟩ := List.mem_map.1 hb
  have hrg := (Gr.mem_rulesOf.1 hr).1
  have hrg' := (Gr.mem_rulesOf.1 hr').1
  rw [hn] at hrg hrg'
  obtain ⟨sa, rfl, hla⟩ := hva.parts
  obtain ⟨sb, rfl, hlb⟩ := hvb.parts
  obtain ⟨Aa, ca, ba, oa, vsa, rfl, _, _, h63a, _, _⟩ := id hla
  obtain ⟨Ab, cb, bb, ob, vsb, rfl, _, _, h63b, _, _⟩ := id hlb
  obtain ⟨na, hna⟩ : ∃ m, Hid (ya.length = m) := ⟨_, Lib.hid rfl⟩
  obtain ⟨nb, hnb⟩ : ∃ m, Hid (yb.length = m) := ⟨_, Lib.hid rfl⟩
  rw [hna.out] at hla h63a ⊢
  rw [hnb.out] at hlb h63b ⊢
  have HLA := Lib.hid hla
  have HLB := Lib.hid hlb
  have HI := Lib.hid IH
  have HN := Lib.hid hn
  have HG := Lib.hid hg
  have HYA := Lib.hid hya
  have HYB := Lib.hid hyb
  have H8 := Lib.hid h8
  obtain ⟨w1, hw1⟩ : ∃ w1, ((w.alloc (.cells #[.int .i64 (r : Int), .int .i64 (i0 : Int), .int .i64 (j : Int), .slice Aa na ca] 46)).alloc (.cells #[.int .i64 (r' : Int), .int .i64 (i0' : Int), .int .i64 (j' : Int), .slice Ab nb cb] 46)) = w1 := ⟨_, rfl⟩
  have hs1 : w1.heap.size = w.heap.size + 2 := by rw [← hw1]; simp
  have hb1 : Below w.heap.size w w1 := by rw [← hw1]; exact ((Below.refl _ _).alloc (Nat.le_refl _) _).alloc (by simp) _
  have k1 : Kt.Blk w1 w.heap.size 46 #[.int .i64 (r : Int), .int .i64 (i0 : Int), .int .i64 (j : Int), .slice Aa na ca] := by rw [← hw1]; exact (Kt.Blk.new w _ _).alloc _
  have k2 : Kt.Blk w1 (w.heap.size + 1) 46 #[.int .i64 (r' : Int), .int .i64 (i0' : Int), .int .i64 (j' : Int), .slice Ab nb cb] := by rw [← hw1]; exact Kt.Blk.new' _ _ _ _ (by simp)
  have HK1 := Lib.hid k1
  have HK2 := Lib.hid k2
  have HB1 := Lib.hid hb1
  have x10 : w1.cell? ⟨w.heap.size, 0, none⟩ = some (.int .i64 (r : Int)) := k1.cell 0
  have x20 : w1.cell? ⟨w.heap.size + 1, 0, none⟩ = some (.int .i64 (r' : Int)) := k2.cell 0
  have hlt1 : w.heap.size + 1 < w1.heap.size := by omega
  clear IH hn hg hya hyb hva hvb hla hlb ha hb hr hr' k1 k2 hb1 hs1 h8
  go_enter Try.func31, Try.ntmps31
  by_cases hrr : r = r'
  · subst hrr
    have dr : ((r : Int) != (r : Int)) = false := by simp
    obtain ⟨bA, oA, rfl, hbA, hcA⟩ := HG.out (by rw [HN.out]; omega)
    obtain ⟨_, A', c', cr, hlr, hit2⟩ := hcA r (by rw [HN.out]; exact hrg)
    obtain ⟨m, hm⟩ : ∃ m, Hid ((Gr.rul g r).right.length = m) := ⟨_, Lib.hid rfl⟩
    have hm8 := H8.out r (by rw [HN.out]; exact hrg)
    rw [hm.out] at cr hlr hm8
    have cr1 : w1.cell? ⟨bA, oA + r * 2 + 1, none⟩ = some (.slice A' m c') := (HB1.out.cell (p := ⟨bA, oA + r * 2 + 1, none⟩) hbA).trans cr
    have HIT := Lib.hid (hit2.on HB1.out)
    have HR : Hid (Gr.ordT g (f + 1) (.node r i0 j ya) (.node r i0' j' yb) = Gr.ordI (Gr.ordT g f) (Gr.rul g r).right ya yb) := Lib.hid (by rw [Gr.ordT, if_neg (by simp)])
    obtain ⟨R, hR⟩ : ∃ R, Hid (Gr.ordT g (f + 1) (.node r i0 j ya) (.node r i0' j' yb) = R) := ⟨_, Lib.hid rfl⟩
    rw [hR.out] at HR ⊢
    obtain ⟨L, hL⟩ : ∃ L, Hid ((Gr.rul g r).right = L) := ⟨_, Lib.hid rfl⟩
    rw [hL.out] at HR hm HIT HYA HYB
    clear hcA hit2 cr
    go_wp2_with fail
    clear hw1 x10 x20 cr1 dr
    go_loopw [7, 28] (fun u v wr => ∃ (k q m1 m2 : Nat), k ≤ m ∧ u = .int .i64 q ∧ v = .int .i64 k ∧ Hid (ya.drop q ∈ Gr.parts hit (Gr.T g hit f) (L.drop k) m1 j) ∧ Hid (yb.drop q ∈ Gr.parts hit (Gr.T g hit f) (L.drop k) m2 j') ∧ Hid (R = Gr.ordI (Gr.ordT g f) (L.drop k) (ya.drop q) (yb.drop q)) ∧ Below w1.heap.size w1 wr) (fun _ v _ => m - (intOf v).toNat)
    case atStart => exact ⟨0, 0, _, _, Nat.zero_le _, rfl, rfl, HYA, HYB, HR, Below.refl _ _⟩
    case round =>
      obtain ⟨k, q, m1, m2, hk, rfl, rfl, hpa, hpb, hE, hbl⟩ := hrel
      have hsl := hbl.size
      have hbw : Below w.heap.size w wr := HB1.out.trans (hbl.mono (by omega))
      by_cases hlt : k < m
      · have hkl : k < L.length := by rw [hm.out]; exact hlt
        obtain ⟨bI, oI, rfl, hbI, hcI⟩ := HIT.out (by rw [hm.out]; omega)
        obtain ⟨q0, q1⟩ := hcI k hkl
        obtain ⟨cx, hcx⟩ : ∃ cx, Hid ((Gr.itm L k).cls = cx) := ⟨_, Lib.hid rfl⟩
        obtain ⟨sx, hsx⟩ : ∃ sx, Hid ((Gr.itm L k).sym = sx) := ⟨_, Lib.hid rfl⟩
        rw [hcx.out] at q0
        rw [hsx.out] at q1
        have r0 : wr.cell? ⟨bI, oI + k * 2, none⟩ = some (.int .u16 cx) := (hbl.cell (p := ⟨bI, oI + k * 2, none⟩) hbI).trans q0
        have r1 : wr.cell? ⟨bI, oI + k * 2 + 1, none⟩ = some (.int .i64 sx) := (hbl.cell (p := ⟨bI, oI + k * 2 + 1, none⟩) hbI).trans q1
        have hdr : L.drop k = ⟨cx, sx⟩ :: L.drop (k + 1) := by
          rw [List.drop_eq_getElem_cons hkl, ← hcx.out, ← hsx.out]
          unfold Gr.itm
          rw [List.getD_eq_getElem?_getD, List.getElem?_eq_getElem hkl]
          rfl
        rw [hdr] at hpa hpb hE
        have hbl2 : Below w1.heap.size w1 (wr.alloc (.cells #[.int .u16 cx, .int .i64 sx] 40)) := hbl.alloc hsl _
        obtain ⟨w2, hw2⟩ : ∃ w2, wr.alloc (.cells #[.int .u16 cx, .int .i64 sx] 40) = w2 := ⟨_, rfl⟩
        have k2 : Kt.Blk w2 wr.heap.size 40 #[.int .u16 cx, .int .i64 sx] := by rw [← hw2]; exact Kt.Blk.new wr _ _
        rw [hw2] at hbl2
        have y0 : w2.cell? ⟨wr.heap.size, 0, none⟩ = some (.int .u16 cx) := k2.cell 0
        have hbw2 : Below w.heap.size w w2 := HB1.out.trans (hbl2.mono (by omega))
        have hs2 := hbl2.size
        have HW2 := Lib.hid hw2
        clear hcI q0 q1 hdr k2 hw2
        by_cases hc0 : cx = 0
        · obtain ⟨a', resta, ma, ea, hma, hma2, ha', hra⟩ := Gr.parts_sym hc0 hpa.out
          obtain ⟨b', restb, mb, eb, hmb, hmb2, hb', hrb⟩ := Gr.parts_sym hc0 hpb.out
          obtain ⟨hqa, hga, hda⟩ := Gr.drop_cons ea
          obtain ⟨hqb, hgb, hdb⟩ := Gr.drop_cons eb
          have hE' := hE.out
          rw [ea, eb, Gr.ordI_sym hc0, ← hda, ← hdb] at hE'
          have hta := Gr.T_tend f _ _ _ _ ha'
          have htb := Gr.T_tend f _ _ _ _ hb'
          rw [hta, htb] at hE'
          rw [← hda] at hra
          rw [← hdb] at hrb
          obtain ⟨bsa, osa, vea, rfl, hbsa, hcela, htva⟩ := LVat HLA.out hqa
          obtain ⟨bsb, osb, veb, rfl, hbsb, hcelb, htvb⟩ := LVat HLB.out hqb
          rw [hga] at htva
          rw [hgb] at htvb
          obtain ⟨a0, a1, At, nt4, ct4, rfl⟩ := TVform htva
          obtain ⟨b0, b1, Bt, bt4, dt4, rfl⟩ := TVform htvb
          rw [hta] at hcela htva
          rw [htb] at hcelb htvb
          rw [hna.out] at hqa
          rw [hnb.out] at hqb
          have hx3 : w2.cell? ⟨w.heap.size, 3, none⟩ = some (.slice (some ⟨bsa, osa, none⟩) na ca) := (HK1.out.below hbl2 (by omega)).cell 3
          have hx4 : w2.cell? ⟨w.heap.size + 1, 3, none⟩ = some (.slice (some ⟨bsb, osb, none⟩) nb cb) := (HK2.out.below hbl2 (by omega)).cell 3
          have za0 : w2.cell? ⟨bsa, osa + q * 4, none⟩ = some (.int .i64 a0) := (hbw2.cell (p := ⟨bsa, osa + q * 4, none⟩) hbsa).trans (hcela 0 (by omega))
          have za1 : w2.cell? ⟨bsa, osa + q * 4 + 1, none⟩ = some (.int .i64 a1) := (hbw2.cell (p := ⟨bsa, osa + q * 4 + 1, none⟩) hbsa).trans (hcela 1 (by omega))
          have za2 : w2.cell? ⟨bsa, osa + q * 4 + 2, none⟩ = some (.int .i64 (ma : Int)) := (hbw2.cell (p := ⟨bsa, osa + q * 4 + 2, none⟩) hbsa).trans (hcela 2 (by omega))
          have za3 : w2.cell? ⟨bsa, osa + q * 4 + 3, none⟩ = some (.slice At nt4 ct4) := (hbw2.cell (p := ⟨bsa, osa + q * 4 + 3, none⟩) hbsa).trans (hcela 3 (by omega))
          have zb0 : w2.cell? ⟨bsb, osb + q * 4, none⟩ = some (.int .i64 b0) := (hbw2.cell (p := ⟨bsb, osb + q * 4, none⟩) hbsb).trans (hcelb 0 (by omega))
          have zb1 : w2.cell? ⟨bsb, osb + q * 4 + 1, none⟩ = some (.int .i64 b1) := (hbw2.cell (p := ⟨bsb, osb + q * 4 + 1, none⟩) hbsb).trans (hcelb 1 (by omega))
          have zb2 : w2.cell? ⟨bsb, osb + q * 4 + 2, none⟩ = some (.int .i64 (mb : Int)) := (hbw2.cell (p := ⟨bsb, osb + q * 4 + 2, none⟩) hbsb).trans (hcelb 2 (by omega))
          have zb3 : w2.cell? ⟨bsb, osb + q * 4 + 3, none⟩ = some (.slice Bt bt4 dt4) := (hbw2.cell (p := ⟨bsb, osb + q * 4 + 3, none⟩) hbsb).trans (hcelb 3 (by omega))
          have HTA : Hid (Kt.TV w2 Ma a' (.agg #[.int .i64 a0, .int .i64 a1, .int .i64 (ma : Int), .slice At nt4 ct4])) := Lib.hid (htva.keep fun p hp _ => hbw2.block p hp)
          have HTB : Hid (Kt.TV w2 Mb b' (.agg #[.int .i64 b0, .int .i64 b1, .int .i64 (mb : Int), .slice Bt bt4 dt4])) := Lib.hid (htvb.keep fun p hp _ => hbw2.block p hp)
          have HA' := Lib.hid ha'
          have HB' := Lib.hid hb'
          have HRA := Lib.hid hra
          have HRB := Lib.hid hrb
          have HE' := Lib.hid hE'
          have hw2 := HW2.out
          clear HW2
          subst hc0
          clear hpa hpb hE ea eb hga hgb hda hdb hta htb hcela hcelb htva htvb ha' hb' hra hrb hE'
          by_cases hmm : ma = mb
          · have dm : ((ma : Int) != (mb : Int)) = false := by simp [hmm]
            have HE3 : Hid (R = if Gr.ordT g f a' b' ≠ 0 then Gr.ordT g f a' b' else Gr.ordI (Gr.ordT g f) (L.drop (k + 1)) (ya.drop (q + 1)) (yb.drop (q + 1))) := Lib.hid (by rw [HE'.out, if_neg (by simp [hmm])])
            clear HE'
            subst hmm
            have wq : IntKind.i64.wrap ((q : Int) + 1) = ((q + 1 : Nat) : Int) := by rw [IntWalk.i64_in _ (by omega)]; omega
            go_wp2_with fail
            go_quiet (fail)
            go_upto_region 10 with fail
            obtain ⟨w4, hw4⟩ : ∃ w4, w2.drewN nq = w4 := ⟨_, rfl⟩
            have hb24 : Below w2.heap.size w2 w4 := by rw [← hw4]; exact Kt.below_of_drewN _ _
            rw [hw4]
            have lba : bsa < w2.heap.size := Nat.lt_of_lt_of_le hbsa hbw2.size
            have lbb : bsb < w2.heap.size := Nat.lt_of_lt_of_le hbsb hbw2.size
            replace hx3 := (hb24.cell (p := ⟨w.heap.size, 3, none⟩) (by show w.heap.size < w2.heap.size; omega)).trans hx3
            replace hx4 := (hb24.cell (p := ⟨w.heap.size + 1, 3, none⟩) (by show w.heap.size + 1 < w2.heap.size; omega)).trans hx4
            replace za0 := (hb24.cell (p := ⟨bsa, osa + q * 4, none⟩) lba).trans za0
            replace za1 := (hb24.cell (p := ⟨bsa, osa + q * 4 + 1, none⟩) lba).trans za1
            replace za2 := (hb24.cell (p := ⟨bsa, osa + q * 4 + 2, none⟩) lba).trans za2
            replace za3 := (hb24.cell (p := ⟨bsa, osa + q * 4 + 3, none⟩) lba).trans za3
            replace zb0 := (hb24.cell (p := ⟨bsb, osb + q * 4, none⟩) lbb).trans zb0
            replace zb1 := (hb24.cell (p := ⟨bsb, osb + q * 4 + 1, none⟩) lbb).trans zb1
            replace zb2 := (hb24.cell (p := ⟨bsb, osb + q * 4 + 2, none⟩) lbb).trans zb2
            replace zb3 := (hb24.cell (p := ⟨bsb, osb + q * 4 + 3, none⟩) lbb).trans zb3
            clear hw4
            go_still_tail 11, (by kernel_rfl)
            change wpList _ _ _ _ _ w4.drew
            have HD : Below w2.heap.size w2 w4.drew := hb24.drew
            have HCALL := Lib.hid (HI.out a' b' _ _ _ _ _ _ HA'.out HB'.out (by omega) (by omega) (some ⟨bA, oA, none⟩) n cp w4.drew _ _ Ma Mb HN.out hn1 ((HG.out.on hbw2).on HD) (HTA.out.keep fun p hp _ => HD.block p hp) (HTB.out.keep fun p hp _ => HD.block p hp))
            go_wp2_with fail
            refine HCALL.out.mono ?_
            rintro e w3 ⟨rfl, hb3⟩
            have hb23 : Below w2.heap.size w2 w3 := HD.trans (hb3.mono HD.size)
            have hbw3 : Below w.heap.size w w3 := hbw2.trans (hb23.mono hbw2.size)
            have hbl3 : Below w1.heap.size w1 w3 := hbl2.trans (hb23.mono hs2)
            obtain ⟨Q, hQ⟩ : ∃ Q, Hid (Gr.ordT g f a' b' = Q) := ⟨_, Lib.hid rfl⟩
            rw [hQ.out] at HE3 ⊢
            clear HCALL HD hb3
            by_cases hq0 : Q = 0
            · have dq : (Q != 0) = false := by simp [hq0]
              have HE4 : Hid (R = Gr.ordI (Gr.ordT g f) (L.drop (k + 1)) (ya.drop (q + 1)) (yb.drop (q + 1))) := Lib.hid (by rw [HE3.out, if_neg (by simp [hq0])])
              clear HE3 hq0
              go_wp2_with fail
              go_roundw
              case rel => exact ⟨k + 1, q + 1, _, _, by omega, by first | rfl | go_num, by go_num, HRA, HRB, HE4, hbl3⟩
              case measure => simp [intOf]; omega
            · have dq : (Q != 0) = true := by simp [hq0]
              obtain rfl : R = Q := by rw [HE3.out, if_pos hq0]
              clear hq0
              go_wp2_with fail
              go_ret
              exact ⟨rfl, hbw3⟩
          · have dm : ((ma : Int) != (mb : Int)) = true := by simp; omega
            have wq : IntKind.i64.wrap ((ma : Int) - (mb : Int)) = (ma : Int) - mb := IntWalk.i64_in _ (by omega)
            obtain rfl : R = (ma : Int) - mb := by rw [HE'.out, if_pos hmm]
            clear hmm
            go_wp2_with fail
            go_quiet (fail)
            go_wp2_with fail
            go_quiet (fail)
            go_wp2_with fail
            go_ret
            exact ⟨rfl, Kt.below_drewN (Kt.below_drewN hbw2 _) _⟩
        · have dc : (cx != 0) = true := by simp [hc0]
          have HPA := Lib.hid (Gr.parts_cls hc0 hpa.out)
          have HPB := Lib.hid (Gr.parts_cls hc0 hpb.out)
          have HE2 : Hid (R = Gr.ordI (Gr.ordT g f) (L.drop (k + 1)) (ya.drop q) (yb.drop q)) := Lib.hid (by rw [hE.out, Gr.ordI_cls hc0])
          clear hpa hpb hE hc0
          go_wp2_with fail
          rw [HW2.out]
          go_roundw
          case rel => exact ⟨k + 1, q, _, _, by omega, rfl, by go_num, HPA, HPB, HE2, hbl2⟩
          case measure => simp [intOf]; omega
      · obtain rfl : k = m := by omega
        have HE2 : Hid (R = 0) := Lib.hid (by
          have := hE.out
          rwa [List.drop_eq_nil_of_le (by rw [hm.out]; exact Nat.le_refl _), Gr.ordI] at this)
        obtain rfl := HE2.out
        clear hpa hpb hE
        go_wp2_with fail
        go_ret
        exact ⟨rfl, hbw⟩
  · have dr : ((r : Int) != (r' : Int)) = true := by simp; omega
    have HR : Hid (Gr.ordT g (f + 1) (.node r i0 j ya) (.node r' i0' j' yb) = (r : Int) - r') := Lib.hid (by rw [Gr.ordT, if_pos hrr])
    have wq : IntKind.i64.wrap ((r : Int) - (r' : Int)) = (r : Int) - r' := IntWalk.i64_in _ (by omega)
    rw [HR.out]
    clear hrr
    go_wp2_with fail
    go_ret
    exact ⟨rfl, HB1.out⟩
theorem order_any (g : List Gr.Rule) (hit : Nat → Int → Bool) (h8 : ∀ r, r < g.length → (Gr.rul g r).right.length ≤ 1000) : ∀ f, OrderAt g hit f := by
  intro f
  induction f with
  | zero => intro a b s s' i j i' j' ha; cases ha
  | succ f ih => exact order_step g hit f h8 ih
end Go.Proofs.Ytkclifdbdnigaaa
end
section
/- Leftmost derivations and trees: as many: the plain law. -/
namespace Gr
/-- In how many ways items derive: a sum over the ends of the first one. -/
def wc (hit : Nat → Int → Bool) (c : Int → Nat → Nat → Nat) : List Item → Nat → Nat → Nat
  | [], i, j => if i = j then 1 else 0
  | x :: l, i, j => if x.cls = 0 then ((List.range (j + 1)).map fun m => c x.sym i m * wc hit c l m j).sum else if i < j ∧ hit i x.cls = true then wc hit c l (i + 1) j else 0
section
variable {hit : Nat → Int → Bool} {c : Int → Nat → Nat → Nat}
theorem wc_short (hc : ∀ s a b, b ≤ a → c s a b = 0) : ∀ (l : List Item) (i j : Nat), j < i + l.length → wc hit c l i j = 0 := by
  intro l
  induction l with
  | nil => intro i j h; rw [wc, if_neg (by simp at h; omega)]
  | cons x l ih =>
    intro i j h
    simp only [List.length_cons] at h
    rw [wc]
    split
    · rw [List.sum_eq_zero_iff_forall_eq_nat]
      intro y hy
      obtain ⟨m, hm, rfl⟩ := List.mem_map.1 hy
      rw [List.mem_range] at hm
      by_cases h1 : m ≤ i
      · rw [hc _ _ _ h1, Nat.zero_mul]
      · rw [ih m j (by omega), Nat.mul_zero]
    · split
      · exact ih (i + 1) j (by omega)
      · rfl
theorem range_split (f : Nat → Nat) (i j : Nat) (h : ∀ m, m ≤ i → f m = 0) : ((List.range (j + 1)).map f).sum = ((List.range' (i + 1) (j - i)).map f).sum := by
  have h0 : ∀ n, n ≤ i → ((List.range (n + 1)).map f).sum = 0 := fun n hn => by
    rw [List.sum_eq_zero_iff_forall_eq_nat]
    intro y hy
    obtain ⟨m, hm, rfl⟩ := List.mem_map.1 hy
    rw [List.mem_range] at hm
    exact h m (by omega)
  by_cases hij : j ≤ i
  · rw [h0 j hij, show j - i = 0 from by omega]; rfl
  · obtain ⟨d, rfl⟩ : ∃ d, j = i + d := ⟨j - i, by omega⟩
    rw [show i + d - i = d from by omega]
    clear hij
    induction d with
    | zero => rw [Nat.add_zero, h0 i (Nat.le_refl _)]; rfl
    | succ d ih =>
      rw [show i + (d + 1) + 1 = (i + d + 1) + 1 from by omega, List.range_succ, List.map_append, List.sum_append, ih, List.range'_concat, List.map_append, List.sum_append]
      simp
      congr 1
      omega
theorem wc_parts {α : Type} (t : Int → Nat → Nat → List α) (ht : ∀ s a b, b ≤ a → t s a b = []) : ∀ (l : List Item) (i j : Nat), (parts hit t l i j).length = wc hit (fun s a b => (t s a b).length) l i j := by
  intro l
  induction l with
  | nil => intro i j; rw [len_nil, wc]
  | cons x l ih =>
    intro i j
    rw [wc]
    by_cases hx : x.cls = 0
    · rw [if_pos hx, len_sym hit t l i j hx]
      unfold upto
      rw [range_split _ i j (fun m hm => by rw [ht _ _ _ hm]; simp)]
      congr 1
      refine List.map_congr_left fun m _ => ?_
      rw [ih m j]
    · rw [if_neg hx]
      split
      · rename_i h
        rw [len_hit hit t hx h.1 h.2, ih]
      · rename_i h
        rw [parts, if_neg hx, if_neg h]; rfl
theorem sum_swap (f : Nat → Nat → Nat) (l : List Nat) : ∀ k : List Nat, (k.map fun a => (l.map fun b => f a b).sum).sum = (l.map fun b => (k.map fun a => f a b).sum).sum
  | [] => by simp [List.map_const', List.sum_replicate_nat]
  | a :: k => by
    rw [List.map_cons, List.sum_cons, sum_swap f l k]
    have : (l.map fun b => ((a :: k).map fun a => f a b).sum) = l.map fun b => f a b + (k.map fun a => f a b).sum := List.map_congr_left fun b _ => by rw [List.map_cons, List.sum_cons]
    rw [this]
    clear this
    induction l with
    | nil => rfl
    | cons b l ih => rw [List.map_cons, List.map_cons, List.map_cons, List.sum_cons, List.sum_cons, List.sum_cons]; omega
theorem map_mul_left (c : Nat) (q : Nat → Nat) : ∀ l : List Nat, (l.map fun a => c * q a).sum = c * (l.map q).sum
  | [] => rfl
  | a :: l => by rw [List.map_cons, List.map_cons, List.sum_cons, List.sum_cons, map_mul_left c q l, Nat.mul_add]
theorem map_mul_right (c : Nat) (q : Nat → Nat) (l : List Nat) : (l.map fun a => q a * c).sum = (l.map q).sum * c := by
  rw [Nat.mul_comm, ← map_mul_left c q l]
  congr 1
  exact List.map_congr_left fun a _ => Nat.mul_comm _ _
theorem sum_single (f : Nat → Nat) (i : Nat) : ∀ n, i < n → (∀ m, m ≠ i → f m = 0) → ((List.range n).map f).sum = f i
  | 0, h, _ => by omega
  | n + 1, h, h0 => by
    rw [List.range_succ, List.map_append, List.sum_append, List.map_singleton, List.sum_singleton]
    by_cases e : i = n
    · subst e
      have : ((List.range i).map f).sum = 0 := by
        rw [List.sum_eq_zero_iff_forall_eq_nat]
        intro y hy
        obtain ⟨m, hm, rfl⟩ := List.mem_map.1 hy
        rw [List.mem_range] at hm
        exact h0 m (by omega)
      rw [this, Nat.zero_add]
    · rw [sum_single f i n (by omega) h0, h0 n (fun e2 => e e2.symm)]; omega
theorem sum_zero (f : Nat → Nat) (n : Nat) (h : ∀ m, m < n → f m = 0) : ((List.range n).map f).sum = 0 := by
  rw [List.sum_eq_zero_iff_forall_eq_nat]
  intro y hy
  obtain ⟨m, hm, rfl⟩ := List.mem_map.1 hy
  rw [List.mem_range] at hm
  exact h m hm
/-- One list of items behind another. -/
theorem wc_append (hc : ∀ s a b, b ≤ a → c s a b = 0) : ∀ (a l : List Item) (i j : Nat), wc hit c (a ++ l) i j = ((List.range (j + 1)).map fun m => wc hit c a i m * wc hit c l m j).sum := by
  intro a l
  induction a with
  | nil =>
    intro i j
    rw [List.nil_append]
    by_cases hij : i ≤ j
    · rw [sum_single _ i (j + 1) (by omega) (fun m hm => by rw [wc, if_neg (fun e => hm e.symm), Nat.zero_mul]), wc, if_pos rfl, Nat.one_mul]
    · rw [sum_zero _ _ (fun m hm => by rw [wc, if_neg (by omega), Nat.zero_mul])]
      exact wc_short hc l i j (by omega)
  | cons x a ih =>
    intro i j
    rw [List.cons_append, wc]
    by_cases hx : x.cls = 0
    · rw [if_pos hx]
      have e1 : ((List.range (j + 1)).map fun m => c x.sym i m * wc hit c (a ++ l) m j) = (List.range (j + 1)).map fun m1 => ((List.range (j + 1)).map fun m => c x.sym i m1 * (wc hit c a m1 m * wc hit c l m j)).sum := List.map_congr_left fun m1 _ => by
        rw [map_mul_left, ih m1 j]
      rw [e1, sum_swap]
      congr 1
      refine List.map_congr_left fun m hm => ?_
      rw [List.mem_range] at hm
      rw [wc, if_pos hx]
      have e2 : ((List.range (j + 1)).map fun m1 => c x.sym i m1 * (wc hit c a m1 m * wc hit c l m j)) = (List.range (j + 1)).map fun m1 => (c x.sym i m1 * wc hit c a m1 m) * wc hit c l m j := List.map_congr_left fun m1 _ => by rw [Nat.mul_assoc]
      rw [e2, map_mul_right]
      congr 1
      obtain ⟨d, rfl⟩ : ∃ d, j = m + d := ⟨j - m, by omega⟩
      clear e1 e2 hm
      induction d with
      | zero => rfl
      | succ d ihd =>
        rw [show m + (d + 1) + 1 = (m + d + 1) + 1 from by omega, List.range_succ, List.map_append, List.sum_append, ihd, List.map_singleton, List.sum_singleton, wc_short hc a (m + d + 1) m (by omega), Nat.mul_zero, Nat.add_zero]
    · rw [if_neg hx]
      by_cases hh : hit i x.cls = true
      · by_cases hij : i < j
        · rw [if_pos ⟨hij, hh⟩, ih (i + 1) j]
          congr 1
          refine List.map_congr_left fun m _ => ?_
          rw [wc, if_neg hx]
          by_cases him : i < m
          · rw [if_pos ⟨him, hh⟩]
          · rw [if_neg (fun h => him h.1), wc_short hc a (i + 1) m (by omega)]
        · rw [if_neg (fun h => hij h.1), sum_zero _ _ (fun m hm => by rw [wc, if_neg hx, if_neg (fun h => by omega), Nat.zero_mul])]
      · rw [if_neg (fun h => hh h.2), sum_zero _ _ (fun m hm => by rw [wc, if_neg hx, if_neg (fun h => hh h.2), Nat.zero_mul])]
end
/-- The first symbol is replaced by the items of each of its rules. -/
theorem wc_leftmost {hit : Nat → Int → Bool} {c : Int → Nat → Nat → Nat} (g : List Rule) (hc : ∀ s a b, b ≤ a → c s a b = 0) (j : Nat) (hd : ∀ s a b, b ≤ j → c s a b = ((rulesOf g s).map fun r => wc hit c (rul g r).right a b).sum) (x : Item) (hx : x.cls = 0) (l : List Item) (i : Nat) :
    wc hit c (x :: l) i j = ((rulesOf g x.sym).map fun r => wc hit c ((rul g r).right ++ l) i j).sum := by
  rw [wc, if_pos hx]
  have e1 : ((List.range (j + 1)).map fun m => c x.sym i m * wc hit c l m j) = (List.range (j + 1)).map fun m => ((rulesOf g x.sym).map fun r => wc hit c (rul g r).right i m * wc hit c l m j).sum := List.map_congr_left fun m hm => by
    rw [List.mem_range] at hm
    rw [hd x.sym i m (by omega), map_mul_right]
  rw [e1, sum_swap]
  congr 1
  refine List.map_congr_left fun r _ => ?_
  rw [wc_append hc]
/-- How many derivations a symbol has, where each rule has an item. -/
theorem D_none {g : List Rule} {ρ : Int → Nat} (hR : Ranked g ρ) (h1 : ∀ r, r < g.length → 1 ≤ (rul g r).right.length) (hit : Nat → Int → Bool) (n : Nat) (s : Int) (a b : Nat) (h : b ≤ a) : D g hit n s a b = [] := by
  rw [D_eq hR hit n s a b (by omega), List.flatMap_eq_nil_iff]
  intro r hr
  rw [parts_short hit _ _ a b (by have := h1 r (mem_rulesOf.1 hr).1; omega)]
  rfl
def cn (g : List Rule) (hit : Nat → Int → Bool) (n : Nat) : Int → Nat → Nat → Nat := fun s a b => (D g hit n s a b).length
theorem cn_zero {g : List Rule} {ρ : Int → Nat} (hR : Ranked g ρ) (h1 : ∀ r, r < g.length → 1 ≤ (rul g r).right.length) (hit : Nat → Int → Bool) (n : Nat) : ∀ s a b, b ≤ a → cn g hit n s a b = 0 := fun s a b h => by
  unfold cn
  rw [D_none hR h1 hit n s a b h]; rfl
theorem cn_rules {g : List Rule} {ρ : Int → Nat} (hR : Ranked g ρ) (h1 : ∀ r, r < g.length → 1 ≤ (rul g r).right.length) (hit : Nat → Int → Bool) (n : Nat) : ∀ s a b, b ≤ n → cn g hit n s a b = ((rulesOf g s).map fun r => wc hit (cn g hit n) (rul g r).right a b).sum := fun s a b h => by
  unfold cn
  rw [D_eq hR hit n s a b (by omega), List.length_flatMap]
  congr 1
  refine List.map_congr_left fun r _ => ?_
  rw [List.length_map, wc_parts (D g hit n) (fun s a b h => D_none hR h1 hit n s a b h)]
/-- The first symbol alone: all derivations. -/
theorem wc_one {g : List Rule} (hit : Nat → Int → Bool) (n : Nat) (x : Item) (hx : x.cls = 0) : wc hit (cn g hit n) [x] 0 n = (D g hit n x.sym 0 n).length := by
  rw [wc, if_pos hx, sum_single _ n (n + 1) (by omega) (fun m hm => by rw [wc, if_neg hm, Nat.mul_zero]), wc, if_pos rfl, Nat.mul_one]
  rfl
end Gr
namespace Gr
/-- The sum over the first rules of a symbol. -/
def part (g : List Rule) (f : Nat → Nat) (s : Int) (k : Nat) : Nat := (((List.range k).filter fun r => decide ((rul g r).left = s)).map f).sum
theorem part_zero (g : List Rule) (f : Nat → Nat) (s : Int) : part g f s 0 = 0 := rfl
theorem part_succ (g : List Rule) (f : Nat → Nat) (s : Int) (k : Nat) : part g f s (k + 1) = part g f s k + if (rul g k).left = s then f k else 0 := by
  unfold part
  rw [List.range_succ, List.filter_append, List.map_append, List.sum_append]
  congr 1
  by_cases h : (rul g k).left = s
  · simp [h]
  · simp [h]
theorem part_all (g : List Rule) (f : Nat → Nat) (s : Int) : part g f s g.length = ((rulesOf g s).map f).sum := rfl
end Gr
end
section
/- append of a slice that is empty: nothing happens. -/
namespace Go.Proofs.Ytkclifdbdnigaaa
open Go Go.RowKit
theorem run_append_empty {P : Program} {w : World} {t ty e : TypeId} {i : TypeInfo} (ht : P.underlying t = some (.slice e)) (hi : P.info? e = some i) {g n cap c : Nat} {ad : Addr} (hnc : n ≤ cap) :
    (Builtin.append_ #[t, t] ty #[.slice (some ⟨g, 0, none⟩) n cap, .slice (some ad) 0 c]).run P w = .ok (.slice (some ⟨g, 0, none⟩) n cap) w := by
  simp [Builtin.append_, run_underlying ht, sizeOf, typeInfo, hi, Builtin.lenOf, Builtin.firstCells, hnc, storeCells, loadCells, loadCellsFrom]
theorem step_append_empty {P : Program} {w : World} {ops : Array Oper} {o : Oper} {a : Act} {K : Act → World → Prop} {Q : Exit → Act → World → Prop} {E : Prop} (hg : o.guard = none) (s x : Operand) (t : TypeId)
    (hop : o.op = Op.call { callee := Callee.builtin Builtin.append, args := #[s, x], argTypes := #[t, t] }) (e : TypeId) (i : TypeInfo) (ht : P.underlying t = some (.slice e)) (hi : P.info? e = some i)
    (g n cap : Nat) (hs : a.eval s = .slice (some ⟨g, 0, none⟩) n cap) (hnc : n ≤ cap) (ad : Addr) (c : Nat) (hx : a.eval x = .slice (some ad) 0 c) (hK : K (a.put o.dst (.slice (some ⟨g, 0, none⟩) n cap)) w) :
    if Region.wanted o (yielded ops a.tmps) = true then Oper.wp P o a w K Q else E := by
  have hw : Region.wanted o (yielded ops a.tmps) = true := by simp [Region.wanted, hg]
  rw [if_pos hw]
  have hrun := run_append_empty (P := P) (w := w) (ty := o.type) (c := c) (ad := ad) ht hi (g := g) hnc
  unfold Oper.wp
  simp [execOp, hop, resolve, invoke, builtin, hs, hx, hrun, Result.andThen]
  exact hK
end Go.Proofs.Ytkclifdbdnigaaa
end
