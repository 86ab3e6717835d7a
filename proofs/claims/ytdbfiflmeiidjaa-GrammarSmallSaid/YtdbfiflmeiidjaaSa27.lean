/- Joined: CrA, GrH. -/
import Derived.Test.YtdbfiflmeiidjaaSa19
import Derived.Test.YtdbfiflmeiidjaaSa26
import Derived.Test.YtdbfiflmeiidjaaSa05
section
/- CopyRules: a grammar in memory of its own. -/
namespace Go.Proofs.Ytdbfiflmeiidjaa
open Go Go.RowKit
theorem Try.infoRule:(Try.prog.info? 29).map (fun i => (i.zero,i.size,i.bytes)) = some (some (.agg #[.int .i64 0,.slice none 0 0]),2,32):=by kernel_rfl
theorem Try.infoItem:(Try.prog.info? 24).map (fun i => (i.zero,i.size,i.bytes)) = some (some (.agg #[.int .u16 0,.int .i64 0]),2,16):=by kernel_rfl
def crrZ (W:World) (base k:Nat) (v0:Value) (xs:List Value) (lf:Int) (m:Nat) (news:List Value) (L:Nat → Bool) (V:Nat → Value) (w:World):Prop :=
  (L 16 = false → V 16 = v0) ∧
  (L 15 = false → Below W.heap.size W w) ∧
  (L 6 = true → L 12 = false → ∃ b,V 6 = .slice (some ⟨b,0,none⟩) 0 0 ∧ Kt.Blk w b 24 #[] ∧ W.heap.size ≤ b) ∧
  (L 12 = true → ∃ g cap,V 12 = .slice (some ⟨g,0,none⟩) m cap ∧ W.heap.size ≤ g ∧ w.ownsRow W.heap.size 24 2 (V 12) m news) ∧
  (L 14 = true → L 15 = false → ∃ gb,V 14 = .slice (some ⟨gb,0,none⟩) 1 1 ∧ Kt.Blk w gb 29 #[.int .i64 lf,V 12]) ∧
  (L 15 = true → ∃ g2 cap2 g cap,V 12 = .slice (some ⟨g,0,none⟩) m cap ∧ W.heap.size ≤ g ∧ V 15 = .slice (some ⟨g2,0,none⟩) (k + 1) cap2 ∧ (v0.ownBlock = some g2 ∨ W.heap.size ≤ g2) ∧
    w.ownsRow base 29 2 (V 15) (k + 1) (xs ++ [.int .i64 lf,.slice (some ⟨g,0,none⟩) m cap]) ∧ g ≠ g2 ∧ ∀ q,q < W.heap.size → v0.ownBlock ≠ some q → w.heap[q]? = W.heap[q]?) ∧
  ((L 12 = true → L 6 = true) ∧ (L 15 = true → L 12 = true ∧ L 14 = true) ∧ (L 14 = true → L 13 = true) ∧ (L 16 = true → L 0 = true) ∧ (L 13 = true → L 12 = true) ∧ (L 13 = true → V 13 = .agg #[.int .i64 lf,V 12])) ∧
  ((L 16 = true → L 15 = true) ∧ (L 16 = true → V 16 = V 15))
theorem crrZ_start {W:World} {base k:Nat} {v0:Value} {xs:List Value} {lf:Int} {m:Nat} {news:List Value} {V:Nat → Value} (h:V 16 = v0):crrZ W base k v0 xs lf m news (fun _ => false) V W.drew :=
  ⟨fun _ => h,fun _ => ⟨rfl,rfl,rfl,Nat.le_refl _,fun _ _ => rfl⟩,fun q => (by cases q),fun q => (by cases q),fun q => (by cases q),fun q => (by cases q),⟨fun q => (by cases q),fun q => (by cases q),fun q => (by cases q),fun q => (by cases q),fun q => (by cases q),fun q => (by cases q)⟩,⟨fun q => (by cases q),fun q => (by cases q)⟩⟩
def crrSlot:Nat → Nat:=fun j => match j with | 0 => 11 | 1 => 12 | 2 => 13 | 3 => 14 | 4 => 15 | 5 => 16 | 6 => 17 | 7 => 18 | 8 => 19 | 9 => 20 | 10 => 21 | 11 => 22 | 12 => 23 | 13 => 24 | 14 => 25 | 15 => 26 | 16 => 3 | _ => 999999
def crrS:List Nat:=[3,11,12,13,14,15,16,17,18,19,20,21,22,23,24,25,26]
set_option linter.unusedVariables false in
def crrR (gb go n cp base k:Nat) (v0:Value) (xs:List Value) (lf:Int) (ib io m c9:Nat) (news:List Value):Nat → Value → World → Prop:=fun j u w => match j with | 0 => u = (v0) | 1 => u = (.slice (some ⟨gb,go,none⟩) n cp) | 2 => u = (.int .i64 (k:Int)) | 3 => u = (.pointer (some ⟨gb,go + k * 2,none⟩)) | 4 => u = (.pointer (some ⟨gb,go + k * 2,none⟩)) | 5 => u = (.int .i64 lf) | 6 => True | 7 => u = (.slice (some ⟨gb,go,none⟩) n cp) | 8 => u = (.int .i64 (k:Int)) | 9 => u = (.pointer (some ⟨gb,go + k * 2,none⟩)) | 10 => u = (.pointer (some ⟨gb,go + k * 2 + 1,none⟩)) | 11 => u = (.slice (some ⟨ib,io,none⟩) m c9) | 12 => True | 13 => True | 14 => True | 15 => True | 16 => True | _ => True
def crrP (a0:Act) (W:World) (gb go n cp base k:Nat) (v0:Value) (xs:List Value) (lf:Int) (ib io m c9:Nat) (news:List Value):Kt.RxP:=⟨17,crrSlot,crrS,a0,W,fun q => v0.ownBlock = some q ∨ W.heap.size ≤ q,crrR gb go n cp base k v0 xs lf ib io m c9 news,crrZ W base k v0 xs lf m news⟩
theorem crr_ok {a0:Act} {W:World} {gb go n cp base k:Nat} {v0:Value} {xs:List Value} {lf:Int} {ib io m c9:Nat} {news:List Value} {listed:Array Bool} {act:Act} {w:World} (_:Kt.RxI (crrP a0 W gb go n cp base k v0 xs lf ib io m c9 news) listed act w):Kt.RxOk (crrP a0 W gb go n cp base k v0 xs lf ib io m c9 news):=by
  refine ⟨fun i hi j hj => (by decide:∀ i,i < 17 → ∀ j,j < 17 → crrSlot i = crrSlot j → i = j) i hi j hj,fun j u w w' h hk => ?_⟩;rcases j with _ | _ | _ | _ | _ | _ | _ | _ | _ | _ | _ | _ | _ | _ | _ | _ | _ | j
  · exact h
  · exact h
  · exact h
  · exact h
  · exact h
  · exact h
  · exact h
  · exact h
  · exact h
  · exact h
  · exact h
  · exact h
  · exact h
  · exact h
  · exact h
  · exact h
  · exact h
  · exact h
def flatI (l:List Gr.Item):List Value:=l.flatMap fun x => [.int .u16 x.cls,.int .i64 x.sym]
theorem flatI_len:∀ l:List Gr.Item,(flatI l).length = l.length * 2
  | [] => rfl
  | x :: l => by
    rw [show flatI (x :: l) = [.int .u16 x.cls,.int .i64 x.sym] ++ flatI l from rfl,List.length_append,flatI_len l];simp;omega
theorem flatI_get:∀ (l:List Gr.Item) (k:Nat),k < l.length → (flatI l)[k * 2]? = some (.int .u16 (Gr.itm l k).cls) ∧ (flatI l)[k * 2 + 1]? = some (.int .i64 (Gr.itm l k).sym)
  | [],k,h => absurd h (Nat.not_lt_zero k)
  | x :: l,0,_ => ⟨rfl,rfl⟩
  | x :: l,k + 1,h => by
    have ih:=flatI_get l k (by simpa using h);rw [show flatI (x :: l) = [.int .u16 x.cls,.int .i64 x.sym] ++ flatI l from rfl];refine ⟨?_,?_⟩
    · rw [List.getElem?_append_right (by simp;omega),show (k + 1) * 2 - [Value.int .u16 x.cls,.int .i64 x.sym].length = k * 2 from by simp;omega];exact ih.1
    · rw [List.getElem?_append_right (by simp;omega),show (k + 1) * 2 + 1 - [Value.int .u16 x.cls,.int .i64 x.sym].length = k * 2 + 1 from by simp;omega];exact ih.2
theorem flatI_one (l:List Gr.Item):∀ u ∈ flatI l,u.oneCell' = true:=fun u hu => by
  obtain ⟨x,_,hu⟩:=List.mem_flatMap.1 hu;simp only [List.mem_cons,List.not_mem_nil,or_false] at hu;rcases hu with rfl | rfl <;> rfl
def flatR (G C:Nat → Nat) (g:List Gr.Rule):List Value:=(List.range g.length).flatMap fun r => [.int .i64 (Gr.rul g r).left,.slice (some ⟨G r,0,none⟩) (Gr.rul g r).right.length (C r)]
theorem flatR_succ (G C:Nat → Nat) (g:List Gr.Rule) (k:Nat) (h:k < g.length):flatR G C (g.take k) ++ [.int .i64 (Gr.rul g k).left,.slice (some ⟨G k,0,none⟩) (Gr.rul g k).right.length (C k)] = flatR G C (g.take (k + 1)):=by
  have hr:∀ n r,r < n → n ≤ g.length → Gr.rul (g.take n) r = Gr.rul g r:=fun n r h1 h2 => by unfold Gr.rul;simp [h1]
  unfold flatR;rw [List.length_take,List.length_take,Nat.min_eq_left (by omega),Nat.min_eq_left (by omega),List.range_succ,List.flatMap_append];congr 1
  · refine Gr.flatMap_same _ fun r hr2 => ?_
    rw [List.mem_range] at hr2;rw [hr k r hr2 (by omega),hr (k + 1) r (by omega) (by omega)]
  · simp [hr (k + 1) k (by omega) (by omega)]
structure OG (w:World) (base:Nat) (v:Value) (g:List Gr.Rule) (G C:Nat → Nat):Prop where
  own:w.ownsRow base 29 2 v g.length (flatR G C g)
  its:∀ r,r < g.length → w.ownsRow base 24 2 (.slice (some ⟨G r,0,none⟩) (Gr.rul g r).right.length (C r)) (Gr.rul g r).right.length (flatI (Gr.rul g r).right)
  ne:∀ r,r < g.length → v.ownBlock ≠ some (G r)
  inj:∀ r,r < g.length → ∀ r',r' < g.length → G r = G r' → r = r'
theorem OG.snoc {w w2:World} {base k g2 cap2 gx capx:Nat} {v:Value} {g:List Gr.Rule} {G C:Nat → Nat} (h:OG w base v (g.take k) G C) (hk:k < g.length)
    (hown:w2.ownsRow base 29 2 (.slice (some ⟨g2,0,none⟩) (k + 1) cap2) (k + 1) (flatR G C (g.take k) ++ [.int .i64 (Gr.rul g k).left,.slice (some ⟨gx,0,none⟩) (Gr.rul g k).right.length capx]))
    (hgo:w2.ownsRow w.heap.size 24 2 (.slice (some ⟨gx,0,none⟩) (Gr.rul g k).right.length capx) (Gr.rul g k).right.length (flatI (Gr.rul g k).right)) (hbase:base ≤ w.heap.size)
    (hat:v.ownBlock = some g2 ∨ w.heap.size ≤ g2) (hne:gx ≠ g2) (hgx:w.heap.size ≤ gx) (hkk:∀ q,q < w.heap.size → v.ownBlock ≠ some q → w2.heap[q]? = w.heap[q]?) :
    OG w2 base (.slice (some ⟨g2,0,none⟩) (k + 1) cap2) (g.take (k + 1)) (fun r => if r = k then gx else G r) (fun r => if r = k then capx else C r):=by
  have hlen:(g.take k).length = k:=by rw [List.length_take];omega
  have hlen1:(g.take (k + 1)).length = k + 1:=by rw [List.length_take];omega
  have hr:∀ n r,r < n → Gr.rul (g.take n) r = Gr.rul g r:=fun n r h1 => by unfold Gr.rul;simp [h1]
  have hlt:∀ r,r < k → G r < w.heap.size:=fun r hrk => ((h.its r (by rw [hlen];exact hrk)).lt (G r) rfl).2
  refine ⟨?_,fun r hrl => ?_,fun r hrl => ?_,fun r hrl r' hrl' e => ?_⟩
  · rw [hlen1,← flatR_succ _ _ g k hk];have e1:flatR (fun r => if r = k then gx else G r) (fun r => if r = k then capx else C r) (g.take k) = flatR G C (g.take k):=by
      unfold flatR;refine Gr.flatMap_same _ fun r hr2 => ?_
      rw [List.mem_range,hlen] at hr2;have hrk:r ≠ k:=by omega
      simp only [hrk,if_false]
    rw [e1,if_pos rfl,if_pos rfl];exact hown
  · rw [hlen1] at hrl;rw [hr (k + 1) r hrl];by_cases e:r = k
    · subst e;rw [if_pos rfl,if_pos rfl];exact hgo.mono hbase
    · rw [if_neg e,if_neg e];have h1:=h.its r (by rw [hlen];omega);rw [hr k r (by omega)] at h1;refine Kt.ownsRow_keep h1 fun g' e' => ?_
      have e2:G r = g':=by simpa [Value.ownBlock] using e'
      subst e2;exact hkk _ (hlt r (by omega)) (h.ne r (by rw [hlen];omega))
  · rw [hlen1] at hrl;intro e';have e2:g2 = if r = k then gx else G r:=by simpa [Value.ownBlock] using e'
    by_cases e:r = k
    · rw [if_pos e] at e2;exact hne e2.symm
    · rw [if_neg e] at e2;rcases hat with a | a
      · exact h.ne r (by rw [hlen];omega) (by rw [a,e2])
      · have:=hlt r (by omega);omega
  · rw [hlen1] at hrl hrl';by_cases a:r = k <;> by_cases b:r' = k
    · omega
    · exfalso;simp only [a,b,if_true,if_false] at e;have:=hlt r' (by omega);omega
    · exfalso;simp only [a,b,if_true,if_false] at e;have:=hlt r (by omega);omega
    · simp only [a,b,if_false] at e;exact h.inj r (by rw [hlen];omega) r' (by rw [hlen];omega) e
set_option maxRecDepth 20000 in
set_option maxHeartbeats 4000000 in
theorem copyRules_any (g:List Gr.Rule) (hG:Gr.Good g) (A:Option Addr) (n cp:Nat) (w:World) (hl:g.length = n) (hg:Kt.Rules w w.heap.size A g) :
    Calls Try.prog 28 #[.slice A n cp] w fun e w' => Below w.heap.size w w' ∧ ∃ v G C,e = .returned v ∧ OG w' w.heap.size v g G C:=by
  have hn200:n ≤ 200:=by rw [← hl];exact hG.len
  have HG:=Lib.hid hG;have HL:=Lib.hid hl;obtain ⟨i0,hi0,hz0,hz1,hz2⟩:=info_parts Try.infoRule;obtain ⟨i1,hi1,hy0,hy1,hy2⟩:=info_parts Try.infoItem;clear hG hl;go_enter Try.func28,Try.ntmps28;go_wp2_with fail;go_loopw [3,4] (fun o s wr => ∃ (k:Nat) (G C:Nat → Nat),k ≤ n ∧ s = .int .i64 k ∧ Hid (OG wr w.heap.size o (g.take k) G C) ∧ Below w.heap.size w wr) (fun _ s _ => n - (intOf s).toNat)
  case atStart => exact ⟨0,fun _ => 0,fun _ => 0,Nat.zero_le _,rfl,Lib.hid ⟨World.ownsRow_nil _ _ _ _,fun r hr => by simp at hr,fun r hr => by simp at hr,fun r hr => by simp at hr⟩,Below.refl _ _⟩
  case round =>
    obtain ⟨k,G,C,hk,rfl,hO,hbel⟩:=hrel;have hsr:=hbel.size;by_cases hlt:k < n
    · obtain ⟨gb,go,rfl,hgbl,hc⟩:=(hg.below hbel) (by have:=HL.out;omega);obtain ⟨hc1,A',c9,hc2,hlr,hit⟩:=hc k (by have:=HL.out;omega);obtain ⟨hs,hl1,hl8,hits⟩:=(HG.out.ok k (by have:=HL.out;omega)).parts;obtain ⟨lf,hlf⟩:∃ lf,Hid ((Gr.rul g k).left = lf):=⟨_,Lib.hid rfl⟩;obtain ⟨m,hm⟩:∃ m,Hid ((Gr.rul g k).right.length = m):=⟨_,Lib.hid rfl⟩;obtain ⟨ib,io,rfl,hib,hci⟩:=hit (by omega);obtain ⟨news,hnews0⟩:∃ news,Hid (flatI (Gr.rul g k).right = news):=⟨_,Lib.hid rfl⟩;rw [hlf.out] at hc1;rw [hm.out] at hc2 hl1 hl8 hci;have hnl:news.length = m * 2:=by rw [← hnews0.out,flatI_len,hm.out]
      have hn1:∀ u ∈ news,u.oneCell' = true:=by rw [← hnews0.out];exact flatI_one _
      have hnews:∀ j u,news[j]? = some u → wr.cell? ((⟨ib,io,none⟩:Addr).add j) = some u:=fun j u hu => by
        have hjl:j < m * 2:=by
          have:=(List.getElem?_eq_some_iff.1 hu).1;omega
        have h1:=flatI_get (Gr.rul g k).right (j / 2) (by rw [hm.out];omega);rw [hnews0.out] at h1;have h2:=hci (j / 2) (by omega);rw [Addr.add_lit];rcases Nat.mod_two_eq_zero_or_one j with e | e
        · rw [show j / 2 * 2 = j from by omega] at h1 h2;rw [hu] at h1;injection h1.1 with h1;rw [h1];exact h2.1
        · rw [show j / 2 * 2 + 1 = j from by omega] at h1;rw [show io + j / 2 * 2 + 1 = io + j from by omega] at h2;rw [hu] at h1;injection h1.2 with h1;rw [h1];exact h2.2
      have hOw0:=hO.out.own;have hlen:(g.take k).length = k:=by rw [List.length_take];have:=HL.out;omega
      rw [hlen] at hOw0;obtain ⟨xs,hxs⟩:∃ xs,Hid (flatR G C (g.take k) = xs):=⟨_,Lib.hid rfl⟩;rw [hxs.out] at hOw0;have hOw:wr.ownsRow w.heap.size 29 2 u3 k xs:=hOw0;have hbaseW:w.heap.size ≤ wr.heap.size:=hsr;have lib:ib < wr.heap.size:=by omega
      have lgb:gb < wr.heap.size:=by omega
      have hXg:¬ (u3.ownBlock = some gb ∨ wr.heap.size ≤ gb):=by
        rintro (e | e)
        · have:=(hOw.lt gb e).1;omega
        · omega
      clear hc hit hci hits hlr hOw0;go_wp2_with fail;refine Kt.region_inv (Kt.RxI (crrP _ wr gb go n cp w.heap.size k u3 xs lf ib io m c9 news)) (by kernel_rfl) ?hg (Kt.RxI.start (crrZ_start rfl)) ?hstep ?hdone
      case hg =>
        intro q o ho;rcases q with _ | _ | _ | _ | _ | _ | _ | _ | _ | _ | _ | _ | _ | _ | _ | _ | _ | q
        all_goals first | (cases Option.some.inj ho;rfl) | (exfalso;simp at ho)
      case hstep =>
        intro listed act w2 q o hI ho hn hpre;have ok:=crr_ok hI;rcases q with _ | _ | _ | _ | _ | _ | _ | _ | _ | _ | _ | _ | _ | _ | _ | _ | _ | q
        · cases Option.some.inj ho;obtain ⟨z1,z2,z3,z4,z5,z6,z7,z8⟩:=hI.st;have h16:Kt.lis listed 16 = false:=by
            cases h:Kt.lis listed 16 with
            | false => rfl
            | true =>
              have h9:listed.getD 0 false = true:=(z7.2.2.2.1 h);rw [Kt.getD_no hn] at h9;cases h9
          have e3:Kt.val act 3 = u3:=z1 h16;refine Kt.op_move rfl ?_;rw [show act.eval (.tmp 3) = u3 from e3];exact hI.put ok (j:=0) (s:=11) (v:=u3) (w':=w2) (Kt.qb rfl) rfl (Kt.qm rfl) (Kt.qb rfl) (Kt.Kp.refl _ _) rfl ⟨z1,z2,z3,z4,z5,z6,⟨z7.1,z7.2.1,z7.2.2.1,fun q => (by first | rfl | exact z7.2.2.2.1 q),z7.2.2.2.2⟩,z8⟩
        · cases Option.some.inj ho;refine Kt.op_move rfl ?_;rw [show act.eval (.tmp 0) = .slice (some ⟨gb,go,none⟩) n cp from hI.frame.val_out (s:=0) (Kt.qn rfl)];exact hI.put ok (j:=1) (Kt.qb rfl) rfl (Kt.qm rfl) (Kt.qb rfl) (Kt.Kp.refl _ _) rfl hI.st
        · cases Option.some.inj ho;refine Kt.op_move rfl ?_;rw [show act.eval (.tmp 4) = .int .i64 (k:Int) from hI.frame.val_out (s:=4) (Kt.qn rfl)];exact hI.put ok (j:=2) (Kt.qb rfl) rfl (Kt.qm rfl) (Kt.qb rfl) (Kt.Kp.refl _ _) rfl hI.st
        · cases Option.some.inj ho;have e1:act.tmps[12]?.getD undef = .slice (some ⟨gb,go,none⟩) n cp:=hI.eq (j:=1) (Kt.qb rfl) rfl (fun _ _ h => h) (hpre ⟨1,.data⟩ (by simp) rfl);have e2:act.tmps[13]?.getD undef = .int .i64 (k:Int):=hI.eq (j:=2) (Kt.qb rfl) rfl (fun _ _ h => h) (hpre ⟨2,.data⟩ (by simp) rfl);have hk:=hI.put ok (j:=3) (s:=14) (v:=.pointer (some ⟨gb,go + k * 2,none⟩)) (w':=w2) (Kt.qb rfl) rfl (Kt.qm rfl) (Kt.qb rfl) (Kt.Kp.refl _ _) rfl hI.st;refine Kt.op_opq hk ?_;clear hk;intro KK hkk;unfold Oper.wp;go_simp;exact hkk
        · cases Option.some.inj ho;have e3:act.tmps[14]?.getD undef = .pointer (some ⟨gb,go + k * 2,none⟩):=hI.eq (j:=3) (Kt.qb rfl) rfl (fun _ _ h => h) (hpre ⟨3,.data⟩ (by simp) rfl);have hk:=hI.put ok (j:=4) (s:=15) (v:=.pointer (some ⟨gb,go + k * 2,none⟩)) (w':=w2) (Kt.qb rfl) rfl (Kt.qm rfl) (Kt.qb rfl) (Kt.Kp.refl _ _) rfl hI.st;refine Kt.op_opq hk ?_;clear hk;intro KK hkk;unfold Oper.wp;go_simp;exact hkk
        · cases Option.some.inj ho;have e4:act.tmps[15]?.getD undef = .pointer (some ⟨gb,go + k * 2,none⟩):=hI.eq (j:=4) (Kt.qb rfl) rfl (fun _ _ h => h) (hpre ⟨4,.data⟩ (by simp) rfl);have c0:w2.cell? ⟨gb,go + k * 2,none⟩ = some (.int .i64 lf):=hI.cell lgb hXg hc1;have hk:=hI.put ok (j:=5) (s:=16) (v:=.int .i64 lf) (w':=w2) (Kt.qb rfl) rfl (Kt.qm rfl) (Kt.qb rfl) (Kt.Kp.refl _ _) rfl hI.st;refine Kt.op_opq hk ?_;clear hk;intro KK hkk;unfold Oper.wp;go_simp;exact hkk
        · cases Option.some.inj ho;obtain ⟨z1,z2,z3,z4,z5,z6,z7,z8⟩:=hI.st;have h12:Kt.lis listed 12 = false:=by
            cases h:Kt.lis listed 12 with
            | false => rfl
            | true =>
              have h9:listed.getD 6 false = true:=(z7.1 h);rw [Kt.getD_no hn] at h9;cases h9
          have h15:Kt.lis listed 15 = false:=by
            cases h:Kt.lis listed 15 with
            | false => rfl
            | true =>
              have h9:listed.getD 6 false = true:=(z7.1 (z7.2.1 h).1);rw [Kt.getD_no hn] at h9;cases h9
          have hba:Below w2.heap.size w2 (w2.alloc (.cells #[] 24)):=(Below.refl _ _).alloc (Nat.le_refl _) _;have hbw:=(z2 h15);have hk:=hI.put ok (j:=6) (s:=17) (v:=.slice (some ⟨w2.heap.size,0,none⟩) 0 0) (w':=w2.alloc (.cells #[] 24)) (Kt.qb rfl) rfl (Kt.qm rfl) (Kt.qb rfl) (Kt.Kp.below _ hba) trivial ?_
          · refine Kt.op_opq hk ?_;clear hk;intro KK hkk;unfold Oper.wp;go_simp;exact hkk
          refine ⟨z1,fun _ => hbw.trans (hba.mono hbw.size),fun _ _ => ⟨w2.heap.size,rfl,Kt.Blk.new _ _ _,hbw.size⟩,fun q => absurd (h12.symm.trans q) (by decide),fun q _ => ?_,fun q => absurd (h15.symm.trans q) (by decide),⟨fun _ => rfl,z7.2⟩,z8⟩;exact absurd (h12.symm.trans (z7.2.2.2.2.1 (z7.2.2.1 q))) (by decide)
        · cases Option.some.inj ho;refine Kt.op_move rfl ?_;rw [show act.eval (.tmp 0) = .slice (some ⟨gb,go,none⟩) n cp from hI.frame.val_out (s:=0) (Kt.qn rfl)];exact hI.put ok (j:=7) (Kt.qb rfl) rfl (Kt.qm rfl) (Kt.qb rfl) (Kt.Kp.refl _ _) rfl hI.st
        · cases Option.some.inj ho;refine Kt.op_move rfl ?_;rw [show act.eval (.tmp 4) = .int .i64 (k:Int) from hI.frame.val_out (s:=4) (Kt.qn rfl)];exact hI.put ok (j:=8) (Kt.qb rfl) rfl (Kt.qm rfl) (Kt.qb rfl) (Kt.Kp.refl _ _) rfl hI.st
        · cases Option.some.inj ho;have e7:act.tmps[18]?.getD undef = .slice (some ⟨gb,go,none⟩) n cp:=hI.eq (j:=7) (Kt.qb rfl) rfl (fun _ _ h => h) (hpre ⟨7,.data⟩ (by simp) rfl);have e8:act.tmps[19]?.getD undef = .int .i64 (k:Int):=hI.eq (j:=8) (Kt.qb rfl) rfl (fun _ _ h => h) (hpre ⟨8,.data⟩ (by simp) rfl);have hk:=hI.put ok (j:=9) (s:=20) (v:=.pointer (some ⟨gb,go + k * 2,none⟩)) (w':=w2) (Kt.qb rfl) rfl (Kt.qm rfl) (Kt.qb rfl) (Kt.Kp.refl _ _) rfl hI.st;refine Kt.op_opq hk ?_;clear hk;intro KK hkk;unfold Oper.wp;go_simp;exact hkk
        · cases Option.some.inj ho;have e9:act.tmps[20]?.getD undef = .pointer (some ⟨gb,go + k * 2,none⟩):=hI.eq (j:=9) (Kt.qb rfl) rfl (fun _ _ h => h) (hpre ⟨9,.data⟩ (by simp) rfl);have hk:=hI.put ok (j:=10) (s:=21) (v:=.pointer (some ⟨gb,go + k * 2 + 1,none⟩)) (w':=w2) (Kt.qb rfl) rfl (Kt.qm rfl) (Kt.qb rfl) (Kt.Kp.refl _ _) rfl hI.st;refine Kt.op_opq hk ?_;clear hk;intro KK hkk;unfold Oper.wp;go_simp;exact hkk
        · cases Option.some.inj ho;have e10:act.tmps[21]?.getD undef = .pointer (some ⟨gb,go + k * 2 + 1,none⟩):=hI.eq (j:=10) (Kt.qb rfl) rfl (fun _ _ h => h) (hpre ⟨10,.data⟩ (by simp) rfl);have c0:w2.cell? ⟨gb,go + k * 2 + 1,none⟩ = some (.slice (some ⟨ib,io,none⟩) m c9):=hI.cell lgb hXg hc2;have hk:=hI.put ok (j:=11) (s:=22) (v:=.slice (some ⟨ib,io,none⟩) m c9) (w':=w2) (Kt.qb rfl) rfl (Kt.qm rfl) (Kt.qb rfl) (Kt.Kp.refl _ _) rfl hI.st;refine Kt.op_opq hk ?_;clear hk;intro KK hkk;unfold Oper.wp;go_simp;exact hkk
        · cases Option.some.inj ho;have e11:act.tmps[22]?.getD undef = .slice (some ⟨ib,io,none⟩) m c9:=hI.eq (j:=11) (Kt.qb rfl) rfl (fun _ _ h => h) (hpre ⟨11,.data⟩ (by simp) rfl);obtain ⟨z1,z2,z3,z4,z5,z6,z7,z8⟩:=hI.st;have l6:listed.getD 6 false = true:=hpre ⟨6,.data⟩ (by simp) rfl;have h12:Kt.lis listed 12 = false:=Kt.getD_no hn;have h15:Kt.lis listed 15 = false:=by
            cases h:Kt.lis listed 15 with
            | false => rfl
            | true =>
              have h9:listed.getD 12 false = true:=(z7.2.1 h).1;rw [Kt.getD_no hn] at h9;cases h9
          have h14:Kt.lis listed 14 = false:=by
            cases h:Kt.lis listed 14 with
            | false => rfl
            | true =>
              have h9:listed.getD 12 false = true:=(z7.2.2.2.2.1 (z7.2.2.1 h));rw [Kt.getD_no hn] at h9;cases h9
          have h13:Kt.lis listed 13 = false:=by
            cases h:Kt.lis listed 13 with
            | false => rfl
            | true =>
              have h9:listed.getD 12 false = true:=(z7.2.2.2.2.1 h);rw [Kt.getD_no hn] at h9;cases h9
          have hbw:=z2 h15;obtain ⟨b,e6,hbb,hbl⟩:=z3 l6 h12;replace e6:Kt.val act 17 = .slice (some ⟨b,0,none⟩) 0 0:=e6;have e6b:act.eval (.tmp 17) = .slice (some ⟨b,0,none⟩) 0 0:=e6;have e11b:act.eval (.tmp 22) = .slice (some ⟨ib,io,none⟩) m c9:=(Kt.val_get act 22).trans e11;have hown2:w2.ownsRow wr.heap.size 24 2 (.slice (some ⟨b,0,none⟩) 0 0) 0 []:=⟨rfl,.inr ⟨b,0,#[],rfl,hbl,hbb,Nat.le_refl _,Nat.zero_le _,rfl,rfl⟩⟩;have hnw:∀ j u,news[j]? = some u → w2.cell? ((⟨ib,io,none⟩:Addr).add j) = some u:=fun j u hu => by
            have:=hnews j u hu;rw [Addr.add_lit] at this ⊢;exact (hbw.cell (p:=⟨ib,io + j,none⟩) lib).trans this
          refine wp_append_lies (P:=Try.prog) w2 (.tmp 17) (.tmp 22) 26 rfl wr.heap.size 24 i1 (.agg #[.int .u16 0,.int .i64 0]) 2 16 Try.underlying26 hi1 hy0 hy1 hy2 rfl (by decide) _ 0 [] e6b hown2 ⟨ib,io,none⟩ m c9 news e11b hnl hnw hn1 (by omega) (by unfold maxLen;omega) (by omega) hbw.size _ rfl (fun g cap w3 h1 h2 h3 h4 => ?_);have hbq:∀ q,(Value.slice (some ⟨b,0,none⟩) 0 0).ownBlock = some q → wr.heap.size ≤ q:=fun q hq => by
            have h9:b = q:=by simpa [Value.ownBlock] using hq
            omega
          have hbd:Below wr.heap.size wr w3:=hbw.grown h2 hbw.size hbq;have hgl:wr.heap.size ≤ g:=(World.ownsRow.lt h1 g rfl).1;refine hI.put ok (j:=12) (s:=23) (w':=w3) (Kt.qb rfl) rfl (Kt.qm rfl) (Kt.qb rfl) (Kt.Kp.grown h2 fun q hq => .inr (hbq q hq)) trivial ⟨z1,fun _ => hbd,fun _ q => absurd (show true = false from q) (by decide),fun _ => ⟨g,cap,by show Value.slice _ (0 + m) cap = _;rw [Nat.zero_add],hgl,?_⟩,fun q => absurd (h14.symm.trans q) (by decide),fun q => absurd (h15.symm.trans q) (by decide),⟨fun _ => l6,fun q => absurd (h15.symm.trans q) (by decide),fun q => absurd (h14.symm.trans q) (by decide),z7.2.2.2.1,fun q => absurd (h13.symm.trans q) (by decide),fun q => absurd (h13.symm.trans q) (by decide)⟩,z8⟩;rw [Nat.zero_add,List.nil_append] at h1;show w3.ownsRow _ _ _ (.slice (some ⟨g,0,none⟩) (0 + m) cap) m news;rw [Nat.zero_add];exact h1
        · cases Option.some.inj ho;have e5:act.tmps[16]?.getD undef = .int .i64 lf:=hI.eq (j:=5) (Kt.qb rfl) rfl (fun _ _ h => h) (hpre ⟨5,.data⟩ (by simp) rfl);obtain ⟨z1,z2,z3,z4,z5,z6,z7,z8⟩:=hI.st;have l12:listed.getD 12 false = true:=hpre ⟨12,.data⟩ (by simp) rfl;obtain ⟨g,cap,e12,hgl,hgo⟩:=z4 l12;have e12v:Kt.val act 23 = .slice (some ⟨g,0,none⟩) m cap:=e12;have e12b:act.tmps[23]?.getD undef = .slice (some ⟨g,0,none⟩) m cap:=(Kt.val_get act 23).symm.trans e12v;have h14:Kt.lis listed 14 = false:=by
            cases h:Kt.lis listed 14 with
            | false => rfl
            | true =>
              have h9:listed.getD 13 false = true:=(z7.2.2.1 h);rw [Kt.getD_no hn] at h9;cases h9
          have h15:Kt.lis listed 15 = false:=by
            cases h:Kt.lis listed 15 with
            | false => rfl
            | true =>
              have h9:listed.getD 13 false = true:=(z7.2.2.1 (z7.2.1 h).2);rw [Kt.getD_no hn] at h9;cases h9
          have hk:=hI.put ok (j:=13) (s:=24) (v:=.agg #[.int .i64 lf,.slice (some ⟨g,0,none⟩) m cap]) (w':=w2) (Kt.qb rfl) rfl (Kt.qm rfl) (Kt.qb rfl) (Kt.Kp.refl _ _) trivial ?_
          · refine Kt.op_opq hk ?_;clear hk;intro KK hkk;unfold Oper.wp;go_simp;exact hkk
          refine ⟨z1,z2,z3,z4,fun q => absurd (h14.symm.trans q) (by decide),fun q => absurd (h15.symm.trans q) (by decide),⟨z7.1,fun q => absurd (h15.symm.trans q) (by decide),fun q => absurd (h14.symm.trans q) (by decide),z7.2.2.2.1,fun _ => l12,fun _ => ?_⟩,z8⟩;exact congrArg (fun x => Value.agg #[.int .i64 lf,x]) e12.symm
        · cases Option.some.inj ho;obtain ⟨z1,z2,z3,z4,z5,z6,z7,z8⟩:=hI.st;have l13:listed.getD 13 false = true:=hpre ⟨13,.data⟩ (by simp) rfl;have l12:listed.getD 12 false = true:=z7.2.2.2.2.1 l13;obtain ⟨g,cap,e12,hgl,hgo⟩:=z4 l12;have e13:=z7.2.2.2.2.2 l13;rw [show Kt.vals _ act 12 = .slice (some ⟨g,0,none⟩) m cap from e12] at e13;replace e13:Kt.val act 24 = .agg #[.int .i64 lf,.slice (some ⟨g,0,none⟩) m cap]:=e13;have e13b:act.tmps[24]?.getD undef = .agg #[.int .i64 lf,.slice (some ⟨g,0,none⟩) m cap]:=(Kt.val_get act 24).symm.trans e13;have h15:Kt.lis listed 15 = false:=by
            cases h:Kt.lis listed 15 with
            | false => rfl
            | true =>
              have h9:listed.getD 14 false = true:=(z7.2.1 h).2;rw [Kt.getD_no hn] at h9;cases h9
          have hbw:=z2 h15;have hba:Below w2.heap.size w2 (w2.alloc (.cells #[.int .i64 lf,.slice (some ⟨g,0,none⟩) m cap] 29)):=(Below.refl _ _).alloc (Nat.le_refl _) _;have hk:=hI.put ok (j:=14) (s:=25) (v:=.slice (some ⟨w2.heap.size,0,none⟩) 1 1) (w':=w2.alloc (.cells #[.int .i64 lf,.slice (some ⟨g,0,none⟩) m cap] 29)) (Kt.qb rfl) rfl (Kt.qm rfl) (Kt.qb rfl) (Kt.Kp.below _ hba) trivial ?_
          · refine Kt.op_opq hk ?_;clear hk;intro KK hkk;unfold Oper.wp;go_simp;exact hkk
          refine ⟨z1,fun _ => hbw.trans (hba.mono hbw.size),fun q r => ?_,fun _ => ⟨g,cap,e12,hgl,?_⟩,fun _ _ => ⟨w2.heap.size,rfl,?_⟩,fun q => absurd (h15.symm.trans q) (by decide),⟨z7.1,fun q => absurd (h15.symm.trans q) (by decide),fun _ => l13,z7.2.2.2⟩,z8⟩
          · obtain ⟨b,k1,k2,k3⟩:=z3 q r;exact ⟨b,k1,k2.alloc _,k3⟩
          · exact Kt.ownsRow_keep hgo fun g' e => hba.block g' (hgo.lt g' e).2
          · exact (congrArg (fun x => Kt.Blk (w2.alloc (.cells #[.int .i64 lf,.slice (some ⟨g,0,none⟩) m cap] 29)) w2.heap.size 29 #[.int .i64 lf,x]) e12).mpr (Kt.Blk.new _ _ _)
        · cases Option.some.inj ho;have e0:act.tmps[11]?.getD undef = u3:=hI.eq (j:=0) (Kt.qb rfl) rfl (fun _ _ h => h) (hpre ⟨0,.data⟩ (by simp) rfl);obtain ⟨z1,z2,z3,z4,z5,z6,z7,z8⟩:=hI.st;have l14:listed.getD 14 false = true:=hpre ⟨14,.data⟩ (by simp) rfl;have l0:listed.getD 0 false = true:=hpre ⟨0,.data⟩ (by simp) rfl;have l13:listed.getD 13 false = true:=z7.2.2.1 l14;have l12:listed.getD 12 false = true:=z7.2.2.2.2.1 l13;obtain ⟨g,cap,e12,hgl,hgo⟩:=z4 l12;have h15:Kt.lis listed 15 = false:=Kt.getD_no hn;have h16:Kt.lis listed 16 = false:=by
            cases h:Kt.lis listed 16 with
            | false => rfl
            | true =>
              have h9:listed.getD 15 false = true:=(z8.1 h);rw [Kt.getD_no hn] at h9;cases h9
          have hbw:=z2 h15;obtain ⟨gb2,e14,hb14⟩:=z5 l14 h15;rw [show Kt.vals _ act 12 = .slice (some ⟨g,0,none⟩) m cap from e12] at hb14 hgo;replace e14:Kt.val act 25 = .slice (some ⟨gb2,0,none⟩) 1 1:=e14;have e14b:act.eval (.tmp 25) = .slice (some ⟨gb2,0,none⟩) 1 1:=e14;have e0b:act.eval (.tmp 11) = u3:=(Kt.val_get act 11).trans e0;have hown2:w2.ownsRow w.heap.size 29 2 u3 k xs:=Kt.ownsRow_keep hOw fun g' e => hbw.block g' (hOw.lt g' e).2
          refine wp_append_lies (P:=Try.prog) w2 (.tmp 11) (.tmp 25) 25 rfl w.heap.size 29 i0 (.agg #[.int .i64 0,.slice none 0 0]) 2 32 Try.underlying25 hi0 hz0 hz1 hz2 rfl (by decide) u3 k xs e0b hown2 ⟨gb2,0,none⟩ 1 1 [.int .i64 lf,.slice (some ⟨g,0,none⟩) m cap] e14b rfl (World.news_of_block hb14) (by intro u hu;simp at hu;rcases hu with rfl | rfl <;> rfl) (by decide) (by unfold maxLen;omega) (by omega) (Nat.le_trans hbaseW hbw.size) _ rfl (fun g2 cap2 w3 h1 h2 h3 h4 => ?_);have hgg:u3.ownBlock ≠ some g:=fun e => by have:=(hOw.lt g e).2;omega
          have hg2:g < w2.heap.size:=(hgo.lt g rfl).2;have hne2:g ≠ g2:=by
            rintro rfl;rcases h3 with e | e
            · exact hgg e
            · omega
          refine hI.put ok (j:=15) (s:=26) (w':=w3) (Kt.qb rfl) rfl (Kt.qm rfl) (Kt.qb rfl) (Kt.Kp.grown h2 fun q hq => .inl hq) trivial ⟨z1,fun q => absurd (show true = false from q) (by decide),fun q r => ?_,fun _ => ⟨g,cap,e12,hgl,?_⟩,fun _ q => absurd (show true = false from q) (by decide),fun _ => ⟨g2,cap2,g,cap,e12,hgl,rfl,?_,h1,hne2,?_⟩,⟨z7.1,fun _ => ⟨l12,l14⟩,z7.2.2⟩,⟨fun _ => rfl,fun q => absurd (h16.symm.trans q) (by decide)⟩⟩
          · exact absurd ((show Kt.lis listed 12 = true from l12).symm.trans r) (by decide)
          · refine (congrArg (fun x => World.ownsRow w3 wr.heap.size 24 2 x m news) e12).mpr (Kt.ownsRow_keep hgo fun g' e => h2.block g' (hgo.lt g' e).2 fun e2 => ?_);have e9:g = g':=by simpa [Value.ownBlock] using e
            subst e9;exact hgg e2.symm
          · rcases h3 with e | e
            · exact .inl e
            · exact .inr (by have:=hbw.size;omega)
          · exact fun q hq hnq => (h2.block q (Nat.lt_of_lt_of_le hq hbw.size) fun e => hnq e.symm).trans (hbw.block q hq)
        · cases Option.some.inj ho;obtain ⟨z1,z2,z3,z4,z5,z6,z7,z8⟩:=hI.st;have l15:listed.getD 15 false = true:=hpre ⟨15,.data⟩ (by simp) rfl;have l0:listed.getD 0 false = true:=hpre ⟨0,.phase⟩ (by simp) rfl;refine Kt.op_assign rfl ?_;refine hI.put ok (j:=16) (s:=3) (Kt.qb rfl) rfl (Kt.qm rfl) (Kt.qb rfl) (Kt.Kp.refl _ _) trivial ⟨fun q => absurd (show true = false from q) (by decide),z2,z3,z4,z5,z6,⟨z7.1,z7.2.1,z7.2.2.1,fun _ => l0,z7.2.2.2.2⟩,⟨fun _ => l15,fun _ => rfl⟩⟩
        · exfalso;simp at ho
      case hdone =>
        intro listed act w2 hI hr;have hup:=Kt.all_up (fun q o ho => by
          rcases q with _ | _ | _ | _ | _ | _ | _ | _ | _ | _ | _ | _ | _ | _ | _ | _ | _ | q
          all_goals first | (cases Option.some.inj ho;decide) | (exfalso;simp at ho)) hI.size hr
        have hst:=hI.st;have hkept:=hI.kept;rw [hI.frame.out];simp only [crrP,crrS,Kt.sets];obtain ⟨y1,y2,y3,y4,y5,y6,y7,y8⟩:=hst;obtain ⟨g2,cap2,gx,capx,e12,hgl,e15,hat2,hown15,hne2,hkk15⟩:=y6 (hup 15 (by decide));obtain ⟨g9,cap9,e12x,_,hgo⟩:=y4 (hup 12 (by decide));have g16:=(y8.2 (hup 16 (by decide)));rw [e15] at g16 hown15;replace g16:Kt.val act 3 = .slice (some ⟨g2,0,none⟩) (k + 1) cap2:=g16;rw [e12] at hgo;clear y1 y2 y3 y4 y5 y6 y7 y8 e15 e12 e12x;generalize Kt.val act 3 = v3 at g16 ⊢;generalize Kt.val act 11 = v11;generalize Kt.val act 12 = v12;generalize Kt.val act 13 = v13;generalize Kt.val act 14 = v14;generalize Kt.val act 15 = v15;generalize Kt.val act 16 = v16;generalize Kt.val act 17 = v17;generalize Kt.val act 18 = v18;generalize Kt.val act 19 = v19;generalize Kt.val act 20 = v20;generalize Kt.val act 21 = v21;generalize Kt.val act 22 = v22;generalize Kt.val act 23 = v23;generalize Kt.val act 24 = v24;generalize Kt.val act 25 = v25;generalize Kt.val act 26 = v26;simp only [List.setIfInBounds_toArray,List.set_cons_zero,List.set_cons_succ];subst g16;clear hI hr hup;have hbz:Below w.heap.size w w2:=hbel.trans (hkept.to_below hsr (fun q hq e => by
          rcases e with e | e
          · have:=(hOw.lt q e).1;omega
          · omega))
        have hOZ:Hid (OG w2 w.heap.size (.slice (some ⟨g2,0,none⟩) (k + 1) cap2) (g.take (k + 1)) (fun r => if r = k then gx else G r) (fun r => if r = k then capx else C r)):=Lib.hid (by
          refine OG.snoc hO.out (by have:=HL.out;omega) ?_ ?_ hsr hat2 hne2 hgl hkk15
          · rw [hlf.out,hm.out,hxs.out];exact hown15
          · rw [hm.out,hnews0.out];exact hgo)
        clear hown15 hgo hkk15;go_wp2_with fail;go_roundw
        case rel => exact ⟨k + 1,_,_,by omega,by go_num,hOZ,hbz⟩
        case measure => simp [intOf];omega
    · obtain rfl:k = n:=by omega
      have htk:g.take k = g:=List.take_of_length_le (by rw [HL.out];exact Nat.le_refl _);have hOZ:=hO.out;rw [htk] at hOZ;go_wp2;go_ret;exact ⟨hbel,_,G,C,rfl,hOZ⟩
end Go.Proofs.Ytdbfiflmeiidjaa
end
section
/- great: whether a grammar or tokens are more than the statements examine. -/
namespace Gr
end Gr
namespace Go.Proofs.Ytdbfiflmeiidjaa
open Go Go.RowKit
end Go.Proofs.Ytdbfiflmeiidjaa
end
