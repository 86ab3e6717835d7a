/- Joined: RfD. -/
import Derived.Test.YtdbfiflmeiidjaaSa26
import Derived.Test.YtdbfiflmeiidjaaSa27
import Derived.Deep.AppendLies
import Derived.Deep.RegionLaw
import Derived.Deep.RegionWith
import Derived.Deep.DeepCutAuto
import Derived.StillTailTactics
section
/- other: a grammar for the reference, in memory of the call's own. -/
namespace Go.Proofs.Ytdbfiflmeiidjaa
open Go Go.RowKit
theorem Try.infoRefRule:(Try.prog.info? 88).map (fun i => (i.zero,i.size,i.bytes)) = some (some (.agg #[.int .i64 0,.slice none 0 0]),2,32):=by kernel_rfl
theorem Try.infoRefItem:(Try.prog.info? 89).map (fun i => (i.zero,i.size,i.bytes)) = some (some (.agg #[.int .u16 0,.int .i64 0]),2,16):=by kernel_rfl
def flatV (V:Nat → Value) (g:List Gr.Rule):List Value:=(List.range g.length).flatMap fun r => [.int .i64 (Gr.rul g r).left,V r]
theorem flatV_len (V:Nat → Value) (g:List Gr.Rule):(flatV V g).length = g.length * 2:=by
  unfold flatV;rw [List.length_flatMap];simp [List.map_const',List.sum_replicate_nat]
theorem flatV_get (V:Nat → Value) (g:List Gr.Rule) (r q:Nat) (hr:r < g.length) (hq:q < 2):(flatV V g)[r * 2 + q]? = ([.int .i64 (Gr.rul g r).left,V r]:List Value)[q]?:=by
  have key:∀ (f:Nat → List Value),(∀ i,(f i).length = 2) → ∀ n r,r < n → ((List.range n).flatMap f)[r * 2 + q]? = (f r)[q]?:=by
    intro f hf n
    induction n with
    | zero => intro r h;omega
    | succ n ih =>
      intro r h;have hl:((List.range n).flatMap f).length = n * 2:=by
        rw [List.length_flatMap];simp [hf,List.map_const',List.sum_replicate_nat]
      rw [List.range_succ,List.flatMap_append];by_cases e:r < n
      · rw [List.getElem?_append_left (by omega)];exact ih r e
      · obtain rfl:r = n:=by omega
        rw [List.getElem?_append_right (by omega),hl,show r * 2 + q - r * 2 = q from by omega];simp
  exact key _ (fun _ => rfl) _ r hr
theorem flatV_succ (V:Nat → Value) (vi:Value) (g:List Gr.Rule) (k:Nat) (h:k < g.length):flatV V (g.take k) ++ [.int .i64 (Gr.rul g k).left,vi] = flatV (fun r => if r = k then vi else V r) (g.take (k + 1)):=by
  have hr:∀ n r,r < n → n ≤ g.length → Gr.rul (g.take n) r = Gr.rul g r:=fun n r h1 h2 => by unfold Gr.rul;simp [h1]
  unfold flatV;rw [List.length_take,List.length_take,Nat.min_eq_left (by omega),Nat.min_eq_left (by omega),List.range_succ,List.flatMap_append];congr 1
  · refine Gr.flatMap_same _ fun r hr2 => ?_
    rw [List.mem_range] at hr2;rw [hr k r hr2 (by omega),hr (k + 1) r (by omega) (by omega)];show _ = [Value.int .i64 (Gr.rul g r).left,if r = k then vi else V r];rw [if_neg (by omega)]
  · simp [hr (k + 1) k (by omega) (by omega)]
structure RG (TR TI:TypeId) (w:World) (base:Nat) (v:Value) (g:List Gr.Rule) (V:Nat → Value):Prop where
  own:w.ownsRow base TR 2 v g.length (flatV V g)
  its:∀ r,r < g.length → w.ownsRow base TI 2 (V r) (Gr.rul g r).right.length (flatI (Gr.rul g r).right)
  ne:∀ r,r < g.length → ∀ b,(V r).ownBlock = some b → v.ownBlock ≠ some b
variable {TR TI:TypeId}
theorem RG.nil (w:World) (base:Nat) (V:Nat → Value):RG TR TI w base (.slice none 0 0) [] V:=⟨World.ownsRow_nil _ _ _ _,fun r hr => by simp at hr,fun r hr => by simp at hr⟩
theorem RG.on {w w':World} {base:Nat} {v:Value} {g:List Gr.Rule} {V:Nat → Value} (h:RG TR TI w base v g V) (hb:Below w.heap.size w w'):RG TR TI w' base v g V :=
  ⟨Kt.ownsRow_keep h.own fun q e => hb.block q (h.own.lt q e).2,fun r hr => Kt.ownsRow_keep (h.its r hr) fun q e => hb.block q ((h.its r hr).lt q e).2,h.ne⟩
theorem RG.snoc {w w2:World} {base k g2 cap2:Nat} {v vi:Value} {g:List Gr.Rule} {V:Nat → Value} (h:RG TR TI w base v (g.take k) V) (hk:k < g.length)
    (hown:w2.ownsRow base TR 2 (.slice (some ⟨g2,0,none⟩) (k + 1) cap2) (k + 1) (flatV V (g.take k) ++ [.int .i64 (Gr.rul g k).left,vi]))
    (hvi:w2.ownsRow base TI 2 vi (Gr.rul g k).right.length (flatI (Gr.rul g k).right)) (hat:v.ownBlock = some g2 ∨ w.heap.size ≤ g2) (hne:vi.ownBlock ≠ some g2)
    (hkk:∀ q,q < w.heap.size → v.ownBlock ≠ some q → w2.heap[q]? = w.heap[q]?):RG TR TI w2 base (.slice (some ⟨g2,0,none⟩) (k + 1) cap2) (g.take (k + 1)) (fun r => if r = k then vi else V r):=by
  have hlen:(g.take k).length = k:=by rw [List.length_take];omega
  have hlen1:(g.take (k + 1)).length = k + 1:=by rw [List.length_take];omega
  have hr:∀ n r,r < n → Gr.rul (g.take n) r = Gr.rul g r:=fun n r h1 => by unfold Gr.rul;simp [h1]
  refine ⟨?_,fun r hrl => ?_,fun r hrl b hb e' => ?_⟩
  · rw [hlen1,← flatV_succ _ _ g k hk];exact hown
  · rw [hlen1] at hrl;rw [hr (k + 1) r hrl];by_cases e:r = k
    · subst e;rw [if_pos rfl];exact hvi
    · rw [if_neg e];have h1:=h.its r (by rw [hlen];omega);rw [hr k r (by omega)] at h1;exact Kt.ownsRow_keep h1 fun q e' => hkk q (h1.lt q e').2 (h.ne r (by rw [hlen];omega) q e')
  · rw [hlen1] at hrl;have e2:g2 = b:=by simpa [Value.ownBlock] using e'
    subst e2;by_cases e:r = k
    · rw [if_pos e] at hb;exact hne hb
    · rw [if_neg e] at hb;rcases hat with a | a
      · exact h.ne r (by rw [hlen];omega) g2 hb a
      · have:=((h.its r (by rw [hlen];omega)).lt g2 hb).2;omega
theorem RG.rules {w:World} {base:Nat} {v:Value} {g:List Gr.Rule} {V:Nat → Value} (h:RG TR TI w base v g V) (hlen:∀ r,r < g.length → (Gr.rul g r).right.length ≤ 4611686018427387904):∃ A c,v = .slice A g.length c ∧ Kt.Rules w w.heap.size A g:=by
  rcases h.own.2 with ⟨rfl,h0⟩ | ⟨gb,cap,cur,rfl,hb,hcur,_⟩
  · exact ⟨none,0,by rw [h0],fun hp => by omega⟩
  · refine ⟨_,cap,rfl,fun _ => ⟨gb,0,rfl,(h.own.lt gb rfl).2,fun r hr => ?_⟩⟩;have c0:=h.own.cells rfl (r * 2) _ (by have:=flatV_get V g r 0 hr (by omega);rw [Nat.add_zero] at this;rw [this];rfl);have c1:=h.own.cells rfl (r * 2 + 1) _ (by rw [flatV_get V g r 1 hr (by omega)];rfl);rw [Addr.add_lit] at c0 c1;have hI:∃ A' c',V r = .slice A' (Gr.rul g r).right.length c' ∧ Kt.Items w w.heap.size A' (Gr.rul g r).right:=by
      rcases (h.its r hr).2 with ⟨e,h0⟩ | ⟨gi,ci,cui,e,hbi,hci,_⟩
      · exact ⟨none,0,by rw [e,h0],fun hp => by omega⟩
      · refine ⟨_,ci,e,fun _ => ⟨gi,0,rfl,(Array.getElem?_eq_some_iff.1 hci).1,fun k hk => ?_⟩⟩;obtain ⟨e0,e1⟩:=flatI_get _ k hk;have d0:=(h.its r hr).cells (g:=gi) (by rw [e];rfl) (k * 2) _ e0;have d1:=(h.its r hr).cells (g:=gi) (by rw [e];rfl) (k * 2 + 1) _ e1;rw [Addr.add_lit] at d0 d1;exact ⟨by simpa using d0,by simpa [Nat.add_assoc] using d1⟩
    obtain ⟨A',c',e,hi⟩:=hI;rw [e] at c1;exact ⟨by simpa using c0,A',c',by simpa [Nat.add_assoc] using c1,hlen r hr,hi⟩
def Caps (w:World) (A:Option Addr) (g:List Gr.Rule):Prop:=∀ b o,A = some ⟨b,o,none⟩ → ∀ r,r < g.length → ∀ A' n' c',w.cell? ⟨b,o + r * 2 + 1,none⟩ = some (.slice A' n' c') → n' ≤ c'
theorem Caps.keep {w w':World} {B:Nat} {A:Option Addr} {g:List Gr.Rule} (h:Caps w A g) (hR:Kt.Rules w B A g) (hk:∀ p:Addr,p.block < B → w'.cell? p = w.cell? p):Caps w' A g:=fun b o e r hr A' n' c' hc => by
  obtain ⟨b2,o2,e2,hb,_⟩:=hR (by omega);rw [e2] at e;injection e with e;injection e with e3 e4;subst e3;exact h b2 o (by rw [e2,e4]) r hr A' n' c' ((hk ⟨b2,o + r * 2 + 1,none⟩ hb).symm.trans hc)
theorem RG.caps {w:World} {base:Nat} {v:Value} {g:List Gr.Rule} {V:Nat → Value} (h:RG TR TI w base v g V) {A:Option Addr} {c:Nat} (e:v = .slice A g.length c):Caps w A g:=by
  intro b o eA r hr A' n' c' hc;rcases h.own.2 with ⟨_,h0⟩ | ⟨gb,cap,cur,e2,hb,hcur,_⟩
  · omega
  · have c1:=h.own.cells (g:=gb) (by rw [e2];rfl) (r * 2 + 1) _ (by rw [flatV_get V g r 1 hr (by omega)];rfl);rw [e2] at e;injection e with e3 _ _;rw [eA] at e3;injection e3 with e3;injection e3 with e4 e5;subst e4;subst e5;have c2:w.cell? ⟨gb,0 + r * 2 + 1,none⟩ = some (V r):=by rw [Addr.add_lit] at c1;simpa [Nat.add_assoc] using c1
    rw [hc] at c2;injection c2 with c2;rcases (h.its r hr).2 with ⟨e8,h8⟩ | ⟨gi,ci,cui,e8,hbi,hci,hle,_⟩
    · rw [e8] at c2;injection c2 with _ q1 q2;omega
    · rw [e8] at c2;injection c2 with _ q1 q2;omega
theorem flatI_snoc (l:List Gr.Item) (q:Nat) (h:q < l.length):flatI (l.take q) ++ [.int .u16 (Gr.itm l q).cls,.int .i64 (Gr.itm l q).sym] = flatI (l.take (q + 1)):=by
  rw [Gr.take_succ l q h];unfold flatI;rw [List.flatMap_append];simp
def othZ (rb q:Nat) (xc xs lf:Int) (v:Value) (xl:List Value) (W:World) (L:Nat → Bool) (V:Nat → Value) (w:World):Prop :=
  (L 24 = false → Kt.Blk w rb 88 #[.int .i64 lf,v]) ∧ (L 22 = false → Below W.heap.size W w) ∧
  (L 21 = true → L 22 = false → ∃ gb,V 21 = .slice (some ⟨gb,0,none⟩) 1 1 ∧ Kt.Blk w gb 89 #[.int .u16 xc,.int .i64 xs]) ∧
  (L 22 = true → ∃ g2 cap2,V 22 = .slice (some ⟨g2,0,none⟩) (q + 1) cap2 ∧ w.ownsRow (rb + 1) 89 2 (V 22) (q + 1) (xl ++ [.int .u16 xc,.int .i64 xs])) ∧
  (L 24 = true → Kt.Blk w rb 88 #[.int .i64 lf,V 22]) ∧
  ((L 24 = true → L 1 = true ∧ L 22 = true) ∧ (L 22 = true → L 21 = true ∧ L 1 = true))
theorem othZ_start {rb q:Nat} {xc xs lf:Int} {v:Value} {xl:List Value} {W:World} {V:Nat → Value} (h:Kt.Blk W rb 88 #[.int .i64 lf,v]):othZ rb q xc xs lf v xl W (fun _ => false) V W.drew :=
  ⟨fun _ => h,fun _ => (Below.refl _ _).drew,fun q => (by cases q),fun q => (by cases q),fun q => (by cases q),⟨fun q => (by cases q),fun q => (by cases q)⟩⟩
def othSlot:Nat → Nat:=fun j => match j with | 0 => 29 | 1 => 30 | 2 => 31 | 3 => 32 | 4 => 33 | 5 => 34 | 6 => 35 | 7 => 36 | 8 => 37 | 9 => 38 | 10 => 39 | 11 => 40 | 12 => 41 | 13 => 42 | 14 => 43 | 15 => 44 | 16 => 45 | 17 => 46 | 18 => 47 | 19 => 48 | 20 => 49 | 21 => 50 | 22 => 51 | 23 => 52 | 24 => 100024 | _ => 999999
def othS:List Nat:=[29,30,31,32,33,34,35,36,37,38,39,40,41,42,43,44,45,46,47,48,49,50,51,52]
set_option linter.unusedVariables false in
def othR (bA oA n cp bI oI m c2 rb k q:Nat) (xc xs lf:Int) (v:Value) (xl:List Value):Nat → Value → World → Prop:=fun j u w => match j with | 0 => u = (.pointer (some ⟨rb,1,none⟩)) | 1 => u = (v) | 2 => u = (.slice (some ⟨bA,oA,none⟩) n cp) | 3 => u = (.int .i64 (k:Int)) | 4 => u = (.pointer (some ⟨bA,oA + k * 2,none⟩)) | 5 => u = (.pointer (some ⟨bA,oA + k * 2 + 1,none⟩)) | 6 => u = (.slice (some ⟨bI,oI,none⟩) m c2) | 7 => u = (.int .i64 (q:Int)) | 8 => u = (.pointer (some ⟨bI,oI + q * 2,none⟩)) | 9 => u = (.pointer (some ⟨bI,oI + q * 2,none⟩)) | 10 => u = (.int .u16 xc) | 11 => u = (.slice (some ⟨bA,oA,none⟩) n cp) | 12 => u = (.int .i64 (k:Int)) | 13 => u = (.pointer (some ⟨bA,oA + k * 2,none⟩)) | 14 => u = (.pointer (some ⟨bA,oA + k * 2 + 1,none⟩)) | 15 => u = (.slice (some ⟨bI,oI,none⟩) m c2) | 16 => u = (.int .i64 (q:Int)) | 17 => u = (.pointer (some ⟨bI,oI + q * 2,none⟩)) | 18 => u = (.pointer (some ⟨bI,oI + q * 2 + 1,none⟩)) | 19 => u = (.int .i64 xs) | 20 => u = (.agg #[.int .u16 xc,.int .i64 xs]) | 21 => True | 22 => True | 23 => u = (.pointer (some ⟨rb,1,none⟩)) | 24 => True | _ => True
def othP (a0:Act) (W:World) (bA oA n cp bI oI m c2 rb k q:Nat) (xc xs lf:Int) (v:Value) (xl:List Value):Kt.RxP:=⟨25,othSlot,othS,a0,W,fun p => p = rb ∨ v.ownBlock = some p ∨ W.heap.size ≤ p,othR bA oA n cp bI oI m c2 rb k q xc xs lf v xl,othZ rb q xc xs lf v xl W⟩
theorem oth_ok {a0:Act} {W:World} {bA oA n cp bI oI m c2 rb k q:Nat} {xc xs lf:Int} {v:Value} {xl:List Value} {listed:Array Bool} {act:Act} {w:World} (_:Kt.RxI (othP a0 W bA oA n cp bI oI m c2 rb k q xc xs lf v xl) listed act w):Kt.RxOk (othP a0 W bA oA n cp bI oI m c2 rb k q xc xs lf v xl):=by
  refine ⟨fun i hi j hj => (by decide:∀ i,i < 25 → ∀ j,j < 25 → othSlot i = othSlot j → i = j) i hi j hj,fun j u w w' h hk => ?_⟩;rcases j with _ | _ | _ | _ | _ | _ | _ | _ | _ | _ | _ | _ | _ | _ | _ | _ | _ | _ | _ | _ | _ | _ | _ | _ | _ | j
  · exact h
  · exact h
  · exact h
  · exact h
  · exact h
  · exact h
  · exact h
  · exact h
  · exact h
  · exact h
  · exact h
  · exact h
  · exact h
  · exact h
  · exact h
  · exact h
  · exact h
  · exact h
  · exact h
  · exact h
  · exact h
  · exact h
  · exact h
  · exact h
  · exact h
  · exact h
def OtherPost (g:List Gr.Rule) (n:Nat) (w:World) (e:Ending) (w':World):Prop:=Below w.heap.size w w' ∧ ∃ A c,e = .returned (.slice A n c) ∧ Kt.Rules w' w'.heap.size A g ∧ Caps w' A g
set_option maxRecDepth 100000 in
set_option maxHeartbeats 4000000 in
theorem other_any (g:List Gr.Rule) (A:Option Addr) (n cp:Nat) (w:World) (hl:g.length = n) (hn:n ≤ 1000) (h12:∀ r,r < g.length → (Gr.rul g r).right.length ≤ 1000) (hg:Kt.Rules w w.heap.size A g) :
    Calls Try.prog 12 #[.slice A n cp] w (OtherPost g n w):=by
  have HL:=Lib.hid hl;have HG:=Lib.hid hg;have H12:=Lib.hid h12;obtain ⟨i0,hi0,hz0,hz1,hz2⟩:=info_parts Try.infoRefRule;obtain ⟨i1,hi1,hy0,hy1,hy2⟩:=info_parts Try.infoRefItem;clear hl hg h12;go_enter Try.func12,Try.ntmps12;go_wp2_with fail;go_loopw [3,4] (fun u s wr => ∃ (k:Nat) (V:Nat → Value),k ≤ n ∧ s = .int .i64 k ∧ Hid (RG 88 89 wr w.heap.size u (g.take k) V) ∧ Below w.heap.size w wr) (fun _ s _ => n - (intOf s).toNat)
  case atStart => exact ⟨0,fun _ => undef,Nat.zero_le _,rfl,Lib.hid (RG.nil _ _ _),Below.refl _ _⟩
  case round =>
    obtain ⟨k,V,hk,rfl,hR,hbel⟩:=hrel;rename World => wo
    have hso:=hbel.size;by_cases hlt:k < n
    · have dkn:decide ((k:Int) < n) = true:=by simp;omega
      have hkg:k < g.length:=by rw [HL.out];exact hlt
      obtain ⟨bA,oA,rfl,hbA,hcA⟩:=(HG.out.on hbel) (by rw [HL.out];omega);obtain ⟨cl,A',c',cr,hlr,hit⟩:=hcA k hkg;obtain ⟨lf,hlf⟩:∃ lf,Hid ((Gr.rul g k).left = lf):=⟨_,Lib.hid rfl⟩;obtain ⟨l,hrl⟩:∃ l,Hid ((Gr.rul g k).right = l):=⟨_,Lib.hid rfl⟩;have hm12:=H12.out k hkg;rw [hlf.out] at cl;rw [hrl.out] at cr hlr hit hm12;obtain ⟨m,hm⟩:∃ m,Hid (l.length = m):=⟨_,Lib.hid rfl⟩;rw [hm.out] at cr hlr hm12;have HIT:=Lib.hid hit;obtain ⟨rb,hrb⟩:∃ rb,wo.heap.size = rb:=⟨_,rfl⟩;obtain ⟨w1,hw1⟩:∃ w1,wo.alloc (.cells #[.int .i64 lf,.slice none 0 0] 88) = w1:=⟨_,rfl⟩;have k1:Kt.Blk w1 rb 88 #[.int .i64 lf,.slice none 0 0]:=by rw [← hw1,← hrb];exact Kt.Blk.new wo _ _
      have hb1:Below wo.heap.size wo w1:=by rw [← hw1];exact (Below.refl _ _).alloc (Nat.le_refl _) _
      have HK1:=Lib.hid k1;have hrb1:rb + 1 ≤ w1.heap.size:=by rw [← hrb,← hw1];simp
      have HW1:=Lib.hid hw1;have HBA:bA < rb:=by rw [← hrb];exact hbA
      clear hcA hit k1 hlr hw1;go_wp2_with fail;rw [HW1.out];go_loopw [6] (fun s wr => ∃ (q:Nat) (v:Value),q ≤ m ∧ s = .int .i64 q ∧ Hid (Kt.Blk wr rb 88 #[.int .i64 lf,v]) ∧ Hid (wr.ownsRow (rb + 1) 89 2 v q (flatI (l.take q))) ∧ Below wo.heap.size wo wr) (fun s _ => m - (intOf s).toNat)
      case atStart => exact ⟨0,.slice none 0 0,Nat.zero_le _,rfl,HK1,Lib.hid (World.ownsRow_nil _ _ _ _),hb1⟩
      case round =>
        obtain ⟨q,v,hq,rfl,hKb,hOw,hbl⟩:=hrel;rename World => wl
        have hsl:=hbl.size;have hkb:=hKb.out;have hrbl:rb + 1 ≤ wl.heap.size:=hkb.lt;have cl2:wl.cell? ⟨bA,oA + k * 2,none⟩ = some (.int .i64 lf):=(hbl.cell (p:=⟨bA,oA + k * 2,none⟩) hbA).trans cl;have cr2:wl.cell? ⟨bA,oA + k * 2 + 1,none⟩ = some (.slice A' m c'):=(hbl.cell (p:=⟨bA,oA + k * 2 + 1,none⟩) hbA).trans cr;have b0:wl.cell? ⟨rb,0,none⟩ = some (.int .i64 lf):=hkb.cell 0;have b1:wl.cell? ⟨rb,1,none⟩ = some v:=hkb.cell 1;have f1:wl.frozen? ⟨rb,1,none⟩ = false:=hkb.frozen 1;have hbw:Below w.heap.size w wl:=hbel.trans (hbl.mono hso);clear hkb;by_cases hqm:q < m
        · have hql:q < l.length:=by rw [hm.out];exact hqm
          obtain ⟨bI,oI,rfl,hbI,hcI⟩:=HIT.out (by rw [hm.out];omega);obtain ⟨it0,it1⟩:=hcI q hql;have HFS:=Lib.hid (flatI_snoc l q hql);obtain ⟨it,hitm⟩:∃ it,Hid (Gr.itm l q = it):=⟨_,Lib.hid rfl⟩;obtain ⟨xc,xs⟩:=it;rw [hitm.out] at it0 it1 HFS;have j0:wl.cell? ⟨bI,oI + q * 2,none⟩ = some (.int .u16 xc):=(hbl.cell (p:=⟨bI,oI + q * 2,none⟩) hbI).trans it0;have j1:wl.cell? ⟨bI,oI + q * 2 + 1,none⟩ = some (.int .i64 xs):=(hbl.cell (p:=⟨bI,oI + q * 2 + 1,none⟩) hbI).trans it1;clear hcI it0 it1;have hOwl:=hOw.out;have lbA:bA < wl.heap.size:=Nat.lt_of_lt_of_le hbA hsl;have lbI:bI < wl.heap.size:=Nat.lt_of_lt_of_le hbI hsl;have hXA:¬ (bA = rb ∨ v.ownBlock = some bA ∨ wl.heap.size ≤ bA):=by
            rintro (h | h | h)
            · omega
            · have:=(hOwl.lt bA h).1;omega
            · omega
          have hXI:¬ (bI = rb ∨ v.ownBlock = some bI ∨ wl.heap.size ≤ bI):=by
            rintro (h | h | h)
            · omega
            · have:=(hOwl.lt bI h).1;omega
            · omega
          go_upto_region 9 with fail;refine Kt.region_inv (Kt.RxI (othP _ wl bA oA n cp bI oI m c' rb k q xc xs lf v (flatI (l.take q)))) (by kernel_rfl) ?hg (Kt.RxI.start (othZ_start hKb.out)) ?hstep ?hdone
          case hg =>
            intro q o ho;rcases q with _ | _ | _ | _ | _ | _ | _ | _ | _ | _ | _ | _ | _ | _ | _ | _ | _ | _ | _ | _ | _ | _ | _ | _ | _ | q
            all_goals first | (cases Option.some.inj ho;rfl) | (exfalso;simp at ho)
          case hstep =>
            intro listed act w2 q o hI ho hn hpre;have ok:=oth_ok hI;rcases q with _ | _ | _ | _ | _ | _ | _ | _ | _ | _ | _ | _ | _ | _ | _ | _ | _ | _ | _ | _ | _ | _ | _ | _ | _ | q
            · cases Option.some.inj ho;have f5:act.tmps[5]?.getD undef = .pointer (some ⟨rb,0,none⟩):=(Kt.val_get act 5).symm.trans (hI.frame.val_out (s:=5) (Kt.qn rfl));have hk:=hI.put ok (j:=0) (s:=29) (v:=.pointer (some ⟨rb,1,none⟩)) (Kt.qb rfl) rfl (Kt.qm rfl) (Kt.qb rfl) (Kt.Kp.refl _ _) rfl hI.st;refine Kt.op_opq hk ?_;clear hk;intro KK hkk;unfold Oper.wp;go_simp;exact hkk
            · cases Option.some.inj ho;have e0:act.tmps[29]?.getD undef = .pointer (some ⟨rb,1,none⟩):=hI.eq (j:=0) (Kt.qb rfl) rfl (fun _ _ h => h) (hpre ⟨0,.data⟩ (by simp) rfl);obtain ⟨z1,z2,z3,z4,z5,z6⟩:=hI.st;have h24:Kt.lis listed 24 = false:=by
                cases h:Kt.lis listed 24 with
                | false => rfl
                | true =>
                  have h9:listed.getD 1 false = true:=(z6.1 h).1;rw [Kt.getD_no hn] at h9;cases h9
              have cB:w2.cell? ⟨rb,1,none⟩ = some v:=(z1 h24).cell 1;have hk:=hI.put ok (j:=1) (s:=30) (v:=v) (w':=_) (Kt.qb rfl) rfl (Kt.qm rfl) (Kt.qb rfl) (Kt.Kp.refl _ _) rfl ⟨z1,z2,z3,z4,z5,⟨fun h => ⟨rfl,(z6.1 h).2⟩,fun h => ⟨(z6.2 h).1,rfl⟩⟩⟩;refine Kt.op_opq hk ?_;clear hk;intro KK hkk;unfold Oper.wp;go_simp;exact hkk
            · cases Option.some.inj ho;refine Kt.op_move rfl ?_;rw [show act.eval (.tmp 0) = .slice (some ⟨bA,oA,none⟩) n cp from hI.frame.val_out (s:=0) (Kt.qn rfl)];exact hI.put ok (j:=2) (Kt.qb rfl) rfl (Kt.qm rfl) (Kt.qb rfl) (Kt.Kp.refl _ _) rfl hI.st
            · cases Option.some.inj ho;refine Kt.op_move rfl ?_;rw [show act.eval (.tmp 4) = .int .i64 (k:Int) from hI.frame.val_out (s:=4) (Kt.qn rfl)];exact hI.put ok (j:=3) (Kt.qb rfl) rfl (Kt.qm rfl) (Kt.qb rfl) (Kt.Kp.refl _ _) rfl hI.st
            · cases Option.some.inj ho;have e2:act.tmps[31]?.getD undef = .slice (some ⟨bA,oA,none⟩) n cp:=hI.eq (j:=2) (Kt.qb rfl) rfl (fun _ _ h => h) (hpre ⟨2,.data⟩ (by simp) rfl);have e3:act.tmps[32]?.getD undef = .int .i64 (k:Int):=hI.eq (j:=3) (Kt.qb rfl) rfl (fun _ _ h => h) (hpre ⟨3,.data⟩ (by simp) rfl);have hk:=hI.put ok (j:=4) (s:=33) (v:=.pointer (some ⟨bA,oA + k * 2,none⟩)) (Kt.qb rfl) rfl (Kt.qm rfl) (Kt.qb rfl) (Kt.Kp.refl _ _) rfl hI.st;refine Kt.op_opq hk ?_;clear hk;intro KK hkk;unfold Oper.wp;go_simp;exact hkk
            · cases Option.some.inj ho;have e4:act.tmps[33]?.getD undef = .pointer (some ⟨bA,oA + k * 2,none⟩):=hI.eq (j:=4) (Kt.qb rfl) rfl (fun _ _ h => h) (hpre ⟨4,.data⟩ (by simp) rfl);have hk:=hI.put ok (j:=5) (s:=34) (v:=.pointer (some ⟨bA,oA + k * 2 + 1,none⟩)) (Kt.qb rfl) rfl (Kt.qm rfl) (Kt.qb rfl) (Kt.Kp.refl _ _) rfl hI.st;refine Kt.op_opq hk ?_;clear hk;intro KK hkk;unfold Oper.wp;go_simp;exact hkk
            · cases Option.some.inj ho;have e5:act.tmps[34]?.getD undef = .pointer (some ⟨bA,oA + k * 2 + 1,none⟩):=hI.eq (j:=5) (Kt.qb rfl) rfl (fun _ _ h => h) (hpre ⟨5,.data⟩ (by simp) rfl);have c0:w2.cell? ⟨bA,oA + k * 2 + 1,none⟩ = some (.slice (some ⟨bI,oI,none⟩) m c'):=hI.cell lbA hXA cr2;have hk:=hI.put ok (j:=6) (s:=35) (v:=.slice (some ⟨bI,oI,none⟩) m c') (Kt.qb rfl) rfl (Kt.qm rfl) (Kt.qb rfl) (Kt.Kp.refl _ _) rfl hI.st;refine Kt.op_opq hk ?_;clear hk;intro KK hkk;unfold Oper.wp;go_simp;exact hkk
            · cases Option.some.inj ho;refine Kt.op_move rfl ?_;rw [show act.eval (.tmp 6) = .int .i64 (q:Int) from hI.frame.val_out (s:=6) (Kt.qn rfl)];exact hI.put ok (j:=7) (Kt.qb rfl) rfl (Kt.qm rfl) (Kt.qb rfl) (Kt.Kp.refl _ _) rfl hI.st
            · cases Option.some.inj ho;have e6:act.tmps[35]?.getD undef = .slice (some ⟨bI,oI,none⟩) m c':=hI.eq (j:=6) (Kt.qb rfl) rfl (fun _ _ h => h) (hpre ⟨6,.data⟩ (by simp) rfl);have e7:act.tmps[36]?.getD undef = .int .i64 (q:Int):=hI.eq (j:=7) (Kt.qb rfl) rfl (fun _ _ h => h) (hpre ⟨7,.data⟩ (by simp) rfl);have hk:=hI.put ok (j:=8) (s:=37) (v:=.pointer (some ⟨bI,oI + q * 2,none⟩)) (Kt.qb rfl) rfl (Kt.qm rfl) (Kt.qb rfl) (Kt.Kp.refl _ _) rfl hI.st;refine Kt.op_opq hk ?_;clear hk;intro KK hkk;unfold Oper.wp;go_simp;exact hkk
            · cases Option.some.inj ho;have e8:act.tmps[37]?.getD undef = .pointer (some ⟨bI,oI + q * 2,none⟩):=hI.eq (j:=8) (Kt.qb rfl) rfl (fun _ _ h => h) (hpre ⟨8,.data⟩ (by simp) rfl);have hk:=hI.put ok (j:=9) (s:=38) (v:=.pointer (some ⟨bI,oI + q * 2,none⟩)) (Kt.qb rfl) rfl (Kt.qm rfl) (Kt.qb rfl) (Kt.Kp.refl _ _) rfl hI.st;refine Kt.op_opq hk ?_;clear hk;intro KK hkk;unfold Oper.wp;go_simp;exact hkk
            · cases Option.some.inj ho;have e9:act.tmps[38]?.getD undef = .pointer (some ⟨bI,oI + q * 2,none⟩):=hI.eq (j:=9) (Kt.qb rfl) rfl (fun _ _ h => h) (hpre ⟨9,.data⟩ (by simp) rfl);have c0:w2.cell? ⟨bI,oI + q * 2,none⟩ = some (.int .u16 xc):=hI.cell lbI hXI j0;have hk:=hI.put ok (j:=10) (s:=39) (v:=.int .u16 xc) (Kt.qb rfl) rfl (Kt.qm rfl) (Kt.qb rfl) (Kt.Kp.refl _ _) rfl hI.st;refine Kt.op_opq hk ?_;clear hk;intro KK hkk;unfold Oper.wp;go_simp;exact hkk
            · cases Option.some.inj ho;refine Kt.op_move rfl ?_;rw [show act.eval (.tmp 0) = .slice (some ⟨bA,oA,none⟩) n cp from hI.frame.val_out (s:=0) (Kt.qn rfl)];exact hI.put ok (j:=11) (Kt.qb rfl) rfl (Kt.qm rfl) (Kt.qb rfl) (Kt.Kp.refl _ _) rfl hI.st
            · cases Option.some.inj ho;refine Kt.op_move rfl ?_;rw [show act.eval (.tmp 4) = .int .i64 (k:Int) from hI.frame.val_out (s:=4) (Kt.qn rfl)];exact hI.put ok (j:=12) (Kt.qb rfl) rfl (Kt.qm rfl) (Kt.qb rfl) (Kt.Kp.refl _ _) rfl hI.st
            · cases Option.some.inj ho;have e11:act.tmps[40]?.getD undef = .slice (some ⟨bA,oA,none⟩) n cp:=hI.eq (j:=11) (Kt.qb rfl) rfl (fun _ _ h => h) (hpre ⟨11,.data⟩ (by simp) rfl);have e12:act.tmps[41]?.getD undef = .int .i64 (k:Int):=hI.eq (j:=12) (Kt.qb rfl) rfl (fun _ _ h => h) (hpre ⟨12,.data⟩ (by simp) rfl);have hk:=hI.put ok (j:=13) (s:=42) (v:=.pointer (some ⟨bA,oA + k * 2,none⟩)) (Kt.qb rfl) rfl (Kt.qm rfl) (Kt.qb rfl) (Kt.Kp.refl _ _) rfl hI.st;refine Kt.op_opq hk ?_;clear hk;intro KK hkk;unfold Oper.wp;go_simp;exact hkk
            · cases Option.some.inj ho;have e13:act.tmps[42]?.getD undef = .pointer (some ⟨bA,oA + k * 2,none⟩):=hI.eq (j:=13) (Kt.qb rfl) rfl (fun _ _ h => h) (hpre ⟨13,.data⟩ (by simp) rfl);have hk:=hI.put ok (j:=14) (s:=43) (v:=.pointer (some ⟨bA,oA + k * 2 + 1,none⟩)) (Kt.qb rfl) rfl (Kt.qm rfl) (Kt.qb rfl) (Kt.Kp.refl _ _) rfl hI.st;refine Kt.op_opq hk ?_;clear hk;intro KK hkk;unfold Oper.wp;go_simp;exact hkk
            · cases Option.some.inj ho;have e14:act.tmps[43]?.getD undef = .pointer (some ⟨bA,oA + k * 2 + 1,none⟩):=hI.eq (j:=14) (Kt.qb rfl) rfl (fun _ _ h => h) (hpre ⟨14,.data⟩ (by simp) rfl);have c0:w2.cell? ⟨bA,oA + k * 2 + 1,none⟩ = some (.slice (some ⟨bI,oI,none⟩) m c'):=hI.cell lbA hXA cr2;have hk:=hI.put ok (j:=15) (s:=44) (v:=.slice (some ⟨bI,oI,none⟩) m c') (Kt.qb rfl) rfl (Kt.qm rfl) (Kt.qb rfl) (Kt.Kp.refl _ _) rfl hI.st;refine Kt.op_opq hk ?_;clear hk;intro KK hkk;unfold Oper.wp;go_simp;exact hkk
            · cases Option.some.inj ho;refine Kt.op_move rfl ?_;rw [show act.eval (.tmp 6) = .int .i64 (q:Int) from hI.frame.val_out (s:=6) (Kt.qn rfl)];exact hI.put ok (j:=16) (Kt.qb rfl) rfl (Kt.qm rfl) (Kt.qb rfl) (Kt.Kp.refl _ _) rfl hI.st
            · cases Option.some.inj ho;have e15:act.tmps[44]?.getD undef = .slice (some ⟨bI,oI,none⟩) m c':=hI.eq (j:=15) (Kt.qb rfl) rfl (fun _ _ h => h) (hpre ⟨15,.data⟩ (by simp) rfl);have e16:act.tmps[45]?.getD undef = .int .i64 (q:Int):=hI.eq (j:=16) (Kt.qb rfl) rfl (fun _ _ h => h) (hpre ⟨16,.data⟩ (by simp) rfl);have hk:=hI.put ok (j:=17) (s:=46) (v:=.pointer (some ⟨bI,oI + q * 2,none⟩)) (Kt.qb rfl) rfl (Kt.qm rfl) (Kt.qb rfl) (Kt.Kp.refl _ _) rfl hI.st;refine Kt.op_opq hk ?_;clear hk;intro KK hkk;unfold Oper.wp;go_simp;exact hkk
            · cases Option.some.inj ho;have e17:act.tmps[46]?.getD undef = .pointer (some ⟨bI,oI + q * 2,none⟩):=hI.eq (j:=17) (Kt.qb rfl) rfl (fun _ _ h => h) (hpre ⟨17,.data⟩ (by simp) rfl);have hk:=hI.put ok (j:=18) (s:=47) (v:=.pointer (some ⟨bI,oI + q * 2 + 1,none⟩)) (Kt.qb rfl) rfl (Kt.qm rfl) (Kt.qb rfl) (Kt.Kp.refl _ _) rfl hI.st;refine Kt.op_opq hk ?_;clear hk;intro KK hkk;unfold Oper.wp;go_simp;exact hkk
            · cases Option.some.inj ho;have e18:act.tmps[47]?.getD undef = .pointer (some ⟨bI,oI + q * 2 + 1,none⟩):=hI.eq (j:=18) (Kt.qb rfl) rfl (fun _ _ h => h) (hpre ⟨18,.data⟩ (by simp) rfl);have c0:w2.cell? ⟨bI,oI + q * 2 + 1,none⟩ = some (.int .i64 xs):=hI.cell lbI hXI j1;have hk:=hI.put ok (j:=19) (s:=48) (v:=.int .i64 xs) (Kt.qb rfl) rfl (Kt.qm rfl) (Kt.qb rfl) (Kt.Kp.refl _ _) rfl hI.st;refine Kt.op_opq hk ?_;clear hk;intro KK hkk;unfold Oper.wp;go_simp;exact hkk
            · cases Option.some.inj ho;have e10:act.tmps[39]?.getD undef = .int .u16 xc:=hI.eq (j:=10) (Kt.qb rfl) rfl (fun _ _ h => h) (hpre ⟨10,.data⟩ (by simp) rfl);have e19:act.tmps[48]?.getD undef = .int .i64 xs:=hI.eq (j:=19) (Kt.qb rfl) rfl (fun _ _ h => h) (hpre ⟨19,.data⟩ (by simp) rfl);have hk:=hI.put ok (j:=20) (s:=49) (v:=.agg #[.int .u16 xc,.int .i64 xs]) (Kt.qb rfl) rfl (Kt.qm rfl) (Kt.qb rfl) (Kt.Kp.refl _ _) rfl hI.st;refine Kt.op_opq hk ?_;clear hk;intro KK hkk;unfold Oper.wp;go_simp;exact hkk
            · cases Option.some.inj ho;have e20:act.tmps[49]?.getD undef = .agg #[.int .u16 xc,.int .i64 xs]:=hI.eq (j:=20) (Kt.qb rfl) rfl (fun _ _ h => h) (hpre ⟨20,.data⟩ (by simp) rfl);obtain ⟨z1,z2,z3,z4,z5,z6⟩:=hI.st;have h22:Kt.lis listed 22 = false:=by
                cases h:Kt.lis listed 22 with
                | false => rfl
                | true =>
                  have h9:listed.getD 21 false = true:=(z6.2 h).1;rw [Kt.getD_no hn] at h9;cases h9
              have h24:Kt.lis listed 24 = false:=by
                cases h:Kt.lis listed 24 with
                | false => rfl
                | true =>
                  have h9:listed.getD 21 false = true:=(z6.2 (z6.1 h).2).1;rw [Kt.getD_no hn] at h9;cases h9
              have hba:Below w2.heap.size w2 (w2.alloc (.cells #[.int .u16 xc,.int .i64 xs] 89)):=(Below.refl _ _).alloc (Nat.le_refl _) _;have hbw:=z2 h22;have hk:=hI.put ok (j:=21) (s:=50) (v:=.slice (some ⟨w2.heap.size,0,none⟩) 1 1) (w':=w2.alloc (.cells #[.int .u16 xc,.int .i64 xs] 89)) (Kt.qb rfl) rfl (Kt.qm rfl) (Kt.qb rfl) (Kt.Kp.below _ hba) trivial ?_
              · refine Kt.op_opq hk ?_;clear hk;intro KK hkk;unfold Oper.wp;go_simp;exact hkk
              refine ⟨fun _ => (z1 h24).alloc _,fun _ => hbw.trans (hba.mono hbw.size),fun _ _ => ⟨w2.heap.size,rfl,Kt.Blk.new _ _ _⟩,fun h => absurd (h22.symm.trans h) (by decide),fun h => absurd (h24.symm.trans h) (by decide),⟨z6.1,fun h => absurd (h22.symm.trans h) (by decide)⟩⟩
            · cases Option.some.inj ho;have e1:act.tmps[30]?.getD undef = v:=hI.eq (j:=1) (Kt.qb rfl) rfl (fun _ _ h => h) (hpre ⟨1,.data⟩ (by simp) rfl);obtain ⟨z1,z2,z3,z4,z5,z6⟩:=hI.st;have l21:listed.getD 21 false = true:=hpre ⟨21,.data⟩ (by simp) rfl;have l1:listed.getD 1 false = true:=hpre ⟨1,.data⟩ (by simp) rfl;have h22:Kt.lis listed 22 = false:=Kt.getD_no hn;have h24:Kt.lis listed 24 = false:=by
                cases h:Kt.lis listed 24 with
                | false => rfl
                | true =>
                  have h9:listed.getD 22 false = true:=(z6.1 h).2;rw [Kt.getD_no hn] at h9;cases h9
              have hbw:=z2 h22;obtain ⟨gb,e21,hb21⟩:=z3 l21 h22;replace e21:Kt.val act 50 = .slice (some ⟨gb,0,none⟩) 1 1:=e21;have e21b:act.eval (.tmp 50) = .slice (some ⟨gb,0,none⟩) 1 1:=e21;have e1b:act.eval (.tmp 30) = v:=(Kt.val_get act 30).trans e1;have hown2:w2.ownsRow (rb + 1) 89 2 v q (flatI (l.take q)):=Kt.ownsRow_keep hOwl fun g' e => hbw.block g' (hOwl.lt g' e).2
              refine wp_append_lies (P:=Try.prog) w2 (.tmp 30) (.tmp 50) 86 rfl (rb + 1) 89 i1 (.agg #[.int .u16 0,.int .i64 0]) 2 16 Try.underlying86 hi1 hy0 hy1 hy2 rfl (by decide) v q (flatI (l.take q)) e1b hown2 ⟨gb,0,none⟩ 1 1 [.int .u16 xc,.int .i64 xs] e21b rfl (World.news_of_block hb21) (by intro u hu;simp at hu;rcases hu with rfl | rfl <;> rfl) (by decide) (by unfold maxLen;omega) (by omega) (Nat.le_trans hrbl hbw.size) _ rfl (fun g2 cap2 w3 h1 h2 h3 h4 => ?_);have hnr:v.ownBlock ≠ some rb:=fun e => by have:=(hOwl.lt rb e).1;omega
              refine hI.put ok (j:=22) (s:=51) (w':=w3) (Kt.qb rfl) rfl (Kt.qm rfl) (Kt.qb rfl) (Kt.Kp.grown h2 fun p hp => .inr (.inl hp)) trivial ⟨fun _ => (h2.block rb (z1 h24).lt fun e => hnr e.symm).trans (z1 h24),fun q => absurd (show true = false from q) (by decide),fun _ q => absurd (show true = false from q) (by decide),fun _ => ⟨g2,cap2,rfl,h1⟩,fun q => absurd (h24.symm.trans q) (by decide),⟨fun q => absurd (h24.symm.trans q) (by decide),fun _ => ⟨l21,l1⟩⟩⟩
            · cases Option.some.inj ho;have f5:act.tmps[5]?.getD undef = .pointer (some ⟨rb,0,none⟩):=(Kt.val_get act 5).symm.trans (hI.frame.val_out (s:=5) (Kt.qn rfl));have hk:=hI.put ok (j:=23) (s:=52) (v:=.pointer (some ⟨rb,1,none⟩)) (Kt.qb rfl) rfl (Kt.qm rfl) (Kt.qb rfl) (Kt.Kp.refl _ _) rfl hI.st;refine Kt.op_opq hk ?_;clear hk;intro KK hkk;unfold Oper.wp;go_simp;exact hkk
            · cases Option.some.inj ho;have e23:act.tmps[52]?.getD undef = .pointer (some ⟨rb,1,none⟩):=hI.eq (j:=23) (Kt.qb rfl) rfl (fun _ _ h => h) (hpre ⟨23,.data⟩ (by simp) rfl);obtain ⟨z1,z2,z3,z4,z5,z6⟩:=hI.st;have l22:listed.getD 22 false = true:=hpre ⟨22,.data⟩ (by simp) rfl;have l1:listed.getD 1 false = true:=(z6.2 l22).2;have h24:Kt.lis listed 24 = false:=Kt.getD_no hn;have hB:=z1 h24;have cB:w2.cell? ⟨rb,1,none⟩ = some v:=hB.cell 1;have fB:w2.frozen? ⟨rb,1,none⟩ = false:=hB.frozen 1;obtain ⟨g2,cap2,e22,hown22⟩:=z4 l22;replace e22:Kt.val act 51 = .slice (some ⟨g2,0,none⟩) (q + 1) cap2:=e22;have e22b:act.tmps[51]?.getD undef = .slice (some ⟨g2,0,none⟩) (q + 1) cap2:=(Kt.val_get act 51).symm.trans e22;have hk:=hI.store ok (j:=24) (w':=w2.setCell ⟨rb,1,none⟩ (.slice (some ⟨g2,0,none⟩) (q + 1) cap2)) (Kt.qb rfl) (Kt.Kp.set (p:=⟨rb,1,none⟩) (.inl rfl) _) trivial ?_
              · refine Kt.op_opq0 hk ?_;clear hk;intro KK hkk;unfold Oper.wp;go_simp;exact hkk
              refine ⟨fun q => absurd (show true = false from q) (by decide),fun q => absurd ((show Kt.lis listed 22 = true from l22).symm.trans q) (by decide),fun _ q => absurd ((show Kt.lis listed 22 = true from l22).symm.trans q) (by decide),fun _ => ⟨g2,cap2,e22,?_⟩,fun _ => ?_,⟨fun _ => ⟨l1,l22⟩,z6.2⟩⟩
              · exact Kt.ownsRow_keep hown22 fun g' e => Below.heap_setCell w2 _ _ g' fun e2 => by
                  have h9:=(hown22.lt g' e).1;have h8:g' = rb:=e2;omega
              · have h9:=hB.set_ 1 (.slice (some ⟨g2,0,none⟩) (q + 1) cap2);exact (congrArg (fun x => Kt.Blk (w2.setCell ⟨rb,1,none⟩ (.slice (some ⟨g2,0,none⟩) (q + 1) cap2)) rb 88 #[.int .i64 lf,x]) e22).mpr h9
            · exfalso;simp at ho
          case hdone =>
            intro listed act w2 hI hr;have hup:=Kt.all_up (fun q o ho => by
              rcases q with _ | _ | _ | _ | _ | _ | _ | _ | _ | _ | _ | _ | _ | _ | _ | _ | _ | _ | _ | _ | _ | _ | _ | _ | _ | q
              all_goals first | (cases Option.some.inj ho;decide) | (exfalso;simp at ho)) hI.size hr
            have hst:=hI.st;have hkept:=hI.kept;rw [hI.frame.out];simp only [othP,othS,Kt.sets];obtain ⟨y1,y2,y3,y4,y5,y6⟩:=hst;obtain ⟨g2,cap2,e22,hown22⟩:=y4 (hup 22 (by decide));have hK24:=y5 (hup 24 (by decide));rw [e22] at hown22 hK24;clear y1 y2 y3 y4 y5 y6 e22;generalize Kt.val act 29 = v29;generalize Kt.val act 30 = v30;generalize Kt.val act 31 = v31;generalize Kt.val act 32 = v32;generalize Kt.val act 33 = v33;generalize Kt.val act 34 = v34;generalize Kt.val act 35 = v35;generalize Kt.val act 36 = v36;generalize Kt.val act 37 = v37;generalize Kt.val act 38 = v38;generalize Kt.val act 39 = v39;generalize Kt.val act 40 = v40;generalize Kt.val act 41 = v41;generalize Kt.val act 42 = v42;generalize Kt.val act 43 = v43;generalize Kt.val act 44 = v44;generalize Kt.val act 45 = v45;generalize Kt.val act 46 = v46;generalize Kt.val act 47 = v47;generalize Kt.val act 48 = v48;generalize Kt.val act 49 = v49;generalize Kt.val act 50 = v50;generalize Kt.val act 51 = v51;generalize Kt.val act 52 = v52;simp only [List.setIfInBounds_toArray,List.set_cons_zero,List.set_cons_succ];clear hI hr hup;have hbz:Below wo.heap.size wo w2:=hbl.trans (hkept.to_below hsl (fun p hp h => by
              rcases h with h | h | h
              · omega
              · have:=(hOwl.lt p h).1;omega
              · omega))
            have HK2:=Lib.hid hK24;have HO2:Hid (w2.ownsRow (rb + 1) 89 2 (.slice (some ⟨g2,0,none⟩) (q + 1) cap2) (q + 1) (flatI (l.take (q + 1)))):=Lib.hid (by rw [← HFS.out];exact hown22);clear hK24 hown22 hOwl hOw hKb b0 b1 f1 j0 j1 hXA hXI;go_wp2_with fail;go_roundw
            case rel => exact ⟨q + 1,_,by omega,by go_num,HK2,HO2,hbz⟩
            case measure => simp [intOf];omega
        · obtain rfl:q = m:=by omega
          have hOq:=hOw.out;rw [List.take_of_length_le (by rw [hm.out];exact Nat.le_refl _)] at hOq;obtain ⟨Av,cv,rfl⟩:∃ A c,v = .slice A q c:=by
            rcases hOq.2 with ⟨e,h0⟩ | ⟨gv,cap,cur,e,_⟩
            · exact ⟨none,0,by rw [e,h0]⟩
            · exact ⟨_,cap,e⟩
          have HOQ:=Lib.hid hOq;have hRl:=hR.out.on hbl;have HRL:=Lib.hid hRl;have hTk:(g.take k).length = k:=by rw [List.length_take];omega
          have hownR:(wl.alloc (.cells #[.int .i64 lf,.slice Av q cv] 88)).ownsRow w.heap.size 88 2 u3 k (flatV V (g.take k)):=by
            have:=hRl.own.alloc (Obj.cells #[Value.int .i64 lf,.slice Av q cv] 88);rwa [hTk] at this
          have hu3:∀ p,u3.ownBlock = some p → w.heap.size ≤ p ∧ p < wo.heap.size:=fun p e => hR.out.own.lt p e
          have HU3:=Lib.hid hu3;have HOWR:=Lib.hid hownR;clear hOq hRl hownR hu3 hOw hKb;go_wp2_with (at_builtin;go_loud (refine wpList_append_lies _ rfl (.tmp 53) (.tmp 55) 44 rfl w.heap.size 88 i0 (.agg #[.int .i64 0,.slice none 0 0]) 2 32 Try.underlying44 hi0 hz0 hz1 hz2 rfl (by decide) u3 k (flatV V (g.take k)) rfl HOWR.out ⟨wl.heap.size,0,none⟩ 1 1 [.int .i64 lf,.slice Av q cv] rfl rfl (World.news_of_block (Kt.Blk.new wl _ _)) (by intro u hu;simp at hu;rcases hu with rfl | rfl <;> rfl) (by decide) (by unfold maxLen;omega) (by omega) (Nat.le_trans hso (Nat.le_trans hsl (by simp))) _ rfl ?_));intro gg cap w7 hown7 hgr7 hat7 hlt7;have hbA7:Below wl.heap.size wl (wl.alloc (.cells #[.int .i64 lf,.slice Av q cv] 88)):=(Below.refl _ _).alloc (Nat.le_refl _) _;have hbw7:Below w.heap.size w w7:=(hbw.alloc (Nat.le_trans hso hsl) _).grown hgr7 (Nat.le_trans hso (Nat.le_trans hsl (by simp))) (fun p hp => (HU3.out p hp).1);have hR7:RG 88 89 w7 w.heap.size (.slice (some ⟨gg,0,none⟩) (k + 1) cap) (g.take (k + 1)) (fun r => if r = k then .slice Av q cv else V r):=by
            refine hR.out.snoc hkg (by rw [hlf.out];exact hown7) ?_ ?_ ?_ ?_
            · rw [hrl.out,hm.out];refine Kt.ownsRow_keep (HOQ.out.mono (by omega)) fun p e => ?_
              have h9:=HOQ.out.lt p e;refine (hgr7.block p (by have:=hbA7.size;omega) fun e2 => ?_).trans (hbA7.block p h9.2);have:=HU3.out p e2.symm;omega
            · rcases hat7 with e | e
              · exact .inl e
              · exact .inr (by rw [e];have:=hbA7.size;omega)
            · intro e;have h9:=HOQ.out.lt gg e;rcases hat7 with e2 | e2
              · have:=HU3.out gg e2;omega
              · have:=hbA7.size;omega
            · intro p hp hnp;exact (hgr7.block p (by have:=hbA7.size;omega) fun e => hnp e.symm).trans ((hbA7.block p (by omega)).trans (hbl.block p hp))
          have HR7:=Lib.hid hR7;clear hR7 hown7 hgr7 hat7 hlt7 hbA7 HOWR HRL HOQ HU3 b0 b1 f1;go_wp2_with fail;go_roundw
          case rel => exact ⟨k + 1,_,by omega,by go_num,HR7,hbw7⟩
          case measure => simp [intOf];omega
    · obtain rfl:k = n:=by omega
      have hr2:=hR.out;rw [List.take_of_length_le (by rw [HL.out];exact Nat.le_refl _)] at hr2;obtain ⟨A2,c2,rfl,hr3⟩:=hr2.rules (fun r hr => Nat.le_trans (H12.out r hr) (by decide));have HCP:=Lib.hid (hr2.caps rfl);have HR3:=Lib.hid hr3;rw [HL.out];clear hr2 hr3 hR;go_wp2_with fail;go_ret;exact ⟨hbel,A2,c2,rfl,HR3.out,HCP.out⟩
end Go.Proofs.Ytdbfiflmeiidjaa
end
