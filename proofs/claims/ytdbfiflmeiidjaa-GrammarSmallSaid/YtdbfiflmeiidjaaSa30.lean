/- Joined: TrD, ReH. -/
import Derived.Test.YtdbfiflmeiidjaaSa29
import Derived.Test.YtdbfiflmeiidjaaSa24
import Derived.Deep.WholeRow
import Derived.Laws.Alloc2
section
/- The reference's lists of trees: one step. -/
namespace Gr
theorem PB_split {g:List Rule} {hit:Nat → Int → Bool} {nt:Nat} (x:Item) (l:List Item) {i j m:Nat} (h1:i + 1 ≤ m) (h2:m ≤ j + 1):∃ R,PB g hit nt x l i j (j + 1) = PB g hit nt x l i j m ++ R:=by
  refine ⟨(List.range' m (j + 1 - m)).flatMap (blk g hit nt x l i j),?_⟩;unfold PB;rw [← List.flatMap_append];congr 1;have:=@List.range'_append_1 (i + 1) (m - (i + 1)) (j + 1 - m);rw [show i + 1 + (m - (i + 1)) = m from by omega,show m - (i + 1) + (j + 1 - m) = j + 1 - (i + 1) from by omega] at this;exact this.symm
end Gr
namespace Kt
open Go Go.RowKit
variable {W:World} {M:Nat → Prop}
theorem LLV.at2 {L:List (List Gr.Tr)} {A:Option Addr} {n c k:Nat} (h:LLV W M L (.slice A n c)) (hk:k < L.length):∃ (b off:Nat) (u:Value),A = some ⟨b,off,none⟩ ∧ b < W.heap.size ∧ ¬ M b ∧ W.cell? ⟨b,off + k,none⟩ = some u ∧ LV W M (L.getD k []) u:=by
  obtain ⟨A',c',b,off,vs,e,hA,hle,hc,ht⟩:=h;injection e with e1 e2 e3;subst e1;obtain ⟨e4,h5,hb⟩:=hA (by omega);exact ⟨b,off,vs k,e4,hb,h5,hc k hk,ht k hk⟩
theorem LV.at2 {l:List Gr.Tr} {A:Option Addr} {n c k:Nat} (h:LV W M l (.slice A n c)) (hk:k < l.length):∃ (b off:Nat) (x0 x1 x2 x3:Value),A = some ⟨b,off,none⟩ ∧ b < W.heap.size ∧ ¬ M b ∧ (∀ q,q < 4 → W.cell? ⟨b,off + k * 4 + q,none⟩ = (#[x0,x1,x2,x3]:Array Value)[q]?) ∧ TV W M (l.getD k noTr) (.agg #[x0,x1,x2,x3]):=by
  obtain ⟨A',c',b,off,vs,e,hA,hle,h63,hc,ht⟩:=h;injection e with e1 e2 e3;subst e1;obtain ⟨e4,h5,hb⟩:=hA (by omega);have h1:=ht k hk;have h2:=hc k hk;obtain ⟨x0,x1,x2,x3,e5⟩:=h1.cells4;rw [e5] at h1 h2;exact ⟨b,off,x0,x1,x2,x3,e4,hb,h5,h2,h1⟩
structure LR (TT:TypeId) (w w2 w3 wr:World) (Q:List (List Gr.Tr)) (ov:Value) (vs:List Value):Prop where
  o:OLq TT wr w.heap.size (fun b => b < w.heap.size) Q ov vs
  b:Below w.heap.size w wr
  s:w3.heap.size ≤ wr.heap.size
  m:∀ q,w2.heap.size ≤ q → q < w3.heap.size → wr.heap[q]? = w3.heap[q]?
  own:∀ g',ov.ownBlock = some g' → g' < w2.heap.size ∨ w3.heap.size ≤ g'
variable {TT:TypeId} {w w2 w3 wr wb w5:World} {Q:List (List Gr.Tr)} {ov:Value} {vs:List Value}
theorem LR.start (h:OLq TT w2 w.heap.size (fun b => b < w.heap.size) Q ov vs) (hb:Below w.heap.size w w2) (h3:Below w2.heap.size w2 w3):LR TT w w2 w3 w3 Q ov vs :=
  ⟨h.below h3,hb.trans (h3.mono hb.size),Nat.le_refl _,fun _ _ _ => rfl,fun g' e => .inl (h.own.lt g' e).2⟩
theorem LR.snoc {t:List Gr.Tr} {x:Value} {gg cap n:Nat} (h:LR TT w w2 w3 wr Q ov vs) (hb:Below wr.heap.size wr wb) (_h23:w.heap.size ≤ w2.heap.size) (hn:Q.length = n) (ht:LV wb (fun b => b < w.heap.size ∨ ov.ownBlock = some b) t x)
    (hown:w5.ownsRow w.heap.size TT 1 (.slice (some ⟨gg,0,none⟩) (n + 1) cap) (n + 1) (vs ++ [x])) (hgr:wb.grownBy w5 ov.ownBlock) (hat:ov.ownBlock = some gg ∨ gg = wb.heap.size):LR TT w w2 w3 w5 (Q ++ [t]) (.slice (some ⟨gg,0,none⟩) (n + 1) cap) (vs ++ [x]):=by
  subst hn;have h4:=h.b.size;have h5:=hb.size;have h6:=hgr.size;have h7:=h.s;have hO:=(h.o.below hb).snoc ht hown hgr (hat.imp id fun e => by omega);refine ⟨hO,(h.b.trans (hb.mono h4)).grown hgr (by omega) fun g' e => (h.o.own.lt g' e).1,by omega,fun q h1 h2 => ?_,fun g' e => ?_⟩
  · exact ((hgr.block q (by omega) (fun e => by have:=h.own q e.symm;omega)).trans (hb.block q (by omega))).trans (h.m q h1 h2)
  · have e2:gg = g':=by simpa [Value.ownBlock] using e
    subst e2;rcases hat with e3 | e3
    · exact h.own gg e3
    · right;omega
theorem LR.shape (h:LR TT w w2 w3 wr Q ov vs):∃ A c,ov = .slice A Q.length c:=h.o.shape
end Kt
namespace Go.Proofs.Ytdbfiflmeiidjaa
open Go Go.RowKit
theorem Try.infoRL:(Try.prog.info? 52).map (fun i => (i.zero,i.size,i.bytes)) = some (some (.slice none 0 0),1,24):=by kernel_rfl
theorem items_tail {w:World} {B b o:Nat} {x:Gr.Item} {l:List Gr.Item} (h:Kt.Items w B (some ⟨b,o,none⟩) (x :: l)):Kt.Items w B (some ⟨b,o + 2,none⟩) l:=fun hp => by
  obtain ⟨b',o',e,hb,hc⟩:=h (by simp);injection e with e;injection e with e1 e2;subst e1;subst e2;refine ⟨b,o + 2,rfl,hb,fun k hk => ?_⟩;have:=hc (k + 1) (by simpa using hk);rw [show o + (k + 1) * 2 = o + 2 + k * 2 from by omega] at this;exact this
theorem items_cut {w:World} {B b o c L:Nat} {x:Gr.Item} {l:List Gr.Item} (h:Kt.Items w B (some ⟨b,o,none⟩) (x :: l)) (hL:(x :: l).length = L) (hc:L ≤ c):Kt.Items w B (if c = 1 then some ⟨b,o,none⟩ else some ⟨b,o + 2,none⟩) l:=by
  split
  · intro hp;simp at hL;omega
  · exact items_tail h
theorem slice_items (w:World) (gb go L c:Nat) (h:1 ≤ L) :
    (Instr.sliceAt 86 (.slice (some ⟨gb,go,none⟩) L c) (some (.int .i64 1)) none none).run Try.prog w = .ok (.slice (if c = 1 then some ⟨gb,go,none⟩ else some ⟨gb,go + 2,none⟩) (L - 1) (c - 1)) w ∧
    (Instr.slice 86 (.slice (some ⟨gb,go,none⟩) L c) (some (.int .i64 1)) none none).run Try.prog w = .ok (.slice (if c = 1 then some ⟨gb,go,none⟩ else some ⟨gb,go + 2,none⟩) (L - 1) (c - 1)) w:=by
  have hs:∀ w,(sizeOf (Try.prog.elem 86)).run Try.prog w = .ok 2 w:=fun w => by kernel_rfl
  have h2:(Instr.slice 86 (.slice (some ⟨gb,go,none⟩) L c) (some (.int .i64 1)) none none).run Try.prog w = .ok (.slice (if c = 1 then some ⟨gb,go,none⟩ else some ⟨gb,go + 2,none⟩) (L - 1) (c - 1)) w:=by
    rw [run_slice_l w 86 _ L c (by kernel_rfl) .i64 1 (by omega) (by omega),hs];by_cases hc:c = 1
    · simp [Result.andThen,sliced,hc]
    · simp [Result.andThen,sliced,hc,Addr.add_lit]
  exact ⟨(run_sliceAt_slice w 86 _ _ _ _ (by kernel_rfl)).trans h2,h2⟩
theorem mem_take_getD {α:Type} {l:List α} {m k:Nat} {d:α} (h:k < (l.take m).length):(l.take m).getD k d ∈ l:=by
  rw [List.getD_eq_getElem?_getD,List.getElem?_eq_getElem h];exact List.mem_of_mem_take (List.getElem_mem h)
theorem wpList_append_run {P:Program} {ops:Array Oper} {rest:List Oper} {o:Oper} {a:Act} {w w':World} {Q:Exit → Act → World → Prop} (hgd:o.guard = none) (s x:Operand) (T:Array TypeId) {vs vx v:Value} (ho:o.op = .call { callee:=.builtin .append,args:=#[s,x],argTypes:=T }) (hs:a.eval s = vs) (hx:a.eval x = vx)
    (hr:(Builtin.append_ T o.type #[vs,vx]).run P w = .ok v w') (h:wpList P ops Q rest (a.put o.dst v) w'):wpList P ops Q (o :: rest) a w :=
  wpList_plain hgd fun _ hK => op_append ho hs hx hr (hK _ _ h)
theorem rlv_one {w:World} {M:Nat → Prop} {t:Gr.Tr} {x0 x1 x2 x3:Value} {gb:Nat} (hb:Kt.Blk w gb 60 #[x0,x1,x2,x3]) (hgb:¬ M gb) (ht:Kt.TV w M t (.agg #[x0,x1,x2,x3])):Kt.LV w M [t] (.slice (some ⟨gb,0,none⟩) 1 1):=by
  refine ⟨_,1,gb,0,fun _ => .agg #[x0,x1,x2,x3],rfl,fun _ => ⟨rfl,hgb,hb.lt⟩,Nat.le_refl _,by simp,fun k hk q hq => ?_,fun k hk => ?_⟩
  · have hk0:k = 0:=by simpa using hk
    subst hk0;rw [show 0 + 0 * 4 + q = q from by omega];exact hb.cell q
  · have hk0:k = 0:=by simpa using hk
    subst hk0;exact ht
theorem rappend_tree {w:World} {M:Nat → Prop} {t:Gr.Tr} {y:List Gr.Tr} {vb x0 x1 x2 x3:Value} {gb:Nat} (ty:TypeId) (hb:Kt.Blk w gb 60 #[x0,x1,x2,x3]) (hgb:¬ M gb) (ht:Kt.TV w M t (.agg #[x0,x1,x2,x3])) (hy:Kt.LV w M y vb) (hlen:y.length ≤ 100) (hM:∀ k,M k → k < w.heap.size) :
    ∃ va w',(Builtin.append_ #[52,52] ty #[.slice (some ⟨gb,0,none⟩) 1 1,vb]).run Try.prog w = .ok va w' ∧ Kt.LV w' M (t :: y) va ∧ Below w.heap.size w w':=by
  obtain ⟨i0,hi0,hz0,hz1,hz2⟩:=info_parts Try.infoRT;obtain ⟨A,c,b,off,vs,rfl,hA,hle,h63,hc,hts⟩:=hy;by_cases hn:0 < y.length
  · obtain ⟨rfl,hbM,hbl⟩:=hA hn;obtain ⟨news,hl,hnews,hget,_⟩:=lv_cells hc (fun k hk => (hts k hk).cells4);obtain ⟨v',w',hrun,hown,hgrow⟩:=run_append_arg_grows (P:=Try.prog) (w:=w) 52 ty 60 i0 (.agg #[.int .i64 0,.int .i64 0,.int .i64 0,.slice none 0 0]) 4 48 Try.underlying52 hi0 hz0 hz1 hz2 rfl (by decide) ⟨gb,0,none⟩ 1 1 [x0,x1,x2,x3] rfl
      (World.news_of_block hb) ⟨b,off,none⟩ y.length c news hl hnews (by omega) (by unfold maxLen;omega) (by omega)
    refine ⟨v',w',hrun,?_,below_none2 hgrow⟩;obtain ⟨g,cap,rfl,hg1,hg2⟩:=World.ownsRow.form hown (by omega);have hkeep:∀ k,k < w.heap.size → ¬ M k → w'.heap[k]? = w.heap[k]?:=fun k hk _ => hgrow.block k hk (by simp)
    obtain ⟨_,hsh⟩:=hown;have hcap:1 + y.length ≤ cap:=by
      rcases hsh with ⟨h1,_⟩ | ⟨g',cap',cur,h1,_,_,h2,_⟩
      · cases h1
      · injection h1 with _ _ h1;omega
    refine ⟨some ⟨g,0,none⟩,cap,g,0,fun k => if k = 0 then .agg #[x0,x1,x2,x3] else vs (k - 1),by rw [List.length_cons,Nat.add_comm],fun _ => ⟨rfl,fun e => by have:=hM g e;omega,hg2⟩,by rw [List.length_cons];omega,by rw [List.length_cons];omega,fun k hk q hq => ?_,fun k hk => ?_⟩
    · have hget2:([x0,x1,x2,x3] ++ news)[k * 4 + q]? = ((fun k => if k = 0 then Value.agg #[x0,x1,x2,x3] else vs (k - 1)) k).cells[q]?:=by
        by_cases h0:k = 0
        · subst h0;rw [List.getElem?_append_left (by simp;omega)]
          match q,hq with
          | 0,_ => rfl
          | 1,_ => rfl
          | 2,_ => rfl
          | 3,_ => rfl
        · rw [List.length_cons] at hk;rw [List.getElem?_append_right (by simp;omega)];have:=hget (k - 1) (by omega) q hq;simp only [h0,if_false];rw [← this,show k * 4 + q - [x0,x1,x2,x3].length = (k - 1) * 4 + q from by simp;omega]
      obtain ⟨u,hu⟩:∃ u,([x0,x1,x2,x3] ++ news)[k * 4 + q]? = some u:=by
        rw [List.length_cons] at hk;exact ⟨_,List.getElem?_eq_getElem (by rw [List.length_append,hl];simp;omega)⟩
      rw [← hget2,hu];have:=World.ownsRow.cells (w:=w') (v:=.slice (some ⟨g,0,none⟩) (1 + y.length) cap) ⟨by assumption,hsh⟩ (g:=g) rfl (k * 4 + q) u hu;simpa [Addr.add_lit,Nat.add_assoc] using this
    · by_cases h0:k = 0
      · subst h0;exact ht.keep hkeep
      · rw [List.length_cons] at hk;obtain ⟨k',rfl⟩:∃ k',k = k' + 1:=⟨k - 1,by omega⟩;have:=(hts k' (by omega)).keep hkeep;simp only [h0,if_false,Nat.add_sub_cancel];exact this
  · obtain rfl:y = []:=List.eq_nil_of_length_eq_zero (by omega);refine ⟨_,w,run_append_nothing (P:=Try.prog) w 52 52 ty 60 i0 Try.underlying52 hi0 _ 1 1 (Nat.le_refl _) _ ?_,rlv_one hb hgb ht,Below.refl _ _⟩;cases A with
    | none => exact Src.ofNil w Try.underlying52 c
    | some a => exact Src.ofSlice w Try.underlying52 a 0 c [] (by simp) (fun j u h => by simp at h) (fun u h => by cases h)
set_option maxRecDepth 100000 in
set_option maxHeartbeats 4000000 in
theorem rparts_step (g:List Gr.Rule) (hG:Gr.Good g) (tk:List Int) (nt:Nat) (hfit:Gr.Fit g nt) (cx:Int) (sn:Nat) (l:List Gr.Item) (hIO:ItOk (⟨cx,(sn:Int)⟩ :: l)) (i j:Nat) (hij:i ≤ j) (hj:j ≤ nt)
    (IHp:∀ m,i < m → m ≤ j → 0 < Gr.ways g (hitf tk) nt l m j → RPa g tk nt l m j)
    (IHt:cx = 0 → ∀ m,i < m → m ≤ j → 0 < Gr.ways g (hitf tk) nt l m j → RTr g tk nt sn i m):RPa g tk nt (⟨cx,(sn:Int)⟩ :: l) i j:=by
  intro X M w most A L c hT hm1 hm2 hL hLc hI;obtain ⟨i1,hi1,hy0,hy1,hy2⟩:=info_parts Try.infoRL;have hn40:=hfit.le;have htlt:=hT.t.tlt;obtain ⟨tb,htb⟩:∃ tb,X.tb = tb:=⟨_,rfl⟩;rw [htb] at htlt ⊢;have HTB:=Lib.hid htb;obtain ⟨gb,go,rfl,hgb,hgc⟩:=hI (by simp);have k0:w.cell? ⟨gb,go,none⟩ = some (.int .u16 cx):=by have:=(hgc 0 (by simp)).1;simpa [Gr.itm] using this
  have k1:w.cell? ⟨gb,go + 1,none⟩ = some (.int .i64 (sn:Int)):=by have:=(hgc 0 (by simp)).2;simpa [Gr.itm] using this
  have HCUT:=Lib.hid (items_cut hI hL hLc);have hL1:l.length = L - 1:=by rw [← hL];simp
  have hL0:1 ≤ L:=by rw [← hL];simp
  have dL0:((L:Int) == 0) = false:=by simp;omega
  obtain ⟨CA,hCA⟩:∃ CA,(if c = 1 then some (⟨gb,go,none⟩:Addr) else some ⟨gb,go + 2,none⟩) = CA:=⟨_,rfl⟩;obtain ⟨L1,hL1e⟩:∃ L1,L - 1 = L1:=⟨_,rfl⟩;obtain ⟨c1,hc1e⟩:∃ c1,c - 1 = c1:=⟨_,rfl⟩;have hsl:=fun w => slice_items w gb go L c hL0
  rw [hCA,hL1e,hc1e] at hsl;have hsl1:=fun w => (hsl w).1
  have hsl2:=fun w => (hsl w).2
  rw [hCA] at HCUT;rw [hL1e] at hL1;have hLc1:L1 ≤ c1:=by omega
  have HL1:=Lib.hid hL1;have hx1:=(hIO.sy ⟨cx,(sn:Int)⟩ (by simp));have hx2:=(hIO.cl ⟨cx,(sn:Int)⟩ (by simp));have HX1:=Lib.hid hx1;have HX2:=Lib.hid hx2;have HIO:=Lib.hid hIO;have HT:=Lib.hid hT;have HG:=Lib.hid hG;have HFT:=Lib.hid hfit;have HIP:=Lib.hid IHp;have HIT:=Lib.hid IHt;clear hT hG hfit IHp IHt htb hI hgc hL hL1 hx1 hx2 hIO hsl hCA hL1e hc1e;go_enter Try.func51,Try.ntmps51;go_wp2_with fail;go_loopw [11,12] (fun ov mv wr => ∃ (m:Nat) (vs:List Value),i + 1 ≤ m ∧ m ≤ j + 1 ∧ mv = .int .i64 (m:Int) ∧ Hid (Kt.OLq 52 wr w.heap.size (fun b => b < w.heap.size) ((Gr.PB g (hitf tk) nt ⟨cx,(sn:Int)⟩ l i j m).take most) ov vs) ∧ Below w.heap.size w wr) (fun _ mv _ => j + 1 - (intOf mv).toNat)
  case atStart => exact ⟨i + 1,[],Nat.le_refl _,by omega,by go_num,Lib.hid (by rw [Gr.PB_zero,List.take_nil];exact Kt.OLq.nil _ _ _),Below.refl _ _⟩
  case round =>
    obtain ⟨m,vs,hmi,hmj1,rfl,hO,hbel⟩:=hrel;obtain ⟨A3,c3,rfl⟩:=hO.out.shape;obtain ⟨wl,hwl⟩:∃ w1,w1 = wr:=⟨_,rfl⟩;subst hwl;have hsr:=hbel.size;obtain ⟨P,hP⟩:∃ P,Gr.PB g (hitf tk) nt ⟨cx,(sn:Int)⟩ l i j m = P:=⟨_,rfl⟩;have HP:=Lib.hid hP;rw [hP] at hO ⊢;obtain ⟨p0,hp0⟩:∃ p0,(P.take most).length = p0:=⟨_,rfl⟩;have HP02:Hid (p0 = min most P.length):=Lib.hid (by rw [← hp0,List.length_take]);have HP0:=Lib.hid hp0;rw [hp0] at hO ⊢;have HSUC:Hid (Gr.PB g (hitf tk) nt ⟨cx,(sn:Int)⟩ l i j (m + 1) = P ++ Gr.blk g (hitf tk) nt ⟨cx,(sn:Int)⟩ l i j m):=Lib.hid (by rw [← hP];exact Gr.PB_succ _ _ _ _ hmi);clear hP hp0;have k0r:=(hbel.cell (p:=⟨gb,go,none⟩) hgb).trans k0;have k1r:=(hbel.cell (p:=⟨gb,go + 1,none⟩) hgb).trans k1;by_cases hmj:m ≤ j
    · by_cases hpm:p0 < most
      · have dpm:decide ((p0:Int) < (most:Int)) = true:=by simp;omega
        have HWI:=Lib.hid (item_full (HT.out.below hbel) ⟨cx,(sn:Int)⟩ HX1.out HX2.out i m (by omega) (by omega) (by omega));rw [HTB.out] at HWI;go_wp2_with fail;refine HWI.out.mono ?_;rintro e w1 ⟨A4,L4,c4,rfl,hL4,hb1⟩;have hbel1:=hbel.trans (hb1.mono hsr);have hs1:=hbel1.size;have HL4:=Lib.hid hL4;clear hL4 HWI;by_cases hL40:L4 = 0
        · subst hL40;have HO2:Hid (Kt.OLq 52 w1 w.heap.size (fun b => b < w.heap.size) ((Gr.PB g (hitf tk) nt ⟨cx,(sn:Int)⟩ l i j (m + 1)).take most) (.slice A3 p0 c3) vs):=Lib.hid (by
            rw [HSUC.out,Gr.blk_none (.inl (HL4.out.1 rfl)),List.append_nil];exact hO.out.below hb1)
          clear hO HSUC HL4 HP;go_wp2_with fail;go_roundw
          case rel => exact ⟨m + 1,vs,by omega,by omega,by go_num,HO2,hbel1⟩
          case measure => simp [intOf];omega
        · have dL4:((L4:Int) == 0) = false:=by simp [hL40]
          have k0s:=(hbel1.cell (p:=⟨gb,go,none⟩) hgb).trans k0;have HWW:=Lib.hid (ways_full (HT.out.below hbel1) HG.out HFT.out l HIO.out.tail CA L1 c1 HL1.out (HCUT.out.on hbel1) m j hmj hj);rw [HTB.out] at HWW;have HO1:=Lib.hid (hO.out.below hb1);clear hO;go_wp2_with fail;refine HWW.out.mono ?_;rintro e w2 ⟨A5,L5,c5,rfl,hL5,hb2⟩;have hbel2:=hbel1.trans (hb2.mono hs1);have hs2:=hbel2.size;have HL5:=Lib.hid hL5;clear hL5 HWW;by_cases hL50:L5 = 0
          · subst hL50;have HO2:Hid (Kt.OLq 52 w2 w.heap.size (fun b => b < w.heap.size) ((Gr.PB g (hitf tk) nt ⟨cx,(sn:Int)⟩ l i j (m + 1)).take most) (.slice A3 p0 c3) vs):=Lib.hid (by
              rw [HSUC.out,Gr.blk_none (.inr (HL5.out.1 rfl)),List.append_nil];exact HO1.out.below hb2)
            clear HO1 HSUC HL4 HL5 HP;go_wp2_with fail;go_roundw
            case rel => exact ⟨m + 1,vs,by omega,by omega,by go_num,HO2,hbel2⟩
            case measure => simp [intOf];omega
          · have dL5:((L5:Int) == 0) = false:=by simp [hL50]
            have hpos:0 < Gr.ways g (hitf tk) nt l m j:=Nat.pos_of_ne_zero fun e => hL50 (HL5.out.2 e)
            have HPOS:=Lib.hid hpos;have k0t:=(hbel2.cell (p:=⟨gb,go,none⟩) hgb).trans k0;have k1t:=(hbel2.cell (p:=⟨gb,go + 1,none⟩) hgb).trans k1;have HPA:=Lib.hid (HIP.out m (by omega) hmj hpos X M w2 most CA L1 c1 (HT.out.below hbel2) hm1 hm2 HL1.out (by omega) (HCUT.out.on hbel2));rw [HTB.out] at HPA;have HO2:=Lib.hid (HO1.out.below hb2);clear HO1 hpos;go_wp2_with fail;refine HPA.out.mono ?_;rintro e w3 ⟨hb3,v3,rfl,hv3⟩;obtain ⟨A6,c6,rfl⟩:=hv3.shape;have hbel3:=hbel2.trans (hb3.mono hs2);have hs3:=hbel3.size;have hs23:=hb3.size;have k0u:=(hbel3.cell (p:=⟨gb,go,none⟩) hgb).trans k0;have k1u:=(hbel3.cell (p:=⟨gb,go + 1,none⟩) hgb).trans k1;obtain ⟨RL,hRL⟩:∃ RL,Gr.parts (hitf tk) (Gr.D g (hitf tk) nt) l m j = RL:=⟨_,rfl⟩;have HRL:=Lib.hid hRL;rw [hRL] at hv3 ⊢;obtain ⟨lr,hlr⟩:∃ lr,(RL.take most).length = lr:=⟨_,rfl⟩;have HLR2:Hid (lr = min most RL.length):=Lib.hid (by rw [← hlr,List.length_take]);rw [hlr] at hv3 ⊢;have HLR:=Lib.hid hlr;have HV3:=Lib.hid hv3;clear hv3 hRL hlr HPA k0r k1r k0s;by_cases hc0:cx = 0
            · have HBLK:Hid ((Gr.PB g (hitf tk) nt ⟨cx,(sn:Int)⟩ l i j (m + 1)).take most = (P ++ ((Gr.D g (hitf tk) nt (sn:Int) i m).take most).flatMap fun a => RL.map (a :: ·)).take most):=Lib.hid (by
                rw [HSUC.out,← HRL.out];exact (Gr.blk_take P hc0 HPOS.out).symm)
              have HTR:=Lib.hid (HIT.out hc0 m (by omega) hmj HPOS.out X M w3 most (HT.out.below hbel3) hm1 hm2);rw [HTB.out] at HTR;have dcx:(cx != 0) = false:=by simp [hc0]
              clear HSUC HL4 HL5 HP;go_wp2_with fail;refine HTR.out.mono ?_;rintro e w4 ⟨hb4,v4,rfl,hv4⟩;obtain ⟨A7,c7,rfl⟩:=hv4.shape;have hs34:=hb4.size;obtain ⟨FL,hFL⟩:∃ FL,(Gr.D g (hitf tk) nt (sn:Int) i m).take most = FL:=⟨_,rfl⟩;rw [hFL] at hv4 HBLK ⊢;obtain ⟨lf,hlf⟩:∃ lf,FL.length = lf:=⟨_,rfl⟩;rw [hlf] at hv4 ⊢;have HLF:=Lib.hid hlf;have hlfm:lf ≤ most:=by rw [← hlf,← hFL];exact Gr.take_len
              have HV4:=Lib.hid hv4;have HS:=Lib.hid (Kt.LR.start HO2.out hbel2 (hb3.trans (hb4.mono hs23)));have HB4:=Lib.hid hb4;clear hv4 hFL hlf HTR HO2;go_wp2_with fail;go_loopw [11,16] (fun ov av wr => ∃ (a:Nat) (vs:List Value),a ≤ lf ∧ av = .int .i64 (a:Int) ∧ Hid (Kt.LR 52 w w2 w4 wr ((P ++ (FL.take a).flatMap fun a => RL.map (a :: ·)).take most) ov vs)) (fun _ av _ => lf - (intOf av).toNat)
              case atStart => exact ⟨0,vs,Nat.zero_le _,rfl,by rw [List.take_zero,List.flatMap_nil,List.append_nil];exact HS⟩
              case round =>
                obtain ⟨a,vs,hal,rfl,hR⟩:=hrel;clear HS;obtain ⟨A8,c8,rfl⟩:=hR.out.shape;obtain ⟨wm,hwm⟩:∃ w1,w1 = wr:=⟨_,rfl⟩;subst hwm;have hbm:=hR.out.b;have hsm:=hR.out.s;obtain ⟨Q,hQ⟩:∃ Q,P ++ (FL.take a).flatMap (fun a => RL.map (a :: ·)) = Q:=⟨_,rfl⟩;have HQ:=Lib.hid hQ;rw [hQ] at hR ⊢;obtain ⟨q0,hq0⟩:∃ q0,(Q.take most).length = q0:=⟨_,rfl⟩;have HQ02:Hid (q0 = min most Q.length):=Lib.hid (by rw [← hq0,List.length_take]);have HQ0:=Lib.hid hq0;rw [hq0] at hR ⊢;clear hQ hq0;by_cases hlt:a < lf
                · obtain ⟨t,ht⟩:∃ t,FL.getD a Kt.noTr = t:=⟨_,rfl⟩;have HFA:Hid (FL[a]? = some t):=Lib.hid (by
                    rw [← ht,List.getD_eq_getElem?_getD,List.getElem?_eq_getElem (by rw [HLF.out];exact hlt)];rfl)
                  have HST:Hid (Kt.LR 52 w w2 w4 wm (Q.take most ++ (RL.map (t :: ·)).take 0) (.slice A8 q0 c8) vs):=Lib.hid (by rw [List.take_zero,List.append_nil];exact hR.out);have HT2:=Lib.hid ht;clear hR ht;go_wp2_with fail;go_loopw [11,17] (fun ov kv wr => ∃ (k:Nat) (vs:List Value),k ≤ lr ∧ q0 + k ≤ most ∧ kv = .int .i64 (k:Int) ∧ Hid (Kt.LR 52 w w2 w4 wr (Q.take most ++ (RL.map (t :: ·)).take k) ov vs)) (fun _ kv _ => lr - (intOf kv).toNat)
                  case atStart => exact ⟨0,vs,Nat.zero_le _,by have:=HQ02.out;omega,rfl,HST⟩
                  case round =>
                    clear HST;obtain ⟨k,vs,hk,hqk,rfl,hR⟩:=hrel;have hlen:(Q.take most ++ (RL.map (t :: ·)).take k).length = q0 + k:=by
                      rw [List.length_append,HQ0.out,List.length_take,List.length_map];have:=HLR2.out;omega
                    obtain ⟨A9,c9,rfl⟩:=hR.out.shape;have hbr:=hR.out.b;have hsr4:=hR.out.s;rw [hlen] at hR ⊢;by_cases hkl:k < lr
                    · by_cases hmo:q0 + k < most
                      · have dmo:decide (((q0 + k:Nat):Int) < (most:Int)) = true:=by simp;omega
                        obtain ⟨b4,o4,x0,x1,x2,x3,rfl,hb4l,hb4n,hc4,ht4⟩:=HV4.out.at2 (show a < FL.length by rw [HLF.out];exact hlt);obtain ⟨b3,o3,u3,rfl,hb3l,hb3n,hc3,ht3⟩:=HV3.out.at2 (show k < (RL.take most).length by rw [HLR.out];exact hkl);obtain ⟨y,hy⟩:∃ y,(RL.take most).getD k [] = y:=⟨_,rfl⟩;have hyl:y.length ≤ 100:=by
                          have h1:=parts_len (hitf tk) (Gr.D g (hitf tk) nt) l m j y (by rw [HRL.out,← hy];exact mem_take_getD (by rw [HLR.out];exact hkl));have h2:=HIO.out.l8;simp at h2;omega
                        have HAT:Hid ((RL.map (t :: ·))[k]? = some (t :: y)):=Lib.hid (by rw [← hy];exact getD_map_take (by rw [HLR.out];exact hkl));rw [hy] at ht3;rw [HT2.out] at ht4;obtain ⟨A10,c10,rfl⟩:=ht3.shape;have e0:wr.cell? ⟨b4,o4 + a * 4,none⟩ = some x0:=(World.cell?_of_block (a:=⟨b4,o4 + a * 4,none⟩) (hR.out.m b4 (by omega) hb4l)).trans (hc4 0 (by omega));have e1:wr.cell? ⟨b4,o4 + a * 4 + 1,none⟩ = some x1:=(World.cell?_of_block (a:=⟨b4,o4 + a * 4 + 1,none⟩) (hR.out.m b4 (by omega) hb4l)).trans (hc4 1 (by omega));have e2:wr.cell? ⟨b4,o4 + a * 4 + 2,none⟩ = some x2:=(World.cell?_of_block (a:=⟨b4,o4 + a * 4 + 2,none⟩) (hR.out.m b4 (by omega) hb4l)).trans (hc4 2 (by omega));have e3:wr.cell? ⟨b4,o4 + a * 4 + 3,none⟩ = some x3:=(World.cell?_of_block (a:=⟨b4,o4 + a * 4 + 3,none⟩) (hR.out.m b4 (by omega) hb4l)).trans (hc4 3 (by omega));have e5:wr.cell? ⟨b3,o3 + k,none⟩ = some (.slice A10 y.length c10):=(World.cell?_of_block (a:=⟨b3,o3 + k,none⟩) (hR.out.m b3 (by omega) (by omega))).trans ((HB4.out.cell (p:=⟨b3,o3 + k,none⟩) hb3l).trans hc3);obtain ⟨OW,hOW⟩:∃ OW,(Value.slice A9 (q0 + k) c9).ownBlock = OW:=⟨_,rfl⟩;have hown:=hR.out.o.own;rw [hlen] at hown;have hOW9:∀ g',OW = some g' → g' < wr.heap.size:=fun g' e => (hown.lt g' (hOW.trans e)).2
                        have hOW8:∀ g',OW = some g' → g' < w2.heap.size ∨ w4.heap.size ≤ g':=fun g' e => hR.out.own g' (hOW.trans e)
                        have HTT:Hid (Kt.TV wr (fun b => b < w.heap.size ∨ OW = some b) t (.agg #[x0,x1,x2,x3])):=Lib.hid (((tv_more ht4).keep (W':=wr) fun q hq hn => hR.out.m q (by have:=fun e => hn (.inl e);omega) hq).less fun q hq => by
                          rcases hq with hq | hq
                          · exact .inl (by omega)
                          · exact (hOW8 q hq).imp (fun e => by omega) id)
                        have HYY:Hid (Kt.LV wr (fun b => b < w.heap.size ∨ OW = some b) y (.slice A10 y.length c10)):=Lib.hid (((lv_more (ht3.below HB4.out)).keep (W':=wr) fun q hq hn => hR.out.m q (by have:=fun e => hn (.inl e);omega) hq).less fun q hq => by
                          rcases hq with hq | hq
                          · exact .inl (by omega)
                          · exact hOW8 q hq)
                        obtain ⟨ny,hny⟩:∃ ny,y.length = ny:=⟨_,rfl⟩;rw [hny] at e5 HYY;obtain ⟨wa,hwa⟩:∃ wa,wr.alloc (.cells #[x0,x1,x2,x3] 60) = wa:=⟨_,rfl⟩;have hba:Below wr.heap.size wr wa:=by rw [← hwa];exact (Below.refl _ _).alloc (Nat.le_refl _) _
                        have hsa:wa.heap.size = wr.heap.size + 1:=by rw [← hwa];simp
                        have hblk:Kt.Blk wa wr.heap.size 60 #[x0,x1,x2,x3]:=by rw [← hwa];exact Kt.Blk.new _ _ _
                        have e5a:(wr.alloc (.cells #[x0,x1,x2,x3] 60)).cell? ⟨b3,o3 + k,none⟩ = some (.slice A10 ny c10):=by
                          rw [hwa];exact (hba.cell (p:=⟨b3,o3 + k,none⟩) (show b3 < wr.heap.size by omega)).trans e5
                        obtain ⟨va,w5,hrun,hlv5,hb5⟩:=rappend_tree 52 hblk (M:=fun b => b < w.heap.size ∨ OW = some b) (fun e => by
                          rcases e with e | e
                          · have:=hbr.size;omega
                          · have:=hOW9 _ e;omega) (HTT.out.keep fun q hq _ => hba.block q hq) (HYY.out.below hba) hyl (fun q hq => by
                          rcases hq with hq | hq
                          · have:=hbr.size;omega
                          · have:=hOW9 _ hq;omega)
                        obtain ⟨Av,cv,hva⟩:=hlv5.shape;obtain ⟨ly,hly⟩:∃ ly,(t :: y).length = ly:=⟨_,rfl⟩;rw [hly] at hva;subst hva;have HRUN:=Lib.hid hrun;have HWA:=Lib.hid hwa;have hba5:=hba.trans (hb5.mono (by omega));have hs5:=hba5.size;obtain ⟨wb,hwb⟩:∃ wb,w5.alloc (.cells #[.slice Av ly cv] 52) = wb:=⟨_,rfl⟩;have hbb:Below wr.heap.size wr wb:=by rw [← hwb];exact hba5.alloc hs5 _
                        have hsb:wb.heap.size = w5.heap.size + 1:=by rw [← hwb];simp
                        have hblk2:Kt.Blk wb w5.heap.size 52 #[.slice Av ly cv]:=by rw [← hwb];exact Kt.Blk.new _ _ _
                        have HLV:Hid (Kt.LV wb (fun b => b < w.heap.size ∨ OW = some b) (t :: y) (.slice Av ly cv)):=Lib.hid (hlv5.below (by rw [← hwb];exact (Below.refl _ _).alloc (Nat.le_refl _) _));have hown2:wb.ownsRow w.heap.size 52 1 (.slice A9 (q0 + k) c9) (q0 + k) vs:=Kt.ownsRow_keep hown fun g' e => hbb.block g' (hown.lt g' e).2
                        have HBK2:=Lib.hid hblk2;have HWB:=Lib.hid hwb;have HOWN2:=Lib.hid hown2;clear hc3 hc4 ht3 ht4 hly hwa hwb hrun hlv5 hblk hblk2 hown hown2 HTT HYY;go_wp2_with (at_builtin;first | (rw [HWA.out];go_loud (refine wpList_append_run rfl (.tmp 119) (.tmp 123) #[52,52] rfl rfl rfl HRUN.out ?_)) | (rw [HWB.out];go_loud (refine wpList_append_lies _ rfl (.tmp 118) (.tmp 125) 123 rfl w.heap.size 52 i1 (.slice none 0 0) 1 24 Try.underlying123 hi1 hy0 hy1 hy2 rfl (by decide) _ (q0 + k) vs rfl HOWN2.out ⟨w5.heap.size,0,none⟩ 1 1 [.slice Av ly cv] rfl rfl (World.news_of_block HBK2.out) (by intro u hu;simp at hu;rw [hu];rfl) (by decide) (by unfold maxLen;omega) (by omega) (by have:=hbr.size;omega) _ rfl ?_)));intro gg cap w6 hown6 hgr6 hat6 hlt6;subst hOW;have hR6:=hR.out.snoc hbb hs2 hlen HLV.out hown6 hgr6 (by first | exact hat6 | exact hat6.imp id fun e => e.trans hsb.symm);rw [List.append_assoc,Gr.take_snoc HAT.out] at hR6;have HR6:=Lib.hid hR6;clear hR6 hR hown6 hgr6 hat6 HLV HAT HRUN HWA HWB HOWN2 HBK2 e0 e1 e2 e3 e5 e5a;go_wp2_with fail;go_roundw
                        case rel => exact ⟨k + 1,_,by omega,by omega,by go_num,HR6⟩
                        case measure => simp [intOf];omega
                      · have dmo:decide (((q0 + k:Nat):Int) < (most:Int)) = false:=by simp;omega
                        have HO6:Hid (Kt.LR 52 w w2 w4 wr ((P ++ (FL.take (a + 1)).flatMap fun a => RL.map (a :: ·)).take most) (.slice A9 (q0 + k) c9) vs):=Lib.hid (by
                          rw [Gr.flat_snoc HFA.out,← List.append_assoc,HQ.out,← Gr.take_fill (by rw [HQ0.out];omega) (by have:=HLR2.out;rw [List.length_map];omega) (.inr (by rw [HQ0.out];omega))];exact hR.out)
                        clear hR HFA;go_wp2_with fail;go_roundw
                        case rel => exact ⟨a + 1,vs,by omega,by go_num,HO6⟩
                        case measure => simp [intOf];omega
                    · obtain rfl:lr = k:=by omega
                      have HO6:Hid (Kt.LR 52 w w2 w4 wr ((P ++ (FL.take (a + 1)).flatMap fun a => RL.map (a :: ·)).take most) (.slice A9 (q0 + lr) c9) vs):=Lib.hid (by
                        rw [Gr.flat_snoc HFA.out,← List.append_assoc,HQ.out,← Gr.take_fill (by rw [HQ0.out];omega) (by have:=HLR2.out;rw [List.length_map];omega) (by have:=HLR2.out;rw [HQ0.out,List.length_map];omega)];exact hR.out)
                      clear hR HFA;go_wp2_with fail;go_roundw
                      case rel => exact ⟨a + 1,vs,by omega,by go_num,HO6⟩
                      case measure => simp [intOf];omega
                · obtain rfl:lf = a:=by omega
                  have HO6:Hid (Kt.OLq 52 wm w.heap.size (fun b => b < w.heap.size) ((Gr.PB g (hitf tk) nt ⟨cx,(sn:Int)⟩ l i j (m + 1)).take most) (.slice A8 q0 c8) vs):=Lib.hid (by
                    rw [HBLK.out];have e:=HQ.out;rw [List.take_of_length_le (by rw [HLF.out];exact Nat.le_refl _)] at e;rw [e];exact hR.out.o)
                  clear hR HBLK;go_wp2_with fail;go_roundw
                  case rel => exact ⟨m + 1,vs,by omega,by omega,by go_num,HO6,hbm⟩
                  case measure => simp [intOf];omega
            · have dcx:(cx != 0) = true:=by simp [hc0]
              have HBLK:Hid (Gr.PB g (hitf tk) nt ⟨cx,(sn:Int)⟩ l i j (m + 1) = P ++ RL):=Lib.hid (by
                rw [HSUC.out,← HRL.out,Gr.blk_cls hc0 fun e => hL40 (HL4.out.2 e)])
              have HST:Hid (Kt.LR 52 w w2 w3 w3 (P.take most ++ RL.take 0) (.slice A3 p0 c3) vs):=Lib.hid (by rw [List.take_zero,List.append_nil];exact Kt.LR.start HO2.out hbel2 hb3);clear HSUC HL4 HL5 HP HO2;go_wp2_with fail;go_loopw [11,14] (fun ov kv wr => ∃ (k:Nat) (vs:List Value),k ≤ lr ∧ p0 + k ≤ most ∧ kv = .int .i64 (k:Int) ∧ Hid (Kt.LR 52 w w2 w3 wr (P.take most ++ RL.take k) ov vs)) (fun _ kv _ => lr - (intOf kv).toNat)
              case atStart => exact ⟨0,vs,Nat.zero_le _,by omega,rfl,HST⟩
              case round =>
                clear HST;obtain ⟨k,vs,hk,hqk,rfl,hR⟩:=hrel;have hlen:(P.take most ++ RL.take k).length = p0 + k:=by
                  rw [List.length_append,HP0.out,List.length_take];have:=HLR2.out;omega
                obtain ⟨A9,c9,rfl⟩:=hR.out.shape;have hbr:=hR.out.b;have hsr4:=hR.out.s;rw [hlen] at hR ⊢;by_cases hkl:k < lr
                · by_cases hmo:p0 + k < most
                  · have dmo:decide (((p0 + k:Nat):Int) < (most:Int)) = true:=by simp;omega
                    obtain ⟨b3,o3,u3,rfl,hb3l,hb3n,hc3,ht3⟩:=HV3.out.at2 (show k < (RL.take most).length by rw [HLR.out];exact hkl);obtain ⟨y,hy⟩:∃ y,(RL.take most).getD k [] = y:=⟨_,rfl⟩;have HAT:Hid (RL[k]? = some y):=Lib.hid (by
                      rw [← hy];have:=getD_map_take (f:=fun z:List Gr.Tr => z) (l:=RL) (d:=[]) (m:=most) (k:=k) (by rw [HLR.out];exact hkl);rwa [List.map_id'] at this)
                    rw [hy] at ht3;obtain ⟨A10,c10,rfl⟩:=ht3.shape;have e5:wr.cell? ⟨b3,o3 + k,none⟩ = some (.slice A10 y.length c10):=(World.cell?_of_block (a:=⟨b3,o3 + k,none⟩) (hR.out.m b3 (by omega) hb3l)).trans hc3;have hown:=hR.out.o.own;rw [hlen] at hown;have HYY:Hid (Kt.LV wr (fun b => b < w.heap.size ∨ (Value.slice A9 (p0 + k) c9).ownBlock = some b) y (.slice A10 y.length c10)):=Lib.hid (((lv_more ht3).keep (W':=wr) fun q hq hn => hR.out.m q (by have:=fun e => hn (.inl e);omega) hq).less fun q hq => by
                      rcases hq with hq | hq
                      · exact .inl (by omega)
                      · exact hR.out.own q hq)
                    obtain ⟨ny,hny⟩:∃ ny,y.length = ny:=⟨_,rfl⟩;rw [hny] at e5 HYY;obtain ⟨wb,hwb⟩:∃ wb,wr.alloc (.cells #[.slice A10 ny c10] 52) = wb:=⟨_,rfl⟩;have hbb:Below wr.heap.size wr wb:=by rw [← hwb];exact (Below.refl _ _).alloc (Nat.le_refl _) _
                    have hsb:wb.heap.size = wr.heap.size + 1:=by rw [← hwb];simp
                    have hblk2:Kt.Blk wb wr.heap.size 52 #[.slice A10 ny c10]:=by rw [← hwb];exact Kt.Blk.new _ _ _
                    have HLV:Hid (Kt.LV wb (fun b => b < w.heap.size ∨ (Value.slice A9 (p0 + k) c9).ownBlock = some b) y (.slice A10 ny c10)):=Lib.hid (HYY.out.below hbb);have hown2:wb.ownsRow w.heap.size 52 1 (.slice A9 (p0 + k) c9) (p0 + k) vs:=Kt.ownsRow_keep hown fun g' e => hbb.block g' (hown.lt g' e).2
                    have HBK2:=Lib.hid hblk2;have HWB:=Lib.hid hwb;have HOWN2:=Lib.hid hown2;clear hc3 ht3 hwb hblk2 hown hown2 HYY;go_wp2_with (at_builtin;rw [HWB.out];go_loud (refine wpList_append_lies _ rfl (.tmp 79) (.tmp 84) 123 rfl w.heap.size 52 i1 (.slice none 0 0) 1 24 Try.underlying123 hi1 hy0 hy1 hy2 rfl (by decide) _ (p0 + k) vs rfl HOWN2.out ⟨wr.heap.size,0,none⟩ 1 1 [.slice A10 ny c10] rfl rfl (World.news_of_block HBK2.out) (by intro u hu;simp at hu;rw [hu];rfl) (by decide) (by unfold maxLen;omega) (by omega) (by have:=hbr.size;omega) _ rfl ?_));intro gg cap w6 hown6 hgr6 hat6 hlt6;have hR6:=hR.out.snoc hbb hs2 hlen HLV.out hown6 hgr6 (by first | exact hat6 | exact hat6.imp id fun e => e.trans hsb.symm);rw [List.append_assoc,Gr.take_snoc HAT.out] at hR6;have HR6:=Lib.hid hR6;clear hR6 hR hown6 hgr6 hat6 HLV HAT HWB HOWN2 HBK2 e5;go_wp2_with fail;go_roundw
                    case rel => exact ⟨k + 1,_,by omega,by omega,by go_num,HR6⟩
                    case measure => simp [intOf];omega
                  · have dmo:decide (((p0 + k:Nat):Int) < (most:Int)) = false:=by simp;omega
                    have HO6:Hid (Kt.OLq 52 wr w.heap.size (fun b => b < w.heap.size) ((Gr.PB g (hitf tk) nt ⟨cx,(sn:Int)⟩ l i j (m + 1)).take most) (.slice A9 (p0 + k) c9) vs):=Lib.hid (by
                      rw [HBLK.out,← Gr.take_fill (by rw [HP0.out];omega) (by have:=HLR2.out;omega) (.inr (by rw [HP0.out];omega))];exact hR.out.o)
                    clear hR HBLK;go_wp2_with fail;go_roundw
                    case rel => exact ⟨m + 1,vs,by omega,by omega,by go_num,HO6,hbr⟩
                    case measure => simp [intOf];omega
                · obtain rfl:lr = k:=by omega
                  have HO6:Hid (Kt.OLq 52 wr w.heap.size (fun b => b < w.heap.size) ((Gr.PB g (hitf tk) nt ⟨cx,(sn:Int)⟩ l i j (m + 1)).take most) (.slice A9 (p0 + lr) c9) vs):=Lib.hid (by
                    rw [HBLK.out,← Gr.take_fill (by rw [HP0.out];omega) (by have:=HLR2.out;omega) (by have:=HLR2.out;rw [HP0.out];omega)];exact hR.out.o)
                  clear hR HBLK;go_wp2_with fail;go_roundw
                  case rel => exact ⟨m + 1,vs,by omega,by omega,by go_num,HO6,hbr⟩
                  case measure => simp [intOf];omega
      · have dpm:decide ((p0:Int) < (most:Int)) = false:=by simp;omega
        have hlv:=hO.out.lv (fun g' e => by have:=(hO.out.own.lt g' e).1;omega);have HLV:Hid (Kt.LLV wl (fun b => b < w.heap.size) ((Gr.parts (hitf tk) (Gr.D g (hitf tk) nt) (⟨cx,(sn:Int)⟩ :: l) i j).take most) (.slice A3 p0 c3)):=Lib.hid (by
          obtain ⟨R,hR⟩:=Gr.PB_split (g:=g) (hit:=hitf tk) (nt:=nt) ⟨cx,(sn:Int)⟩ l hmi hmj1;rw [← Gr.PB_full _ _ hij,hR,HP.out,Gr.take_all R (by have:=HP02.out;omega)];exact hlv)
        clear hlv hO;go_wp2_with fail;go_ret;exact ⟨hbel,_,rfl,HLV.out⟩
    · obtain rfl:m = j + 1:=by omega
      have hlv:=hO.out.lv (fun g' e => by have:=(hO.out.own.lt g' e).1;omega);have HLV:Hid (Kt.LLV wl (fun b => b < w.heap.size) ((Gr.parts (hitf tk) (Gr.D g (hitf tk) nt) (⟨cx,(sn:Int)⟩ :: l) i j).take most) (.slice A3 p0 c3)):=Lib.hid (by
        rw [← Gr.PB_full _ _ hij,HP.out];exact hlv)
      clear hlv hO;go_wp2_with fail;go_ret;exact ⟨hbel,_,rfl,HLV.out⟩
end Go.Proofs.Ytdbfiflmeiidjaa
end
section
/- A region that copies an array: a step by hand. -/
namespace Kt
open Go Go.RowKit
theorem wp_copy {P:Program} {id:Nat} {Q:Exit → Act → World → Prop} {a:Act} {w w1 w2:World} {T:TypeId} {s1 s2 s3:Nat} {V p:Value} {o1 o2 o3:Oper}
    (e1:o1.op = .load T (.tmp s1)) (g1:o1.guard = none) (d1:o1.dst = some s2) (e2:o2.op = .alloc T) (g2:o2.guard = none) (d2:o2.dst = some s3) (e3:o3.op = .store T (.tmp s3) (.tmp s2)) (g3:o3.guard = none) (d3:o3.dst = none)
    (hl:(Instr.loadAt T (a.eval (.tmp s1))).run P w = .ok V w) (ha:(Instr.alloc T true (.tuple #[])).run P w = .ok p w1) (hs:(Instr.storeAt T p V).run P w1 = .ok () w2)
    (h2:((a.put (some s2) V).put (some s3) p).eval (.tmp s3) = p) (h3:((a.put (some s2) V).put (some s3) p).eval (.tmp s2) = V)
    (h:Q .normal ((a.put (some s2) V).put (some s3) p) w2):(Code.region id #[o1,o2,o3] false).wp P Q a w:=by
  have w1':∀ (o:Oper) (Y:Nat → Option Bool),o.guard = none → Region.wanted o Y = true:=fun o Y hg => by simp [Region.wanted,hg]
  refine wp_region ?_;show wpOps P #[o1,o2,o3] Q [0,1,2] a w;rw [wpOps];show if Region.wanted o1 _ = true then _ else _
  rw [if_pos (w1' o1 _ g1)];left;show o1.wp P _ _ (wpOps P #[o1,o2,o3] Q [1,2]) Q;unfold Oper.wp execOp;rw [e1];simp only [Sem.run_bind,hl,Result.andThen,Sem.run_pure];rw [Oper.upon_value,d1,wpOps];show if Region.wanted o2 _ = true then _ else _
  rw [if_pos (w1' o2 _ g2)];left;show o2.wp P _ _ (wpOps P #[o1,o2,o3] Q [2]) Q;unfold Oper.wp execOp;rw [e2];simp only [Sem.run_bind,ha,Result.andThen,Sem.run_pure];rw [Oper.upon_value,d2,wpOps];show if Region.wanted o3 _ = true then _ else _
  rw [if_pos (w1' o3 _ g3)];left;show o3.wp P _ _ (wpOps P #[o1,o2,o3] Q []) Q;unfold Oper.wp execOp;rw [e3];simp only [Sem.run_bind,h2,h3,hs,Result.andThen,Sem.run_pure];rw [Oper.upon_skip,d3,wpOps];exact h
end Kt
namespace Go.Proofs.Ytdbfiflmeiidjaa
open Go Go.RowKit
theorem arr_load (w:World) (bb:Nat) (T:TypeId) (cs:Array Value) (hB:Kt.Blk w bb T cs) (hn:cs.size = 64):(Instr.loadAt 116 (.pointer (some ⟨bb,0,none⟩))).run Try.prog w = .ok (.agg cs) w:=by
  simp only [Instr.loadAt,Instr.sureAddr,Sem.run_bind,Sem.run_pure,Result.andThen];exact run_loadVar_row w bb T 116 cs (0,0) _ hB Try.underlying116 rfl (by rw [hn];kernel_rfl)
theorem arr_alloc (w:World):(Instr.alloc 116 true (.tuple #[])).run Try.prog w = .ok (.pointer (some ⟨w.heap.size,0,none⟩)) (w.alloc (.cells (nilA 64) 116)):=by
  have hz:(zeroValue 116).run Try.prog w = .ok (.agg (nilA 64)) w:=by kernel_rfl
  simp only [Instr.alloc,Sem.run_bind,hz,Result.andThen,newVar,Sem.run_pure];rfl
theorem arr_store (w:World) (cs:Array Value) (hn:cs.size = 64) (h1:cs.all (·.oneCell') = true):(Instr.storeAt 116 (.pointer (some ⟨w.heap.size,0,none⟩)) (.agg cs)).run Try.prog (w.alloc (.cells (nilA 64) 116)) = .ok () (w.alloc (.cells cs 116)) :=
  run_storeAt_new w 116 (nilA 64) cs (by rw [hn];kernel_rfl) (by rw [hn];unfold nilA;simp) h1
end Go.Proofs.Ytdbfiflmeiidjaa
end
