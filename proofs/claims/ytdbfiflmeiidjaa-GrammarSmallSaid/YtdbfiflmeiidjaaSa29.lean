/- Joined: TrB, TrC. -/
import Derived.Test.YtdbfiflmeiidjaaSa24
import Derived.Test.YtdbfiflmeiidjaaSa25
import Derived.Test.YtdbfiflmeiidjaaSa28
import Derived.Deep.AppendLies
section
/- The full table: ways and item by it. -/
namespace Go.Proofs.Ytdbfiflmeiidjaa
open Go Go.RowKit
structure TOk (g:List Gr.Rule) (tk:List Int) (nt:Nat) (X:TX) (M:Nat → Prop) (w:World):Prop where
  t:Tbl X M (fun s i j => Gr.cnt g (hitf tk) nt (s:Int) i j) w
  m:∀ k,M k → k < w.heap.size
  eg:X.g = g
  ek:X.tk = tk
  en:X.nt = nt
  cp:Caps w X.A X.g
theorem TOk.below {g:List Gr.Rule} {tk:List Int} {nt:Nat} {X:TX} {M:Nat → Prop} {w w':World} (h:TOk g tk nt X M w) (hb:Below w.heap.size w w'):TOk g tk nt X M w' :=
  ⟨h.t.below hb,fun k hk => by have:=h.m k hk;have:=hb.size;omega,h.eg,h.ek,h.en,h.cp.keep h.t.rules fun p hp => hb.cell (Nat.lt_of_lt_of_le hp h.t.BB)⟩
def LenPost (w:World) (x:Nat) (e:Ending) (w':World):Prop:=∃ (A:Option Addr) (L c:Nat),e = .returned (.slice A L c) ∧ (L = 0 ↔ x = 0) ∧ Below w.heap.size w w'
structure ItOk (l:List Gr.Item):Prop where
  l8:l.length ≤ 8
  sy:∀ x ∈ l,0 ≤ x.sym ∧ x.sym < 64
  cl:∀ x ∈ l,0 ≤ x.cls ∧ x.cls ≤ 65535
theorem ItOk.tail {x:Gr.Item} {l:List Gr.Item} (h:ItOk (x :: l)):ItOk l:=⟨by have:=h.l8;simp at this;omega,fun y hy => h.sy y (by simp [hy]),fun y hy => h.cl y (by simp [hy])⟩
theorem itok_rule {g:List Gr.Rule} (hG:Gr.Good g) (hW:WfR g) {r:Nat} (hr:r < g.length):ItOk (Gr.rul g r).right:=by
  obtain ⟨_,_,h8,hx⟩:=(hG.ok r hr).parts;exact ⟨h8,fun x hm => (hx x hm).1,fun x hm => hW r hr x hm⟩
variable {g:List Gr.Rule} {tk:List Int} {nt:Nat} {X:TX} {M:Nat → Prop} {w:World}
theorem itemN_full (hT:TOk g tk nt X M w) {x:Gr.Item} (hs:0 ≤ x.sym) (a b:Nat) :
    itemN X (fun s i j => Gr.cnt g (hitf tk) nt (s:Int) i j) x a b = if x.cls = 0 then Gr.cnt g (hitf tk) nt x.sym a b else if b = a + 1 ∧ hitf tk a x.cls = true then 1 else 0:=by
  unfold itemN;dsimp only;rw [hT.ek,Int.toNat_of_nonneg hs]
theorem item_full (hT:TOk g tk nt X M w) (x:Gr.Item) (hs:0 ≤ x.sym ∧ x.sym < 64) (hc:0 ≤ x.cls ∧ x.cls ≤ 65535) (i j:Nat) (hij:i < j) (hj:j ≤ nt) (hn:nt ≤ 1000) :
    Calls Try.prog 60 #[.pointer (some ⟨X.tb,0,none⟩),.agg #[.int .u16 x.cls,.int .i64 x.sym],.int .i64 (i:Int),.int .i64 (j:Int)] w (LenPost w (if x.cls = 0 then Gr.cnt g (hitf tk) nt x.sym i j else if j = i + 1 ∧ hitf tk i x.cls = true then 1 else 0)):=by
  refine (item_any hT.t hT.m x hs hc i j hij (by rw [hT.en];exact hj) (by rw [hT.en];exact hn)).mono ?_;rintro e w' ⟨v,rfl,hv,hb⟩;rw [itemN_full hT hs.1] at hv;obtain ⟨A,c,rfl,_⟩:=hv;exact ⟨A,_,c,rfl,Nt.len_zero_iff _,hb⟩
theorem ways_full (hT:TOk g tk nt X M w) (hG:Gr.Good g) (hfit:Gr.Fit g nt) (l:List Gr.Item) (hl:ItOk l) (A:Option Addr) (L c:Nat) (hL:l.length = L) (hI:Kt.Items w w.heap.size A l) (i j:Nat) (hij:i ≤ j) (hj:j ≤ nt) :
    Calls Try.prog 48 #[.pointer (some ⟨X.tb,0,none⟩),.slice A L c,.int .i64 (i:Int),.int .i64 (j:Int)] w (LenPost w (Gr.ways g (hitf tk) nt l i j)):=by
  obtain ⟨ρ,hR⟩:=hG.ranked;have hfl:=hfit.le;have he:∀ x ∈ l,∀ a b,itemN X (fun s i j => Gr.cnt g (hitf tk) nt (s:Int) i j) x a b = Gr.itD (hitf tk) (fun s a b => (Gr.D g (hitf tk) nt s a b).length) x a b:=fun x hx a b => by
    rw [itemN_full hT (hl.sy x hx).1];rfl
  have e1:∀ (l':List Gr.Item) (a b:Nat),(∀ x ∈ l',x ∈ l) → b < j + 1 → Gr.wN (itemN X (fun s i j => Gr.cnt g (hitf tk) nt (s:Int) i j)) (j + 1) l' a b = Gr.ways g (hitf tk) nt l' a b:=fun l' a b hl' hb => by
    unfold Gr.ways;rw [← Gr.wN_parts (hitf tk) (Gr.D g (hitf tk) nt) (N:=j + 1) l' a b hb];exact Gr.wN_agree l' a b fun x hx a' b' _ _ _ _ => he x (hl' x hx) a' b'
  refine (ways_any hT.t hT.m l A L c hL (by have:=hl.l8;omega) hI (fun x hx => ⟨hl.sy x hx,hl.cl x hx⟩) i j hij (by rw [hT.en];exact hj) (by rw [hT.en];omega) (fun k b _ hb => ?_) (fun x hx a b _ hb => ?_)).mono ?_
  · rw [e1 (l.take k) i b (fun x hx => List.mem_of_mem_take hx) (by omega)];exact Nat.le_trans (Gr.limbs_fit fun N hN => Gr.ways_fit hR (by have:=hG.len;omega) _ nt (l.take k) i b hfit (by omega) (by omega) hN) (show 1024 ≤ 1500 by omega)
  · rw [he x hx];exact Nat.le_trans (itD_lt hR hG.len _ hfit x a b (by omega)) (by omega)
  · rintro e w' ⟨v,rfl,hv,hb⟩;rw [e1 l i j (fun x hx => hx) (by omega)] at hv;obtain ⟨A',c',rfl,_⟩:=Kt.NumM.of_num (M:=fun _ => False) hv (fun k hk => hk.elim);exact ⟨A',_,c',rfl,Nt.len_zero_iff _,hb⟩
end Go.Proofs.Ytdbfiflmeiidjaa
end
section
/- The reference's trees of a symbol: one step (its rules' parts given). -/
namespace Go.Proofs.Ytdbfiflmeiidjaa
open Go Go.RowKit
theorem Try.infoRT:(Try.prog.info? 60).map (fun i => (i.zero,i.size,i.bytes)) = some (some (.agg #[.int .i64 0,.int .i64 0,.int .i64 0,.slice none 0 0]),4,48):=by kernel_rfl
def RTr (g:List Gr.Rule) (tk:List Int) (nt s i j:Nat):Prop:=∀ (X:TX) (M:Nat → Prop) (w:World) (most:Nat),TOk g tk nt X M w → 1 ≤ most → most ≤ 200 →
  Calls Try.prog 38 #[.pointer (some ⟨X.tb,0,none⟩),.int .i64 (s:Int),.int .i64 (i:Int),.int .i64 (j:Int),.int .i64 (most:Int)] w
    fun e w' => Below w.heap.size w w' ∧ ∃ v,e = .returned v ∧ Kt.LV w' (fun k => k < w.heap.size) ((Gr.D g (hitf tk) nt (s:Int) i j).take most) v
def RPa (g:List Gr.Rule) (tk:List Int) (nt:Nat) (l:List Gr.Item) (i j:Nat):Prop:=∀ (X:TX) (M:Nat → Prop) (w:World) (most:Nat) (A:Option Addr) (L c:Nat),TOk g tk nt X M w → 1 ≤ most → most ≤ 200 → l.length = L → L ≤ c → Kt.Items w w.heap.size A l →
  Calls Try.prog 51 #[.pointer (some ⟨X.tb,0,none⟩),.slice A L c,.int .i64 (i:Int),.int .i64 (j:Int),.int .i64 (most:Int)] w
    fun e w' => Below w.heap.size w w' ∧ ∃ v,e = .returned v ∧ Kt.LLV w' (fun k => k < w.heap.size) ((Gr.parts (hitf tk) (Gr.D g (hitf tk) nt) l i j).take most) v
theorem getD_map_take {α β:Type} {f:α → β} {l:List α} {m k:Nat} {d:α} (h:k < (l.take m).length):(l.map f)[k]? = some (f ((l.take m).getD k d)):=by
  have h2:k < l.length:=by rw [List.length_take] at h;omega
  have h3:k < m:=by rw [List.length_take] at h;omega
  rw [List.getElem?_map,List.getD_eq_getElem?_getD,List.getElem?_take,if_pos h3,List.getElem?_eq_getElem h2];rfl
set_option maxRecDepth 100000 in
set_option maxHeartbeats 4000000 in
theorem rtrees_step (g:List Gr.Rule) (hG:Gr.Good g) (hW:WfR g) (tk:List Int) (nt:Nat) (hfit:Gr.Fit g nt) (s i j:Nat) (hij:i ≤ j) (hj:j ≤ nt)
    (IH:∀ r,r < g.length → (Gr.rul g r).left = (s:Int) → 0 < Gr.ways g (hitf tk) nt (Gr.rul g r).right i j → RPa g tk nt (Gr.rul g r).right i j):RTr g tk nt s i j:=by
  intro X M w most hT hm1 hm2;obtain ⟨i0,hi0,hz0,hz1,hz2⟩:=info_parts Try.infoRT;have hn40:=hfit.le;have hgl:=hG.len;have c0:=hT.t.c0;have htlt:=hT.t.tlt;have hbB:=hT.t.BB;have hR0:=hT.t.rules;have hgn:X.g.length = X.n:=hT.t.gl;have hCP:=hT.cp;rw [hT.eg] at hR0 hgn hCP;have HCP:=Lib.hid hCP;obtain ⟨n,hn⟩:∃ n,X.n = n:=⟨_,rfl⟩;obtain ⟨tb,htb⟩:∃ tb,X.tb = tb:=⟨_,rfl⟩;rw [hn] at c0 hgn;rw [htb] at c0 htlt ⊢;have HTB:=Lib.hid htb;have HGN:=Lib.hid hgn;have HT:=Lib.hid hT;have HG:=Lib.hid hG;have HW:=Lib.hid hW;have HFT:=Lib.hid hfit;have HI:=Lib.hid IH;have HR:=Lib.hid hR0;have hn200:n ≤ 200:=by omega
  clear hT hG hW hfit IH hR0 hgn hn htb hCP;go_enter Try.func38,Try.ntmps38;go_wp2_with fail;go_loopw [11,12] (fun ov rv wr => ∃ (r:Nat) (vs:List Value),r ≤ n ∧ rv = .int .i64 (r:Int) ∧ Hid (Kt.OTq 60 wr w.heap.size (fun b => b < w.heap.size) ((Gr.TB g (hitf tk) nt (s:Int) i j r).take most) ov vs) ∧ Below w.heap.size w wr) (fun _ rv _ => n - (intOf rv).toNat)
  case atStart => exact ⟨0,[],Nat.zero_le _,rfl,Lib.hid (by rw [Gr.TB_zero,List.take_nil];exact Kt.OTq.nil _ _ _),Below.refl _ _⟩
  case round =>
    obtain ⟨r,vs,hr,rfl,hO,hbel⟩:=hrel;obtain ⟨wl,hwl⟩:∃ w1,w1 = wr:=⟨_,rfl⟩;subst hwl;have c0r:=(hbel.cell (p:=⟨tb,0,none⟩) htlt).trans c0;have hsr:=hbel.size;by_cases hrn:r < n
    · obtain ⟨gb,go,hA,hgb,hgc⟩:=HR.out (by have:=HGN.out;omega);have hrg:r < g.length:=by rw [HGN.out];exact hrn
      obtain ⟨h1,A2,c2,h2,_,h4⟩:=hgc r hrg;have hgbl:gb < w.heap.size:=by omega
      have k1:=(hbel.cell (p:=⟨gb,go + r * 2,none⟩) hgbl).trans h1;have k2:=(hbel.cell (p:=⟨gb,go + r * 2 + 1,none⟩) hgbl).trans h2;have hmc:=HCP.out gb go hA r hrg _ _ _ h2;have HIT:=Lib.hid (((h4.more hbB).below hbel).more hsr);have HOK:=Lib.hid (itok_rule HG.out HW.out hrg);have HIR:=Lib.hid (HI.out r hrg);have HYES:Hid ((Gr.rul g r).left = (s:Int) → Gr.TB g (hitf tk) nt (s:Int) i j (r + 1) = Gr.TB g (hitf tk) nt (s:Int) i j r ++ (Gr.parts (hitf tk) (Gr.D g (hitf tk) nt) (Gr.rul g r).right i j).map (Gr.Tr.node r i j)):=Lib.hid Gr.TB_yes;have HNOT:Hid ((Gr.rul g r).left ≠ (s:Int) → Gr.TB g (hitf tk) nt (s:Int) i j (r + 1) = Gr.TB g (hitf tk) nt (s:Int) i j r):=Lib.hid Gr.TB_not;have HNONE:Hid (Gr.ways g (hitf tk) nt (Gr.rul g r).right i j = 0 → Gr.TB g (hitf tk) nt (s:Int) i j (r + 1) = Gr.TB g (hitf tk) nt (s:Int) i j r):=Lib.hid Gr.TB_none;obtain ⟨lf,hlf⟩:∃ lf,(Gr.rul g r).left = lf:=⟨_,rfl⟩;obtain ⟨rg,hrg2⟩:∃ rg,(Gr.rul g r).right = rg:=⟨_,rfl⟩;rw [hlf] at k1 HIR HYES HNOT;rw [hrg2] at k2 hmc HIT HOK HIR HYES HNONE;obtain ⟨m,hm⟩:∃ m,rg.length = m:=⟨_,rfl⟩;rw [hm] at k2 hmc;have HM:=Lib.hid hm;rw [hA] at c0r;clear hgc h1 h2 h4 hlf hrg2 hm hA hgb;by_cases hls:lf = (s:Int)
      · have d:(lf != (s:Int)) = false:=by simp [hls]
        have HWA:=Lib.hid (ways_full (HT.out.below hbel) HG.out HFT.out rg HOK.out A2 m c2 HM.out HIT.out i j hij hj);rw [HTB.out] at HWA;go_wp2_with fail;refine HWA.out.mono ?_;rintro e w2 ⟨A3,L3,c3,rfl,hL3,hb2⟩;have HL3:=Lib.hid hL3;have c02:=(hb2.cell (p:=⟨tb,0,none⟩) (show tb < wl.heap.size by omega)).trans c0r;have k22:=(hb2.cell (p:=⟨gb,go + r * 2 + 1,none⟩) (show gb < wl.heap.size by omega)).trans k2;have hbel2:=hbel.trans (hb2.mono hsr);have hs2:=hbel2.size;clear hL3;by_cases hL0:L3 = 0
        · subst hL0;have HO2:Hid (Kt.OTq 60 w2 w.heap.size (fun b => b < w.heap.size) ((Gr.TB g (hitf tk) nt (s:Int) i j (r + 1)).take most) _ vs):=Lib.hid (by
            rw [HNONE.out (HL3.out.1 rfl)];exact hO.out.below hb2)
          clear hO HIR HYES HNOT HNONE HL3 HWA;go_wp2_with fail;go_roundw
          case rel => exact ⟨r + 1,vs,by omega,by go_num,HO2,hbel2⟩
          case measure => simp [intOf];omega
        · have dL:((L3:Int) == 0) = false:=by simp [hL0]
          have HPA:=Lib.hid (HIR.out hls (Nat.pos_of_ne_zero fun e => hL0 (HL3.out.2 e)) X M w2 most A2 m c2 (HT.out.below hbel2) hm1 hm2 HM.out hmc (HIT.out.on hb2));rw [HTB.out] at HPA;have HTY:=Lib.hid (HYES.out hls);have HO2:=Lib.hid (hO.out.below hb2);clear hO HIR HYES HNOT HNONE HL3 HWA;go_wp2_with fail;refine HPA.out.mono ?_;rintro e w3 ⟨hb3,v3,rfl,hv3⟩;obtain ⟨A5,c5,rfl⟩:=hv3.shape;have hbel3:=hbel2.trans (hb3.mono hs2);have hs3:=hbel3.size;obtain ⟨PL,hPL⟩:∃ PL,Gr.parts (hitf tk) (Gr.D g (hitf tk) nt) rg i j = PL:=⟨_,rfl⟩;rw [hPL] at hv3 HTY ⊢;obtain ⟨lp,hlp⟩:∃ lp,(PL.take most).length = lp:=⟨_,rfl⟩;have hlp2:lp = min most PL.length:=by rw [← hlp,List.length_take]
          rw [hlp] at hv3 ⊢;have HLP:=Lib.hid hlp;have HV3:=Lib.hid hv3;obtain ⟨P,hP⟩:∃ P,Gr.TB g (hitf tk) nt (s:Int) i j r = P:=⟨_,rfl⟩;rw [hP] at HTY HO2;obtain ⟨p0,hp0⟩:∃ p0,(P.take most).length = p0:=⟨_,rfl⟩;have hp02:p0 ≤ most:=by rw [← hp0];exact Gr.take_len
          have HP0:=Lib.hid hp0;have HO3:Hid (Kt.OTq 60 w3 w.heap.size (fun b => b < w.heap.size) (P.take most ++ (PL.map (Gr.Tr.node r i j)).take 0) _ vs):=Lib.hid (by
            rw [List.take_zero,List.append_nil];exact HO2.out.below hb3)
          have hs23:=hb3.size;have HOW:Hid (∀ g',Value.ownBlock _ = some g' → g' < w2.heap.size):=Lib.hid (fun g' e => (HO2.out.own.lt g' e).2);clear hv3 HO2 hPL hlp hP hp0 HPA;go_wp2_with fail;go_loopw [11,14] (fun ov kv wr => ∃ (k:Nat) (vs:List Value),k ≤ lp ∧ p0 + k ≤ most ∧ kv = .int .i64 (k:Int) ∧ Hid (Kt.OTq 60 wr w.heap.size (fun b => b < w.heap.size) (P.take most ++ (PL.map (Gr.Tr.node r i j)).take k) ov vs) ∧ Below w.heap.size w wr ∧ w3.heap.size ≤ wr.heap.size ∧ Hid (∀ q,w2.heap.size ≤ q → q < w3.heap.size → wr.heap[q]? = w3.heap[q]?) ∧ Hid (∀ g',ov.ownBlock = some g' → g' < w2.heap.size ∨ w3.heap.size ≤ g')) (fun _ kv _ => lp - (intOf kv).toNat)
          case atStart => exact ⟨0,vs,Nat.zero_le _,by omega,rfl,HO3,hbel3,Nat.le_refl _,Lib.hid fun _ _ _ => rfl,Lib.hid fun g' e => .inl (HOW.out g' e)⟩
          case round =>
            clear HO3 HOW;obtain ⟨k,vs,hk,hpk,rfl,hO,hbel4,hs34,hSM,hOW⟩:=hrel;obtain ⟨A3,c3,rfl⟩:=hO.out.shape;have hlen:(P.take most ++ (PL.map (Gr.Tr.node r i j)).take k).length = p0 + k:=by
              rw [List.length_append,HP0.out,List.length_take,List.length_map];omega
            have hs4:=hbel4.size;rw [hlen] at hO hOW ⊢;by_cases hkl:k < lp
            · by_cases hmo:p0 + k < most
              · have dmo:decide (((p0 + k:Nat):Int) < (most:Int)) = true:=by simp;omega
                obtain ⟨b5,o5,u5,hA5,hb5,hc5,ht5⟩:=HV3.out.at (show k < (PL.take most).length by rw [HLP.out];exact hkl);obtain ⟨A6,c6,rfl⟩:=ht5.shape;have hb5g:w2.heap.size ≤ b5:=by
                  obtain ⟨A',c',b',off',vs',e',hA',_⟩:=HV3.out;injection e' with e1 e2 e3;obtain ⟨e4,e5,_⟩:=hA' (by rw [HLP.out];omega);rw [hA5] at e1;rw [e4] at e1;injection e1 with e1;injection e1 with e1;omega
                have q5:wr.cell? ⟨b5,o5 + k,none⟩ = some (.slice A6 ((PL.take most).getD k []).length c6):=(World.cell?_of_block (a:=⟨b5,o5 + k,none⟩) (hSM.out b5 hb5g hb5)).trans hc5;have HT5:=Lib.hid ((lv_more ht5).keep (W':=wr) fun q hq hn => hSM.out q (by have:=fun e => hn (.inl e);omega) hq);obtain ⟨n6,hn6⟩:∃ n6,((PL.take most).getD k []).length = n6:=⟨_,rfl⟩;rw [hn6] at q5 HT5;have HAT:Hid ((PL.map (Gr.Tr.node r i j))[k]? = some (Gr.Tr.node r i j ((PL.take most).getD k []))):=Lib.hid (getD_map_take (by rw [HLP.out];exact hkl));have hown:=hO.out.own;rw [hlen] at hown;have hgr0:∀ g',(Value.slice A3 (p0 + k) c3).ownBlock = some g' → w.heap.size ≤ g':=fun g' e => (hown.lt g' e).1
                have hgr9:∀ g',(Value.slice A3 (p0 + k) c3).ownBlock = some g' → g' < wr.heap.size:=fun g' e => (hown.lt g' e).2
                subst hA5;obtain ⟨wa,hwa⟩:∃ wa,wr.alloc (.cells #[.int .i64 (r:Int),.int .i64 (i:Int),.int .i64 (j:Int),.slice A6 n6 c6] 60) = wa:=⟨_,rfl⟩;have hown2:wa.ownsRow w.heap.size 60 4 (.slice A3 (p0 + k) c3) (p0 + k) (Kt.flatV vs):=by rw [← hwa];exact hown.alloc _
                have hsa:wa.heap.size = wr.heap.size + 1:=by rw [← hwa];simp
                have hba:Below wr.heap.size wr wa:=by rw [← hwa];exact (Below.refl _ _).alloc (Nat.le_refl _) _
                have hnw:wa.heap[wr.heap.size]? = some (.cells #[.int .i64 (r:Int),.int .i64 (i:Int),.int .i64 (j:Int),.slice A6 n6 c6] 60):=by rw [← hwa];exact Kt.Blk.new _ _ _
                have HNW:=Lib.hid hnw;have HWA2:=Lib.hid hwa;have hbig:(p0 + k + 1) * 48 ≤ 140737488355328:=by omega
                clear hc5 ht5 hn6 hown hwa hnw;go_wp2_with (at_builtin;rw [HWA2.out];go_loud (refine wpList_append_lies _ rfl (.tmp 75) (.tmp 84) 52 rfl w.heap.size 60 i0 (.agg #[.int .i64 0,.int .i64 0,.int .i64 0,.slice none 0 0]) 4 48 Try.underlying52 hi0 hz0 hz1 hz2 rfl (by decide) _ (p0 + k) (Kt.flatV vs) rfl hown2 ⟨wr.heap.size,0,none⟩ 1 1 [.int .i64 (r:Int),.int .i64 (i:Int),.int .i64 (j:Int),.slice A6 n6 c6] rfl rfl (World.news_of_block HNW.out) (by intro u hu;simp at hu;rcases hu with rfl | rfl | rfl | rfl <;> rfl) (by decide) (by unfold maxLen;omega) hbig (by omega) _ rfl ?_));intro gg cap w5 hown5 hgr5 hat5 hlt5;have hO4:=hO.out.below hba;have hT4:Kt.TV wa (fun b => b < w.heap.size ∨ (Value.slice A3 (p0 + k) c3).ownBlock = some b) (Gr.Tr.node r i j ((PL.take most).getD k [])) (.agg #[.int .i64 (r:Int),.int .i64 (i:Int),.int .i64 (j:Int),.slice A6 n6 c6]) :=
                  (Kt.TV.of_list (HT5.out.below hba) r i j).less fun q hq => by
                    rcases hq with hq | hq
                    · exact .inl (by show q < w2.heap.size;omega)
                    · exact (hOW.out q hq).imp id id
                have hO5:=hO4.snoc hT4 (W':=w5) (g:=gg) (cap:=cap) (by rw [hlen];exact hown5) hgr5 (by rcases hat5 with e | e;exact .inl e;exact .inr (by omega));rw [hlen,List.append_assoc,Gr.take_snoc HAT.out] at hO5;have hb5:Below w.heap.size w w5:=(hbel4.trans (hba.mono hs4)).grown hgr5 (by omega) hgr0;have hs5:=hgr5.size;have hSM5:Hid (∀ q,w2.heap.size ≤ q → q < w3.heap.size → w5.heap[q]? = w3.heap[q]?):=Lib.hid fun q h1 h2 => ((hgr5.block q (by omega) (fun e => by have:=hOW.out q e.symm;omega)).trans (hba.block q (by omega))).trans (hSM.out q h1 h2)
                have hOW5:Hid (∀ g',(Value.slice (some ⟨gg,0,none⟩) (p0 + k + 1) cap).ownBlock = some g' → g' < w2.heap.size ∨ w3.heap.size ≤ g'):=Lib.hid fun g' e => by
                  have e2:gg = g':=by simpa [Value.ownBlock] using e
                  subst e2;rcases hat5 with e3 | e3
                  · exact hOW.out gg e3
                  · omega
                have HO5:=Lib.hid hO5;clear hO4 hT4 hO5 hown5 hgr5 hown2 HT5 HAT hO q5 hSM hOW hat5 hba HNW HWA2;go_wp2_with fail;go_roundw
                case rel => exact ⟨k + 1,_,by omega,by omega,by go_num,HO5,hb5,by omega,hSM5,hOW5⟩
                case measure => simp [intOf];omega
              · have dmo:decide (((p0 + k:Nat):Int) < (most:Int)) = false:=by simp;omega
                have HO6:Hid (Kt.OTq 60 wr w.heap.size (fun b => b < w.heap.size) ((Gr.TB g (hitf tk) nt (s:Int) i j (r + 1)).take most) (.slice A3 (p0 + k) c3) vs):=Lib.hid (by
                  rw [HTY.out,← Gr.take_fill (by rw [HP0.out];omega) (by rw [List.length_map];omega) (.inr (by rw [HP0.out];omega))];exact hO.out)
                clear hO hSM hOW HTY HV3 HLP HP0;go_wp2_with fail;go_roundw
                case rel => exact ⟨r + 1,vs,by omega,by go_num,HO6,hbel4⟩
                case measure => simp [intOf];omega
            · obtain rfl:lp = k:=by omega
              have HO6:Hid (Kt.OTq 60 wr w.heap.size (fun b => b < w.heap.size) ((Gr.TB g (hitf tk) nt (s:Int) i j (r + 1)).take most) (.slice A3 (p0 + lp) c3) vs):=Lib.hid (by
                rw [HTY.out,← Gr.take_fill (by rw [HP0.out];omega) (by rw [List.length_map];omega) (by rw [HP0.out,List.length_map];omega)];exact hO.out)
              clear hO hSM hOW HTY HV3 HLP HP0;go_wp2_with fail;go_roundw
              case rel => exact ⟨r + 1,vs,by omega,by go_num,HO6,hbel4⟩
              case measure => simp [intOf];omega
      · have d:(lf != (s:Int)) = true:=by simp [hls]
        have HO2:Hid (Kt.OTq 60 wl w.heap.size (fun b => b < w.heap.size) ((Gr.TB g (hitf tk) nt (s:Int) i j (r + 1)).take most) _ vs):=Lib.hid (by
          rw [HNOT.out hls];exact hO.out)
        clear hO HIR HYES HNOT HNONE hls;go_wp2_with fail;go_roundw
        case rel => exact ⟨r + 1,vs,by omega,by go_num,HO2,hbel⟩
        case measure => simp [intOf];omega
    · obtain rfl:n = r:=by omega
      obtain ⟨ρ,hR⟩:=HG.out.ranked;have hlv:=hO.out.lv (by rw [List.length_take];omega) (fun g' e => by have:=(hO.out.own.lt g' e).1;omega);rw [← HGN.out,Gr.TB_full hR (s:Int) i j (by omega)] at hlv;have HLV:=Lib.hid hlv;clear hlv hO hR;go_wp2_with fail;go_ret;exact ⟨hbel,_,rfl,HLV.out⟩
end Go.Proofs.Ytdbfiflmeiidjaa
end
