/- Joined: GrF, Rgx. -/
import Derived.Test.YtdbfiflmeiidjaaSa15
import Derived.Deep.AppendLies
import Derived.Laws.AppendOwnNone
import Derived.Test.YtdbfiflmeiidjaaSa02
import Derived.Test.YtdbfiflmeiidjaaSa14
section
/- A slice of trees in a row of the call's own; a tree's copy. -/
namespace Kt
open Go Go.RowKit
def flatV (vs:List Value):List Value:=vs.flatMap fun x => x.cells.toList
theorem flatV_snoc (vs:List Value) (x:Value):flatV (vs ++ [x]) = flatV vs ++ x.cells.toList:=by simp [flatV]
theorem flatV_len:∀ (vs:List Value),(∀ k,k < vs.length → ∃ x0 x1 x2 x3,vs.getD k undef = .agg #[x0,x1,x2,x3]) → (flatV vs).length = vs.length * 4
  | [],_ => rfl
  | x :: vs,h => by
    obtain ⟨x0,x1,x2,x3,e⟩:=h 0 (by simp);have e2:x = .agg #[x0,x1,x2,x3]:=e;have ih:=flatV_len vs fun k hk => h (k + 1) (by simpa using hk)
    subst e2;rw [show flatV (.agg #[x0,x1,x2,x3] :: vs) = [x0,x1,x2,x3] ++ flatV vs from rfl,List.length_append,ih];simp;omega
theorem flatV_get:∀ (vs:List Value),(∀ k,k < vs.length → ∃ x0 x1 x2 x3,vs.getD k undef = .agg #[x0,x1,x2,x3]) → ∀ k q,k < vs.length → q < 4 → (flatV vs)[k * 4 + q]? = (vs.getD k undef).cells[q]?
  | [],_,k,_,hk,_ => absurd hk (Nat.not_lt_zero k)
  | x :: vs,h,0,q,_,hq => by
    obtain ⟨x0,x1,x2,x3,e⟩:=h 0 (by simp);have e2:x = .agg #[x0,x1,x2,x3]:=e;subst e2;rw [show flatV (.agg #[x0,x1,x2,x3] :: vs) = [x0,x1,x2,x3] ++ flatV vs from rfl,List.getElem?_append_left (by simp;omega)]
    match q,hq with
    | 0,_ => rfl
    | 1,_ => rfl
    | 2,_ => rfl
    | 3,_ => rfl
  | x :: vs,h,k + 1,q,hk,hq => by
    obtain ⟨x0,x1,x2,x3,e⟩:=h 0 (by simp);have e2:x = .agg #[x0,x1,x2,x3]:=e;have ih:=flatV_get vs (fun k hk => h (k + 1) (by simpa using hk)) k q (by simpa using hk) hq;subst e2;rw [show flatV (.agg #[x0,x1,x2,x3] :: vs) = [x0,x1,x2,x3] ++ flatV vs from rfl,List.getElem?_append_right (by simp;omega),show (k + 1) * 4 + q - [x0,x1,x2,x3].length = k * 4 + q from by simp;omega,ih];rfl
structure OTv (W:World) (base:Nat) (M:Nat → Prop) (l:List Gr.Tr) (v:Value) (vs:List Value):Prop where
  len:vs.length = l.length
  own:W.ownsRow base 57 4 v l.length (flatV vs)
  tr:∀ k,k < l.length → TV W (fun b => M b ∨ v.ownBlock = some b) (l.getD k noTr) (vs.getD k undef)
variable {W W':World} {base:Nat} {M M':Nat → Prop} {l:List Gr.Tr} {v:Value} {vs:List Value}
theorem OTv.shape (h:OTv W base M l v vs):∃ A c,v = .slice A l.length c:=by
  rcases h.own.2 with ⟨rfl,h0⟩ | ⟨g,cap,cur,rfl,_⟩
  · exact ⟨none,0,by rw [h0]⟩
  · exact ⟨_,_,rfl⟩
theorem OTv.nil (W:World) (base:Nat) (M:Nat → Prop):OTv W base M [] (.slice none 0 0) []:=⟨rfl,World.ownsRow_nil _ _ _ _,fun k hk => by simp at hk⟩
theorem OTv.form4 (h:OTv W base M l v vs):∀ k,k < vs.length → ∃ x0 x1 x2 x3,vs.getD k undef = .agg #[x0,x1,x2,x3]:=fun k hk => (h.tr k (by rw [← h.len];exact hk)).cells4
theorem ownsRow_keep {W W':World} {base sz n:Nat} {e:TypeId} {v:Value} {xs:List Value} (h:W.ownsRow base e sz v n xs) (hk:∀ g,v.ownBlock = some g → W'.heap[g]? = W.heap[g]?):W'.ownsRow base e sz v n xs:=by
  refine ⟨h.1,?_⟩;rcases h.2 with h2 | ⟨g,cap,cur,rfl,h3,h4,h5⟩
  · exact .inl h2
  · exact .inr ⟨g,cap,cur,rfl,h3,(hk g rfl).trans h4,h5⟩
theorem OTv.keep (h:OTv W base M l v vs) (hk:∀ k,k < W.heap.size → ¬ M k → W'.heap[k]? = W.heap[k]?) (hg:∀ g,v.ownBlock = some g → ¬ M g):OTv W' base M l v vs :=
  ⟨h.len,ownsRow_keep h.own fun g e => hk g (h.own.lt g e).2 (hg g e),fun k hkl => (h.tr k hkl).keep fun b hb hn => hk b hb fun e => hn (.inl e)⟩
theorem OTv.below (h:OTv W base M l v vs) (hb:Below W.heap.size W W'):OTv W' base M l v vs :=
  ⟨h.len,ownsRow_keep h.own fun g e => hb.block g (h.own.lt g e).2,fun k hkl => (h.tr k hkl).keep fun b hb2 _ => hb.block b hb2⟩
theorem OTv.less (h:OTv W base M l v vs) (hM:∀ k,M' k → M k):OTv W base M' l v vs:=⟨h.len,h.own,fun k hk => (h.tr k hk).less fun b hb => hb.elim (fun e => .inl (hM b e)) .inr⟩
theorem OTv.snoc {W':World} {t:Gr.Tr} {x0 x1 x2 x3:Value} {g cap:Nat} (h:OTv W base M l v vs) (ht:TV W (fun b => M b ∨ v.ownBlock = some b) t (.agg #[x0,x1,x2,x3]))
    (hown:W'.ownsRow base 57 4 (.slice (some ⟨g,0,none⟩) (l.length + 1) cap) (l.length + 1) (flatV vs ++ [x0,x1,x2,x3])) (hgr:W.grownBy W' v.ownBlock) (hat:v.ownBlock = some g ∨ W.heap.size ≤ g) :
    OTv W' base M (l ++ [t]) (.slice (some ⟨g,0,none⟩) (l.length + 1) cap) (vs ++ [.agg #[x0,x1,x2,x3]]):=by
  have mv:∀ {t':Gr.Tr} {u:Value},TV W (fun b => M b ∨ v.ownBlock = some b) t' u → TV W' (fun b => M b ∨ (Value.slice (some ⟨g,0,none⟩) (l.length + 1) cap).ownBlock = some b) t' u:=fun {t' u} h0 => by
    have h1:=(Go.Proofs.Ytdbfiflmeiidjaa.tv_more h0).keep (W':=W') fun k hk hn => hgr.block k hk fun e => hn (.inl (.inr e.symm))
    refine h1.less fun b hb => ?_
    rcases hb with hb | hb
    · exact .inl (.inl hb)
    · have hb2:g = b:=by simpa [Value.ownBlock] using hb
      subst hb2;rcases hat with e | e
      · exact .inl (.inr e)
      · exact .inr e
  refine ⟨by simp [h.len],?_,fun k hk => ?_⟩
  · rw [flatV_snoc,List.length_append];exact hown
  · rw [List.length_append] at hk;rcases Nat.lt_or_ge k l.length with hlt | hge
    · have e1:(l ++ [t]).getD k noTr = l.getD k noTr:=by simp [List.getElem?_append_left hlt]
      have e2:(vs ++ [Value.agg #[x0,x1,x2,x3]]).getD k undef = vs.getD k undef:=by simp [List.getElem?_append_left (by rw [h.len];exact hlt:k < vs.length)]
      rw [e1,e2];exact mv (h.tr k hlt)
    · obtain rfl:k = l.length:=by simp at hk;omega
      have e1:(l ++ [t]).getD l.length noTr = t:=by simp
      have e2:(vs ++ [Value.agg #[x0,x1,x2,x3]]).getD l.length undef = Value.agg #[x0,x1,x2,x3]:=by rw [← h.len];simp
      rw [e1,e2];exact mv ht
theorem OTv.lv (h:OTv W base M l v vs) (h63:l.length ≤ 4611686018427387904) (hg:∀ g,v.ownBlock = some g → ¬ M g):LV W M l v:=by
  have h4:=h.form4;rcases h.own.2 with ⟨rfl,h0⟩ | ⟨g,cap,cur,rfl,hb,hcur,hle,hmx,hsz,htk⟩
  · obtain rfl:l = []:=List.eq_nil_of_length_eq_zero h0;exact LV.nil W M
  · refine ⟨_,cap,g,0,fun k => vs.getD k undef,rfl,fun _ => ⟨rfl,hg g rfl,(h.own.lt g rfl).2⟩,hle,h63,fun k hk q hq => ?_,fun k hk => (h.tr k hk).less fun b hb => .inl hb⟩;have e:=flatV_get vs h4 k q (by rw [h.len];exact hk) hq;have hlen:=flatV_len vs h4;obtain ⟨u,hu⟩:∃ u,(flatV vs)[k * 4 + q]? = some u:=⟨_,List.getElem?_eq_getElem (by rw [hlen,h.len];omega)⟩;have:=h.own.cells rfl (k * 4 + q) u hu;show W.cell? ⟨g,0 + k * 4 + q,none⟩ = (vs.getD k undef).cells[q]?;rw [← e,hu];simpa [Addr.add_lit,Nat.add_assoc] using this
inductive Small:Gr.Tr → Prop
  | node (r i j:Nat) (l:List Gr.Tr) (h8:l.length ≤ 8) (hs:∀ k,k < l.length → Small (l.getD k noTr)):Small (.node r i j l)
theorem take_tr (l:List Gr.Tr) (k:Nat) (h:k < l.length):l.take k ++ [l.getD k noTr] = l.take (k + 1):=by
  rw [List.take_add_one,List.getElem?_eq_getElem h];simp [List.getElem?_eq_getElem h]
noncomputable def tsz (t:Gr.Tr):Nat:=SizeOf.sizeOf t
theorem size_sub {l:List Gr.Tr} {k:Nat} (h:k < l.length) (r i j:Nat):tsz (l.getD k noTr) < tsz (Gr.Tr.node r i j l):=by
  unfold tsz;have h1:l.getD k noTr ∈ l:=by
    rw [List.getD_eq_getElem?_getD,List.getElem?_eq_getElem h];exact List.getElem_mem h
  have:=List.sizeOf_lt_of_mem h1;simp only [Gr.Tr.node.sizeOf_spec];omega
end Kt
namespace Go.Proofs.Ytdbfiflmeiidjaa
open Go Go.RowKit
def CopyPost (t:Gr.Tr) (w:World) (e:Ending) (w':World):Prop:=Below w.heap.size w w' ∧ ∃ v',e = .returned v' ∧ Kt.TV w' (fun k => k < w.heap.size) t v'
set_option maxRecDepth 10000 in
set_option maxHeartbeats 1000000 in
theorem copied_step (t:Gr.Tr) (IH:∀ t',Kt.tsz t' < Kt.tsz t → ∀ (M:Nat → Prop) (v:Value) (w:World),Kt.Small t' → Kt.TV w M t' v → Calls Try.prog 37 #[v] w (CopyPost t' w))
    (M:Nat → Prop) (v:Value) (w:World) (hS:Kt.Small t) (hT:Kt.TV w M t v):Calls Try.prog 37 #[v] w (CopyPost t w):=by
  obtain ⟨i0,hi0,hz0,hz1,hz2⟩:=info_parts Try.infoTree;obtain ⟨r,i,j,l⟩:=t;obtain ⟨s,rfl,A,c,b,off,vs,rfl,hA,hle,h63,hc,ht⟩:=hT.parts;obtain ⟨h8,hss⟩:l.length ≤ 8 ∧ ∀ k,k < l.length → Kt.Small (l.getD k Kt.noTr):=by
    cases hS with
    | node _ _ _ _ h8 hs => exact ⟨h8,hs⟩
  have HI:=Lib.hid IH;have HSS:=Lib.hid hss;have HTS:=Lib.hid ht;have HA:=Lib.hid hA;have HC:=Lib.hid hc;obtain ⟨n,hn⟩:∃ n,Hid (l.length = n):=⟨_,Lib.hid rfl⟩;clear IH ht hA hc hT hS hss;rw [hn.out] at h8 hle h63 ⊢;go_enter Try.func37,Try.ntmps37;go_wp2_with fail;obtain ⟨w1,hw1⟩:∃ w1,(w.alloc (.cells #[.int .i64 (r:Int),.int .i64 (i:Int),.int .i64 (j:Int),.slice A n c] 57)).alloc (.cells #[.int .i64 0,.int .i64 0,.int .i64 0,.slice none 0 0] 57) = w1:=⟨_,rfl⟩;have hs1:w1.heap.size = w.heap.size + 2:=by rw [← hw1];simp
  have hb1:Below w.heap.size w w1:=by rw [← hw1];exact ((Below.refl _ _).alloc (Nat.le_refl _) _).alloc (by simp) _
  have k1:Kt.Blk w1 w.heap.size 57 #[.int .i64 (r:Int),.int .i64 (i:Int),.int .i64 (j:Int),.slice A n c]:=by rw [← hw1];exact (Kt.Blk.new w _ _).alloc _
  have k2:Kt.Blk w1 (w.heap.size + 1) 57 #[.int .i64 0,.int .i64 0,.int .i64 0,.slice none 0 0]:=by rw [← hw1];exact Kt.Blk.new' _ _ _ _ (by simp)
  rw [hw1];have K1:=Lib.hid k1;have K2:=Lib.hid k2;have hlt1:w.heap.size + 1 < w1.heap.size:=by omega
  clear hw1 k1 k2 hs1;go_loopw [3,9] (fun o s wr => ∃ (k:Nat) (vs':List Value),k ≤ n ∧ s = .int .i64 k ∧ Hid (Kt.OTv wr w1.heap.size (fun b => b < w1.heap.size) (l.take k) o vs') ∧ Below w1.heap.size w1 wr) (fun _ s _ => n - (intOf s).toNat)
  case atStart => exact ⟨0,[],Nat.zero_le _,rfl,Lib.hid (Kt.OTv.nil _ _ _),Below.refl _ _⟩
  case round =>
    obtain ⟨k,vs',hk,rfl,hO,hbel⟩:=hrel;have hsr:=hbel.size;have hlen:(l.take k).length = k:=by rw [List.length_take];have:=hn.out;omega
    obtain ⟨A3,c3',rfl⟩:=hO.out.shape;rw [hlen] at hO ⊢;by_cases hlt:k < n
    · obtain ⟨rfl,_,hbl⟩:=HA.out (by rw [hn.out];omega);obtain ⟨ve,hve⟩:∃ ve,ve = vs k:=⟨_,rfl⟩;have hb1r:Below w.heap.size w wr:=hb1.trans (hbel.mono (by omega));have htk:Kt.TV wr M (l.getD k Kt.noTr) ve:=by
        rw [hve];exact (HTS.out k (by rw [hn.out];exact hlt)).keep fun q hq _ => hb1r.block q hq
      obtain ⟨a0,a1,a2,A4,n4,c4,rfl⟩:=tv_form htk;have hcl:∀ q,q < 4 → wr.cell? ⟨b,off + k * 4 + q,none⟩ = (#[Value.int .i64 a0,.int .i64 a1,.int .i64 a2,.slice A4 n4 c4]:Array Value)[q]?:=fun q hq => by
        have:=HC.out k (by rw [hn.out];exact hlt) q hq;rw [← hve] at this;exact (hb1r.cell (p:=⟨b,off + k * 4 + q,none⟩) hbl).trans this
      have c0:wr.cell? ⟨b,off + k * 4,none⟩ = some (.int .i64 a0):=hcl 0 (by omega);have c1:wr.cell? ⟨b,off + k * 4 + 1,none⟩ = some (.int .i64 a1):=hcl 1 (by omega);have c2:wr.cell? ⟨b,off + k * 4 + 2,none⟩ = some (.int .i64 a2):=hcl 2 (by omega);have c3:wr.cell? ⟨b,off + k * 4 + 3,none⟩ = some (.slice A4 n4 c4):=hcl 3 (by omega);clear hcl hve;go_wp2_with fail;have hba:Below wr.heap.size wr (wr.alloc (.cells #[.int .i64 a0,.int .i64 a1,.int .i64 a2,.slice A4 n4 c4] 57)):=(Below.refl _ _).alloc (Nat.le_refl _) _;refine (HI.out _ (Kt.size_sub (by rw [hn.out];exact hlt) r i j) M _ _ (HSS.out k (by rw [hn.out];exact hlt)) (htk.keep fun q hq _ => hba.block q hq)).mono ?_;rintro e w3 ⟨hb3,v',rfl,ht3⟩;obtain ⟨d0,d1,d2,A5,n5,c5,rfl⟩:=tv_form ht3;have hb3':Below wr.heap.size wr w3:=hba.trans (hb3.mono (by simp));have hO3:=hO.out.below hb3';have hbel3:Below w1.heap.size w1 w3:=hbel.trans (hb3'.mono hsr);have hs3:=hbel3.size;have hsw:=hb3.size;have hown:w3.ownsRow w1.heap.size 57 4 (.slice A3 k c3') k (Kt.flatV vs'):=by have:=hO3.own;rwa [hlen] at this
      have hown2:(w3.alloc (.cells #[.int .i64 d0,.int .i64 d1,.int .i64 d2,.slice A5 n5 c5] 57)).ownsRow w1.heap.size 57 4 (.slice A3 k c3') k (Kt.flatV vs'):=hown.alloc _;have hgn:∀ g,(Value.slice A3 k c3').ownBlock = some g → w1.heap.size ≤ g:=fun g e => (hown.lt g e).1
      have hr9:∀ g,(Value.slice A3 k c3').ownBlock = some g → g < wr.heap.size:=fun g e => (hO.out.own.lt g e).2
      have HT3:=Lib.hid ht3;have HO3:=Lib.hid hO3;clear hO3 hO ht3 htk hown c0 c1 c2 c3 hba hb3;go_wp2_with (at_builtin;go_loud (refine wpList_append_lies _ rfl (.tmp 13) (.tmp 16) 49 rfl w1.heap.size 57 i0 (.agg #[.int .i64 0,.int .i64 0,.int .i64 0,.slice none 0 0]) 4 48 Try.underlying49 hi0 hz0 hz1 hz2 rfl (by decide) _ k (Kt.flatV vs') rfl hown2 ⟨w3.heap.size,0,none⟩ 1 1 [.int .i64 d0,.int .i64 d1,.int .i64 d2,.slice A5 n5 c5] rfl rfl (World.news_of_block (Kt.Blk.new _ _ _)) (by intro u hu;simp at hu;rcases hu with rfl | rfl | rfl | rfl <;> rfl) (by decide) (by unfold maxLen;omega) (by omega) (by simp;omega) _ rfl ?_));intro gg cap w4 hown4 hgr4 hat4 hlt4;have hO4:=HO3.out.below ((Below.refl w3.heap.size w3).alloc (Nat.le_refl w3.heap.size) (.cells #[.int .i64 d0,.int .i64 d1,.int .i64 d2,.slice A5 n5 c5] 57));have hT4:Kt.TV (w3.alloc (.cells #[.int .i64 d0,.int .i64 d1,.int .i64 d2,.slice A5 n5 c5] 57)) (fun b => b < w1.heap.size ∨ (Value.slice A3 k c3').ownBlock = some b) (l.getD k Kt.noTr) (.agg #[.int .i64 d0,.int .i64 d1,.int .i64 d2,.slice A5 n5 c5]) :=
        (HT3.out.keep fun q hq _ => ((Below.refl w3.heap.size w3).alloc (Nat.le_refl w3.heap.size) _).block q hq).less fun q hq => by
          rcases hq with hq | hq
          · show q < (World.alloc _ _).heap.size;simp;omega
          · have:=hr9 q hq;show q < (World.alloc _ _).heap.size;simp;omega
      have hO5:=hO4.snoc hT4 (W':=w4) (g:=gg) (cap:=cap) (by rw [hlen];exact hown4) hgr4 (by rcases hat4 with e | e;exact .inl e;exact .inr (by simp;omega));rw [hlen,Kt.take_tr l k (by rw [hn.out];exact hlt)] at hO5;have hbel4:Below w1.heap.size w1 w4:=(hbel3.alloc hs3 _).grown hgr4 (by simp;omega) (fun g hg => hgn g hg);have HO5:=Lib.hid hO5;clear hO4 hT4 hO5 hown4 hgr4 hown2 HO3 HT3;go_wp2_with fail;go_roundw
      case rel => exact ⟨k + 1,vs' ++ [.agg #[.int .i64 d0,.int .i64 d1,.int .i64 d2,.slice A5 n5 c5]],by omega,by go_num,HO5,hbel4⟩
      case measure => simp [intOf];omega
    · obtain rfl:k = n:=by omega
      have hx0:wr.cell? ⟨w.heap.size,0,none⟩ = some (.int .i64 (r:Int)):=((K1.out.below hbel (by omega)).cell 0);have hx1:wr.cell? ⟨w.heap.size,1,none⟩ = some (.int .i64 (i:Int)):=((K1.out.below hbel (by omega)).cell 1);have hx2:wr.cell? ⟨w.heap.size,2,none⟩ = some (.int .i64 (j:Int)):=((K1.out.below hbel (by omega)).cell 2);have hx3:wr.cell? ⟨w.heap.size,3,none⟩ = some (.slice A k c):=((K1.out.below hbel (by omega)).cell 3);have hf03:wr.frozen? ⟨w.heap.size,3,none⟩ = false:=(K1.out.below hbel (by omega)).frozen 3;have hy0:wr.cell? ⟨w.heap.size + 1,0,none⟩ = some (.int .i64 0):=(K2.out.below hbel (by omega)).cell 0;have hy1:wr.cell? ⟨w.heap.size + 1,1,none⟩ = some (.int .i64 0):=(K2.out.below hbel (by omega)).cell 1;have hy2:wr.cell? ⟨w.heap.size + 1,2,none⟩ = some (.int .i64 0):=(K2.out.below hbel (by omega)).cell 2;have hy3:wr.cell? ⟨w.heap.size + 1,3,none⟩ = some (.slice none 0 0):=(K2.out.below hbel (by omega)).cell 3;have hg0:wr.frozen? ⟨w.heap.size + 1,0,none⟩ = false:=(K2.out.below hbel (by omega)).frozen 0;have hg1:wr.frozen? ⟨w.heap.size + 1,1,none⟩ = false:=(K2.out.below hbel (by omega)).frozen 1;have hg2:wr.frozen? ⟨w.heap.size + 1,2,none⟩ = false:=(K2.out.below hbel (by omega)).frozen 2;have hg3:wr.frozen? ⟨w.heap.size + 1,3,none⟩ = false:=(K2.out.below hbel (by omega)).frozen 3;have HLV:=hO.out;have HK:=(K2.out.below hbel (by omega));obtain ⟨wz,hwz⟩:∃ wz,((((wr.setCell ⟨w.heap.size,3,none⟩ (.slice A3 k c3')).setCell ⟨w.heap.size + 1,0,none⟩ (.int .i64 (r:Int))).setCell ⟨w.heap.size + 1,1,none⟩ (.int .i64 (i:Int))).setCell ⟨w.heap.size + 1,2,none⟩ (.int .i64 (j:Int))).setCell ⟨w.heap.size + 1,3,none⟩ (.slice A3 k c3') = wz:=⟨_,rfl⟩;have hlw:=hbel.size;have hbz:Below w1.heap.size w1 wr:=hbel;have hsame:∀ q,w1.heap.size ≤ q → wz.heap[q]? = wr.heap[q]?:=fun q hq => by
        rw [← hwz,Below.heap_setCell _ _ _ _ (by show q ≠ w.heap.size + 1;omega),Below.heap_setCell _ _ _ _ (by show q ≠ w.heap.size + 1;omega),Below.heap_setCell _ _ _ _ (by show q ≠ w.heap.size + 1;omega),Below.heap_setCell _ _ _ _ (by show q ≠ w.heap.size + 1;omega),Below.heap_setCell _ _ _ _ (by show q ≠ w.heap.size;omega)]
      have hbl:Below w.heap.size w wz:=by
        rw [← hwz];exact (((((hb1.trans (hbel.mono (by omega))).setCell (p:=⟨w.heap.size,3,none⟩) (Nat.le_refl _) _).setCell (p:=⟨w.heap.size + 1,0,none⟩) (Nat.le_succ _) _).setCell (p:=⟨w.heap.size + 1,1,none⟩) (Nat.le_succ _) _).setCell (p:=⟨w.heap.size + 1,2,none⟩) (Nat.le_succ _) _).setCell (p:=⟨w.heap.size + 1,3,none⟩) (Nat.le_succ _) _
      have hrow:Kt.Blk wz (w.heap.size + 1) 57 #[.int .i64 (r:Int),.int .i64 (i:Int),.int .i64 (j:Int),.slice A3 k c3']:=by
        rw [← hwz];exact ((((HK.far (p:=⟨w.heap.size,3,none⟩) (by show w.heap.size + 1 ≠ w.heap.size;omega) _).set_ 0 _).set_ 1 _).set_ 2 _).set_ 3 _
      have htl:l.take k = l:=List.take_of_length_le (by rw [hn.out];exact Nat.le_refl _);rw [htl] at HLV;have hLV:=HLV.lv (by rw [hn.out];exact h63) (fun g hg => by have:=(HLV.own.lt g hg).1;omega);have hLZ:Kt.LV wz (fun b => b < w1.heap.size) l (.slice A3 k c3'):=hLV.keep fun q _ hn => hsame q (by omega)
      have hTZ:Kt.TV wz (fun b => b < w.heap.size) (.node r i j l) (.agg #[.int .i64 (r:Int),.int .i64 (i:Int),.int .i64 (j:Int),.slice A3 k c3']):=(Kt.TV.of_list hLZ r i j).less fun q hq => by show q < w1.heap.size;omega
      have HWZ:=Lib.hid hwz;have HR:=Lib.hid hrow;have HTZ:=Lib.hid hTZ;clear hwz hrow hTZ hLZ hLV HLV HK hsame hO;go_wp2_with fail;rw [HWZ.out];exact bodyPost_ret (results_cell_row rfl _ _ (w.heap.size + 1) 57 _ (0,0) _ rfl HR.out Try.underlying57 rfl (by kernel_rfl)) rfl ⟨hbl,_,rfl,HTZ.out⟩
theorem copy_any (t:Gr.Tr):∀ (M:Nat → Prop) (v:Value) (w:World),Kt.Small t → Kt.TV w M t v → Calls Try.prog 37 #[v] w (CopyPost t w):=by
  have key:∀ n (t:Gr.Tr),Kt.tsz t ≤ n → ∀ (M:Nat → Prop) (v:Value) (w:World),Kt.Small t → Kt.TV w M t v → Calls Try.prog 37 #[v] w (CopyPost t w):=by
    intro n
    induction n with
    | zero => exact fun t ht M v w hS hT => copied_step t (fun t' h => by omega) M v w hS hT
    | succ n ih => exact fun t ht M v w hS hT => copied_step t (fun t' h => ih t' (by omega)) M v w hS hT
  exact key _ t (Nat.le_refl _)
end Go.Proofs.Ytdbfiflmeiidjaa
end
section
/- A region that draws its order, by an invariant: each operation is walked once; results are predicates, what the region may write is a state, operations may be guarded. -/
namespace Kt
open Go Go.RowKit
structure Kp (X:Nat → Prop) (W w:World):Prop where
  os:w.os = W.os
  tape:w.tape = W.tape
  output:w.output = W.output
  size:W.heap.size ≤ w.heap.size
  same:∀ k,k < W.heap.size → ¬ X k → w.heap[k]? = W.heap[k]?
section
variable {X:Nat → Prop} {W w w':World}
theorem Kp.refl (X:Nat → Prop) (W:World):Kp X W W:=⟨rfl,rfl,rfl,Nat.le_refl _,fun _ _ _ => rfl⟩
theorem Kp.drew (X:Nat → Prop) (W:World):Kp X W W.drew:=⟨rfl,rfl,rfl,Nat.le_refl _,fun _ _ _ => rfl⟩
theorem Kp.trans (h:Kp X W w) (k:Kp X w w'):Kp X W w':=⟨k.os.trans h.os,k.tape.trans h.tape,k.output.trans h.output,Nat.le_trans h.size k.size,fun i hi hn => (k.same i (Nat.lt_of_lt_of_le hi h.size) hn).trans (h.same i hi hn)⟩
theorem Kp.below (X:Nat → Prop) (h:Below W.heap.size W w):Kp X W w:=⟨h.os,h.tape,h.output,h.size,fun k hk _ => h.block k hk⟩
theorem Kp.grown {row:Option Nat} (h:W.grownBy w row) (hr:∀ k,row = some k → X k):Kp X W w:=⟨h.os,h.tape,h.output,h.size,fun k hk hn => h.block k hk fun e => hn (hr k e.symm)⟩
theorem Kp.alloc (X:Nat → Prop) (W:World) (o:Obj):Kp X W (W.alloc o):=Kp.below X ((Below.refl _ _).alloc (Nat.le_refl _) _)
theorem Kp.set {p:Addr} (hp:X p.block) (v:Value):Kp X W (W.setCell p v):=⟨rfl,rfl,rfl,by simp,fun k _ hn => Below.heap_setCell _ p v k fun e => hn (by rw [e];exact hp)⟩
theorem Kp.cell (h:Kp X W w) {p:Addr} (hb:p.block < W.heap.size) (hX:¬ X p.block):w.cell? p = W.cell? p:=World.cell?_of_block (h.same _ hb hX)
theorem Kp.frozen (h:Kp X W w) {p:Addr} (hb:p.block < W.heap.size) (hX:¬ X p.block):w.frozen? p = W.frozen? p:=World.frozen?_of_block (h.same _ hb hX)
theorem Kp.to_below {B:Nat} (h:Kp X W w) (hB:B ≤ W.heap.size) (hX:∀ k,k < B → ¬ X k):Below B W w:=⟨h.os,h.tape,h.output,h.size,fun k hk => h.same k (by omega) (hX k hk)⟩
theorem Kp.more {X':Nat → Prop} (h:Kp X W w) (hX:∀ k,X k → X' k):Kp X' W w:=⟨h.os,h.tape,h.output,h.size,fun k hk hn => h.same k hk fun e => hn (hX k e)⟩
end
structure RxP where
  N:Nat
  slot:Nat → Nat
  S:List Nat
  a0:Act
  W:World
  X:Nat → Prop
  R:Nat → Value → World → Prop
  Z:(Nat → Bool) → (Nat → Value) → World → Prop
structure RxOk (p:RxP):Prop where
  inj:∀ i,i < p.N → ∀ j,j < p.N → p.slot i = p.slot j → i = j
  stable:∀ j v w w',p.R j v w → Kp p.X w w' → p.R j v w'
def lis (listed:Array Bool):Nat → Bool:=fun j => listed.getD j false
def vals (p:RxP) (act:Act):Nat → Value:=fun j => if j < p.N then val act (p.slot j) else undef
def upL (L:Nat → Bool) (j:Nat):Nat → Bool:=fun i => if i = j then true else L i
def upV (V:Nat → Value) (j:Nat) (v:Value):Nat → Value:=fun i => if i = j then v else V i
structure RxI (p:RxP) (listed:Array Bool) (act:Act) (w:World):Prop where
  size:listed.size = p.N
  frame:Fr p.S p.a0 act
  kept:Kp p.X p.W w
  res:∀ j,j < p.N → listed.getD j false = true → p.R j (val act (p.slot j)) w
  st:p.Z (lis listed) (vals p act) w
variable {p:RxP} {listed:Array Bool} {act:Act} {w w':World}
theorem RxI.start (hZ:p.Z (fun _ => false) (vals p p.a0) p.W.drew):RxI p (Array.replicate p.N false) p.a0 p.W.drew:=by
  have hf:∀ j,(Array.replicate p.N false).getD j false = false:=fun j => by
    by_cases hj:j < p.N <;> simp [hj]
  refine ⟨by simp,Fr.refl _ _,Kp.drew _ _,fun j _ hl => ?_,?_⟩
  · rw [hf] at hl;cases hl
  · rw [show lis (Array.replicate p.N false) = fun _ => false from funext hf];exact hZ
theorem lis_set {j:Nat} (hj:j < listed.size):lis (listed.setIfInBounds j true) = upL (lis listed) j:=by
  funext i;unfold upL;by_cases e:i = j
  · subst e;rw [if_pos rfl];exact getD_same hj
  · rw [if_neg e];exact getD_setL (fun e2 => e e2.symm)
theorem RxI.put (ok:RxOk p) (h:RxI p listed act w) {j s:Nat} {v:Value} (hj:j < p.N) (hs:s = p.slot j) (hm:s ∈ p.S) (hlt:s < p.a0.tmps.size) (hk:Kp p.X w w') (hR:p.R j v w')
    (hZ:p.Z (upL (lis listed) j) (upV (vals p act) j v) w'):RxI p (listed.setIfInBounds j true) (act.put (some s) v) w':=by
  subst hs;have hv:val (act.put (some (p.slot j)) v) (p.slot j) = v:=val_put (by rw [h.frame.2.1];exact hlt) v;have hne:∀ i,i < p.N → i ≠ j → val (act.put (some (p.slot j)) v) (p.slot i) = val act (p.slot i):=fun i hi hij => val_put_ne (fun e => hij (ok.inj _ hj _ hi e).symm) v
  refine ⟨by simp [h.size],h.frame.put hm v,h.kept.trans hk,fun i hi hl => ?_,?_⟩
  · by_cases e:i = j
    · subst e;rw [hv];exact hR
    · rw [hne i hi e];rw [getD_setL (fun e2 => e e2.symm)] at hl;exact ok.stable _ _ _ _ (h.res i hi hl) hk
  · rw [lis_set (by rw [h.size];exact hj)];have e:vals p (act.put (some (p.slot j)) v) = upV (vals p act) j v:=by
      funext i;unfold vals upV;by_cases e:i = j
      · subst e;rw [if_pos hj,if_pos rfl,hv]
      · rw [if_neg e];by_cases hi:i < p.N
        · show (if i < p.N then _ else _) = if i < p.N then _ else _
          rw [if_pos hi,if_pos hi,hne i hi e]
        · show (if i < p.N then _ else _) = if i < p.N then _ else _
          rw [if_neg hi,if_neg hi]
    rw [e];exact hZ
theorem RxI.store (ok:RxOk p) (h:RxI p listed act w) {j:Nat} (hj:j < p.N) (hk:Kp p.X w w') (hR:p.R j (val act (p.slot j)) w')
    (hZ:p.Z (upL (lis listed) j) (vals p act) w'):RxI p (listed.setIfInBounds j true) act w':=by
  refine ⟨by simp [h.size],h.frame,h.kept.trans hk,fun i hi hl => ?_,?_⟩
  · by_cases e:i = j
    · subst e;exact hR
    · rw [getD_setL (fun e2 => e e2.symm)] at hl;exact ok.stable _ _ _ _ (h.res i hi hl) hk
  · rw [lis_set (by rw [h.size];exact hj)];exact hZ
theorem RxI.get (h:RxI p listed act w) {j s:Nat} (hj:j < p.N) (hs:s = p.slot j) (hl:listed.getD j false = true):p.R j (act.tmps[s]?.getD undef) w:=by
  subst hs;rw [← val_get];exact h.res j hj hl
theorem RxI.eq (h:RxI p listed act w) {j s:Nat} {v:Value} (hj:j < p.N) (hs:s = p.slot j) (hv:∀ u w,p.R j u w → u = v) (hl:listed.getD j false = true):act.tmps[s]?.getD undef = v:=hv _ _ (h.get hj hs hl)
theorem RxI.cell (h:RxI p listed act w) {b o:Nat} {v:Value} (hb:b < p.W.heap.size) (hX:¬ p.X b) (hc:p.W.cell? ⟨b,o,none⟩ = some v):w.cell? ⟨b,o,none⟩ = some v:=(h.kept.cell (p:=⟨b,o,none⟩) hb hX).trans hc
theorem op_opc {P:Program} {o:Oper} {act:Act} {w:World} {Q:Exit → Act → World → Prop} {s:Nat} {G:Act → World → Prop} (R:Value → World → Prop)
    (H:∀ KK:Act → World → Prop,(∀ v w',R v w' → KK (act.put (some s) v) w') → Oper.wp P o act w KK Q) (hk:∀ v w',R v w' → G (act.put (some s) v) w'):Oper.wp P o act w G Q:=H G hk
theorem wp_any_act {P:Program} {c:Code} {Q:Exit → Act → World → Prop} {a:Act} {w:World} (h:∀ a0,a0 = a → c.wp P Q a0 w):c.wp P Q a w:=h a rfl
section
variable {P:Program} {md:Region.Mode} {ops:Array Oper} {Q:Exit → Act → World → Prop} {F:Fence} {n:Nat}
theorem wpAny_inv2 (I:Array Bool → Act → World → Prop)
    (hstep:∀ listed a w i o,I listed a w → ops[i]? = some o → listed.getD i true = false → (∀ e ∈ o.after,Region.binds md e = true → listed.getD e.on false = true) →
      if Region.wanted o (yielded ops a.tmps) = true then Oper.wp P o a w (fun a' w' => I (listed.setIfInBounds i true) a' w') Q else I (listed.setIfInBounds i true) (a.put o.dst undef) w)
    (hdone:∀ listed a w,I listed a w → Region.ready md ops listed = [] → Q .normal a w) :
    ∀ (fuel:Nat) (listed:Array Bool) (a:Act) (w:World),unl listed ≤ fuel → I listed a w → wpAny P md ops Q fuel listed a w:=by
  intro fuel
  induction fuel with
  | zero =>
    intro listed a w hu hI;have hr:Region.ready md ops listed = []:=by
      refine List.eq_nil_iff_forall_not_mem.2 fun i hi => ?_
      have:=unl_set (mem_ready.1 hi).1;omega
    exact ⟨hr,hdone _ _ _ hI hr⟩
  | succ fuel ih =>
    intro listed a w hu hI;refine ⟨fun hr => hdone _ _ _ hI hr,fun i hi => ?_⟩;obtain ⟨h1,o,ho,h2⟩:=mem_ready.1 hi;have h3:=unl_set h1;have hs:=hstep listed a w i o hI ho h1 h2;unfold wpOp;rw [ho];by_cases hw:Region.wanted o (yielded ops a.tmps) = true
    · simp only [hw,if_true] at hs ⊢;exact .inl (Oper.wp_mono (fun a' w' h => ih _ a' w' (by omega) h) hs)
    · rw [if_neg hw] at hs;simp only [hw];exact ih _ _ _ (by omega) hs
theorem region_inv2 {id:Nat} {a:Act} {w:World} (I:Array Bool → Act → World → Prop) (hm:P.follows .mixedOrders = true)
    (hI:I (Array.replicate ops.size false) a w.drew)
    (hstep:∀ listed a w i o,I listed a w → ops[i]? = some o → listed.getD i true = false → (∀ e ∈ o.after,Region.binds .any e = true → listed.getD e.on false = true) →
      if Region.wanted o (yielded ops a.tmps) = true then Oper.wp P o a w (fun a' w' => I (listed.setIfInBounds i true) a' w') Q else I (listed.setIfInBounds i true) (a.put o.dst undef) w)
    (hdone:∀ listed a w,I listed a w → Region.ready .any ops listed = [] → Q .normal a w):(Code.region id ops true).wp P Q a w :=
  wp_region_any hm (wpAny_inv2 I hstep hdone _ _ _ _ (by unfold unl;simp) hI)
theorem no_guard {o:Oper} (h:o.guard = none) {Y:Nat → Option Bool} {A B:Prop} (hA:A):if Region.wanted o Y = true then A else B:=by
  rw [if_pos (by simp [Region.wanted,h])];exact hA
theorem yes_guard {o o':Oper} {g s:Nat} {b c:Bool} {act:Act} (h:o.guard = some (g,b)) (hg:ops[g]? = some o') (hd:o'.dst = some s) (hv:act.tmps[s]?.getD undef = .bool c) (hc:c = b) {A B:Prop} (hA:A):if Region.wanted o (yielded ops act.tmps) = true then A else B:=by
  subst hc;have hy:yielded ops act.tmps g = some c:=by
    unfold yielded;rw [hg];simp only [Option.bind_some,hd];cases e:act.tmps[s]? with
    | none => rw [e] at hv;cases hv
    | some u =>
      rw [e] at hv;simp only [Option.getD_some] at hv;subst hv;rfl
  rw [if_pos (by simp [Region.wanted,h,hy])];exact hA
theorem not_guard {o o':Oper} {g s:Nat} {b c:Bool} {act:Act} (h:o.guard = some (g,b)) (hg:ops[g]? = some o') (hd:o'.dst = some s) (hv:act.tmps[s]?.getD undef = .bool c) (hc:c ≠ b) {A B:Prop} (hB:B):if Region.wanted o (yielded ops act.tmps) = true then A else B:=by
  have hy:yielded ops act.tmps g = some c:=by
    unfold yielded;rw [hg];simp only [Option.bind_some,hd];cases e:act.tmps[s]? with
    | none => rw [e] at hv;cases hv
    | some u =>
      rw [e] at hv;simp only [Option.getD_some] at hv;subst hv;rfl
  rw [if_neg (by simp [Region.wanted,h,hy,hc])];exact hB
end
theorem qb {a b:Nat} (h:Nat.ble a b = true):a ≤ b:=Nat.le_of_ble_eq_true h
theorem ql {a b c:Nat} (k:b ≤ c) (h:Nat.ble (a + 1) b = true):a < c:=Nat.lt_of_lt_of_le (Nat.le_of_ble_eq_true h) k
theorem qm {l:List Nat} {s:Nat} (h:l.contains s = true):s ∈ l:=by simpa using h
theorem qn {l:List Nat} {s:Nat} (h:l.contains s = false):s ∉ l:=by simpa using h
end Kt
end
