/- Joined: OtA, TkM, RfA, RfB. -/
import Derived.Test.YtdbfiflmeiidjaaSa19
import Derived.Test.YtdbfiflmeiidjaaSa03
import Derived.Test.YtdbfiflmeiidjaaSa05
section
/- Rows of trees of any type; rows of lists of trees. -/
namespace Kt
open Go Go.RowKit
structure OTq (TT:TypeId) (W:World) (base:Nat) (M:Nat → Prop) (l:List Gr.Tr) (v:Value) (vs:List Value):Prop where
  len:vs.length = l.length
  own:W.ownsRow base TT 4 v l.length (flatV vs)
  tr:∀ k,k < l.length → TV W (fun b => M b ∨ v.ownBlock = some b) (l.getD k noTr) (vs.getD k undef)
variable {W W':World} {TT:TypeId} {base:Nat} {M M':Nat → Prop} {l:List Gr.Tr} {v:Value} {vs:List Value}
theorem OTq.shape (h:OTq TT W base M l v vs):∃ A c,v = .slice A l.length c:=by
  rcases h.own.2 with ⟨rfl,h0⟩ | ⟨g,cap,cur,rfl,_⟩
  · exact ⟨none,0,by rw [h0]⟩
  · exact ⟨_,_,rfl⟩
theorem OTq.nil (W:World) (base:Nat) (M:Nat → Prop):OTq TT W base M [] (.slice none 0 0) []:=⟨rfl,World.ownsRow_nil _ _ _ _,fun k hk => by simp at hk⟩
theorem OTq.form4 (h:OTq TT W base M l v vs):∀ k,k < vs.length → ∃ x0 x1 x2 x3,vs.getD k undef = .agg #[x0,x1,x2,x3]:=fun k hk => (h.tr k (by rw [← h.len];exact hk)).cells4
theorem OTq.keep (h:OTq TT W base M l v vs) (hk:∀ k,k < W.heap.size → ¬ M k → W'.heap[k]? = W.heap[k]?) (hg:∀ g,v.ownBlock = some g → ¬ M g):OTq TT W' base M l v vs :=
  ⟨h.len,ownsRow_keep h.own fun g e => hk g (h.own.lt g e).2 (hg g e),fun k hkl => (h.tr k hkl).keep fun b hb hn => hk b hb fun e => hn (.inl e)⟩
theorem OTq.below (h:OTq TT W base M l v vs) (hb:Below W.heap.size W W'):OTq TT W' base M l v vs :=
  ⟨h.len,ownsRow_keep h.own fun g e => hb.block g (h.own.lt g e).2,fun k hkl => (h.tr k hkl).keep fun b hb2 _ => hb.block b hb2⟩
theorem OTq.less (h:OTq TT W base M l v vs) (hM:∀ k,M' k → M k):OTq TT W base M' l v vs:=⟨h.len,h.own,fun k hk => (h.tr k hk).less fun b hb => hb.elim (fun e => .inl (hM b e)) .inr⟩
theorem OTq.snoc {W':World} {t:Gr.Tr} {x0 x1 x2 x3:Value} {g cap:Nat} (h:OTq TT W base M l v vs) (ht:TV W (fun b => M b ∨ v.ownBlock = some b) t (.agg #[x0,x1,x2,x3]))
    (hown:W'.ownsRow base TT 4 (.slice (some ⟨g,0,none⟩) (l.length + 1) cap) (l.length + 1) (flatV vs ++ [x0,x1,x2,x3])) (hgr:W.grownBy W' v.ownBlock) (hat:v.ownBlock = some g ∨ W.heap.size ≤ g) :
    OTq TT W' base M (l ++ [t]) (.slice (some ⟨g,0,none⟩) (l.length + 1) cap) (vs ++ [.agg #[x0,x1,x2,x3]]):=by
  have mv:∀ {t':Gr.Tr} {u:Value},TV W (fun b => M b ∨ v.ownBlock = some b) t' u → TV W' (fun b => M b ∨ (Value.slice (some ⟨g,0,none⟩) (l.length + 1) cap).ownBlock = some b) t' u:=fun {t' u} h0 => by
    have h1:=(Go.Proofs.Ytdbfiflmeiidjaa.tv_more h0).keep (W':=W') fun k hk hn => hgr.block k hk fun e => hn (.inl (.inr e.symm))
    refine h1.less fun b hb => ?_
    rcases hb with hb | hb
    · exact .inl (.inl hb)
    · have hb2:g = b:=by simpa [Value.ownBlock] using hb
      subst hb2;rcases hat with e | e
      · exact .inl (.inr e)
      · exact .inr e
  refine ⟨by simp [h.len],?_,fun k hk => ?_⟩
  · rw [flatV_snoc,List.length_append];exact hown
  · rw [List.length_append] at hk;rcases Nat.lt_or_ge k l.length with hlt | hge
    · have e1:(l ++ [t]).getD k noTr = l.getD k noTr:=by simp [List.getElem?_append_left hlt]
      have e2:(vs ++ [Value.agg #[x0,x1,x2,x3]]).getD k undef = vs.getD k undef:=by simp [List.getElem?_append_left (by rw [h.len];exact hlt:k < vs.length)]
      rw [e1,e2];exact mv (h.tr k hlt)
    · obtain rfl:k = l.length:=by simp at hk;omega
      have e1:(l ++ [t]).getD l.length noTr = t:=by simp
      have e2:(vs ++ [Value.agg #[x0,x1,x2,x3]]).getD l.length undef = Value.agg #[x0,x1,x2,x3]:=by rw [← h.len];simp
      rw [e1,e2];exact mv ht
theorem OTq.lv (h:OTq TT W base M l v vs) (h63:l.length ≤ 4611686018427387904) (hg:∀ g,v.ownBlock = some g → ¬ M g):LV W M l v:=by
  have h4:=h.form4;rcases h.own.2 with ⟨rfl,h0⟩ | ⟨g,cap,cur,rfl,hb,hcur,hle,hmx,hsz,htk⟩
  · obtain rfl:l = []:=List.eq_nil_of_length_eq_zero h0;exact LV.nil W M
  · refine ⟨_,cap,g,0,fun k => vs.getD k undef,rfl,fun _ => ⟨rfl,hg g rfl,(h.own.lt g rfl).2⟩,hle,h63,fun k hk q hq => ?_,fun k hk => (h.tr k hk).less fun b hb => .inl hb⟩;have e:=flatV_get vs h4 k q (by rw [h.len];exact hk) hq;have hlen:=flatV_len vs h4;obtain ⟨u,hu⟩:∃ u,(flatV vs)[k * 4 + q]? = some u:=⟨_,List.getElem?_eq_getElem (by rw [hlen,h.len];omega)⟩;have:=h.own.cells rfl (k * 4 + q) u hu;show W.cell? ⟨g,0 + k * 4 + q,none⟩ = (vs.getD k undef).cells[q]?;rw [← e,hu];simpa [Addr.add_lit,Nat.add_assoc] using this
def LLV (W:World) (M:Nat → Prop) (L:List (List Gr.Tr)) (v:Value):Prop :=
  ∃ (A:Option Addr) (c b off:Nat) (vs:Nat → Value),v = .slice A L.length c ∧ (0 < L.length → A = some ⟨b,off,none⟩ ∧ ¬ M b ∧ b < W.heap.size) ∧ L.length ≤ c ∧
    (∀ k,k < L.length → W.cell? ⟨b,off + k,none⟩ = some (vs k)) ∧ ∀ k,k < L.length → LV W M (L.getD k []) (vs k)
theorem LLV.keep {L:List (List Gr.Tr)} (h:LLV W M L v) (hk:∀ k,k < W.heap.size → ¬ M k → W'.heap[k]? = W.heap[k]?):LLV W' M L v:=by
  obtain ⟨A,c,b,off,vs,e,hA,hle,hc,ht⟩:=h;refine ⟨A,c,b,off,vs,e,fun hp => ?_,hle,fun k hkl => ?_,fun k hkl => (ht k hkl).keep hk⟩
  · obtain ⟨h1,h2,h3⟩:=hA hp;refine ⟨h1,h2,?_⟩;have h4:=hk b h3 h2;rw [Array.getElem?_eq_getElem h3] at h4;exact (Array.getElem?_eq_some_iff.1 h4).1
  · obtain ⟨h1,h2,h3⟩:=hA (by omega);exact (World.cell?_of_block (a:=⟨b,off + k,none⟩) (hk b h3 h2)).trans (hc k hkl)
theorem LLV.less {L:List (List Gr.Tr)} (h:LLV W M L v) (hM:∀ k,M' k → M k):LLV W M' L v:=by
  obtain ⟨A,c,b,off,vs,e,hA,hle,hc,ht⟩:=h;exact ⟨A,c,b,off,vs,e,fun hp => ⟨(hA hp).1,fun e => (hA hp).2.1 (hM b e),(hA hp).2.2⟩,hle,hc,fun k hkl => (ht k hkl).less hM⟩
theorem LLV.below {L:List (List Gr.Tr)} (h:LLV W M L v) (hb:Below W.heap.size W W'):LLV W' M L v:=h.keep fun k hk _ => hb.block k hk
theorem LV.below {l:List Gr.Tr} (h:LV W M l v) (hb:Below W.heap.size W W'):LV W' M l v:=h.keep fun k hk _ => hb.block k hk
theorem LLV.shape {L:List (List Gr.Tr)} (h:LLV W M L v):∃ A c,v = .slice A L.length c:=by
  obtain ⟨A,c,b,off,vs,e,_⟩:=h;exact ⟨A,c,e⟩
theorem LV.shape {l:List Gr.Tr} (h:LV W M l v):∃ A c,v = .slice A l.length c:=by
  obtain ⟨A,c,b,off,vs,e,_⟩:=h;exact ⟨A,c,e⟩
theorem LLV.at {L:List (List Gr.Tr)} {A:Option Addr} {n c k:Nat} (h:LLV W M L (.slice A n c)) (hk:k < L.length):∃ (b off:Nat) (u:Value),A = some ⟨b,off,none⟩ ∧ b < W.heap.size ∧ W.cell? ⟨b,off + k,none⟩ = some u ∧ LV W M (L.getD k []) u:=by
  obtain ⟨A',c',b,off,vs,e,hA,hle,hc,ht⟩:=h;injection e with e1 e2 e3;subst e1;obtain ⟨e4,_,hb⟩:=hA (by omega);exact ⟨b,off,vs k,e4,hb,hc k hk,ht k hk⟩
theorem LV.at {l:List Gr.Tr} {A:Option Addr} {n c k:Nat} (h:LV W M l (.slice A n c)) (hk:k < l.length):∃ (b off:Nat) (x0 x1 x2 x3:Value),A = some ⟨b,off,none⟩ ∧ b < W.heap.size ∧ (∀ q,q < 4 → W.cell? ⟨b,off + k * 4 + q,none⟩ = (#[x0,x1,x2,x3]:Array Value)[q]?) ∧ TV W M (l.getD k noTr) (.agg #[x0,x1,x2,x3]):=by
  obtain ⟨A',c',b,off,vs,e,hA,hle,h63,hc,ht⟩:=h;injection e with e1 e2 e3;subst e1;obtain ⟨e4,_,hb⟩:=hA (by omega);have h1:=ht k hk;have h2:=hc k hk;obtain ⟨x0,x1,x2,x3,e5⟩:=h1.cells4;rw [e5] at h1 h2;exact ⟨b,off,x0,x1,x2,x3,e4,hb,h2,h1⟩
structure OLq (TT:TypeId) (W:World) (base:Nat) (M:Nat → Prop) (L:List (List Gr.Tr)) (v:Value) (vs:List Value):Prop where
  len:vs.length = L.length
  own:W.ownsRow base TT 1 v L.length vs
  tr:∀ k,k < L.length → LV W (fun b => M b ∨ v.ownBlock = some b) (L.getD k []) (vs.getD k undef)
section
variable {L:List (List Gr.Tr)}
theorem OLq.shape (h:OLq TT W base M L v vs):∃ A c,v = .slice A L.length c:=by
  rcases h.own.2 with ⟨rfl,h0⟩ | ⟨g,cap,cur,rfl,_⟩
  · exact ⟨none,0,by rw [h0]⟩
  · exact ⟨_,_,rfl⟩
theorem OLq.nil (W:World) (base:Nat) (M:Nat → Prop):OLq TT W base M [] (.slice none 0 0) []:=⟨rfl,World.ownsRow_nil _ _ _ _,fun k hk => by simp at hk⟩
theorem OLq.below (h:OLq TT W base M L v vs) (hb:Below W.heap.size W W'):OLq TT W' base M L v vs :=
  ⟨h.len,ownsRow_keep h.own fun g e => hb.block g (h.own.lt g e).2,fun k hkl => (h.tr k hkl).keep fun b hb2 _ => hb.block b hb2⟩
theorem OLq.snoc {W':World} {l:List Gr.Tr} {x:Value} {g cap:Nat} (h:OLq TT W base M L v vs) (ht:LV W (fun b => M b ∨ v.ownBlock = some b) l x)
    (hown:W'.ownsRow base TT 1 (.slice (some ⟨g,0,none⟩) (L.length + 1) cap) (L.length + 1) (vs ++ [x])) (hgr:W.grownBy W' v.ownBlock) (hat:v.ownBlock = some g ∨ W.heap.size ≤ g) :
    OLq TT W' base M (L ++ [l]) (.slice (some ⟨g,0,none⟩) (L.length + 1) cap) (vs ++ [x]):=by
  have mv:∀ {l':List Gr.Tr} {u:Value},LV W (fun b => M b ∨ v.ownBlock = some b) l' u → LV W' (fun b => M b ∨ (Value.slice (some ⟨g,0,none⟩) (L.length + 1) cap).ownBlock = some b) l' u:=fun {l' u} h0 => by
    have h1:=(Go.Proofs.Ytdbfiflmeiidjaa.lv_more h0).keep (W':=W') fun k hk hn => hgr.block k hk fun e => hn (.inl (.inr e.symm))
    refine h1.less fun b hb => ?_
    rcases hb with hb | hb
    · exact .inl (.inl hb)
    · have hb2:g = b:=by simpa [Value.ownBlock] using hb
      subst hb2;rcases hat with e | e
      · exact .inl (.inr e)
      · exact .inr e
  refine ⟨by simp [h.len],by rw [List.length_append];exact hown,fun k hk => ?_⟩;rw [List.length_append] at hk;rcases Nat.lt_or_ge k L.length with hlt | hge
  · have e1:(L ++ [l]).getD k [] = L.getD k []:=by simp [List.getElem?_append_left hlt]
    have e2:(vs ++ [x]).getD k undef = vs.getD k undef:=by simp [List.getElem?_append_left (by rw [h.len];exact hlt:k < vs.length)]
    rw [e1,e2];exact mv (h.tr k hlt)
  · obtain rfl:k = L.length:=by simp at hk;omega
    have e1:(L ++ [l]).getD L.length [] = l:=by simp
    have e2:(vs ++ [x]).getD L.length undef = x:=by rw [← h.len];simp
    rw [e1,e2];exact mv ht
theorem OLq.lv (h:OLq TT W base M L v vs) (hg:∀ g,v.ownBlock = some g → ¬ M g):LLV W M L v:=by
  rcases h.own.2 with ⟨rfl,h0⟩ | ⟨g,cap,cur,rfl,hb,hcur,hle,hmx,hsz,htk⟩
  · obtain rfl:L = []:=List.eq_nil_of_length_eq_zero h0;exact ⟨none,0,0,0,fun _ => undef,rfl,fun h => by simp at h,Nat.le_refl _,fun k hk => by simp at hk,fun k hk => by simp at hk⟩
  · refine ⟨_,cap,g,0,fun k => vs.getD k undef,rfl,fun _ => ⟨rfl,hg g rfl,(h.own.lt g rfl).2⟩,hle,fun k hk => ?_,fun k hk => (h.tr k hk).less fun b hb => .inl hb⟩;have hk2:k < vs.length:=by rw [h.len];exact hk
    have:=h.own.cells rfl k (vs.getD k undef) (by simp [List.getElem?_eq_getElem hk2]);simpa [Addr.add_lit] using this
end
end Kt
end
section
/- Lists cut off after the first few, as the reference makes them. -/
namespace Gr
section
variable {α:Type}
theorem take_fill {P B:List α} {m k:Nat} (h1:(P.take m).length + k ≤ m) (h2:k ≤ B.length) (h:B.length ≤ k ∨ (P.take m).length + k = m):P.take m ++ B.take k = (P ++ B).take m:=by
  rw [List.length_take] at h1 h;rw [List.take_append];congr 1;rw [List.take_eq_take_iff];omega
theorem take_snoc {B:List α} {k:Nat} {a:α} (h:B[k]? = some a):B.take k ++ [a] = B.take (k + 1):=by
  rw [List.take_add_one,h];rfl
theorem take_all {P:List α} {m:Nat} (Q:List α) (h:m ≤ P.length):(P ++ Q).take m = P.take m:=List.take_append_of_le_length h
theorem take_len {P:List α} {m:Nat}:(P.take m).length ≤ m:=by
  rw [List.length_take];omega
end
section
variable {g:List Rule} {hit:Nat → Int → Bool} {nt:Nat}
def TB (g:List Rule) (hit:Nat → Int → Bool) (nt:Nat) (s:Int) (i j r:Nat):List Tr:=((List.range r).filter fun q => decide ((rul g q).left = s)).flatMap fun q => (parts hit (D g hit nt) (rul g q).right i j).map (Tr.node q i j)
theorem TB_zero (s:Int) (i j:Nat):TB g hit nt s i j 0 = []:=rfl
theorem TB_yes {s:Int} {i j r:Nat} (h:(rul g r).left = s):TB g hit nt s i j (r + 1) = TB g hit nt s i j r ++ (parts hit (D g hit nt) (rul g r).right i j).map (Tr.node r i j):=by
  unfold TB;rw [List.range_succ,List.filter_append,List.flatMap_append,List.filter_cons_of_pos (by simp [h])];simp
theorem TB_not {s:Int} {i j r:Nat} (h:(rul g r).left ≠ s):TB g hit nt s i j (r + 1) = TB g hit nt s i j r:=by
  unfold TB;rw [List.range_succ,List.filter_append,List.flatMap_append,List.filter_cons_of_neg (by simp [h])];simp
theorem TB_none {s:Int} {i j r:Nat} (h:ways g hit nt (rul g r).right i j = 0):TB g hit nt s i j (r + 1) = TB g hit nt s i j r:=by
  by_cases e:(rul g r).left = s
  · rw [TB_yes e,List.eq_nil_of_length_eq_zero h];simp
  · exact TB_not e
theorem TB_full {ρ:Int → Nat} (hR:Ranked g ρ) (s:Int) (i j:Nat) (h:j - i ≤ nt):TB g hit nt s i j g.length = D g hit nt s i j:=(D_eq hR hit nt s i j h).symm
def blk (g:List Rule) (hit:Nat → Int → Bool) (nt:Nat) (x:Item) (l:List Item) (i j m:Nat):List (List Tr) :=
  if x.cls = 0 then (D g hit nt x.sym i m).flatMap fun a => (parts hit (D g hit nt) l m j).map (a :: ·) else if m = i + 1 ∧ hit i x.cls = true then parts hit (D g hit nt) l m j else []
def PB (g:List Rule) (hit:Nat → Int → Bool) (nt:Nat) (x:Item) (l:List Item) (i j m:Nat):List (List Tr):=(List.range' (i + 1) (m - (i + 1))).flatMap (blk g hit nt x l i j)
theorem PB_zero (x:Item) (l:List Item) (i j:Nat):PB g hit nt x l i j (i + 1) = []:=by
  unfold PB;simp
theorem PB_succ (x:Item) (l:List Item) (i j:Nat) {m:Nat} (h:i + 1 ≤ m):PB g hit nt x l i j (m + 1) = PB g hit nt x l i j m ++ blk g hit nt x l i j m:=by
  unfold PB;rw [show m + 1 - (i + 1) = (m - (i + 1)) + 1 from by omega,List.range'_concat,List.flatMap_append,show i + 1 + 1 * (m - (i + 1)) = m from by omega];simp
theorem blk_none {x:Item} {l:List Item} {i j m:Nat} (h:(if x.cls = 0 then cnt g hit nt x.sym i m else if m = i + 1 ∧ hit i x.cls = true then 1 else 0) = 0 ∨ ways g hit nt l m j = 0):blk g hit nt x l i j m = []:=by
  unfold blk;rcases h with h | h
  · split
    · rename_i hc;rw [if_pos hc] at h;rw [show D g hit nt x.sym i m = [] from List.eq_nil_of_length_eq_zero h];rfl
    · rename_i hc;rw [if_neg hc] at h;rw [if_neg];intro hh;rw [if_pos hh] at h;omega
  · have e:parts hit (D g hit nt) l m j = []:=List.eq_nil_of_length_eq_zero h;rw [e];split
    · induction D g hit nt x.sym i m with
      | nil => rfl
      | cons a r ih => rw [List.flatMap_cons,ih];rfl
    · split <;> rfl
theorem blk_sym {x:Item} {l:List Item} {i j m:Nat} (h:x.cls = 0):blk g hit nt x l i j m = (D g hit nt x.sym i m).flatMap fun a => (parts hit (D g hit nt) l m j).map (a :: ·):=by
  unfold blk;rw [if_pos h]
theorem blk_cls {x:Item} {l:List Item} {i j m:Nat} (h:x.cls ≠ 0) (h1:(if x.cls = 0 then cnt g hit nt x.sym i m else if m = i + 1 ∧ hit i x.cls = true then 1 else 0) ≠ 0):blk g hit nt x l i j m = parts hit (D g hit nt) l m j:=by
  rw [if_neg h] at h1;unfold blk;rw [if_neg h,if_pos]
  false_or_by_contra
  rename_i hh;rw [if_neg hh] at h1;exact h1 rfl
theorem PB_full (x:Item) (l:List Item) {i j:Nat} (h:i ≤ j):PB g hit nt x l i j (j + 1) = parts hit (D g hit nt) (x :: l) i j:=by
  unfold PB;rw [show j + 1 - (i + 1) = j - i from by omega,parts];by_cases hc:x.cls = 0
  · rw [if_pos hc];exact flatMap_same _ fun m _ => blk_sym hc
  · rw [if_neg hc];rcases Nat.lt_or_ge i j with hij | hij
    · obtain ⟨d,hd⟩:∃ d,j - i = d + 1:=⟨j - i - 1,by omega⟩;rw [hd,List.range'_succ,List.flatMap_cons];have h0:(List.range' (i + 1 + 1) d).flatMap (blk g hit nt x l i j) = []:=by
        rw [flatMap_same (g:=fun _ => ([]:List (List Tr)))]
        · induction List.range' (i + 1 + 1) d with
          | nil => rfl
          | cons a r ih => rw [List.flatMap_cons,ih];rfl
        · intro a ha;have:=List.mem_range'_1.1 ha;unfold blk;rw [if_neg hc,if_neg (by omega)]
      rw [h0,List.append_nil];unfold blk;rw [if_neg hc];by_cases hh:hit i x.cls = true
      · rw [if_pos ⟨rfl,hh⟩,if_pos ⟨hij,hh⟩]
      · rw [if_neg (fun e => hh e.2),if_neg (fun e => hh e.2)]
    · rw [show j - i = 0 from by omega,if_neg (by omega)];rfl
theorem flat_take {α β:Type} {f:α → List β}:∀ (L:List α) (m:Nat),(∀ a ∈ L,0 < (f a).length) → ((L.take m).flatMap f).take m = (L.flatMap f).take m:=by
  intro L m hf;have key:∀ (L:List α) (m:Nat),(∀ a ∈ L,0 < (f a).length) → m ≤ L.length → m ≤ ((L.take m).flatMap f).length:=by
    intro L
    induction L with
    | nil => intro m _ hm;simp at hm;omega
    | cons a r ih =>
      intro m hf hm;cases m with
      | zero => omega
      | succ m =>
        rw [List.take_succ_cons,List.flatMap_cons,List.length_append];have h1:=hf a (by simp);have h2:=ih m (fun b hb => hf b (by simp [hb])) (by simpa using hm);omega
  rcases Nat.lt_or_ge L.length m with h | h
  · rw [show L.take m = L from List.take_of_length_le (by omega)]
  · have h2:L.flatMap f = (L.take m).flatMap f ++ (L.drop m).flatMap f:=by rw [← List.flatMap_append,List.take_append_drop]
    rw [h2,take_all _ (key L m hf h)]
theorem flat_snoc {α β:Type} {f:α → List β} {L:List α} {k:Nat} {a:α} (h:L[k]? = some a):(L.take (k + 1)).flatMap f = (L.take k).flatMap f ++ f a:=by
  rw [← take_snoc h,List.flatMap_append];simp
theorem blk_take {x:Item} {l:List Item} {i j m most:Nat} (P:List (List Tr)) (hc:x.cls = 0) (hw:0 < ways g hit nt l m j) :
    (P ++ ((D g hit nt x.sym i m).take most).flatMap fun a => (parts hit (D g hit nt) l m j).map (a :: ·)).take most = (P ++ blk g hit nt x l i j m).take most:=by
  rw [blk_sym hc];rw [List.take_append,List.take_append];congr 1;have h:=flat_take (f:=fun a => (parts hit (D g hit nt) l m j).map (a :: ·)) (D g hit nt x.sym i m) most (fun a _ => by rw [List.length_map];exact hw);have h2:∀ {A B:List (List Tr)} {q:Nat},A.take most = B.take most → q ≤ most → A.take q = B.take q:=fun {A B q} e hq => by
    have:=congrArg (List.take q) e;rwa [List.take_take,List.take_take,Nat.min_eq_left hq] at this
  exact h2 h (by omega)
end
end Gr
end
section
/- The reference: units of rules; whether a symbol derives itself, step by step: its walk. -/
namespace Gr
def unitI (r:Rule):Int:=match unit r with | some s => s | none => -1
def offW (w:Go.World) (b:Nat):Nat:=((List.range 64).filter fun t => match w.cell? ⟨b,t,none⟩ with | some (.bool false) => true | _ => false).length
theorem offW_eq {w:Go.World} {b:Nat} {on:Nat → Bool} (h:∀ t,t < 64 → w.cell? ⟨b,t,none⟩ = some (.bool (on t))):offW w b = offc on:=by
  unfold offW offc;congr 1;refine List.filter_congr fun t ht => ?_
  rw [List.mem_range] at ht;rw [h t ht];cases on t <;> rfl
def moreM (v:Go.Value) (n:Nat):Nat:=match v with | .bool true => n + 1 | _ => 0
def Snd (g:List Rule) (s:Nat) (on:Nat → Bool):Prop:=∀ t,t < 64 → on t = true → Path g (s:Int) (t:Int)
def Cls (g:List Rule) (s:Nat) (on:Nat → Bool) (k:Nat):Prop:=∀ r,r < k → ∀ t:Nat,unit (rul g r) = some (t:Int) → ((rul g r).left = (s:Int) ∨ ∃ l:Nat,(rul g r).left = (l:Int) ∧ on l = true) → on t = true
theorem Path.snoc {g:List Rule} {s t u:Int} (h:Path g s t) (e:E g t u):Path g s u:=h.trans (.one e)
theorem Cls.path {g:List Rule} {s:Nat} {on:Nat → Bool} (h:Cls g s on g.length) (hb:∀ a b,E g a b → (0 ≤ a ∧ a < 64) ∧ (0 ≤ b ∧ b < 64)):∀ a b,Path g a b → (a = (s:Int) ∨ ∃ l:Nat,a = (l:Int) ∧ on l = true) → ∃ t:Nat,b = (t:Int) ∧ on t = true:=by
  intro a b hp
  induction hp with
  | @one a b e =>
    intro ha;have h2:=hb _ _ e;obtain ⟨r,hr,hl,hu⟩:=mem_tgts.1 e;obtain ⟨t,rfl⟩:∃ t:Nat,b = (t:Int):=⟨b.toNat,by omega⟩;exact ⟨t,rfl,h r hr t hu (by rw [hl];exact ha)⟩
  | @cons a b c e _ ih =>
    intro ha;have h2:=hb _ _ e;obtain ⟨r,hr,hl,hu⟩:=mem_tgts.1 e;obtain ⟨t,rfl⟩:∃ t:Nat,b = (t:Int):=⟨b.toNat,by omega⟩;exact ih (.inr ⟨t,rfl,h r hr t hu (by rw [hl];exact ha)⟩)
theorem Cls.self {g:List Rule} {s:Nat} {on:Nat → Bool} (h:Cls g s on g.length) (hb:∀ a b,E g a b → (0 ≤ a ∧ a < 64) ∧ (0 ≤ b ∧ b < 64)) (hs:on s = false):¬ Path g (s:Int) (s:Int):=fun hp => by
  obtain ⟨t,ht,hon⟩:=h.path hb _ _ hp (.inl rfl);obtain rfl:s = t:=by omega
  rw [hs] at hon;cases hon
theorem Cls.succ {g:List Rule} {s k:Nat} {on:Nat → Bool} (h:Cls g s on k) (h1:∀ t:Nat,unit (rul g k) = some (t:Int) → ((rul g k).left = (s:Int) ∨ ∃ l:Nat,(rul g k).left = (l:Int) ∧ on l = true) → on t = true):Cls g s on (k + 1):=fun r hr t hu hl => by
  by_cases e:r = k
  · subst e;exact h1 t hu hl
  · exact h r (by omega) t hu hl
theorem Snd.upd {g:List Rule} {s:Nat} {on:Nat → Bool} (h:Snd g s on) {r tn ln:Nat} (hr:r < g.length) (hu:unit (rul g r) = some (tn:Int)) (hl:(rul g r).left = (ln:Int)) (hln:ln < 64) (hc:ln = s ∨ on ln = true):Snd g s (upd on tn true):=fun t ht hon => by
  unfold Gr.upd at hon;by_cases e:t = tn
  · subst e;have he:E g (ln:Int) (t:Int):=mem_tgts.2 ⟨r,hr,hl,hu⟩;rcases hc with rfl | hc
    · exact .one he
    · exact (h ln hln hc).snoc he
  · rw [if_neg e] at hon;exact h t ht hon
end Gr
namespace Go.Proofs.Ytdbfiflmeiidjaa
open Go Go.RowKit
theorem refUnit_any (s:Int) (A:Option Addr) (n cp:Nat) (l:List Gr.Item) (w:World) (hl:l.length = n) (hi:Kt.Items w w.heap.size A l) :
    Calls Try.prog 46 #[.agg #[.int .i64 s,.slice A n cp]] w fun e w' => e = .returned (.int .i64 (Gr.unitI ⟨s,l⟩)) ∧ Below w.heap.size w w':=by
  have HL:=Lib.hid hl;obtain ⟨w1,hw1⟩:∃ w1,(w.alloc (.cells #[.int .i64 s,.slice A n cp] 88)) = w1:=⟨_,rfl⟩;have hb1:Below w.heap.size w w1:=by rw [← hw1];exact (Below.refl _ _).alloc (Nat.le_refl _) _
  have k1:Kt.Blk w1 w.heap.size 88 #[.int .i64 s,.slice A n cp]:=by rw [← hw1];exact Kt.Blk.new w _ _
  have x10:w1.cell? ⟨w.heap.size,0,none⟩ = some (.int .i64 s):=k1.cell 0;have x11:w1.cell? ⟨w.heap.size,1,none⟩ = some (.slice A n cp):=k1.cell 1;go_enter Try.func46,Try.ntmps46;by_cases h1:n = 1
  · have d1:((n:Int) == 1) = true:=by simp [h1]
    obtain ⟨b,o,rfl,hb,hc⟩:=hi (by omega);obtain ⟨x,rfl⟩:∃ x,l = [x]:=List.length_eq_one_iff.1 (by omega);obtain ⟨c0,c1⟩:=hc 0 (by simp);rw [Nat.zero_mul,Nat.add_zero] at c0 c1;replace c0:w1.cell? ⟨b,o,none⟩ = some (.int .u16 x.cls):=(hb1.cell (p:=⟨b,o,none⟩) hb).trans c0;replace c1:w1.cell? ⟨b,o + 1,none⟩ = some (.int .i64 x.sym):=(hb1.cell (p:=⟨b,o + 1,none⟩) hb).trans c1;obtain ⟨xc,xs⟩:=x;replace c0:w1.cell? ⟨b,o,none⟩ = some (.int .u16 xc):=c0;replace c1:w1.cell? ⟨b,o + 1,none⟩ = some (.int .i64 xs):=c1;have HN:Hid (0 < n):=Lib.hid (by omega);have hn0:0 < n:=HN.out;clear hc hl hi k1 h1;by_cases hx:xc = 0
    · have dx:(xc == 0) = true:=by simp [hx]
      have E:Hid (Gr.unitI ⟨s,[⟨xc,xs⟩]⟩ = xs):=Lib.hid (by unfold Gr.unitI;rw [Gr.unit_one s ⟨xc,xs⟩ hx]);clear hx;go_wp2_with fail;go_ret;exact ⟨by rw [E.out];rfl,hb1⟩
    · have dx:(xc == 0) = false:=by simp [hx]
      have E:Hid (Gr.unitI ⟨s,[⟨xc,xs⟩]⟩ = -1):=Lib.hid (by unfold Gr.unitI;rw [Gr.unit_cls s ⟨xc,xs⟩ hx]);clear hx;go_wp2_with fail;go_ret;exact ⟨by rw [E.out];rfl,hb1⟩
  · have d1:((n:Int) == 1) = false:=by simp;omega
    have E:Hid (Gr.unitI ⟨s,l⟩ = -1):=Lib.hid (by unfold Gr.unitI;rw [Gr.unit_long s l (by rw [HL.out];exact h1)]);clear h1 hl hi k1;go_wp2_with fail;go_ret;exact ⟨by rw [E.out];rfl,hb1⟩
theorem refSymbol_any (s:Int) (w:World):Calls Try.prog 55 #[.int .i64 s] w fun e w' => e = .returned (.bool (Gr.symOk s)) ∧ w = w':=by
  by_cases h0:0 ≤ s
  · by_cases h1:s ≤ 63
    · have E:Hid (Gr.symOk s = true):=Lib.hid (decide_eq_true ⟨h0,by omega⟩);go_enter Try.func55,Try.ntmps55;go_wp2;go_ret;exact ⟨Kt.ret_bool E.out.symm,rfl⟩
    · have E:Hid (Gr.symOk s = false):=Lib.hid (decide_eq_false (by omega));go_enter Try.func55,Try.ntmps55;go_wp2;go_ret;exact ⟨Kt.ret_bool E.out.symm,rfl⟩
  · have E:Hid (Gr.symOk s = false):=Lib.hid (decide_eq_false (by omega));go_enter Try.func55,Try.ntmps55;go_wp2;go_ret;exact ⟨Kt.ret_bool E.out.symm,rfl⟩
end Go.Proofs.Ytdbfiflmeiidjaa
end
section
/- The reference: whether a symbol derives itself: the walk. -/
namespace Go.Proofs.Ytdbfiflmeiidjaa
open Go Go.RowKit
theorem off_blk {w:World} {b:Nat} {T:TypeId} {on:Nat → Bool} (h:Kt.Blk w b T (Kt.BArr on)):Gr.offW w b = Gr.offc on:=Gr.offW_eq fun t ht => (h.cell t).trans (Kt.BArr_get on ht)
theorem Try.infoBool:(Try.prog.info? 4).map (fun i => (i.zero,i.size,i.bytes)) = some (some (.bool false),1,1):=by kernel_rfl
theorem make_bools (w:World):(Instr.makeSlice 137 (.int .i64 64) (.int .i64 64)).run Try.prog w = .ok (.slice (some ⟨w.heap.size,0,none⟩) 64 64) (w.alloc (.cells (Kt.BArr fun _ => false) 4)):=by
  obtain ⟨i,hi,hz,hs,hb⟩:=info_parts Try.infoBool;have hr:=run_make (P:=Try.prog) w 137 4 i _ Try.underlying137 hi hz .i64 .i64 64 64 (by omega) (by omega) (by omega) (by omega);rw [hs] at hr;rw [hr];have e:madeCells (Value.bool false).cells 64 = Kt.BArr fun _ => false:=by
    have h1:(Value.bool false).cells = #[Value.bool false]:=rfl;rw [h1];apply Array.toList_inj.1;rw [toList_madeCells_one];rfl
  show Result.ok (Value.slice (some ⟨w.heap.size,0,none⟩) 64 64) (w.alloc (.cells (madeCells (Value.bool false).cells (64 * 1)) 4)) = _;rw [Nat.mul_one,e]
def RefCycPost (g:List Gr.Rule) (w:World) (e:Ending) (w':World):Prop:=Below w.heap.size w w' ∧ ∃ b:Bool,e = .returned (.bool b) ∧ (b = true → Gr.Cyc g) ∧ (b = false → ¬ Gr.Cyc g)
set_option maxRecDepth 100000 in
set_option maxHeartbeats 2000000 in
theorem refCyclic_any (g:List Gr.Rule) (A:Option Addr) (n cp:Nat) (w:World) (hl:g.length = n) (hn:n ≤ 200) (hg:Kt.Rules w w.heap.size A g) (hv:∀ r,r < g.length → Gr.RuleOk (Gr.rul g r)) :
    Calls Try.prog 56 #[.slice A n cp] w (RefCycPost g w):=by
  have HL:=Lib.hid hl;have HG:=Lib.hid hg;have hmk:=make_bools;have HV:=Lib.hid hv;clear hl hg hv;go_enter Try.func56,Try.ntmps56;go_wp2_with fail;go_loopw [3] (fun s wr => ∃ k:Nat,k ≤ 64 ∧ s = .int .i64 k ∧ Hid (∀ t:Nat,t < k → ¬ Gr.Path g (t:Int) (t:Int)) ∧ Below w.heap.size w wr) (fun s _ => 64 - (intOf s).toNat)
  case atStart => exact ⟨0,Nat.zero_le _,rfl,Lib.hid (fun t ht => by omega),Below.refl _ _⟩
  case round =>
    obtain ⟨k,hk,rfl,hnp,hbel⟩:=hrel;by_cases hlt:k < 64
    · have hs:=hbel.size;have dk64:decide ((k:Int) < 64) = true:=by simp;omega
      go_wp2_with fail;obtain ⟨rb,hrb⟩:∃ rb,wr.heap.size = rb:=⟨_,rfl⟩;obtain ⟨wb,hwb⟩:∃ wb,wr.alloc (.cells (Kt.BArr fun _ => false) 4) = wb:=⟨_,rfl⟩;have HB0:Hid (Kt.Blk wb rb 4 (Kt.BArr fun _ => false)):=Lib.hid (by rw [← hwb,← hrb];exact Kt.Blk.new wr _ _);have hbb:Below w.heap.size w wb:=by rw [← hwb];exact hbel.alloc hs _
      have hrw:w.heap.size ≤ rb:=by rw [← hrb];exact hs
      rw [hwb,hrb];clear hwb hrb hbel hs;go_loopw [5] (fun v wx => ∃ (b:Bool) (on:Nat → Bool),v = .bool b ∧ Hid (Kt.Blk wx rb 4 (Kt.BArr on)) ∧ Hid (Gr.Snd g k on) ∧ Hid (b = false → Gr.Cls g k on g.length) ∧ Below w.heap.size w wx) (fun v wx => Gr.moreM v (Gr.offW wx rb))
      case atStart => exact ⟨true,fun _ => false,rfl,HB0,Lib.hid (fun t _ h => by cases h),Lib.hid (fun h => by cases h),hbb⟩
      case round =>
        obtain ⟨b,on,rfl,hB,hS,hC,hbel⟩:=hrel;rename World => wo
        have hso:=hbel.size;cases b with
        | false =>
          have ck:=(hB.out.cell k).trans (Kt.BArr_get on hlt);obtain ⟨ok,hok⟩:∃ b,on k = b:=⟨_,rfl⟩;rw [hok] at ck;cases ok with
          | true =>
            have HC:Hid (Gr.Cyc g):=Lib.hid ⟨(k:Int),hS.out k hlt hok⟩;clear hok hB hS hC;go_wp2_with fail;go_ret;exact ⟨hbel,true,rfl,fun _ => HC.out,(fun h => by cases h)⟩
          | false =>
            have HNP:Hid (∀ t:Nat,t < k + 1 → ¬ Gr.Path g (t:Int) (t:Int)):=Lib.hid (fun t ht => by
              by_cases e:t = k
              · subst e;exact (hC.out rfl).self (fun a b e => edge_parts HV.out e) hok
              · exact hnp.out t (by omega))
            clear hok hB hS hC;go_wp2_with fail;go_roundw
            case rel => exact ⟨k + 1,by omega,by go_num,HNP,hbel⟩
            case measure => simp [intOf];omega
        | true =>
          have HM:Hid (Gr.moreM (.bool true) (Gr.offW wo rb) = Gr.offc on + 1):=Lib.hid (by rw [off_blk hB.out];rfl);go_wp2_with fail;go_loopw [5,6] (fun v s wy => ∃ (b:Bool) (on2:Nat → Bool) (i:Nat),i ≤ n ∧ v = .bool b ∧ s = .int .i64 i ∧ Hid (Kt.Blk wy rb 4 (Kt.BArr on2)) ∧ Hid (Gr.Snd g k on2) ∧ Hid (b = false → on2 = on ∧ Gr.Cls g k on i) ∧ Hid (b = true → Gr.offc on2 < Gr.offc on) ∧ Below w.heap.size w wy) (fun _ s _ => n - (intOf s).toNat)
          case atStart => exact ⟨false,on,0,Nat.zero_le _,rfl,rfl,hB,hS,Lib.hid (fun _ => ⟨rfl,fun r hr => by omega⟩),Lib.hid (fun h => by cases h),hbel⟩
          case round =>
            obtain ⟨b,on2,i,hi,rfl,rfl,hB2,hS2,hC2,hO2,hbl2⟩:=hrel;have hs2:=hbl2.size;by_cases hin:i < n
            · have hig:i < g.length:=by rw [HL.out];exact hin
              obtain ⟨bA,oA,rfl,hbA,hcA⟩:=(HG.out.on hbl2) (by rw [HL.out];omega);obtain ⟨cl,A',c',cr,hlr,hit⟩:=hcA i hig;obtain ⟨⟨hl0,hl64⟩,_,hl8,hsy⟩:=(HV.out i hig).parts;obtain ⟨ru,hru⟩:∃ ru,Hid (Gr.rul g i = ru):=⟨_,Lib.hid rfl⟩;obtain ⟨lf,l⟩:=ru;rw [hru.out] at cl cr hlr hit hl0 hl64 hsy;obtain ⟨m,hm⟩:∃ m,Hid (l.length = m):=⟨_,Lib.hid rfl⟩;replace cl:wr.cell? ⟨bA,oA + i * 2,none⟩ = some (.int .i64 lf):=cl;replace cr:wr.cell? ⟨bA,oA + i * 2 + 1,none⟩ = some (.slice A' l.length c'):=cr;replace hit:Kt.Items wr wr.heap.size A' l:=hit;replace hsy:∀ x ∈ l,(0 ≤ x.sym ∧ x.sym < 64) ∧ (x.cls = 0 ∨ x.sym = 0):=hsy;rw [hm.out] at cr;obtain ⟨ln,rfl⟩:∃ ln:Nat,lf = (ln:Int):=⟨lf.toNat,by
                have h1:0 ≤ lf:=hl0;omega⟩
              have hln:ln < 64:=by
                have h1:(ln:Int) < 64:=hl64;omega
              have HUN:=Lib.hid (refUnit_any (ln:Int) A' m c' l wr hm.out hit);have HSY:=Lib.hid hsy;have HOFF:Hid (Gr.offc on2 ≤ Gr.offc on):=Lib.hid (by
                cases b with
                | false => rw [(hC2.out rfl).1];exact Nat.le_refl _
                | true => exact Nat.le_of_lt (hO2.out rfl))
              clear hcA hlr hit hl0 hl64 hsy hl8;go_wp2_with fail;refine HUN.out.mono ?_;rintro e w3 ⟨rfl,hb3⟩;have hbl3:Below w.heap.size w w3:=hbl2.trans (hb3.mono hs2);have HB3:=Lib.hid (hB2.out.on hb3);have cl3:w3.cell? ⟨bA,oA + i * 2,none⟩ = some (.int .i64 (ln:Int)):=(hb3.cell (p:=⟨bA,oA + i * 2,none⟩) hbA).trans cl;have cr3:w3.cell? ⟨bA,oA + i * 2 + 1,none⟩ = some (.slice A' m c'):=(hb3.cell (p:=⟨bA,oA + i * 2 + 1,none⟩) hbA).trans cr;clear HUN hB2 cl cr;rcases hu:Gr.unit ⟨(ln:Int),l⟩ with _ | t
              · have hui:Gr.unitI ⟨(ln:Int),l⟩ = -1:=by unfold Gr.unitI;rw [hu]
                rw [hui];have HC3:Hid (b = false → on2 = on ∧ Gr.Cls g k on (i + 1)):=Lib.hid (fun h => by
                  obtain ⟨e,h2⟩:=hC2.out h;exact ⟨e,h2.succ fun t ht => by rw [hru.out,hu] at ht;cases ht⟩)
                clear hui hu hC2;go_wp2_with fail;go_roundw
                case rel => exact ⟨b,on2,i + 1,by omega,rfl,by go_num,HB3,hS2,HC3,hO2,hbl3⟩
                case measure => simp [intOf];omega
              · obtain ⟨x,hx1,hx2,hx3⟩:=Gr.unit_some hu;have hx4:=HSY.out x (by
                  have h1:l = [x]:=hx1;rw [h1];simp)
                obtain ⟨tn,rfl⟩:∃ tn:Nat,t = (tn:Int):=⟨t.toNat,by omega⟩;have htn:tn < 64:=by omega
                have hui:Gr.unitI ⟨(ln:Int),l⟩ = (tn:Int):=by unfold Gr.unitI;rw [hu]
                rw [hui];have HU:Hid (Gr.unit (Gr.rul g i) = some (tn:Int)):=Lib.hid (by rw [hru.out];exact hu);have HLF:Hid ((Gr.rul g i).left = (ln:Int)):=Lib.hid (by rw [hru.out]);have ct:=(HB3.out.cell tn).trans (Kt.BArr_get on2 htn);have cln:=(HB3.out.cell ln).trans (Kt.BArr_get on2 hln);have ft:=HB3.out.frozen tn;clear hui hu hx1 hx2 hx3 hx4 HSY hru;obtain ⟨ot,hot⟩:∃ b,Hid (on2 tn = b):=⟨_,Lib.hid rfl⟩;obtain ⟨ol,hol⟩:∃ b,Hid (on2 ln = b):=⟨_,Lib.hid rfl⟩;rw [hot.out] at ct;rw [hol.out] at cln;cases ot with
                | true =>
                  have HC3:Hid (b = false → on2 = on ∧ Gr.Cls g k on (i + 1)):=Lib.hid (fun h => by
                    obtain ⟨e,h2⟩:=hC2.out h;refine ⟨e,h2.succ fun t ht _ => ?_⟩;rw [HU.out] at ht;injection ht with ht;obtain rfl:tn = t:=by omega
                    rw [← e];exact hot.out)
                  clear hC2;go_wp2_with fail;go_roundw
                  case rel => exact ⟨b,on2,i + 1,by omega,rfl,by go_num,HB3,hS2,HC3,hO2,hbl3⟩
                  case measure => simp [intOf];omega
                | false =>
                  have HB4:Hid (Kt.Blk (w3.setCell ⟨rb,tn,none⟩ (.bool true)) rb 4 (Kt.BArr (Gr.upd on2 tn true))):=Lib.hid (by
                    rw [← Kt.BArr_set on2 tn true htn];exact HB3.out.set_ tn _)
                  have hbl4:Below w.heap.size w (w3.setCell ⟨rb,tn,none⟩ (.bool true)):=hbl3.setCell (p:=⟨rb,tn,none⟩) hrw _;have HO4:Hid (true = true → Gr.offc (Gr.upd on2 tn true) < Gr.offc on):=Lib.hid (fun _ => Nat.lt_of_lt_of_le (Gr.offc_upd hot.out htn) HOFF.out);have HC4:Hid (true = false → Gr.upd on2 tn true = on ∧ Gr.Cls g k on (i + 1)):=Lib.hid (fun h => by cases h);by_cases hkl:ln = k
                  · have dk:((ln:Int) == (k:Int)) = true:=by simp [hkl]
                    have HS4:Hid (Gr.Snd g k (Gr.upd on2 tn true)):=Lib.hid (hS2.out.upd hig HU.out HLF.out hln (.inl hkl));clear hkl hC2 hO2 hS2 HB3;go_wp2_with fail;go_roundw
                    case rel => exact ⟨true,Gr.upd on2 tn true,i + 1,by omega,rfl,by go_num,HB4,HS4,HC4,Lib.hid (fun _ => HO4.out (by trivial)),hbl4⟩
                    case measure => simp [intOf];omega
                  · have dk:((ln:Int) == (k:Int)) = false:=by simp;omega
                    cases ol with
                    | true =>
                      have HS4:Hid (Gr.Snd g k (Gr.upd on2 tn true)):=Lib.hid (hS2.out.upd hig HU.out HLF.out hln (.inr hol.out));clear hkl hC2 hO2 hS2 HB3;go_wp2_with fail;go_roundw
                      case rel => exact ⟨true,Gr.upd on2 tn true,i + 1,by omega,rfl,by go_num,HB4,HS4,HC4,Lib.hid (fun _ => HO4.out (by trivial)),hbl4⟩
                      case measure => simp [intOf];omega
                    | false =>
                      have HC3:Hid (b = false → on2 = on ∧ Gr.Cls g k on (i + 1)):=Lib.hid (fun h => by
                        obtain ⟨e,h2⟩:=hC2.out h;refine ⟨e,h2.succ fun t ht hc => ?_⟩;exfalso;rw [HLF.out] at hc;rcases hc with hc | ⟨l2,hc,hc2⟩
                        · exact hkl (by omega)
                        · obtain rfl:ln = l2:=by omega
                          rw [← e,hol.out] at hc2;cases hc2)
                      clear hkl hC2 HB4 hbl4 HO4 HC4;go_wp2_with fail;go_roundw
                      case rel => exact ⟨b,on2,i + 1,by omega,rfl,by go_num,HB3,hS2,HC3,hO2,hbl3⟩
                      case measure => simp [intOf];omega
            · obtain rfl:i = n:=by omega
              have HMM:Hid (Gr.moreM (.bool b) (Gr.offW wr rb) < Gr.offc on + 1):=Lib.hid (by
                rw [off_blk hB2.out];cases b with
                | false => exact Nat.succ_pos _
                | true => exact Nat.succ_lt_succ (hO2.out rfl))
              have HCC:Hid (b = false → Gr.Cls g k on2 g.length):=Lib.hid (fun h => by
                obtain ⟨e,h2⟩:=hC2.out h;rw [e,HL.out];exact h2)
              clear hO2 hC2;go_wp2_with fail;go_roundw
              case rel => exact ⟨b,on2,rfl,hB2,hS2,HCC,hbl2⟩
              case measure => rw [HM.out];exact HMM.out
    · obtain rfl:k = 64:=by omega
      have HF:Hid (¬ Gr.Cyc g):=Lib.hid (by
        rintro ⟨s,hp⟩;have hs:0 ≤ s ∧ s < 64:=by
          cases hp with
          | one e => exact (edge_parts HV.out e).1
          | cons e _ => exact (edge_parts HV.out e).1
        obtain ⟨t,rfl⟩:∃ t:Nat,s = (t:Int):=⟨s.toNat,by omega⟩;exact hnp.out t (by omega) hp)
      clear hnp;go_wp2;go_ret;exact ⟨hbel,false,rfl,(fun h => by cases h),fun _ => HF.out⟩
end Go.Proofs.Ytdbfiflmeiidjaa
end
