/- Joined: GrL, GrP. -/
import Derived.Test.YtdbfiflmeiidjaaSa14
import Derived.Deep.Upon
import Derived.ArgAppend
section
/- A tree put ahead of others: an append that makes memory of its own. -/
namespace Go.Proofs.Ytdbfiflmeiidjaa
open Go Go.RowKit
theorem Try.infoTree:(Try.prog.info? 57).map (fun i => (i.zero,i.size,i.bytes)) = some (some (.agg #[.int .i64 0,.int .i64 0,.int .i64 0,.slice none 0 0]),4,48):=by kernel_rfl
theorem lv_one {w:World} {M:Nat → Prop} {t:Gr.Tr} {x0 x1 x2 x3:Value} {gb:Nat} (hb:Kt.Blk w gb 57 #[x0,x1,x2,x3]) (hgb:¬ M gb) (ht:Kt.TV w M t (.agg #[x0,x1,x2,x3])):Kt.LV w M [t] (.slice (some ⟨gb,0,none⟩) 1 1):=by
  refine ⟨_,1,gb,0,fun _ => .agg #[x0,x1,x2,x3],rfl,fun _ => ⟨rfl,hgb,hb.lt⟩,Nat.le_refl _,by simp,fun k hk q hq => ?_,fun k hk => ?_⟩
  · have hk0:k = 0:=by simpa using hk
    subst hk0;rw [show 0 + 0 * 4 + q = q from by omega];exact hb.cell q
  · have hk0:k = 0:=by simpa using hk
    subst hk0;exact ht
theorem lv_cells {w:World} {b off n:Nat} {vs:Nat → Value} (hc:∀ k,k < n → ∀ q,q < 4 → w.cell? ⟨b,off + k * 4 + q,none⟩ = (vs k).cells[q]?) (h4:∀ k,k < n → ∃ x0 x1 x2 x3,vs k = .agg #[x0,x1,x2,x3]) :
    ∃ news:List Value,news.length = n * 4 ∧ (∀ j u,news[j]? = some u → w.cell? ((⟨b,off,none⟩:Addr).add j) = some u) ∧ (∀ k,k < n → ∀ q,q < 4 → news[k * 4 + q]? = (vs k).cells[q]?) ∧ ∀ u ∈ news,∃ k q,k < n ∧ q < 4 ∧ (vs k).cells[q]? = some u:=by
  have key:∀ k,k < n → ∀ q,q < 4 → ∃ u,(vs k).cells[q]? = some u ∧ w.cell? ⟨b,off + (k * 4 + q),none⟩ = some u:=fun k hk q hq => by
    obtain ⟨x0,x1,x2,x3,e⟩:=h4 k hk;have h1:=hc k hk q hq;rw [show off + (k * 4 + q) = off + k * 4 + q from by omega,h1,e]
    match q,hq with
    | 0,_ => exact ⟨x0,rfl,rfl⟩
    | 1,_ => exact ⟨x1,rfl,rfl⟩
    | 2,_ => exact ⟨x2,rfl,rfl⟩
    | 3,_ => exact ⟨x3,rfl,rfl⟩
  have hget:∀ k,k < n → ∀ q,q < 4 → ((List.range (n * 4)).map fun j => (w.cell? ⟨b,off + j,none⟩).getD undef)[k * 4 + q]? = (vs k).cells[q]?:=fun k hk q hq => by
    obtain ⟨u,h1,h2⟩:=key k hk q hq;rw [List.getElem?_map,List.getElem?_range (by omega),h1];simp [h2]
  refine ⟨(List.range (n * 4)).map fun j => (w.cell? ⟨b,off + j,none⟩).getD undef,by simp,fun j u hj => ?_,hget,fun u hu => ?_⟩
  · have hlt:j < n * 4:=by
      have:=(List.getElem?_eq_some_iff.1 hj).1;simpa using this
    have h1:=hget (j / 4) (by omega) (j % 4) (by omega);rw [show j / 4 * 4 + j % 4 = j from by omega,hj] at h1;obtain ⟨u',h2,h3⟩:=key (j / 4) (by omega) (j % 4) (by omega);rw [show off + (j / 4 * 4 + j % 4) = off + j from by omega] at h3;rw [h2] at h1;injection h1 with h1;subst h1;simpa [Addr.add_lit] using h3
  · obtain ⟨j,hj⟩:=List.mem_iff_getElem?.1 hu;have hlt:j < n * 4:=by
      have:=(List.getElem?_eq_some_iff.1 hj).1;simpa using this
    have h1:=hget (j / 4) (by omega) (j % 4) (by omega);rw [show j / 4 * 4 + j % 4 = j from by omega,hj] at h1;exact ⟨j / 4,j % 4,by omega,by omega,h1.symm⟩
theorem below_none2 {w w':World} (h:w.grownBy w' none):Below w.heap.size w w':=⟨h.os,h.tape,h.output,h.size,fun i hi => h.block i hi (by simp)⟩
theorem append_tree {w:World} {M:Nat → Prop} {t:Gr.Tr} {y:List Gr.Tr} {vb x0 x1 x2 x3:Value} {gb:Nat} (ty:TypeId) (hb:Kt.Blk w gb 57 #[x0,x1,x2,x3]) (hgb:¬ M gb) (ht:Kt.TV w M t (.agg #[x0,x1,x2,x3])) (hy:Kt.LV w M y vb) (hlen:y.length ≤ 100) (hM:∀ k,M k → k < w.heap.size) :
    ∃ va w',(Builtin.append_ #[49,49] ty #[.slice (some ⟨gb,0,none⟩) 1 1,vb]).run Try.prog w = .ok va w' ∧ Kt.LV w' M (t :: y) va ∧ Below w.heap.size w w':=by
  obtain ⟨i0,hi0,hz0,hz1,hz2⟩:=info_parts Try.infoTree;obtain ⟨A,c,b,off,vs,rfl,hA,hle,h63,hc,hts⟩:=hy;by_cases hn:0 < y.length
  · obtain ⟨rfl,hbM,hbl⟩:=hA hn;obtain ⟨news,hl,hnews,hget,_⟩:=lv_cells hc (fun k hk => (hts k hk).cells4);obtain ⟨v',w',hrun,hown,hgrow⟩:=run_append_arg_grows (P:=Try.prog) (w:=w) 49 ty 57 i0 (.agg #[.int .i64 0,.int .i64 0,.int .i64 0,.slice none 0 0]) 4 48 Try.underlying49 hi0 hz0 hz1 hz2 rfl (by decide) ⟨gb,0,none⟩ 1 1 [x0,x1,x2,x3] rfl
      (World.news_of_block hb) ⟨b,off,none⟩ y.length c news hl hnews (by omega) (by unfold maxLen;omega) (by omega)
    refine ⟨v',w',hrun,?_,below_none2 hgrow⟩;obtain ⟨g,cap,rfl,hg1,hg2⟩:=World.ownsRow.form hown (by omega);have hkeep:∀ k,k < w.heap.size → ¬ M k → w'.heap[k]? = w.heap[k]?:=fun k hk _ => hgrow.block k hk (by simp)
    obtain ⟨_,hsh⟩:=hown;have hcap:1 + y.length ≤ cap:=by
      rcases hsh with ⟨h1,_⟩ | ⟨g',cap',cur,h1,_,_,h2,_⟩
      · cases h1
      · injection h1 with _ _ h1;omega
    refine ⟨some ⟨g,0,none⟩,cap,g,0,fun k => if k = 0 then .agg #[x0,x1,x2,x3] else vs (k - 1),by rw [List.length_cons,Nat.add_comm],fun _ => ⟨rfl,fun e => by have:=hM g e;omega,hg2⟩,by rw [List.length_cons];omega,by rw [List.length_cons];omega,fun k hk q hq => ?_,fun k hk => ?_⟩
    · have hget2:([x0,x1,x2,x3] ++ news)[k * 4 + q]? = ((fun k => if k = 0 then Value.agg #[x0,x1,x2,x3] else vs (k - 1)) k).cells[q]?:=by
        by_cases h0:k = 0
        · subst h0;rw [List.getElem?_append_left (by simp;omega)]
          match q,hq with
          | 0,_ => rfl
          | 1,_ => rfl
          | 2,_ => rfl
          | 3,_ => rfl
        · rw [List.length_cons] at hk;rw [List.getElem?_append_right (by simp;omega)];have:=hget (k - 1) (by omega) q hq;simp only [h0,if_false];rw [← this,show k * 4 + q - [x0,x1,x2,x3].length = (k - 1) * 4 + q from by simp;omega]
      obtain ⟨u,hu⟩:∃ u,([x0,x1,x2,x3] ++ news)[k * 4 + q]? = some u:=by
        rw [List.length_cons] at hk;exact ⟨_,List.getElem?_eq_getElem (by rw [List.length_append,hl];simp;omega)⟩
      rw [← hget2,hu];have:=World.ownsRow.cells (w:=w') (v:=.slice (some ⟨g,0,none⟩) (1 + y.length) cap) ⟨by assumption,hsh⟩ (g:=g) rfl (k * 4 + q) u hu;simpa [Addr.add_lit,Nat.add_assoc] using this
    · by_cases h0:k = 0
      · subst h0;exact ht.keep hkeep
      · rw [List.length_cons] at hk;obtain ⟨k',rfl⟩:∃ k',k = k' + 1:=⟨k - 1,by omega⟩;have:=(hts k' (by omega)).keep hkeep;simp only [h0,if_false,Nat.add_sub_cancel];exact this
  · obtain rfl:y = []:=List.eq_nil_of_length_eq_zero (by omega);refine ⟨_,w,run_append_nothing (P:=Try.prog) w 49 49 ty 57 i0 Try.underlying49 hi0 _ 1 1 (Nat.le_refl _) _ ?_,lv_one hb hgb ht,Below.refl _ _⟩;cases A with
    | none => exact Src.ofNil w Try.underlying49 c
    | some a => exact Src.ofSlice w Try.underlying49 a 0 c [] (by simp) (fun j u h => by simp at h) (fun u h => by cases h)
structure YR where
  a0:Act
  W:World
  M:Nat → Prop
  t:Gr.Tr
  y:List Gr.Tr
  yv:Value
  tv:Value
  cs:Array Value
  vb:Value
  Post:Bool → World → Prop
def yrS:List Nat:=[61,62,63,64,65,66,67]
structure YI (p:YR) (listed:Array Bool) (act:Act) (w:World):Prop where
  size:listed.size = 7
  frame:Kt.Fr yrS p.a0 act
  p0:listed.getD 0 false = true → Kt.val act 61 = p.yv
  p1:listed.getD 1 false = true → Kt.val act 62 = p.tv
  p3:listed.getD 3 false = true → Kt.val act 64 = p.vb
  w0:listed.getD 2 false = false → w = p.W.drew
  w2:listed.getD 2 false = true → listed.getD 4 false = false → w = p.W.drew.alloc (.cells p.cs 57) ∧ Kt.val act 63 = .slice (some ⟨p.W.heap.size,0,none⟩) 1 1
  w4:listed.getD 4 false = true → listed.getD 5 false = false → Below p.W.heap.size p.W w ∧ Kt.LV w p.M (p.t :: p.y) (Kt.val act 65)
  w5:listed.getD 5 false = true → ∃ b,Kt.val act 66 = .bool b ∧ p.Post b w ∧ (listed.getD 6 false = true → Kt.val act 67 = .bool (!b))
  c2:listed.getD 2 false = true → listed.getD 1 false = true
  c4:listed.getD 4 false = true → listed.getD 2 false = true ∧ listed.getD 3 false = true
  c5:listed.getD 5 false = true → listed.getD 4 false = true ∧ listed.getD 0 false = true
  c6:listed.getD 6 false = true → listed.getD 5 false = true
variable {p:YR} {listed:Array Bool} {act:Act} {w w':World}
theorem YI.start:YI p (Array.replicate 7 false) p.a0 p.W.drew:=by
  refine ⟨by simp,Kt.Fr.refl _ _,?_,?_,?_,fun _ => rfl,?_,?_,?_,?_,?_,?_,?_⟩
  all_goals (intro h;simp at h)
theorem yset {l:Array Bool} {i j:Nat} {b:Bool} (h:(l.setIfInBounds i true).getD j false = b) (hne:i ≠ j):l.getD j false = b:=by rw [Kt.getD_setL hne] at h;exact h
theorem yset' {l:Array Bool} {i j:Nat} (h:l.getD j false = true):(l.setIfInBounds i true).getD j false = true:=by
  by_cases e:i = j
  · subst e;by_cases hs:i < l.size
    · exact Kt.getD_same hs
    · exact absurd h (by simp [hs])
  · rw [Kt.getD_setL e];exact h
theorem yput {act:Act} {i s:Nat} {v u:Value} (h:Kt.val act s = u) (hne:i ≠ s):Kt.val (act.put (some i) v) s = u:=by rw [Kt.val_put_ne hne];exact h
-- STEPS BEGIN
theorem YI.s0 (h:YI p listed act w) (hroom:68 ≤ p.a0.tmps.size) (hn:listed.getD 0 true = false):YI p (listed.setIfInBounds 0 true) (act.put (some 61) p.yv) w:=by
  have hvp:∀ v,Kt.val (act.put (some 61) v) 61 = v:=fun v => Kt.val_put (by rw [h.frame.2.1];omega) v
  have hno:listed.getD 0 false = false:=Kt.getD_no hn;have hself:(listed.setIfInBounds 0 true).getD 0 false = true:=Kt.getD_same (by rw [h.size];decide);refine ⟨?_,?_,?_,?_,?_,?_,?_,?_,?_,?_,?_,?_,?_⟩
  · exact by simp [h.size]
  · exact h.frame.put (by decide) _
  · exact fun _ => hvp _
  · exact fun q => yput (h.p1 (yset q (by decide))) (by decide)
  · exact fun q => yput (h.p3 (yset q (by decide))) (by decide)
  · exact fun q => h.w0 (yset q (by decide))
  · exact fun q r => ⟨(h.w2 (yset q (by decide)) (yset r (by decide))).1,yput (h.w2 (yset q (by decide)) (yset r (by decide))).2 (by decide)⟩
  · exact fun q r => ⟨(h.w4 (yset q (by decide)) (yset r (by decide))).1,by rw [Kt.val_put_ne (by decide)];exact (h.w4 (yset q (by decide)) (yset r (by decide))).2⟩
  · exact fun q => by
      obtain ⟨b1,g1,g2,g3⟩:=h.w5 (yset q (by decide));exact ⟨b1,yput g1 (by decide),g2,fun r => yput (g3 (yset r (by decide))) (by decide)⟩
  · exact fun q => yset' (h.c2 (yset q (by decide)))
  · exact fun q => ⟨yset' (h.c4 (yset q (by decide))).1,yset' (h.c4 (yset q (by decide))).2⟩
  · exact fun q => ⟨yset' (h.c5 (yset q (by decide))).1,yset' (h.c5 (yset q (by decide))).2⟩
  · exact fun q => yset' (h.c6 (yset q (by decide)))
theorem YI.s1 (h:YI p listed act w) (hroom:68 ≤ p.a0.tmps.size) (hn:listed.getD 1 true = false):YI p (listed.setIfInBounds 1 true) (act.put (some 62) p.tv) w:=by
  have hvp:∀ v,Kt.val (act.put (some 62) v) 62 = v:=fun v => Kt.val_put (by rw [h.frame.2.1];omega) v
  have hno:listed.getD 1 false = false:=Kt.getD_no hn;have hself:(listed.setIfInBounds 1 true).getD 1 false = true:=Kt.getD_same (by rw [h.size];decide);refine ⟨?_,?_,?_,?_,?_,?_,?_,?_,?_,?_,?_,?_,?_⟩
  · exact by simp [h.size]
  · exact h.frame.put (by decide) _
  · exact fun q => yput (h.p0 (yset q (by decide))) (by decide)
  · exact fun _ => hvp _
  · exact fun q => yput (h.p3 (yset q (by decide))) (by decide)
  · exact fun q => h.w0 (yset q (by decide))
  · exact fun q r => ⟨(h.w2 (yset q (by decide)) (yset r (by decide))).1,yput (h.w2 (yset q (by decide)) (yset r (by decide))).2 (by decide)⟩
  · exact fun q r => ⟨(h.w4 (yset q (by decide)) (yset r (by decide))).1,by rw [Kt.val_put_ne (by decide)];exact (h.w4 (yset q (by decide)) (yset r (by decide))).2⟩
  · exact fun q => by
      obtain ⟨b1,g1,g2,g3⟩:=h.w5 (yset q (by decide));exact ⟨b1,yput g1 (by decide),g2,fun r => yput (g3 (yset r (by decide))) (by decide)⟩
  · exact fun q => yset' (h.c2 (yset q (by decide)))
  · exact fun q => ⟨yset' (h.c4 (yset q (by decide))).1,yset' (h.c4 (yset q (by decide))).2⟩
  · exact fun q => ⟨yset' (h.c5 (yset q (by decide))).1,yset' (h.c5 (yset q (by decide))).2⟩
  · exact fun q => yset' (h.c6 (yset q (by decide)))
theorem YI.s2 (h:YI p listed act w) (hroom:68 ≤ p.a0.tmps.size) (hn:listed.getD 2 true = false) (h1:listed.getD 1 false = true):YI p (listed.setIfInBounds 2 true) (act.put (some 63) (.slice (some ⟨p.W.heap.size,0,none⟩) 1 1)) (p.W.drew.alloc (.cells p.cs 57)):=by
  have hvp:∀ v,Kt.val (act.put (some 63) v) 63 = v:=fun v => Kt.val_put (by rw [h.frame.2.1];omega) v
  have hno:listed.getD 2 false = false:=Kt.getD_no hn;have hself:(listed.setIfInBounds 2 true).getD 2 false = true:=Kt.getD_same (by rw [h.size];decide);refine ⟨?_,?_,?_,?_,?_,?_,?_,?_,?_,?_,?_,?_,?_⟩
  · exact by simp [h.size]
  · exact h.frame.put (by decide) _
  · exact fun q => yput (h.p0 (yset q (by decide))) (by decide)
  · exact fun q => yput (h.p1 (yset q (by decide))) (by decide)
  · exact fun q => yput (h.p3 (yset q (by decide))) (by decide)
  · exact fun q => by rw [hself] at q;cases q
  · exact fun _ _ => ⟨rfl,hvp _⟩
  · exact fun q _ => by have:=(h.c4 (yset q (by decide))).1;rw [hno] at this;cases this
  · exact fun q => by have:=(h.c4 (h.c5 (yset q (by decide))).1).1;rw [hno] at this;cases this
  · exact fun _ => yset' h1
  · exact fun q => ⟨yset' (h.c4 (yset q (by decide))).1,yset' (h.c4 (yset q (by decide))).2⟩
  · exact fun q => ⟨yset' (h.c5 (yset q (by decide))).1,yset' (h.c5 (yset q (by decide))).2⟩
  · exact fun q => yset' (h.c6 (yset q (by decide)))
theorem YI.s3 (h:YI p listed act w) (hroom:68 ≤ p.a0.tmps.size) (hn:listed.getD 3 true = false):YI p (listed.setIfInBounds 3 true) (act.put (some 64) p.vb) w:=by
  have hvp:∀ v,Kt.val (act.put (some 64) v) 64 = v:=fun v => Kt.val_put (by rw [h.frame.2.1];omega) v
  have hno:listed.getD 3 false = false:=Kt.getD_no hn;have hself:(listed.setIfInBounds 3 true).getD 3 false = true:=Kt.getD_same (by rw [h.size];decide);refine ⟨?_,?_,?_,?_,?_,?_,?_,?_,?_,?_,?_,?_,?_⟩
  · exact by simp [h.size]
  · exact h.frame.put (by decide) _
  · exact fun q => yput (h.p0 (yset q (by decide))) (by decide)
  · exact fun q => yput (h.p1 (yset q (by decide))) (by decide)
  · exact fun _ => hvp _
  · exact fun q => h.w0 (yset q (by decide))
  · exact fun q r => ⟨(h.w2 (yset q (by decide)) (yset r (by decide))).1,yput (h.w2 (yset q (by decide)) (yset r (by decide))).2 (by decide)⟩
  · exact fun q r => ⟨(h.w4 (yset q (by decide)) (yset r (by decide))).1,by rw [Kt.val_put_ne (by decide)];exact (h.w4 (yset q (by decide)) (yset r (by decide))).2⟩
  · exact fun q => by
      obtain ⟨b1,g1,g2,g3⟩:=h.w5 (yset q (by decide));exact ⟨b1,yput g1 (by decide),g2,fun r => yput (g3 (yset r (by decide))) (by decide)⟩
  · exact fun q => yset' (h.c2 (yset q (by decide)))
  · exact fun q => ⟨yset' (h.c4 (yset q (by decide))).1,yset' (h.c4 (yset q (by decide))).2⟩
  · exact fun q => ⟨yset' (h.c5 (yset q (by decide))).1,yset' (h.c5 (yset q (by decide))).2⟩
  · exact fun q => yset' (h.c6 (yset q (by decide)))
theorem YI.s4 (h:YI p listed act w) (hroom:68 ≤ p.a0.tmps.size) (hn:listed.getD 4 true = false) (h2:listed.getD 2 false = true) (h3:listed.getD 3 false = true) {va:Value} (hb:Below p.W.heap.size p.W w') (hv:Kt.LV w' p.M (p.t :: p.y) va):YI p (listed.setIfInBounds 4 true) (act.put (some 65) va) w':=by
  have hvp:∀ v,Kt.val (act.put (some 65) v) 65 = v:=fun v => Kt.val_put (by rw [h.frame.2.1];omega) v
  have hno:listed.getD 4 false = false:=Kt.getD_no hn;have hself:(listed.setIfInBounds 4 true).getD 4 false = true:=Kt.getD_same (by rw [h.size];decide);refine ⟨?_,?_,?_,?_,?_,?_,?_,?_,?_,?_,?_,?_,?_⟩
  · exact by simp [h.size]
  · exact h.frame.put (by decide) _
  · exact fun q => yput (h.p0 (yset q (by decide))) (by decide)
  · exact fun q => yput (h.p1 (yset q (by decide))) (by decide)
  · exact fun q => yput (h.p3 (yset q (by decide))) (by decide)
  · exact fun q => by rw [yset q (by decide)] at h2;cases h2
  · exact fun _ q => by rw [hself] at q;cases q
  · exact fun _ _ => ⟨hb,by rw [hvp];exact hv⟩
  · exact fun q => by have:=(h.c5 (yset q (by decide))).1;rw [hno] at this;cases this
  · exact fun q => yset' (h.c2 (yset q (by decide)))
  · exact fun _ => ⟨yset' h2,yset' h3⟩
  · exact fun q => ⟨yset' (h.c5 (yset q (by decide))).1,yset' (h.c5 (yset q (by decide))).2⟩
  · exact fun q => yset' (h.c6 (yset q (by decide)))
theorem YI.s5 (h:YI p listed act w) (hroom:68 ≤ p.a0.tmps.size) (hn:listed.getD 5 true = false) (h4:listed.getD 4 false = true) (h0:listed.getD 0 false = true) {b:Bool} (hp:p.Post b w'):YI p (listed.setIfInBounds 5 true) (act.put (some 66) (.bool b)) w':=by
  have hvp:∀ v,Kt.val (act.put (some 66) v) 66 = v:=fun v => Kt.val_put (by rw [h.frame.2.1];omega) v
  have hno:listed.getD 5 false = false:=Kt.getD_no hn;have hself:(listed.setIfInBounds 5 true).getD 5 false = true:=Kt.getD_same (by rw [h.size];decide);refine ⟨?_,?_,?_,?_,?_,?_,?_,?_,?_,?_,?_,?_,?_⟩
  · exact by simp [h.size]
  · exact h.frame.put (by decide) _
  · exact fun q => yput (h.p0 (yset q (by decide))) (by decide)
  · exact fun q => yput (h.p1 (yset q (by decide))) (by decide)
  · exact fun q => yput (h.p3 (yset q (by decide))) (by decide)
  · exact fun q => by have h9:=(h.c4 h4).1;rw [yset q (by decide)] at h9;cases h9
  · exact fun _ q => by rw [yset q (by decide)] at h4;cases h4
  · exact fun _ q => by rw [hself] at q;cases q
  · exact fun _ => ⟨b,hvp _,hp,fun q => by have:=h.c6 (yset q (by decide));rw [hno] at this;cases this⟩
  · exact fun q => yset' (h.c2 (yset q (by decide)))
  · exact fun q => ⟨yset' (h.c4 (yset q (by decide))).1,yset' (h.c4 (yset q (by decide))).2⟩
  · exact fun _ => ⟨yset' h4,yset' h0⟩
  · exact fun q => yset' (h.c6 (yset q (by decide)))
theorem YI.s6 (h:YI p listed act w) (hroom:68 ≤ p.a0.tmps.size) (hn:listed.getD 6 true = false) (h5:listed.getD 5 false = true) {b:Bool} (hv:Kt.val act 66 = .bool b):YI p (listed.setIfInBounds 6 true) (act.put (some 67) (.bool (!b))) w:=by
  have hvp:∀ v,Kt.val (act.put (some 67) v) 67 = v:=fun v => Kt.val_put (by rw [h.frame.2.1];omega) v
  have hno:listed.getD 6 false = false:=Kt.getD_no hn;have hself:(listed.setIfInBounds 6 true).getD 6 false = true:=Kt.getD_same (by rw [h.size];decide);refine ⟨?_,?_,?_,?_,?_,?_,?_,?_,?_,?_,?_,?_,?_⟩
  · exact by simp [h.size]
  · exact h.frame.put (by decide) _
  · exact fun q => yput (h.p0 (yset q (by decide))) (by decide)
  · exact fun q => yput (h.p1 (yset q (by decide))) (by decide)
  · exact fun q => yput (h.p3 (yset q (by decide))) (by decide)
  · exact fun q => h.w0 (yset q (by decide))
  · exact fun q r => ⟨(h.w2 (yset q (by decide)) (yset r (by decide))).1,yput (h.w2 (yset q (by decide)) (yset r (by decide))).2 (by decide)⟩
  · exact fun q r => ⟨(h.w4 (yset q (by decide)) (yset r (by decide))).1,by rw [Kt.val_put_ne (by decide)];exact (h.w4 (yset q (by decide)) (yset r (by decide))).2⟩
  · exact fun q => by
      obtain ⟨b1,g1,g2,_⟩:=h.w5 (yset q (by decide));rw [hv] at g1;injection g1 with g1;subst g1;exact ⟨b,yput hv (by decide),g2,fun _ => hvp _⟩
  · exact fun q => yset' (h.c2 (yset q (by decide)))
  · exact fun q => ⟨yset' (h.c4 (yset q (by decide))).1,yset' (h.c4 (yset q (by decide))).2⟩
  · exact fun q => ⟨yset' (h.c5 (yset q (by decide))).1,yset' (h.c5 (yset q (by decide))).2⟩
  · exact fun _ => yset' h5
end Go.Proofs.Ytdbfiflmeiidjaa
end
section
/- Rounds in rounds: trees behind them; the region that yields; the length of lists of parts. -/
namespace Go.Proofs.Ytdbfiflmeiidjaa
open Go Go.RowKit
variable {X:ChX}
theorem tv_more {W:World} {S:Nat → Prop} {t:Gr.Tr} {v:Value} (h:Kt.TV W S t v):Kt.TV W (fun k => S k ∨ W.heap.size ≤ k) t v:=by
  induction h with
  | node r i j l A c b off vs hA hle h63 hc ht ih =>
    refine .node r i j l A c b off vs (fun hp => ?_) hle h63 hc ih;obtain ⟨h1,h2,h3⟩:=hA hp;exact ⟨h1,fun e => by rcases e with e | e;exact h2 e;omega,h3⟩
theorem lv_more {W:World} {S:Nat → Prop} {l:List Gr.Tr} {v:Value} (h:Kt.LV W S l v):Kt.LV W (fun k => S k ∨ W.heap.size ≤ k) l v:=by
  obtain ⟨A,c,b,off,vs,e,hA,hle,h63,hc,ht⟩:=h;refine ⟨A,c,b,off,vs,e,fun hp => ?_,hle,h63,hc,fun k hk => tv_more (ht k hk)⟩;obtain ⟨h1,h2,h3⟩:=hA hp;exact ⟨h1,fun e => by rcases e with e | e;exact h2 e;omega,h3⟩
theorem tv_round {W W':World} {M:Nat → Prop} {l:Nat} {t:Gr.Tr} {v:Value} (h:Kt.TV W (up X fun k => M k ∨ k = l) t v) (hs:∀ k,k < W.heap.size → k ≠ l → W'.heap[k]? = W.heap[k]?):Kt.TV W' (up X M) t v :=
  (h.keep fun k hk hn => hs k hk (fun e => hn (.inl (.inr e)))).less fun _ hq => hq.imp .inl id
theorem lv_round {W W':World} {M:Nat → Prop} {l:Nat} {t:List Gr.Tr} {v:Value} (h:Kt.LV W (up X fun k => M k ∨ k = l) t v) (hs:∀ k,k < W.heap.size → k ≠ l → W'.heap[k]? = W.heap[k]?):Kt.LV W' (up X M) t v :=
  (h.keep fun k hk hn => hs k hk (fun e => hn (.inl (.inr e)))).less fun _ hq => hq.imp .inl id
theorem YI.no5 {p:YR} {listed:Array Bool} {act:Act} {w:World} (h:YI p listed act w) {i:Nat} (hi:i < 6) (hn:listed.getD i true = false):listed.getD 5 false = false:=by
  cases h5:listed.getD 5 false with
  | false => rfl
  | true =>
    have hno:=Kt.getD_no hn;have h4:=h.c5 h5;have h23:=h.c4 h4.1;have h1:=h.c2 h23.1;rcases i with _ | _ | _ | _ | _ | _ | i
    · rw [h4.2] at hno;cases hno
    · rw [h1] at hno;cases hno
    · rw [h23.1] at hno;cases hno
    · rw [h23.2] at hno;cases hno
    · rw [h4.1] at hno;cases hno
    · rw [h5] at hno;cases hno
    · omega
theorem YI.below {p:YR} {listed:Array Bool} {act:Act} {w:World} (h:YI p listed act w) (h5:listed.getD 5 false = false):Below p.W.heap.size p.W w:=by
  cases h2:listed.getD 2 false with
  | false => rw [h.w0 h2];exact ⟨rfl,rfl,rfl,Nat.le_refl _,fun _ _ => rfl⟩
  | true =>
    cases h4:listed.getD 4 false with
    | true => exact (h.w4 h4 h5).1
    | false =>
      rw [(h.w2 h2 h4).1];have:Below p.W.heap.size p.W p.W.drew:=⟨rfl,rfl,rfl,Nat.le_refl _,fun _ _ => rfl⟩;exact this.alloc (Nat.le_refl _) _
theorem op_append {P:Program} {o:Oper} {a:Act} {w w':World} {K:Act → World → Prop} {Q:Exit → Act → World → Prop} {s x:Operand} {T:Array TypeId} {vs vx v:Value} (ho:o.op = .call { callee:=.builtin .append,args:=#[s,x],argTypes:=T }) (hs:a.eval s = vs) (hx:a.eval x = vx)
    (hr:(Builtin.append_ T o.type #[vs,vx]).run P w = .ok v w') (h:K (a.put o.dst v) w'):Oper.wp P o a w K Q:=by
  unfold Oper.wp execOp;simp only [ho,resolve,invoke,builtin,Sem.run_bind,Sem.run_pure,Result.andThen_ok,List.map_toArray,List.map_cons,List.map_nil,hs,hx,hr];exact h
theorem parts_len (hit:Nat → Int → Bool) (D:Int → Nat → Nat → List Gr.Tr):∀ (l:List Gr.Item) (i j:Nat),∀ y ∈ Gr.parts hit D l i j,y.length ≤ l.length
  | [],i,j,y,hy => by
    rw [Gr.parts] at hy;split at hy
    · rw [List.mem_singleton] at hy;subst hy;simp
    · cases hy
  | x :: l,i,j,y,hy => by
    rw [Gr.parts] at hy;split at hy
    · obtain ⟨m,_,hy⟩:=List.mem_flatMap.1 hy;obtain ⟨a,_,hy⟩:=List.mem_flatMap.1 hy;obtain ⟨z,hz,rfl⟩:=List.mem_map.1 hy;have:=parts_len hit D l m j z hz;simp only [List.length_cons];omega
    · split at hy
      · have:=parts_len hit D l (i + 1) j y hy;simp only [List.length_cons];omega
      · cases hy
theorem tv_form {W:World} {M:Nat → Prop} {t:Gr.Tr} {v:Value} (h:Kt.TV W M t v):∃ (a0 a1 a2:Int) (A4:Option Addr) (n4 c4:Nat),v = .agg #[.int .i64 a0,.int .i64 a1,.int .i64 a2,.slice A4 n4 c4]:=by
  cases h with
  | node _ _ _ _ A c b off vs hA hle h63 hc ht => exact ⟨_,_,_,_,_,_,rfl⟩
theorem tv_on {W W':World} {M M':Nat → Prop} {t:Gr.Tr} {v:Value} (h:Kt.TV W (up X M) t v) (hk:∀ k,k < W.heap.size → ¬ M k → k ≠ X.b1 → k ≠ X.b2 → W'.heap[k]? = W.heap[k]?) (hs:∀ k,M' k → M k ∨ W.heap.size ≤ k):Kt.TV W' (up X M') t v:=by
  refine (Kt.TV.keep (tv_more h) fun k hlt hn => hk k hlt (fun e => hn (.inl (.inl e))) (fun e => hn (.inl (.inr (.inl e)))) (fun e => hn (.inl (.inr (.inr e))))).less fun k e => ?_
  rcases e with e | e
  · rcases hs k e with e | e
    · exact .inl (.inl e)
    · exact .inr e
  · exact .inl (.inr e)
end Go.Proofs.Ytdbfiflmeiidjaa
end
