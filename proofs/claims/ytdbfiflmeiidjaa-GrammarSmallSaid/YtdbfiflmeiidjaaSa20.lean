/- Joined: GrG. -/
import Derived.Test.YtdbfiflmeiidjaaSa19
section
/- Trees: its walk. -/
namespace Go.Proofs.Ytdbfiflmeiidjaa
open Go Go.RowKit Go.Shelf
attribute [local go_sem] Oper.semAt_some Oper.semAt_none Kt.wd_round Kt.wd_depth Kt.wd_fn
def chX2 (B:Nat) (T:Option Addr) (g:List Gr.Rule) (tk:List Int) (V:Nat → Value) (EV:Value) (E:List Gr.End) (zs:List Int):ChX :=
  ⟨B + 4,B + 2,B + 3,chKn B (if 0 < tk.length then T else none) V EV,g,tk,E,fun r => (Ls.nth zs r).toNat⟩
theorem chart_of2 {g:List Gr.Rule} {n nt ct B:Nat} {T:Option Addr} {tk:List Int} {w:World} {V:Nat → Value} {EV:Value} {E:List Gr.End} {zs:List Int}
    (hl:g.length = n) (hnt:tk.length = nt) (htk:Kt.Ints w B .u16 T tk) (h:NC B g n n (.slice T nt ct) n w V EV E zs) :
    Cht (chX2 B T g tk V EV E zs) w:=by
  have hs:=h.size;obtain ⟨ge,ev1,ev2,ev3⟩:=h.ev;have hge:=(World.ownsRow.lt h.ends ge ev1).2;have hkv:∀ s,s < 64 → ∀ k,(V s).ownBlock = some k → B + 6 ≤ k ∧ k < w.heap.size:=fun s hs3 k hk => World.ownsRow.lt (h.rows.own s hs3) k hk
  have hKn:∀ k,chKn B (if 0 < tk.length then T else none) V EV k → k ≠ B + 2 ∧ k ≠ B + 3 ∧ k < w.heap.size:=by
    rintro k (rfl | rfl | hk | ⟨s,hs3,hk⟩ | ⟨hk,_⟩)
    · omega
    · omega
    · rw [ev1] at hk;injection hk with hk;omega
    · have:=hkv s hs3 k hk;omega
    · omega
  refine ⟨fun k hk => (hKn k hk).1,fun k hk => (hKn k hk).2.1,fun k hk => (hKn k hk).2.2,.inl rfl,?_,fun s hs3 => ?_,?_,fun r hr => ?_,?_,h.c67,h.c68,h.eok,by show B + 2 ≠ B + 3;omega⟩
  · refine ⟨T,ct,?_,fun hp => ?_⟩
    · show w.cell? ⟨B + 4,0,none⟩ = some (.slice T tk.length ct);rw [hnt];exact h.c0
    · obtain ⟨b,off,e,hb,hc⟩:=htk hp;exact ⟨b,off,e,.inr (.inr (.inr (.inr ⟨hb,off,(if_pos (show 0 < tk.length from hp)).trans e⟩))),hc⟩
  · have e1:Gr.rulesTo g n (s:Int) = (Gr.rulesOf g (s:Int)).map Int.ofNat:=by rw [← hl];rfl
    have ho:Kt.Own w (B + 6) 3 .i64 (V s) ((Gr.rulesOf g (s:Int)).map Int.ofNat):=by rw [← e1];exact h.rows.own s hs3
    obtain ⟨A,c,hv,hi⟩:=own_ints (Kn:=chKn B (if 0 < tk.length then T else none) V EV) ho (fun k hk => .inr (.inr (.inr (.inl ⟨s,hs3,hk⟩))));refine ⟨A,c,?_,hi⟩;have:=h.rows.cell s hs3;rw [hv,List.length_map] at this;exact this
  · refine ⟨some ⟨B,0,none⟩,n,zs,?_,h.zl.trans hl.symm,fun hp => ⟨B,0,rfl,.inr (.inl rfl),fun j hj => by rw [Nat.zero_add];exact h.beg.cell j hj⟩,fun r hr => ?_⟩
    · show w.cell? ⟨B + 4,65,none⟩ = some (.slice (some ⟨B,0,none⟩) g.length n);rw [hl];exact h.c65
    · obtain ⟨m,h1,_⟩:=h.nb r (by show r < n;rw [← hl];exact hr);show Ls.nth zs r = (((Ls.nth zs r).toNat:Nat):Int);omega
  · obtain ⟨m,h1,h2⟩:=h.nb r (by show r < n;rw [← hl];exact hr);show Gr.Ends E (Ls.nth zs r).toNat (Gr.rul g r).right;rw [h1,Int.toNat_natCast];exact h2
  · obtain ⟨g',c,hv,_,_⟩:=World.ownsRow.form h.ends h.eok.pos;have eg:g' = ge:=by rw [hv] at ev1;injection ev1
    subst eg;refine ⟨g',c,by show w.cell? ⟨B + 4,66,none⟩ = _;rw [h.c66,hv];rfl,.inr (.inr (.inl ev1)),fun k hk => ?_⟩;have ho:=h.ends;rw [hv] at ho;have key:∀ q,q < 4 → ∀ u,(Gr.endCells (Gr.en E k))[q]? = some u → w.cell? ⟨g',k * 4 + q,none⟩ = some u:=fun q hq u hu => by
      have:=World.ownsRow.cells ho (g:=g') rfl (k * 4 + q) u (by rw [Gr.flatE_get E k q hk hq];exact hu);simpa [Addr.add_lit] using this
    exact ⟨key 0 (by omega) _ rfl,key 1 (by omega) _ rfl,key 2 (by omega) _ rfl,key 3 (by omega) _ rfl⟩
theorem row_store4 {w:World} {g cap m base:Nat} {xs:List Value} {z0 z1 z2 z3 y0 y1 y2 y3:Value} (hxs:xs.length = m * 4)
    (h:w.ownsRow base 57 4 (.slice (some ⟨g,0,none⟩) (m + 1) cap) (m + 1) (xs ++ [z0,z1,z2,z3])) :
    (w.cell? ⟨g,m * 4,none⟩ = some z0 ∧ w.cell? ⟨g,m * 4 + 1,none⟩ = some z1 ∧ w.cell? ⟨g,m * 4 + 2,none⟩ = some z2 ∧ w.cell? ⟨g,m * 4 + 3,none⟩ = some z3) ∧
    (w.frozen? ⟨g,m * 4,none⟩ = false ∧ w.frozen? ⟨g,m * 4 + 1,none⟩ = false ∧ w.frozen? ⟨g,m * 4 + 2,none⟩ = false ∧ w.frozen? ⟨g,m * 4 + 3,none⟩ = false) ∧
    ((((w.setCell ⟨g,m * 4,none⟩ y0).setCell ⟨g,m * 4 + 1,none⟩ y1).setCell ⟨g,m * 4 + 2,none⟩ y2).setCell ⟨g,m * 4 + 3,none⟩ y3).ownsRow base 57 4 (.slice (some ⟨g,0,none⟩) (m + 1) cap) (m + 1) (xs ++ [y0,y1,y2,y3]):=by
  rcases h.2 with ⟨e,_⟩ | ⟨g',cap',cur,e,hb,hg,hle,hmx,hsz,htk⟩
  · cases e
  · injection e with e1 _ e3;injection e1 with e1;injection e1 with e1;subst e1 e3;have hblk:Kt.Blk w g 57 cur:=hg;have hget:∀ q,q < 4 → cur[m * 4 + q]? = ([z0,z1,z2,z3]:List Value)[q]?:=fun q hq => by
      have h1:(cur.toList.take ((m + 1) * 4))[m * 4 + q]? = (xs ++ [z0,z1,z2,z3])[m * 4 + q]?:=by rw [htk]
      rw [List.getElem?_take,if_pos (by omega),List.getElem?_append_right (by omega),show m * 4 + q - xs.length = q from by omega] at h1;simpa using h1
    refine ⟨⟨(hblk.cell _).trans (hget 0 (by omega)),(hblk.cell _).trans (hget 1 (by omega)),(hblk.cell _).trans (hget 2 (by omega)),(hblk.cell _).trans (hget 3 (by omega))⟩,⟨hblk.frozen _,hblk.frozen _,hblk.frozen _,hblk.frozen _⟩,?_⟩;have hset:=(((hblk.set_ (m * 4) y0).set_ (m * 4 + 1) y1).set_ (m * 4 + 2) y2).set_ (m * 4 + 3) y3;refine ⟨by simp [hxs];omega,.inr ⟨g,cap,_,rfl,hb,hset,hle,hmx,by simp [hsz],?_⟩⟩;have hls:∀ (l:List Value),l.take ((m + 1) * 4) = xs ++ [z0,z1,z2,z3] → ((((l.set (m * 4) y0).set (m * 4 + 1) y1).set (m * 4 + 2) y2).set (m * 4 + 3) y3).take ((m + 1) * 4) = xs ++ [y0,y1,y2,y3]:=fun l hl => by
      rw [List.take_set,List.take_set,List.take_set,List.take_set,hl];rw [List.set_append_right _ _ (by omega),List.set_append_right _ _ (by omega),List.set_append_right _ _ (by omega),List.set_append_right _ _ (by omega)];simp [hxs,show m * 4 + 1 - m * 4 = 1 from by omega,show m * 4 + 2 - m * 4 = 2 from by omega,show m * 4 + 3 - m * 4 = 3 from by omega]
    have:=hls cur.toList htk;simpa using this
theorem OTv_snoc2 {W W':World} {base:Nat} {M M':Nat → Prop} {l:List Gr.Tr} {v:Value} {vs:List Value} {t:Gr.Tr} {x0 x1 x2 x3:Value} {g cap:Nat} (h:Kt.OTv W base M l v vs) (hk:∀ k,k < W.heap.size → ¬ M k → v.ownBlock ≠ some k → W'.heap[k]? = W.heap[k]?)
    (ht:Kt.TV W' (fun b => M' b ∨ g = b) t (.agg #[x0,x1,x2,x3])) (hown:W'.ownsRow base 57 4 (.slice (some ⟨g,0,none⟩) (l.length + 1) cap) (l.length + 1) (Kt.flatV vs ++ [x0,x1,x2,x3]))
    (hat:v.ownBlock = some g ∨ W.heap.size ≤ g) (hM:∀ b,M' b → M b ∨ W.heap.size ≤ b):Kt.OTv W' base M' (l ++ [t]) (.slice (some ⟨g,0,none⟩) (l.length + 1) cap) (vs ++ [.agg #[x0,x1,x2,x3]]):=by
  have mv:∀ {t':Gr.Tr} {u:Value},Kt.TV W (fun b => M b ∨ v.ownBlock = some b) t' u → Kt.TV W' (fun b => M' b ∨ (Value.slice (some ⟨g,0,none⟩) (l.length + 1) cap).ownBlock = some b) t' u:=fun {t' u} h0 => by
    have h1:=(tv_more h0).keep (W':=W') fun k hkk hn => hk k hkk (fun e => hn (.inl (.inl e))) (fun e => hn (.inl (.inr e)))
    refine h1.less fun b hb => ?_
    rcases hb with hb | hb
    · rcases hM b hb with e | e
      · exact .inl (.inl e)
      · exact .inr e
    · have hb2:g = b:=by simpa [Value.ownBlock] using hb
      subst hb2;rcases hat with e | e
      · exact .inl (.inr e)
      · exact .inr e
  refine ⟨by simp [h.len],?_,fun k hkl => ?_⟩
  · rw [Kt.flatV_snoc,List.length_append];exact hown
  · rw [List.length_append] at hkl;rcases Nat.lt_or_ge k l.length with hlt | hge
    · have e1:(l ++ [t]).getD k Kt.noTr = l.getD k Kt.noTr:=by simp [List.getElem?_append_left hlt]
      have e2:(vs ++ [Value.agg #[x0,x1,x2,x3]]).getD k undef = vs.getD k undef:=by simp [List.getElem?_append_left (by rw [h.len];exact hlt:k < vs.length)]
      rw [e1,e2];exact mv (h.tr k hlt)
    · obtain rfl:k = l.length:=by simp at hkl;omega
      have e1:(l ++ [t]).getD l.length Kt.noTr = t:=by simp
      have e2:(vs ++ [Value.agg #[x0,x1,x2,x3]]).getD l.length undef = Value.agg #[x0,x1,x2,x3]:=by rw [← h.len];simp
      rw [e1,e2];refine ht.less fun b hb => ?_
      rcases hb with hb | hb
      · exact .inl hb
      · exact .inr (by simpa [Value.ownBlock] using hb)
theorem Memo.later {X:ChX} {N:Nat} {M M':Nat → Prop} {W:World} (h:Memo X N M W) (hM:∀ k,M' k → M k ∨ W.heap.size ≤ k):Memo X N M' W:=by
  have hnum:∀ v x,Kt.NumM W (up X M) v x → Kt.NumM W (up X M') v x:=by
    rintro v x ⟨A,c,h1,h2,h3,h4⟩;refine ⟨A,c,h1,h2,h3,fun hp => ?_⟩;obtain ⟨b,e,h5,h6,h7,h8⟩:=h4 hp;refine ⟨b,e,fun hb => ?_,h6,h7,h8⟩;rcases hb with hb | hb
    · rcases hM b hb with k | k
      · exact h5 (.inl k)
      · omega
    · exact h5 (.inr hb)
  obtain ⟨es1,c1,e1,f1⟩:=h.s1.ex;obtain ⟨es2,c2,e2,f2⟩:=h.s2.ex;have l1:X.b1 < W.heap.size:=(Array.getElem?_eq_some_iff.1 e1).1;have l2:X.b2 < W.heap.size:=(Array.getElem?_eq_some_iff.1 e2).1;refine ⟨fun e => ?_,fun e => ?_,⟨es1,c1,e1,fun e he => ?_⟩,⟨es2,c2,e2,fun e he => ?_⟩⟩
  · rcases hM _ e with k | k
    · exact h.n1 k
    · omega
  · rcases hM _ e with k | k
    · exact h.n2 k
    · omega
  · obtain ⟨s,i,j,a1,a2,a3⟩:=f1 e he;exact ⟨s,i,j,a1,a2,hnum _ _ a3⟩
  · obtain ⟨n,i,j,a1,a2,l,a3,a4⟩:=f2 e he;exact ⟨n,i,j,a1,a2,l,a3,hnum _ _ a4⟩
def derivs (g:List Gr.Rule) (tk:List Int):List Gr.Tr:=Gr.D g (hitf tk) tk.length 0 0 tk.length
def TreesPost (g:List Gr.Rule) (tk:List Int) (most:Nat) (w:World) (e:Ending) (w':World):Prop :=
  Below w.heap.size w w' ∧ ∃ v c,e = .returned (.tuple #[v,.int .i64 c]) ∧ Gr.KCode g tk.length c ∧ Kt.LV w' (fun k => k < w.heap.size) (if c = 0 then (derivs g tk).take most else []) v
theorem trees_leaves {P:Program} {n:Nat} {fn:Func} {tmps:Array Value} {X:ChX} {M2:Nat → Prop} {g:List Gr.Rule} {tk:List Int} {most D:Nat} {w w5:World} {l:List Gr.Tr} {v0:Value} {u6 u7:Nat} (hfn:fn.results = #[.tmp u6,.tmp u7]) (h6:tmps.getD u6 undef = v0) (h7:tmps.getD u7 undef = .int .i64 0)
    (hb:Below w.heap.size w w5) (hl:l = (derivs g tk).take most) (hk:Gr.KCode g tk.length 0) (hlv:Kt.LV w5 (fun b => ¬ M2 b) l v0) (hM:∀ k,M2 k → w.heap.size ≤ k) (hD:w.heap.size ≤ D) (hDl:D < w5.heap.size) (hND:¬ M2 D) (h1:D ≠ X.b1) (h2:D ≠ X.b2) (hDD:w5.heap[D]? = some (.deferred (some []))) :
    LeavesInM (Kt.Wd none) n P fn tmps (TreesPost g tk most w) [Kt.mark D] .returning w5:=by
  refine Kt.leaves_marks (B:=w.heap.size) (b1:=X.b1) (b2:=X.b2) (M:=M2) (fun W' => Below w.heap.size w W' ∧ Kt.LV W' (fun b => ¬ M2 b) l v0) ?_ (fun W' hK => ⟨_,results_tmp2 hfn _ _ _,hK.1,_,0,by rw [h6,h7],hk,?_⟩) [Kt.mark D] w5 ⟨[D],rfl,by simp,fun D' hD' => ?_⟩ ⟨hb,hlv⟩
  · rintro D' W1 ⟨g1,g2⟩ hB hMD _ _ _;refine ⟨⟨g1.os,g1.tape,g1.output,by rw [World.putObj_size];exact g1.size,fun k hk => (World.putObj_heap_other (by omega)).trans (g1.block k hk)⟩,g2.keep fun k hk hn => World.putObj_heap_other fun e => hn fun e2 => hMD (by rw [← e];exact e2)⟩
  · obtain rfl:D' = D:=by simpa using hD'
    exact ⟨hD,hDl,hND,h1,h2,hDD⟩
  · rw [if_pos rfl,← hl];exact hK.2.less fun k hk e => by have:=hM k e;omega
def traZ (W:World) (B base m:Nat) (v0:Value) (xs:List Value) (t:Gr.Tr) (L:Nat → Bool) (V:Nat → Value) (w:World):Prop :=
  (L 5 = true → L 0 = true ∧ L 2 = true ∧ L 4 = true) ∧
  (L 5 = false → L 6 = false ∧ L 7 = false ∧ L 8 = false ∧ Below W.heap.size W w) ∧
  (L 2 = true → ∃ (d0 d1 d2:Int) (A5:Option Addr) (n5 c5:Nat),V 2 = .agg #[.int .i64 d0,.int .i64 d1,.int .i64 d2,.slice A5 n5 c5] ∧ (L 5 = false → Kt.TV w (fun b => b < W.heap.size) t (.agg #[.int .i64 d0,.int .i64 d1,.int .i64 d2,.slice A5 n5 c5]))) ∧
  (L 4 = true → L 5 = false → ∃ gb,V 4 = .slice (some ⟨gb,0,none⟩) 1 1 ∧ Kt.Blk w gb 57 #[.int .i64 0,.int .i64 0,.int .i64 0,.slice none 0 0]) ∧
  (L 5 = true → ∃ (g cap:Nat) (d0 d1 d2:Int) (A5:Option Addr) (n5 c5:Nat),V 2 = .agg #[.int .i64 d0,.int .i64 d1,.int .i64 d2,.slice A5 n5 c5] ∧ V 5 = .slice (some ⟨g,0,none⟩) (m + 1) cap ∧ (L 6 = true → V 6 = .pointer (some ⟨g,m * 4,none⟩)) ∧ (v0.ownBlock = some g ∨ W.heap.size ≤ g) ∧
    w.ownsRow base 57 4 (V 5) (m + 1) (xs ++ if L 7 = true then [.int .i64 d0,.int .i64 d1,.int .i64 d2,.slice A5 n5 c5] else [.int .i64 0,.int .i64 0,.int .i64 0,.slice none 0 0]) ∧ Kt.TV w (fun b => b < W.heap.size ∨ b = g) t (.agg #[.int .i64 d0,.int .i64 d1,.int .i64 d2,.slice A5 n5 c5]) ∧
    Kt.Blk w B 49 #[if L 8 = true then V 5 else v0]) ∧
  (L 7 = true → L 6 = true)
theorem traZ_start {W:World} {B base m:Nat} {v0:Value} {xs:List Value} {t:Gr.Tr} {V:Nat → Value}:traZ W B base m v0 xs t (fun _ => false) V W.drew :=
  ⟨fun q => (by cases q),fun _ => ⟨rfl,rfl,rfl,⟨rfl,rfl,rfl,Nat.le_refl _,fun _ _ => rfl⟩⟩,fun q => (by cases q),fun q => (by cases q),fun q => (by cases q),fun q => (by cases q)⟩
def traSlot:Nat → Nat:=fun j => match j with | 0 => 33 | 1 => 34 | 2 => 35 | 3 => 36 | 4 => 37 | 5 => 38 | 6 => 39 | 7 => 100007 | 8 => 100008 | _ => 999999
def traS:List Nat:=[33,34,35,36,37,38,39]
set_option linter.unusedVariables false in
def traR (B base m tb:Nat) (v0:Value) (xs:List Value) (t:Gr.Tr) (b0 b1 b2:Int) (A4:Option Addr) (n4 c4:Nat):Nat → Value → World → Prop:=fun j u w => match j with | 0 => u = (v0) | 1 => u = (.agg #[.int .i64 b0,.int .i64 b1,.int .i64 b2,.slice A4 n4 c4]) | 2 => True | 3 => u = (.int .i64 (m:Int)) | 4 => True | 5 => True | 6 => True | 7 => True | 8 => True | _ => True
def traP (a0:Act) (W:World) (B base m tb:Nat) (v0:Value) (xs:List Value) (t:Gr.Tr) (b0 b1 b2:Int) (A4:Option Addr) (n4 c4:Nat):Kt.RxP:=⟨9,traSlot,traS,a0,W,fun k => v0.ownBlock = some k ∨ k = B ∨ W.heap.size ≤ k,traR B base m tb v0 xs t b0 b1 b2 A4 n4 c4,traZ W B base m v0 xs t⟩
theorem tra_ok {a0:Act} {W:World} {B base m tb:Nat} {v0:Value} {xs:List Value} {t:Gr.Tr} {b0 b1 b2:Int} {A4:Option Addr} {n4 c4:Nat} {listed:Array Bool} {act:Act} {w:World} (_:Kt.RxI (traP a0 W B base m tb v0 xs t b0 b1 b2 A4 n4 c4) listed act w):Kt.RxOk (traP a0 W B base m tb v0 xs t b0 b1 b2 A4 n4 c4):=by
  refine ⟨fun i hi j hj => (by decide:∀ i,i < 9 → ∀ j,j < 9 → traSlot i = traSlot j → i = j) i hi j hj,fun j u w w' h hk => ?_⟩;rcases j with _ | _ | _ | _ | _ | _ | _ | _ | _ | j
  · exact h
  · exact h
  · exact h
  · exact h
  · exact h
  · exact h
  · exact h
  · exact h
  · exact h
  · exact h
def TrJ (X:ChX) (B most:Nat) (last:Bool) (pre:List Gr.Tr) (M:Nat → Prop) (W:World):Prop :=
  ∃ v vs,Kt.Blk W B 49 #[v] ∧ M B ∧ ¬ M X.b1 ∧ ¬ M X.b2 ∧ Kt.OTv W (B + 1) (fun b => ¬ M b ∨ b = B) pre v vs ∧ (∀ g,v.ownBlock = some g → M g) ∧ if last = true then pre.length = most else pre.length < most
theorem TrJ.st {X:ChX} {B most b1 b2 D:Nat} {last:Bool} {pre:List Gr.Tr} {M:Nat → Prop} {W W':World} (h1:X.b1 = b1) (h2:X.b2 = b2) (h:TrJ X B most last pre M W) (hs:Kt.St D b1 b2 M W W'):TrJ X B most last pre M W':=by
  subst h1 h2;obtain ⟨v,vs,g1,g2,g3,g4,g5,g6,g7⟩:=h;have key:∀ k,k < W.heap.size → M k → W'.heap[k]? = W.heap[k]?:=fun k hk hm => hs.same k hk (.inl hm) (fun e => g3 (by rw [← e];exact hm)) (fun e => g4 (by rw [← e];exact hm))
  refine ⟨v,vs,(key B g1.lt g2).trans g1,g2,g3,g4,g5.keep (fun k hk hn => key k hk (Classical.byContradiction fun e => hn (.inl e))) (fun g hg e => ?_),g6,g7⟩;rcases e with e | e
  · exact e (g6 g hg)
  · have:=(g5.own.lt g hg).1;omega
def trsFr (u0 u1 u2 u3 u4:Value) (mb:Nat) (u6 u7 u8:Value) (B tb:Nat) (u11 u12 u13 u14 u15 u16 u17 u18 u19 u20 u21 u22 u23 u24 u25 u26 u27 u28 u29 u30 u31 u32 u33 u34 u35 u36 u37 u38 u39 u40 u41 u42 u43 u44:Value):Act :=
  { tmps:=#[u0,u1,u2,u3,u4,.pointer (some ⟨mb,0,none⟩),u6,u7,u8,.pointer (some ⟨B,0,none⟩),.pointer (some ⟨tb,0,none⟩),u11,u12,u13,u14,u15,u16,u17,u18,u19,u20,u21,u22,u23,u24,u25,u26,u27,u28,u29,u30,u31,u32,u33,u34,u35,u36,u37,u38,u39,u40,u41,u42,u43,u44],defers:=[] }
set_option maxRecDepth 100000 in
set_option maxHeartbeats 4000000 in
theorem Trees_step (g:List Gr.Rule) (tk:List Int) (A:Option Addr) (n cp:Nat) (T:Option Addr) (nt ct:Nat) (w:World) (hl:g.length = n) (hn:n ≤ 4611686018427387904) (hnt:tk.length = nt) (hnt2:nt ≤ 4611686018427387904) (hk:Gr.Fit g nt ∨ 40 < nt)
    (hW:WfR g) (hg:Kt.Rules w w.heap.size A g) (ht:Kt.Ints w w.heap.size .u16 T tk) (most:Nat) (hm1:1 ≤ most) (hm2:most ≤ 200)
    (hsm:Gr.Good g → ∀ t ∈ derivs g tk,Kt.Small t)
    (hIT:∀ (X:ChX) (ρ:Int → Nat),ChG X ρ → ChE X → X.tk.length = nt → TreesIt X nt 0 0 nt) :
    Calls Try.prog 15 #[.slice A n cp,.slice T nt ct,.int .i64 (most:Int)] w (TreesPost g tk most w):=by
  obtain ⟨w0,hw0⟩:∃ w0,w.alloc (.cells #[.int .i64 (most:Int)] 3) = w0:=⟨_,rfl⟩;have hb0:Below w.heap.size w w0:=by rw [← hw0];exact (Below.refl _ _).alloc (Nat.le_refl _) _
  have hmost:Kt.Blk w0 w.heap.size 3 #[.int .i64 (most:Int)]:=by rw [← hw0];exact Kt.Blk.new _ _ _
  have hg0:Kt.Rules w0 w0.heap.size A g:=hg.on hb0;have HC:=Lib.hid (checked2_any g A n cp T nt ct w0 hl hn hnt2 hg0);have HMO:=Lib.hid hmost;have HL:=Lib.hid hl;have HT:=Lib.hid hnt;have HW:=Lib.hid hW;have HG:=Lib.hid hg0;have HTK:=Lib.hid (ht.on hb0);have HSM:=Lib.hid hsm;have HI:=Lib.hid hIT;clear hl hnt hW hg ht hsm hIT hg0 hmost;refine (callsIn_wide (n:=0)).1 ?_
  change CallsIn (Kt.Wd none) _ _ _ _ _ _
  refine callsIn_of_wp_marks Try.func15 rfl trivial ?_ rfl;simp only [Try.ntmps15,List.size_toArray,List.length_cons,List.length_nil,Nat.reduceAdd,Nat.reduceSub,Array.replicate_succ,Array.replicate_zero,List.push_toArray,List.append_toArray,List.nil_append,List.cons_append]
  gi_wp2_with fail
  refine (Kt.calls_wd HC.out).mono ?_;rintro e w1 ⟨hb,c,rfl,hc⟩;have HK:=Lib.hid hc;have HB0:=Lib.hid hb0;clear HC hw0 hb0;by_cases he:c = 0
  · subst he;obtain ⟨hgood,h40⟩:=hc.good.1 rfl;have h30:Gr.Fit g nt:=hk.resolve_right (by omega);have hb1:Below w.heap.size w w1:=HB0.out.trans (hb.mono HB0.out.size);have hm1c:w1.cell? ⟨w.heap.size,0,none⟩ = some (.int .i64 (most:Int)):=(HMO.out.on hb).cell 0;have hlt1:w.heap.size < w1.heap.size:=(HMO.out.on hb).lt;have d2:decide ((most:Int) > 200) = false:=by simp;omega
    have d4:((most:Int) == 0) = false:=by simp;omega
    obtain ⟨wb,hwb⟩:∃ wb,w1.alloc (.cells #[.slice none 0 0] 49) = wb:=⟨_,rfl⟩;have hbb:Below w1.heap.size w1 wb:=by rw [← hwb];exact (Below.refl _ _).alloc (Nat.le_refl _) _
    have hblk:Kt.Blk wb w1.heap.size 49 #[.slice none 0 0]:=by rw [← hwb];exact Kt.Blk.new _ _ _
    have hsb:wb.heap.size = w1.heap.size + 1:=by rw [← hwb];simp
    have hmob:=(HMO.out.on hb).on hbb;have hmbc:wb.cell? ⟨w.heap.size,0,none⟩ = some (.int .i64 (most:Int)):=hmob.cell 0;have HN:=Lib.hid (newChart_any g hgood HW.out A n cp T nt ct wb HL.out ((HG.out.on hb).on hbb));have HGD:=Lib.hid hgood;have HSB:=Lib.hid hsb;have HMB:=Lib.hid hmob;clear hc hgood hsb hmob
    gi_wp2_with fail
    refine (Kt.calls_wd HN.out).mono ?_;rintro e w2 ⟨rfl,hb2,V,EV,E,zs,hN,hEl⟩;have hns:=hN.size;have hCh:=chart_of2 (tk:=tk) HL.out HT.out ((((HTK.out.on hb).on hbb)).below hb2) hN;have hM:=memo_start (X:=chX2 wb.heap.size T g tk V EV E zs) (N:=nt) (M:=fun k => k = w1.heap.size) hN rfl rfl (by have:=HSB.out;omega) (by have:=HSB.out;omega);obtain ⟨ρ,hρ⟩:=HGD.out.ranked;have hX:ChG (chX2 wb.heap.size T g tk V EV E zs) ρ:=⟨hρ,HGD.out.len,HGD.out.ok,by show tk.length ≤ 40;rw [HT.out];exact h30.le,by show Gr.Fit g tk.length;rw [HT.out];exact h30⟩;have hE:ChE (chX2 wb.heap.size T g tk V EV E zs):=⟨hCh.eok,hEl,hCh.nbE⟩;have HIT:=Lib.hid (HI.out _ ρ hX hE HT.out);obtain ⟨X,hXe⟩:∃ X,chX2 wb.heap.size T g tk V EV E zs = X:=⟨_,rfl⟩;have hx1:X.b1 = wb.heap.size + 2:=by rw [← hXe];rfl
    have hx2:X.b2 = wb.heap.size + 3:=by rw [← hXe];rfl
    have hxb:wb.heap.size + 4 = X.bc:=by rw [← hXe];rfl
    have hxg:X.g = g:=by rw [← hXe];rfl
    have hxt:X.tk = tk:=by rw [← hXe];rfl
    have hxK:∀ k,X.Kn k → k ≠ w1.heap.size:=by
      rw [← hXe];intro k hk;have hsb:=HSB.out;rcases hk with hk | hk | hk | ⟨s,hs3,hk⟩ | ⟨hk,o,ho⟩
      · omega
      · omega
      · obtain ⟨ge,ev1,ev2,ev3⟩:=hN.ev;rw [ev1] at hk;injection hk with hk;omega
      · have:=World.ownsRow.lt (hN.rows.own s hs3) k hk;omega
      · split at ho
        · rename_i hp;obtain ⟨b,off,e,hbl,_⟩:=(HTK.out.on hb) hp;rw [e] at ho;injection ho with ho;injection ho with ho;omega
        · cases ho
    rw [hXe] at HIT hCh hM;have HM:=Lib.hid hM;have HCH:=Lib.hid hCh;have HX1:=Lib.hid hx1;have HX2:=Lib.hid hx2;have HXG:=Lib.hid hxg;have HXT:=Lib.hid hxt;rw [hxb];have hbl2:=hblk.on hb2;have hmb2:=HMB.out.on hb2;have h12:=hb2.size;clear hN hEl hM hX hE hCh hXe hx1 hx2 hxg hxt hxb
    gi_wp2_with fail
    refine (Kt.calls_wd (trees_mk X 0 0 nt w2)).mono ?_;rintro e w3 ⟨rfl,hb3,htb,hs3⟩;have hC3:Cht X w3:=HCH.out.on (Ch0.of_below hb3);have hM3:=HM.out.below hb3;have hbl3:=hbl2.on hb3;have hmb3:=hmb2.on hb3;obtain ⟨B,hB⟩:∃ B,Hid (B = w1.heap.size):=⟨_,Lib.hid rfl⟩;have HIX:=HIT.out w2.heap.size w3 hC3 htb (fun q hq => ⟨by rw [HX1.out];omega,by rw [HX2.out];omega,by omega⟩);have hbb1:X.b1 < w3.heap.size:=by rw [HX1.out];omega
    have hbb2:X.b2 < w3.heap.size:=by rw [HX2.out];omega
    have hBb1:B ≠ X.b1:=by rw [HX1.out,hB.out];have:=HSB.out;omega
    have hBb2:B ≠ X.b2:=by rw [HX2.out,hB.out];have:=HSB.out;omega
    rw [← hB.out] at hM3;have HM3:=Lib.hid hM3;have HC3:=Lib.hid hC3;have hmbB:w.heap.size < B:=by rw [hB.out];exact hlt1
    rw [← hB.out] at hbl3 hxK;have HB3:=Lib.hid hbl3;have HMB3:=Lib.hid hmb3;have hB3:B < w3.heap.size:=hbl3.lt;have hB1:B < w2.heap.size:=by rw [hB.out];exact hbl2.lt
    obtain ⟨i0,hi0,hz0,hz1,hz2⟩:=info_parts Try.infoTree;clear hbl3 hmb3 hbl2 hmb2 hM3 hC3 htb
    gi_wp2_with fail
    rw [← hB.out];refine Kt.range_outer (B:=0) (b1:=X.b1) (b2:=X.b2) (M0:=fun k => k = B) (w0:=w3) rfl rfl rfl trivial (enters_of Try.func49 (by kernel_rfl) rfl) HIX hbb1 hbb2 (Nat.zero_le _) (Nat.le_refl _) (fun k hk => by subst hk;exact hB3)
      (fun q hq => ⟨by
        rcases hq with hq | hq
        · exact HC3.out.lt q hq
        · omega,by
        rcases hq with hq | hq
        · exact hxK q hq
        · omega,rfl⟩) HM3.out (fun M W W' h hk => h.inS hk) (fun M W l r h hl => h.loop hl) (fun M M' W h hM => h.less hM)
      (fun pre M w => TrJ X B most false pre M w)
      (fun c pre M w => c = .exit 0 ∧ TrJ X B most true pre M w)
      (fun pre M W1 W2 h1 h2 => TrJ.st rfl rfl h1 h2) (fun c pre M W1 W2 h1 h2 => ⟨h1.1,TrJ.st rfl rfl h1.2 h2⟩) ⟨_,[],HB3.out,rfl,fun e => hBb1 e.symm,fun e => hBb2 e.symm,Kt.OTv.nil _ _ _,fun g hg => by simp [Value.ownBlock] at hg,by simp;omega⟩ ?hround ?hd ?hs
    case hround =>
      intro l2 pre x v M1 Wr hl2 hI1 hInv1 hCh1 hSub1 hMl hrec hpre henc;obtain ⟨b0,b1,b2,A4,n4,c4,hve⟩:=tv_form (show Kt.TV _ _ _ _ from henc);subst hve;refine ⟨fun a' W' => (∃ (u0 u1 u2 u3 u4 u6 u7 u8 u11 u12 u13 u14 u15 u16 u17 u18 u19 u20 u21 u22 u23 u24 u25 u26 u27 u28 u29 u30 u31 u32 u33 u34 u35 u36 u37 u38 u39 u40 u41 u42 u43 u44:Value),a' = trsFr u0 u1 u2 u3 u4 w.heap.size u6 u7 u8 B Wr.heap.size u11 u12 u13 u14 u15 u16 u17 u18 u19 u20 u21 u22 u23 u24 u25 u26 u27 u28 u29 u30 u31 u32 u33 u34 u35 u36 u37 u38 u39 u40 u41 u42 u43 u44) ∧ W' = Wr.alloc (.cells #[.int .i64 b0,.int .i64 b1,.int .i64 b2,.slice A4 n4 c4] 57),?_,?_⟩
      · intro K hK
        change Code.wpIn (Kt.Wd (some l2)) _ _ _ _ _ _
        gi_wp2_with fail
        refine hK _ _ ?_ (fun k hk => Below.heap_alloc _ _ _ hk) ⟨⟨_,_,_,_,_,_,_,_,_,_,_,_,_,_,_,_,_,_,_,_,_,_,_,_,_,_,_,_,_,_,_,_,_,_,_,_,_,_,_,_,_,_,rfl⟩,rfl⟩;exact ⟨rfl,rfl,rfl,by simp⟩
      · rintro a' Wa Wb ⟨⟨u0,u1,u2,u3,u4,u6,u7,u8,u11,u12,u13,u14,u15,u16,u17,u18,u19,u20,u21,u22,u23,u24,u25,u26,u27,u28,u29,u30,u31,u32,u33,u34,u35,u36,u37,u38,u39,u40,u41,u42,u43,u44,rfl⟩,hWa⟩ hext hszb hsame hrec2 hle;obtain ⟨tb,htb⟩:∃ tb,Hid (tb = Wr.heap.size):=⟨_,Lib.hid rfl⟩;rw [← htb.out];have hwa:=hCh1.ext.size;have hWas:Wa.heap.size = Wr.heap.size + 1:=by rw [hWa];simp
        have hl2r:l2 < Wr.heap.size:=by
          obtain ⟨r',h⟩:=hrec;exact (Array.getElem?_eq_some_iff.1 h).1
        have hsame2:∀ k,k < Wr.heap.size → k ≠ l2 → Wb.heap[k]? = Wr.heap[k]?:=fun k hk hn => (hsame k hn).trans (by rw [hWa];exact Below.heap_alloc _ _ _ hk)
        have hTb:Kt.Blk Wb tb 57 #[.int .i64 b0,.int .i64 b1,.int .i64 b2,.slice A4 n4 c4]:=(hsame tb (by have:=htb.out;omega)).trans (by rw [hWa,htb.out];exact Kt.Blk.new _ _ _);have hst5:Kt.St 0 X.b1 X.b2 M1 Wr Wb:=⟨⟨by rw [hext.os,hWa];rfl,by rw [hext.tape,hWa];rfl,by rw [hext.output,hWa];rfl,by omega⟩,fun q hq hm _ _ => hsame2 q hq (by
          rintro rfl;rcases hm with h | h
          · exact hMl h
          · omega)⟩
        have hJ5:=TrJ.st rfl rfl hI1 hst5;obtain ⟨v0,vs,j1,j2,j3,j4,j5,j6,j7⟩:=hJ5;simp only [Bool.false_eq_true,if_false] at j7;obtain ⟨rl,hrl⟩:=hrec;have HM5:Memo X nt M1 Wb:=((hInv1.loop hrl).inS (fun q hq hn => hsame2 q hq (fun e => hn (.inr e)))).less (fun q hq => .inl hq);have hTx:Hid (Kt.TV Wb (up X M1) x (.agg #[.int .i64 b0,.int .i64 b1,.int .i64 b2,.slice A4 n4 c4])):=Lib.hid (tv_round henc hsame2);have hxin:x ∈ derivs g tk:=by
          have h1:x ∈ Gr.D X.g (hitf X.tk) nt ((0:Nat):Int) 0 nt:=hpre.subset (by simp);unfold derivs;rw [HT.out];rw [HXG.out,HXT.out] at h1;exact h1
        have hSx:Hid (Kt.Small x):=Lib.hid (HSM.out HGD.out x hxin);have hM5lt:∀ q,M1 q → q < Wb.heap.size:=fun q hq => by have:=hSub1.lt q hq;omega
        obtain ⟨m,hm⟩:∃ m,Hid (pre.length = m):=⟨_,Lib.hid rfl⟩;obtain ⟨Av0,cv0,hv0⟩:=j5.shape;have hOw:=j5.own;have hxs:(Kt.flatV vs).length = m * 4:=by rw [Kt.flatV_len vs j5.form4,j5.len,hm.out]
        rw [hm.out] at hv0 hOw j7;have hBlk:Kt.Blk Wb B 49 #[v0]:=j1;have hBown:v0.ownBlock ≠ some B:=fun e => by have:=(hOw.lt B e).1;omega
        have hbaseW:B + 1 ≤ Wb.heap.size:=hBlk.lt;have htbW:tb < Wb.heap.size:=hTb.lt;have htbM:¬ M1 tb:=fun e => by have:=hSub1.lt _ e;have:=htb.out;omega
        have hBtb:tb ≠ B:=by rintro rfl;exact htbM j2
        have hXtb:¬ (v0.ownBlock = some tb ∨ tb = B ∨ Wb.heap.size ≤ tb):=by
          rintro (e | e | e)
          · exact htbM (j6 tb e)
          · exact hBtb e
          · omega
        have hm200:m < 200:=by omega
        have HJ:=Lib.hid j5;have HV0:=Lib.hid hv0;have HM5':=Lib.hid HM5;have HPX:=Lib.hid hpre;have HTB:=Lib.hid hTb
        change Code.wpIn (Kt.Wd (some l2)) _ _ _ _ _ _
        unfold trsFr;clear hI1 hInv1 henc hst5 hWa hsame hext j5 j1 hv0 hpre HM5 HIX
        gi_wp2_with fail
        refine Kt.region_invIn (Kt.RxI (traP _ Wb B (B + 1) m tb v0 (Kt.flatV vs) x b0 b1 b2 A4 n4 c4)) (by kernel_rfl) ?hg (Kt.RxI.start traZ_start) ?hstep ?hdone
        case hg =>
          intro q o ho;rcases q with _ | _ | _ | _ | _ | _ | _ | _ | _ | q
          all_goals first | (cases Option.some.inj ho;rfl) | (exfalso;simp at ho)
        case hstep =>
          intro listed act w2 q o hI ho hn hpre;have ok:=tra_ok hI;rcases q with _ | _ | _ | _ | _ | _ | _ | _ | _ | q
          · cases Option.some.inj ho;refine Kt.opIn_of_op (fun c => by simp) ?_;have hz:=hI.st;obtain ⟨z1,z2,z3,z4,z5,z6⟩:=hz;have hnj:listed.getD 0 false = false:=Kt.getD_no hn;have h5:Kt.lis listed 5 = false:=by
              cases h:Kt.lis listed 5 with
              | false => rfl
              | true =>
                have h9:listed.getD 0 false = true:=(z1 h).1;rw [hnj] at h9;cases h9
            have hbc:=hBlk.on (z2 h5).2.2.2;have cB:w2.cell? ⟨B,0,none⟩ = some v0:=hbc.cell 0;have f9:act.tmps[9]?.getD undef = .pointer (some ⟨B,0,none⟩):=(Kt.val_get act 9).symm.trans (hI.frame.val_out (s:=9) (Kt.qn rfl));have hk:=hI.put ok (j:=0) (s:=33) (v:=v0) (w':=w2) (Kt.qb rfl) rfl (Kt.qm rfl) (Kt.qb rfl) (Kt.Kp.refl _ _) rfl ⟨fun q => ⟨rfl,(z1 q).2⟩,z2,z3,z4,z5,z6⟩;refine Kt.op_opq hk ?_;clear hk;intro KK hkk;unfold Oper.wp;go_simp;exact hkk
          · cases Option.some.inj ho;refine Kt.opIn_of_op (fun c => by simp) ?_;have f10:act.tmps[10]?.getD undef = .pointer (some ⟨tb,0,none⟩):=(Kt.val_get act 10).symm.trans (hI.frame.val_out (s:=10) (Kt.qn rfl));have c0:w2.cell? ⟨tb,0,none⟩ = some (Value.int .i64 b0):=hI.cell htbW hXtb (hTb.cell 0);have c1:w2.cell? ⟨tb,1,none⟩ = some (Value.int .i64 b1):=hI.cell htbW hXtb (hTb.cell 1);have c2:w2.cell? ⟨tb,2,none⟩ = some (Value.int .i64 b2):=hI.cell htbW hXtb (hTb.cell 2);have c3:w2.cell? ⟨tb,3,none⟩ = some (Value.slice A4 n4 c4):=hI.cell htbW hXtb (hTb.cell 3);have hk:=hI.put ok (j:=1) (s:=34) (v:=.agg #[.int .i64 b0,.int .i64 b1,.int .i64 b2,.slice A4 n4 c4]) (w':=w2) (Kt.qb rfl) rfl (Kt.qm rfl) (Kt.qb rfl) (Kt.Kp.refl _ _) rfl ⟨fun q => ⟨(hI.st.1 q).1,(hI.st.1 q).2⟩,hI.st.2⟩;refine Kt.op_opq hk ?_;clear hk;intro KK hkk;unfold Oper.wp;go_simp;exact hkk
          · cases Option.some.inj ho;refine Kt.opIn_of_op (fun c => by simp) ?_;have e1:act.tmps[34]?.getD undef = .agg #[.int .i64 b0,.int .i64 b1,.int .i64 b2,.slice A4 n4 c4]:=hI.eq (j:=1) (Kt.qb rfl) rfl (fun _ _ h => h) (hpre ⟨1,.data⟩ (by simp) rfl);have hz:=hI.st;obtain ⟨z1,z2,z3,z4,z5,z6⟩:=hz;have hnj:listed.getD 2 false = false:=Kt.getD_no hn;have h5:Kt.lis listed 5 = false:=by
              cases h:Kt.lis listed 5 with
              | false => rfl
              | true =>
                have h9:listed.getD 2 false = true:=(z1 h).2.1;rw [hnj] at h9;cases h9
            have hbw:=(z2 h5).2.2.2;have hTw:=hTx.out.keep fun k hk _ => hbw.block k hk
            refine Kt.op_opc (s:=35) (fun v w3 => Below w2.heap.size w2 w3 ∧ Kt.TV w3 (fun k => k < w2.heap.size) x v) ?_ ?_
            · intro KK hkk;unfold Oper.wp;go_simp;refine (copy_any _ _ _ w2 hSx.out hTw).mono ?_;rintro e w3 ⟨hb3,v3,rfl,hT3⟩;exact hkk _ _ ⟨hb3,hT3⟩
            rintro v3 w3 ⟨hb3,hT3⟩;obtain ⟨d0,d1,d2,A5,n5,c5,rfl⟩:=tv_form hT3;refine hI.put ok (j:=2) (s:=35) (w':=w3) (Kt.qb rfl) rfl (Kt.qm rfl) (Kt.qb rfl) (Kt.Kp.below _ hb3) trivial ⟨fun q => ?_,fun _ => ?_,fun _ => ?_,fun q _ => ?_,fun q => ?_,z6⟩
            · exact absurd (h5.symm.trans q) (by decide)
            · exact ⟨(z2 h5).1,(z2 h5).2.1,(z2 h5).2.2.1,hbw.trans (hb3.mono hbw.size)⟩
            · exact ⟨_,_,_,_,_,_,rfl,fun _ => hT3.less fun k hk => Nat.lt_of_lt_of_le hk hbw.size⟩
            · obtain ⟨gb,e4,hb4⟩:=z4 q h5;exact ⟨gb,e4,hb4.on hb3⟩
            · exact absurd (h5.symm.trans q) (by decide)
          · cases Option.some.inj ho;refine Kt.opIn_of_op (fun c => by simp) ?_;have e0:act.tmps[33]?.getD undef = v0:=hI.eq (j:=0) (Kt.qb rfl) rfl (fun _ _ h => h) (hpre ⟨0,.data⟩ (by simp) rfl);rw [HV0.out] at e0;have hk:=hI.put ok (j:=3) (s:=36) (v:=.int .i64 (m:Int)) (w':=w2) (Kt.qb rfl) rfl (Kt.qm rfl) (Kt.qb rfl) (Kt.Kp.refl _ _) rfl hI.st;refine Kt.op_opq hk ?_;clear hk;intro KK hkk;unfold Oper.wp;go_simp;exact hkk
          · cases Option.some.inj ho;refine Kt.opIn_of_op (fun c => by simp) ?_;have hz:=hI.st;obtain ⟨z1,z2,z3,z4,z5,z6⟩:=hz;have hnj:listed.getD 4 false = false:=Kt.getD_no hn;have h5:Kt.lis listed 5 = false:=by
              cases h:Kt.lis listed 5 with
              | false => rfl
              | true =>
                have h9:listed.getD 4 false = true:=(z1 h).2.2;rw [hnj] at h9;cases h9
            have hbw:=(z2 h5).2.2.2;have hba:Below w2.heap.size w2 (w2.alloc (.cells #[.int .i64 0,.int .i64 0,.int .i64 0,.slice none 0 0] 57)):=(Below.refl _ _).alloc (Nat.le_refl _) _;have hk:=hI.put ok (j:=4) (s:=37) (v:=.slice (some ⟨w2.heap.size,0,none⟩) 1 1) (w':=w2.alloc (.cells #[.int .i64 0,.int .i64 0,.int .i64 0,.slice none 0 0] 57)) (Kt.qb rfl) rfl (Kt.qm rfl) (Kt.qb rfl) (Kt.Kp.below _ hba) trivial ?_
            · refine Kt.op_opq hk ?_;clear hk;intro KK hkk;unfold Oper.wp;go_simp;exact hkk
            refine ⟨fun q => ?_,fun _ => ?_,fun q => ?_,fun _ _ => ?_,fun q => ?_,z6⟩
            · exact absurd (h5.symm.trans q) (by decide)
            · exact ⟨(z2 h5).1,(z2 h5).2.1,(z2 h5).2.2.1,hbw.trans (hba.mono hbw.size)⟩
            · obtain ⟨d0,d1,d2,A5,n5,c5,g1,g2⟩:=z3 q;exact ⟨d0,d1,d2,A5,n5,c5,g1,fun _ => (g2 h5).keep fun k hk _ => hba.block k hk⟩
            · exact ⟨w2.heap.size,rfl,Kt.Blk.new _ _ _⟩
            · exact absurd (h5.symm.trans q) (by decide)
          · cases Option.some.inj ho;refine Kt.opIn_of_op (fun c => by simp) ?_;have e0:act.tmps[33]?.getD undef = v0:=hI.eq (j:=0) (Kt.qb rfl) rfl (fun _ _ h => h) (hpre ⟨0,.data⟩ (by simp) rfl);have hz:=hI.st;obtain ⟨z1,z2,z3,z4,z5,z6⟩:=hz;have l2:listed.getD 2 false = true:=hpre ⟨2,.phase⟩ (by simp) rfl;have l4:listed.getD 4 false = true:=hpre ⟨4,.data⟩ (by simp) rfl;have l0:listed.getD 0 false = true:=hpre ⟨0,.data⟩ (by simp) rfl;have hnj:listed.getD 5 false = false:=Kt.getD_no hn;have h5:Kt.lis listed 5 = false:=hnj;have hbw:=(z2 h5).2.2.2;obtain ⟨gb,e4,hb4⟩:=z4 l4 h5;replace e4:Kt.val act 37 = _:=e4;obtain ⟨d0,d1,d2,A5,n5,c5,g1,g2⟩:=z3 l2;have e4b:act.eval (.tmp 37) = .slice (some ⟨gb,0,none⟩) 1 1:=e4;have e0b:act.eval (.tmp 33) = v0:=(Kt.val_get act 33).trans e0;have hown2:w2.ownsRow (B + 1) 57 4 v0 m (Kt.flatV vs):=Kt.ownsRow_keep hOw fun g e => hbw.block g (hOw.lt g e).2
            have hbase:B + 1 ≤ w2.heap.size:=Nat.le_trans hbaseW hbw.size;refine wp_append_lies (P:=Try.prog) w2 (.tmp 33) (.tmp 37) 49 rfl (B + 1) 57 i0 (.agg #[.int .i64 0,.int .i64 0,.int .i64 0,.slice none 0 0]) 4 48 Try.underlying49 hi0 hz0 hz1 hz2 rfl (by decide) v0 m (Kt.flatV vs) e0b hown2 ⟨gb,0,none⟩ 1 1 [.int .i64 0,.int .i64 0,.int .i64 0,.slice none 0 0] e4b rfl (World.news_of_block hb4) (by intro u hu;simp at hu;rcases hu with rfl | rfl <;> rfl) (by decide) (by unfold maxLen;omega) (by omega) hbase _ rfl (fun g cap w3 h1 h2 h3 h4 => ?_);have hB2:Kt.Blk w2 B 49 #[v0]:=hBlk.on hbw;refine hI.put ok (j:=5) (s:=38) (w':=w3) (Kt.qb rfl) rfl (Kt.qm rfl) (Kt.qb rfl) (Kt.Kp.grown h2 fun k e => .inl e) trivial ⟨fun _ => ⟨l0,l2,l4⟩,fun q => ?_,fun _ => ⟨d0,d1,d2,A5,n5,c5,g1,fun q => ?_⟩,fun _ q => ?_,fun _ => ?_,z6⟩
            · exact absurd (show true = false from q) (by decide)
            · exact absurd (show true = false from q) (by decide)
            · exact absurd (show true = false from q) (by decide)
            · refine ⟨g,cap,d0,d1,d2,A5,n5,c5,g1,rfl,fun q => ?_,?_,?_,?_,?_⟩
              · exact absurd ((z2 h5).1.symm.trans q) (by decide)
              · rcases h3 with e | e
                · exact .inl e
                · exact .inr (by have:=hbw.size;omega)
              · rw [show Kt.upL (Kt.lis listed) 5 7 = false from (z2 h5).2.1];exact h1
              · have h9:=(tv_more (g2 h5)).keep (W':=w3) fun k hk hnn => h2.block k hk fun e => by
                  have:=(hOw.lt k e.symm).2;exact hnn (.inl this)
                refine h9.less fun b hb => ?_
                rcases hb with hb | hb
                · exact .inl hb
                · rcases h3 with e | e
                  · have:=(hOw.lt g e).2;exact .inl (by omega)
                  · exact .inr (by omega)
              · rw [show Kt.upL (Kt.lis listed) 5 8 = false from (z2 h5).2.2.1];exact hB2.grown h2 fun e => hBown e.symm
          · cases Option.some.inj ho;refine Kt.opIn_of_op (fun c => by simp) ?_;have e3:act.tmps[36]?.getD undef = .int .i64 (m:Int):=hI.eq (j:=3) (Kt.qb rfl) rfl (fun _ _ h => h) (hpre ⟨3,.data⟩ (by simp) rfl);have hz:=hI.st;obtain ⟨z1,z2,z3,z4,z5,z6⟩:=hz;have l5:listed.getD 5 false = true:=hpre ⟨5,.data⟩ (by simp) rfl;obtain ⟨g,cap,d0,d1,d2,A5,n5,c5,g1,g2,g3,g4,g5,g6,g7⟩:=z5 l5;have hv5:Kt.val act 38 = _:=g2;have e5:act.tmps[38]?.getD undef = _:=(Kt.val_get act 38).symm.trans hv5;have hn6:(m:Int) < (m:Int) + 1:=by omega
            have hk:=hI.put ok (j:=6) (s:=39) (v:=.pointer (some ⟨g,m * 4,none⟩)) (w':=w2) (Kt.qb rfl) rfl (Kt.qm rfl) (Kt.qb rfl) (Kt.Kp.refl _ _) trivial ?_
            · refine Kt.op_opq hk ?_;clear hk;intro KK hkk;unfold Oper.wp;go_simp;exact hkk
            refine ⟨z1,fun q => absurd ((show Kt.lis listed 5 = true from l5).symm.trans q) (by decide),z3,fun q r => absurd ((show Kt.lis listed 5 = true from l5).symm.trans r) (by decide),fun _ => ⟨g,cap,d0,d1,d2,A5,n5,c5,g1,g2,fun _ => rfl,g4,g5,g6,g7⟩,fun _ => rfl⟩
          · cases Option.some.inj ho;refine Kt.opIn_of_op (fun c => by simp) ?_;have hz:=hI.st;obtain ⟨z1,z2,z3,z4,z5,z6⟩:=hz;have l6:listed.getD 6 false = true:=hpre ⟨6,.data⟩ (by simp) rfl;have l2:listed.getD 2 false = true:=hpre ⟨2,.data⟩ (by simp) rfl;have l5:listed.getD 5 false = true:=hpre ⟨5,.chain⟩ (by simp) rfl;have hnj:listed.getD 7 false = false:=Kt.getD_no hn;have h7:Kt.lis listed 7 = false:=hnj;obtain ⟨g,cap,d0,d1,d2,A5,n5,c5,g1,g2,g3,g4,g5,g6,g7⟩:=z5 l5;have hv5:Kt.val act 38 = _:=g2;have hv6:Kt.val act 39 = _:=g3 l6;have hv2:Kt.val act 35 = _:=g1;have e6:act.tmps[39]?.getD undef = _:=(Kt.val_get act 39).symm.trans hv6;have e2:act.tmps[35]?.getD undef = _:=(Kt.val_get act 35).symm.trans hv2;rw [g2,h7] at g5;simp only [Bool.false_eq_true,if_false] at g5;obtain ⟨hcz,hfz,hset⟩:=row_store4 hxs g5 (y0:=.int .i64 d0) (y1:=.int .i64 d1) (y2:=.int .i64 d2) (y3:=.slice A5 n5 c5);obtain ⟨cz0,cz1,cz2,cz3⟩:=hcz;obtain ⟨fz0,fz1,fz2,fz3⟩:=hfz;have hkp:Kt.Kp (fun k => v0.ownBlock = some k ∨ k = B ∨ Wb.heap.size ≤ k) w2 ((((w2.setCell ⟨g,m * 4,none⟩ (.int .i64 d0)).setCell ⟨g,m * 4 + 1,none⟩ (.int .i64 d1)).setCell ⟨g,m * 4 + 2,none⟩ (.int .i64 d2)).setCell ⟨g,m * 4 + 3,none⟩ (.slice A5 n5 c5)):=by
              have hg:v0.ownBlock = some g ∨ g = B ∨ Wb.heap.size ≤ g:=by rcases g4 with e | e;exact .inl e;exact .inr (.inr e)
              exact (((Kt.Kp.set (p:=⟨g,m * 4,none⟩) hg _).trans (Kt.Kp.set (p:=⟨g,m * 4 + 1,none⟩) hg _)).trans (Kt.Kp.set (p:=⟨g,m * 4 + 2,none⟩) hg _)).trans (Kt.Kp.set (p:=⟨g,m * 4 + 3,none⟩) hg _)
            have hgB:B ≠ g:=by
              rintro rfl;rcases g4 with e | e
              · exact hBown e
              · have:=hBlk.lt;omega
            have hk:=hI.store ok (j:=7) (Kt.qb rfl) hkp trivial ?_
            · refine Kt.op_opq0 hk ?_;clear hk;intro KK hkk;unfold Oper.wp;go_simp;exact hkk
            refine ⟨z1,fun q => absurd ((show Kt.lis listed 5 = true from l5).symm.trans q) (by decide),fun _ => ⟨d0,d1,d2,A5,n5,c5,g1,fun q => absurd ((show Kt.lis listed 5 = true from l5).symm.trans q) (by decide)⟩,fun q r => absurd ((show Kt.lis listed 5 = true from l5).symm.trans r) (by decide),fun _ => ⟨g,cap,d0,d1,d2,A5,n5,c5,g1,g2,g3,g4,?_,?_,?_⟩,fun _ => l6⟩
            · rw [g2];exact hset
            · refine g6.keep fun k hk hnn => ?_
              have hkg:k ≠ g:=fun e => hnn (.inr e)
              rw [Below.heap_setCell _ _ _ _ (by exact hkg),Below.heap_setCell _ _ _ _ (by exact hkg),Below.heap_setCell _ _ _ _ (by exact hkg),Below.heap_setCell _ _ _ _ (by exact hkg)]
            · exact (((g7.far (p:=⟨g,m * 4,none⟩) hgB _).far (p:=⟨g,m * 4 + 1,none⟩) hgB _).far (p:=⟨g,m * 4 + 2,none⟩) hgB _).far (p:=⟨g,m * 4 + 3,none⟩) hgB _
          · cases Option.some.inj ho;refine Kt.opIn_of_op (fun c => by simp) ?_;have hz:=hI.st;obtain ⟨z1,z2,z3,z4,z5,z6⟩:=hz;have l5:listed.getD 5 false = true:=hpre ⟨5,.data⟩ (by simp) rfl;have f9:act.tmps[9]?.getD undef = .pointer (some ⟨B,0,none⟩):=(Kt.val_get act 9).symm.trans (hI.frame.val_out (s:=9) (Kt.qn rfl));have hnj:listed.getD 8 false = false:=Kt.getD_no hn;have h8:Kt.lis listed 8 = false:=hnj;obtain ⟨g,cap,d0,d1,d2,A5,n5,c5,g1,g2,g3,g4,g5,g6,g7⟩:=z5 l5;have hv5:Kt.val act 38 = _:=g2;have e5:act.tmps[38]?.getD undef = _:=(Kt.val_get act 38).symm.trans hv5;rw [h8] at g7;simp only [Bool.false_eq_true,if_false] at g7;have cB:w2.cell? ⟨B,0,none⟩ = some v0:=g7.cell 0;have fB:w2.frozen? ⟨B,0,none⟩ = false:=g7.frozen 0;have hgB:g ≠ B:=by
              rintro rfl;rcases g4 with e | e
              · exact hBown e
              · have:=hBlk.lt;omega
            have hkp:Kt.Kp (fun k => v0.ownBlock = some k ∨ k = B ∨ Wb.heap.size ≤ k) w2 (w2.setCell ⟨B,0,none⟩ (.slice (some ⟨g,0,none⟩) (m + 1) cap)):=Kt.Kp.set (p:=⟨B,0,none⟩) (.inr (.inl rfl)) _;have hk:=hI.store ok (j:=8) (Kt.qb rfl) hkp trivial ?_
            · refine Kt.op_opq0 hk ?_;clear hk;intro KK hkk;unfold Oper.wp;go_simp;exact hkk
            refine ⟨z1,fun q => absurd ((show Kt.lis listed 5 = true from l5).symm.trans q) (by decide),fun q => ?_,fun q r => absurd ((show Kt.lis listed 5 = true from l5).symm.trans r) (by decide),fun _ => ⟨g,cap,d0,d1,d2,A5,n5,c5,g1,g2,g3,g4,?_,?_,?_⟩,z6⟩
            · obtain ⟨u0,u1,u2,u3,u4,u5,k1,_⟩:=z3 q;exact ⟨u0,u1,u2,u3,u4,u5,k1,fun q => absurd ((show Kt.lis listed 5 = true from l5).symm.trans q) (by decide)⟩
            · rw [g2] at g5 ⊢;exact Kt.ownsRow_keep g5 fun g' e => Below.heap_setCell _ _ _ _ (by show g' ≠ B;intro e9;subst e9;exact hgB (by simpa [Value.ownBlock] using e))
            · refine g6.keep fun k hk hnn => Below.heap_setCell _ _ _ _ ?_
              show k ≠ B;rintro rfl;exact hnn (.inl hBlk.lt)
            · rw [g2];exact g7.set_ 0 _
          · exfalso;simp at ho
        case hdone =>
          intro listed act w2 hI hr;have hup:=Kt.all_up (fun q o ho => by
            rcases q with _ | _ | _ | _ | _ | _ | _ | _ | _ | q
            all_goals first | (cases Option.some.inj ho;decide) | (exfalso;simp at ho)) hI.size hr
          have hst:=hI.st;have hkept:=hI.kept;rw [hI.frame.out];simp only [traP,traS,Kt.sets];obtain ⟨y1,y2,y3,y4,y5,y6⟩:=hst;obtain ⟨g,cap,d0,d1,d2,A5,n5,c5,_,g2,_,g4,g5,g6,g7⟩:=y5 (hup 5 (by decide));rw [show Kt.lis listed 7 = true from hup 7 (by decide)] at g5;rw [show Kt.lis listed 8 = true from hup 8 (by decide)] at g7;simp only [if_true] at g5 g7;rw [g2] at g5 g7;replace g2:Kt.val act 38 = .slice (some ⟨g,0,none⟩) (m + 1) cap:=g2;clear y1 y2 y3 y4 y5 y6;generalize Kt.val act 33 = v33;generalize Kt.val act 34 = v34;generalize Kt.val act 35 = v35;generalize Kt.val act 36 = v36;generalize Kt.val act 37 = v37;generalize Kt.val act 38 = v38 at g2 ⊢;generalize Kt.val act 39 = v39;simp only [List.setIfInBounds_toArray,List.set_cons_zero,List.set_cons_succ];subst g2;clear hI hr hup;have hkp:Kt.Kp (fun k => v0.ownBlock = some k ∨ k = B ∨ Wb.heap.size ≤ k) Wb w2:=hkept;have hsz2:=hkp.size;have hsame9:∀ k,k < Wb.heap.size → ¬ M1 k → w2.heap[k]? = Wb.heap[k]?:=fun k hk hnM => hkp.same k hk (by
            rintro (e | e | e)
            · exact hnM (j6 k e)
            · subst e;exact hnM j2
            · omega)
          have hgM:∀ k,v0.ownBlock = some k → k < Wb.heap.size:=fun k hk => (hOw.lt k hk).2
          obtain ⟨M9,hM9⟩:∃ M9:Nat → Prop,M9 = fun k => M1 k ∨ (Wb.heap.size ≤ k ∧ k < w2.heap.size):=⟨_,rfl⟩
          have hg2:g < w2.heap.size:=((World.ownsRow.form g5 (Nat.succ_pos m)).elim fun g' h => h.elim fun c' h => by
            obtain ⟨e,_,h3⟩:=h;injection e with e;injection e with e;injection e with e;omega)
          have HMM:Hid (Memo X nt M9 w2):=Lib.hid (by
            have h1:Memo X nt M9 Wb:=HM5'.out.later (fun k hk => by rw [hM9] at hk;rcases hk with hk | hk;exact .inl hk;exact .inr hk.1);exact h1.inS fun k hk hn => hsame9 k hk fun e => hn (by rw [hM9];exact .inl e))
          have HCC:Hid (Kt.Ch X.b1 X.b2 M1 Wb w2):=Lib.hid ⟨⟨hkp.os,hkp.tape,hkp.output,hkp.size⟩,fun k hk hn _ _ => hsame9 k hk hn⟩;have HSS:Hid (Kt.Sub M1 Wb M9 w2):=Lib.hid ⟨fun k hk => by rw [hM9] at hk;rcases hk with hk | hk;exact .inl hk;exact .inr hk.1,fun k hk => by
            rw [hM9] at hk;rcases hk with hk | hk
            · have:=hM5lt k hk;omega
            · exact hk.2⟩
          have hOT9:Kt.OTv w2 (B + 1) (fun b => ¬ M9 b ∨ b = B) (pre ++ [x]) (.slice (some ⟨g,0,none⟩) (m + 1) cap) (vs ++ [.agg #[.int .i64 d0,.int .i64 d1,.int .i64 d2,.slice A5 n5 c5]]):=by
            have h1:=OTv_snoc2 (W':=w2) (M':=fun b => ¬ M9 b ∨ b = B) (t:=x) (x0:=.int .i64 d0) (x1:=.int .i64 d1) (x2:=.int .i64 d2) (x3:=.slice A5 n5 c5) (g:=g) (cap:=cap) HJ.out (fun k hk hn ho => hkp.same k hk (by
              rintro (e | e | e)
              · exact ho e
              · exact hn (.inr e)
              · omega)) ((tv_more g6).less fun b hb => by
                rcases hb with (hb | hb) | hb
                · rcases Nat.lt_or_ge b Wb.heap.size with h | h
                  · exact .inl (.inl h)
                  · refine .inr (Nat.le_of_not_lt fun h2 => hb ?_);rw [hM9];exact .inr ⟨h,h2⟩
                · exact .inl (.inl (by have:=hBlk.lt;omega))
                · exact .inl (.inr hb.symm)) (by rw [hm.out];exact g5) g4 (fun b hb => by
                  rcases hb with hb | hb
                  · exact .inl (.inl fun e => hb (by rw [hM9];exact .inl e))
                  · exact .inl (.inr hb))
            rw [hm.out] at h1;exact h1
          have hJ9:∀ last:Bool,(if last = true then m + 1 = most else m + 1 < most) → TrJ X B most last (pre ++ [x]) M9 w2:=fun last hlast => by
            refine ⟨_,_,g7,by rw [hM9];exact .inl j2,?_,?_,hOT9,fun g' hg' => ?_,by rw [List.length_append,hm.out];exact hlast⟩
            · rw [hM9];rintro (e | e)
              · exact j3 e
              · have:=hCh1.ext.size;omega
            · rw [hM9];rintro (e | e)
              · exact j4 e
              · have:=hCh1.ext.size;omega
            · have hgg:g = g':=by simpa [Value.ownBlock] using hg'
              subst hgg;rw [hM9];rcases g4 with e | e
              · exact .inl (j6 g e)
              · exact .inr ⟨e,hg2⟩
          have cB9:w2.cell? ⟨B,0,none⟩ = some (.slice (some ⟨g,0,none⟩) (m + 1) cap):=g7.cell 0;have cm9:w2.cell? ⟨w.heap.size,0,none⟩ = some (.int .i64 (most:Int)):=by
            have h0:w.heap.size < w3.heap.size:=by omega
            have h1:¬ M1 w.heap.size:=fun e => by
              rcases hSub1.old _ e with e | e
              · omega
              · omega
            have h2:Wr.heap[w.heap.size]? = w3.heap[w.heap.size]?:=hCh1.same _ h0 (by omega) (by rw [HX1.out];have:=HSB.out;omega) (by rw [HX2.out];have:=HSB.out;omega);have h3:w2.heap[w.heap.size]? = w3.heap[w.heap.size]?:=(hsame9 _ (by omega) h1).trans ((hsame2 _ (by omega) (by omega)).trans h2);exact (World.cell?_of_block (a:=⟨w.heap.size,0,none⟩) h3).trans (HMB3.out.cell 0)
          have HJ9:=Lib.hid hJ9;clear hJ9 hOT9 g5 g6 g7;by_cases hlast:m + 1 = most
          · have heq:((m:Int) + 1 == (most:Int)) = true:=by simp;omega
            have HQ:=Lib.hid (HJ9.out true (by simpa using hlast));clear hlast
            gi_wp2_with fail
            exact ⟨M9,HMM.out,HCC.out,HSS.out,rfl,HQ.out⟩
          · have heq:((m:Int) + 1 == (most:Int)) = false:=by simp;omega
            have HQ:=Lib.hid (HJ9.out false (by simp;omega));clear hlast
            gi_wp2_with fail
            exact ⟨M9,HMM.out,HCC.out,HSS.out,HQ.out⟩
    case hd =>
      intro M2 w5 hI2 hInv2 hCh2 hSub2 hND hD hDl;obtain ⟨v0,vs,j1,j2,j3,j4,j5,j6,j7⟩:=hI2;have cB:w5.cell? ⟨B,0,none⟩ = some v0:=j1.cell 0
      gi_wp2_with fail
      have hlv:=(j5.lv (by simp only [Bool.false_eq_true,if_false] at j7;omega) (fun g hg e => by
        rcases e with e | e
        · exact e (j6 g hg)
        · have:=(j5.own.lt g hg).1;omega)).less (M':=fun b => ¬ M2 b) fun b hb => .inl hb
      refine trees_leaves (X:=X) (M2:=M2) (D:=w3.heap.size) rfl rfl rfl ?_ ?_ (by rw [HT.out];exact HK.out) hlv ?_ (by omega) hDl hND (by rw [HX1.out];omega) (by rw [HX2.out];omega) hD
      · refine ⟨hCh2.ext.os.trans (hb3.os.trans (hb2.os.trans (hbb.os.trans hb1.os))),hCh2.ext.tape.trans (hb3.tape.trans (hb2.tape.trans (hbb.tape.trans hb1.tape))),hCh2.ext.output.trans (hb3.output.trans (hb2.output.trans (hbb.output.trans hb1.output))),by have:=hCh2.ext.size;have:=hbb.size;have:=hb1.size;omega,fun k hk => ?_⟩;have:=hbb.size;exact (hCh2.same k (by omega) (by omega) (by rw [HX1.out];omega) (by rw [HX2.out];omega)).trans ((hb3.block k (by omega)).trans ((hb2.block k (by omega)).trans ((hbb.block k (by omega)).trans (hb1.block k hk))))
      · rw [List.take_of_length_le] <;> unfold derivs <;> rw [HT.out,← HXG.out,← HXT.out]
        · rfl
        · simp only [Bool.false_eq_true,if_false] at j7;exact Nat.le_of_lt j7
      · intro k hk;rcases hSub2.old k hk with e | e
        · omega
        · omega
    case hs =>
      intro cx pre M2 w5 hpre2 hIx2 hInv2 hCh2 hSub2 hND hD hDl;obtain ⟨rfl,v0,vs,j1,j2,j3,j4,j5,j6,j7⟩:=hIx2;have cB:w5.cell? ⟨B,0,none⟩ = some v0:=j1.cell 0
      gi_wp2_with fail
      have hlv:=(j5.lv (by simp only [if_true] at j7;omega) (fun g hg e => by
        rcases e with e | e
        · exact e (j6 g hg)
        · have:=(j5.own.lt g hg).1;omega)).less (M':=fun b => ¬ M2 b) fun b hb => .inl hb
      rw [← hs3];refine trees_leaves (X:=X) (M2:=M2) (D:=w3.heap.size) rfl rfl rfl ?_ ?_ (by rw [HT.out];exact HK.out) hlv ?_ (by omega) hDl hND (by rw [HX1.out];omega) (by rw [HX2.out];omega) hD
      · refine ⟨hCh2.ext.os.trans (hb3.os.trans (hb2.os.trans (hbb.os.trans hb1.os))),hCh2.ext.tape.trans (hb3.tape.trans (hb2.tape.trans (hbb.tape.trans hb1.tape))),hCh2.ext.output.trans (hb3.output.trans (hb2.output.trans (hbb.output.trans hb1.output))),by have:=hCh2.ext.size;have:=hbb.size;have:=hb1.size;omega,fun k hk => ?_⟩;have:=hbb.size;exact (hCh2.same k (by omega) (by omega) (by rw [HX1.out];omega) (by rw [HX2.out];omega)).trans ((hb3.block k (by omega)).trans ((hb2.block k (by omega)).trans ((hbb.block k (by omega)).trans (hb1.block k hk))))
      · simp only [if_true] at j7;obtain ⟨t,ht⟩:=hpre2;unfold derivs;rw [HT.out,← HXG.out,← HXT.out,← j7,show (Gr.D X.g (hitf X.tk) nt 0 0 nt) = pre ++ t from ht.symm];simp
      · intro k hk;rcases hSub2.old k hk with e | e
        · omega
        · omega
  · have heb:(c != 0) = true:=by simp [he]
    have HE:=Lib.hid he;have hb1:Below w.heap.size w w1:=HB0.out.trans (hb.mono HB0.out.size);clear he hc
    gi_wp2_with fail
    exact ⟨_,results_tmp2 rfl _ _ _,hb1,_,c,rfl,by rw [HT.out];exact HK.out,by rw [if_neg HE.out];exact Kt.LV.nil _ _⟩
end Go.Proofs.Ytdbfiflmeiidjaa
end
