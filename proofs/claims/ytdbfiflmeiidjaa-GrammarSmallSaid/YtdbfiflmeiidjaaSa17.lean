/- Joined: GrO. -/
import Derived.Test.YtdbfiflmeiidjaaSa15
import Derived.Test.YtdbfiflmeiidjaaSa16
section
/- parts: its iterator, where an ending begins with a symbol. -/
namespace Go.Proofs.Ytdbfiflmeiidjaa
open Go Go.RowKit Go.Shelf
attribute [local go_sem] Oper.semAt_some Oper.semAt_none Kt.wd_round Kt.wd_depth Kt.wd_fn
variable {X:ChX} {ρ:Int → Nat} {N:Nat}
def oneM (X:ChX) (N sn:Nat) (l:List Gr.Item) (i j p:Nat):List (List Gr.Tr):=(Gr.D X.g (hitf X.tk) N (sn:Int) i p).flatMap fun a => (Gr.parts (hitf X.tk) (Gr.D X.g (hitf X.tk) N) l p j).map (a :: ·)
def doneM (X:ChX) (N sn:Nat) (l:List Gr.Item) (i j q:Nat):List (List Gr.Tr):=(List.range' (i + 1) q).flatMap (oneM X N sn l i j)
theorem doneM_succ (sn:Nat) (l:List Gr.Item) (i j q:Nat):doneM X N sn l i j (q + 1) = doneM X N sn l i j q ++ oneM X N sn l i j (i + 1 + q):=by
  unfold doneM;rw [List.range'_concat,List.flatMap_append];simp
theorem doneM_tail (sn:Nat) (l:List Gr.Item) (i j q:Nat) (h:j ≤ i + q + l.length):∀ d,doneM X N sn l i j (q + d) = doneM X N sn l i j q
  | 0 => rfl
  | d + 1 => by
    rw [← Nat.add_assoc,doneM_succ,doneM_tail sn l i j q h d];have:oneM X N sn l i j (i + 1 + (q + d)) = []:=by
      unfold oneM;rw [Gr.parts_short _ _ _ _ _ (by omega)];simp
    rw [this,List.append_nil]
theorem doneM_all (sn:Nat) (l:List Gr.Item) (i j q:Nat) (h:i + q + l.length = j):doneM X N sn l i j q = Gr.parts (hitf X.tk) (Gr.D X.g (hitf X.tk) N) (⟨0,(sn:Int)⟩ :: l) i j:=by
  rw [Gr.parts,if_pos rfl];have h2:=doneM_tail (X:=X) (N:=N) sn l i j q (by omega) (j - i - q);rw [show q + (j - i - q) = j - i from by omega] at h2;rw [← h2];rfl
theorem doneM_pre {sn:Nat} {l:List Gr.Item} {i j q:Nat} (hq:q < j - i) {pre:List Gr.Tr} (hp:pre <+: Gr.D X.g (hitf X.tk) N (sn:Int) i (i + 1 + q)) :
    doneM X N sn l i j q ++ (pre.flatMap fun a => (Gr.parts (hitf X.tk) (Gr.D X.g (hitf X.tk) N) l (i + 1 + q) j).map (a :: ·)) <+: Gr.parts (hitf X.tk) (Gr.D X.g (hitf X.tk) N) (⟨0,(sn:Int)⟩ :: l) i j:=by
  obtain ⟨t,ht⟩:=hp;have h1:Gr.parts (hitf X.tk) (Gr.D X.g (hitf X.tk) N) (⟨0,(sn:Int)⟩ :: l) i j = doneM X N sn l i j (j - i):=by rw [Gr.parts,if_pos rfl];rfl
  have h2:doneM X N sn l i j (j - i) = doneM X N sn l i j (q + 1) ++ (List.range' (i + 1 + (q + 1)) (j - i - (q + 1))).flatMap (oneM X N sn l i j):=by
    unfold doneM;rw [← List.flatMap_append];congr 1;rw [List.range'_append_1];congr 1;omega
  rw [h1,h2,doneM_succ];unfold oneM;rw [← ht,List.flatMap_append];exact ⟨_,by rw [List.append_assoc,List.append_assoc,List.append_assoc]⟩
theorem doneM_pre2 {sn:Nat} {l:List Gr.Item} {i j q:Nat} (hq:q < j - i) {pre:List Gr.Tr} {a:Gr.Tr} (hp:pre ++ [a] <+: Gr.D X.g (hitf X.tk) N (sn:Int) i (i + 1 + q)) {pre2:List (List Gr.Tr)} (hp2:pre2 <+: Gr.parts (hitf X.tk) (Gr.D X.g (hitf X.tk) N) l (i + 1 + q) j) :
    (doneM X N sn l i j q ++ (pre.flatMap fun a => (Gr.parts (hitf X.tk) (Gr.D X.g (hitf X.tk) N) l (i + 1 + q) j).map (a :: ·))) ++ pre2.map (a :: ·) <+: Gr.parts (hitf X.tk) (Gr.D X.g (hitf X.tk) N) (⟨0,(sn:Int)⟩ :: l) i j:=by
  have h:=doneM_pre (X:=X) (N:=N) (l:=l) hq hp;refine List.IsPrefix.trans ?_ h;rw [List.flatMap_append,List.flatMap_singleton];obtain ⟨t,ht⟩:=hp2;rw [← ht,List.map_append];exact ⟨t.map (a :: ·),by simp⟩
structure ParS (X:ChX) (N l:Nat) (J:List (List Gr.Tr) → (Nat → Prop) → World → Prop) (M:Nat → Prop) (W:World) (yb:Nat) (L:List (List Gr.Tr)) (M':Nat → Prop) (w:World) (ds:List Deferred):Prop where
  j:J L M' w
  mem:Memo X N M' w
  ch:Kt.Ch X.b1 X.b2 M W w
  sub:Kt.Sub M W M' w
  ny:¬ M' yb
  yb:Kt.Blk w yb 136 #[.func (.yield l) #[] #[]]
  mks:Kt.Marks W.heap.size X.b1 X.b2 M' w ds
theorem ParS.own {l yb:Nat} {J:List (List Gr.Tr) → (Nat → Prop) → World → Prop} {M M':Nat → Prop} {W w w':World} {L:List (List Gr.Tr)} {ds:List Deferred} (hJ:∀ pre M W1 W2,J pre M W1 → Kt.St W.heap.size X.b1 X.b2 M W1 W2 → J pre M W2)
    (h:ParS X N l J M W yb L M' w ds) (hc:Ch0 X w w') (hm:Memo X N M' w') (h1:yb ≠ X.b1) (h2:yb ≠ X.b2):ParS X N l J M W yb L M' w' ds :=
  ⟨hJ _ _ _ _ h.j ⟨hc.ext,fun q hq _ k1 k2 => hc.same q hq (fun e => e) k1 k2⟩,hm,Kt.Ch.trans h.ch hc (fun _ e => e.elim),⟨h.sub.old,fun q hq => Nat.lt_of_lt_of_le (h.sub.lt q hq) hc.ext.size⟩,h.ny,(hc.same yb h.yb.lt (fun e => e) h1 h2).trans h.yb,h.mks.ch hc⟩
theorem ParS.below {l yb:Nat} {J:List (List Gr.Tr) → (Nat → Prop) → World → Prop} {M M':Nat → Prop} {W w w':World} {L:List (List Gr.Tr)} {ds:List Deferred} (hJ:∀ pre M W1 W2,J pre M W1 → Kt.St W.heap.size X.b1 X.b2 M W1 W2 → J pre M W2)
    (h:ParS X N l J M W yb L M' w ds) (hb:Below w.heap.size w w') (h1:yb ≠ X.b1) (h2:yb ≠ X.b2):ParS X N l J M W yb L M' w' ds:=h.own hJ (Ch0.of_below hb) (h.mem.below hb) h1 h2
theorem ParS.range {l yb D:Nat} {J J2:List (List Gr.Tr) → (Nat → Prop) → World → Prop} {M M' M2:Nat → Prop} {W w w':World} {L L2:List (List Gr.Tr)} {ds:List Deferred} (h:ParS X N l J M W yb L M' w ds) (hj:J2 L2 M2 w') (hm:Memo X N M2 w') (hc:Kt.Ch X.b1 X.b2 M' w w') (hs:Kt.Sub M' w M2 w') (h1:yb ≠ X.b1) (h2:yb ≠ X.b2)
    (hD:D = w.heap.size) (hW:W.heap.size ≤ w.heap.size) (k1:D ≠ X.b1) (k2:D ≠ X.b2) (hND:¬ M2 D) (hDD:w'.heap[D]? = some (.deferred (some []))):ParS X N l J2 M W yb L2 M2 w' (Kt.mark D :: ds):=by
  subst hD;have hyl:=h.yb.lt;refine ⟨hj,hm,Kt.Ch.trans h.ch hc (fun q hq => h.sub.old q hq),⟨fun q hq => ?_,hs.lt⟩,fun e => ?_,(hc.same yb hyl h.ny h1 h2).trans h.yb,(h.mks.keep hc hs).cons (fun D' hD' => by have:=h.mks.old D' hD';omega) hW hND k1 k2 hDD⟩
  · rcases hs.old q hq with e | e
    · exact h.sub.old q e
    · exact .inr (by omega)
  · rcases hs.old _ e with e | e
    · exact h.ny e
    · omega
theorem next_box {w:World} (p:Nat):Below w.heap.size w (w.alloc (.cells #[.int .i64 ((p:Int) + 1)] 3)) ∧ Kt.Blk (w.alloc (.cells #[.int .i64 ((p:Int) + 1)] 3)) w.heap.size 3 #[.int .i64 ((p:Int) + 1)] :=
  ⟨(Below.refl _ _).alloc (Nat.le_refl _) _,Kt.Blk.new _ _ _⟩
def ptrOf:Value → Addr
  | .pointer (some p) => p
  | _ => ⟨0,0,none⟩
def parFr (l H yb mb:Nat) (u7 u8 u9 u10 u11 u12 u13 u14 u15 u16 u17 u18 u19 u20 u21 u22 u23 u24 u25 u26 u27 u28 u29 u30 u31 u32 u33 u34 u35 u36 u37 u38 u39 u40 u41 u42 u43 u44 u45 u46 u47 u48 u49 u50 u51 u52 u53 u54 u55 u56 u57 u58 u59 u60 u61 u62 u63 u64 u65 u66 u67 u68:Value) (ds:List Deferred):Act :=
  { tmps:=#[.func (.yield l) #[] #[],.pointer (some ⟨H + 3,0,none⟩),.pointer (some ⟨H,0,none⟩),.pointer (some ⟨H + 1,0,none⟩),.pointer (some ⟨H + 2,0,none⟩),.pointer (some ⟨yb,0,none⟩),.pointer (some ⟨mb,0,none⟩),u7,u8,u9,u10,u11,u12,u13,u14,u15,u16,u17,u18,u19,u20,u21,u22,u23,u24,u25,u26,u27,u28,u29,u30,u31,u32,u33,u34,u35,u36,u37,u38,u39,u40,u41,u42,u43,u44,u45,u46,u47,u48,u49,u50,u51,u52,u53,u54,u55,u56,u57,u58,u59,u60,u61,u62,u63,u64,u65,u66,u67,u68],defers:=ds }
theorem iter_wd {α:Type} {P:Program} {g:Nat} {lb:Array Value} {b1 b2:Nat} {Inv:(Nat → Prop) → World → Prop} {Enc:World → (Nat → Prop) → α → Value → Prop} {Kn:Nat → Prop} {w0:World} {xs:List α} (ro:Option Nat)
    (h:Kt.Iter (Kt.Wd none) P g lb b1 b2 Inv Enc Kn w0 xs):Kt.Iter (Kt.Wd ro) P g lb b1 b2 Inv Enc Kn w0 xs:=by
  intro l n J Jx M W h1 h2 h3 h4 h5 h6 h7 h8;exact Kt.calls_wd ((callsIn_wide (n:=n)).1 (h l n J Jx M W h1 h2 h3 h4 h5 h6 (fun pre x v M1 W1 k1 k2 k3 k4 k5 => Kt.yield_any (h7 pre x v M1 W1 k1 k2 k3 k4 k5)) h8))
set_option maxRecDepth 100000 in
set_option maxHeartbeats 40000000 in
theorem parts_sym (hX:ChG X ρ) (hE:ChE X) (n i j m K sn:Nat) (l':List Gr.Item) (hn:m < X.E.length) (hen:Gr.en X.E n = ⟨⟨0,(sn:Int)⟩,m,K⟩) (hl:l'.length + 1 = K) (hK:K ≤ 8) (hj:j ≤ X.tk.length) (hs:i + K ≤ j) (hN:j - i ≤ N)
    (hm:Gr.Ends X.E m l') (hit:∀ x ∈ l',0 ≤ x.sym ∧ x.sym < 64)
    (IHt:∀ p,i < p → p + l'.length ≤ j → TreesIt X N sn i p) (IHp:∀ p,i < p → p + l'.length ≤ j → 0 < Gr.ways X.g (hitf X.tk) N l' p j → PartsIt X N m l' p j):PartsIt X N n (⟨0,(sn:Int)⟩ :: l') i j:=by
  intro H W0 hC0 hPB hH l nn J Jx M W hMlt hKn hsz hInv hJst hJxst hround hJ0;have hbox:∀ q o v,q < 4 → W0.cell? ⟨H + q,o,none⟩ = some v → W.cell? ⟨H + q,o,none⟩ = some v:=fun q o v hq h => (World.cell?_of_block (a:=⟨H + q,o,none⟩) (hKn (H + q) (.inr ⟨by omega,by omega⟩)).2).trans h
  obtain ⟨t0,t1,t2,t3,t4,t5,t6⟩:=hPB;rw [hen] at t3 t4 t5 t6;have hj30:j ≤ 40:=by have:=hX.tkl;omega
  have hCW:Cht X W:=hC0.keep hsz fun k hk => (hKn k (.inl hk)).2
  have hnew:=new_ne hInv;have hKM:∀ k,X.Kn k ∨ H ≤ k ∧ k < H + 4 → ¬ M k:=fun k hk => (hKn k hk).1
  have d0:W.cell? ⟨H,0,none⟩ = some (.pointer (some ⟨X.bc,0,none⟩)):=hbox 0 0 _ (by omega) t0;have d1:W.cell? ⟨H + 1,0,none⟩ = some (.int .i64 (i:Int)):=hbox 1 0 _ (by omega) t1;have d2:W.cell? ⟨H + 2,0,none⟩ = some (.int .i64 (j:Int)):=hbox 2 0 _ (by omega) t2;have d3:W.cell? ⟨H + 3,0,none⟩ = some (.int .u16 0):=hbox 3 0 _ (by omega) t3;have d4:W.cell? ⟨H + 3,1,none⟩ = some (.int .i64 (sn:Int)):=hbox 3 1 _ (by omega) t4;have d5:W.cell? ⟨H + 3,2,none⟩ = some (.int .i64 (m:Int)):=hbox 3 2 _ (by omega) t5;have d6:W.cell? ⟨H + 3,3,none⟩ = some (.int .i64 (K:Int)):=hbox 3 3 _ (by omega) t6;obtain ⟨W1,hW1⟩:∃ W1,W.alloc (.cells #[.func (.yield l) #[] #[]] 136) = W1:=⟨_,rfl⟩;have hB1:Below W.heap.size W W1:=by rw [← hW1];exact (Below.refl _ _).alloc (Nat.le_refl _) _
  have hlow:∀ q o v,q < 4 → W.cell? ⟨H + q,o,none⟩ = some v → W1.cell? ⟨H + q,o,none⟩ = some v:=fun q o v hq h => (hB1.cell (p:=⟨H + q,o,none⟩) (by have:=hH q hq;show H + q < _;omega)).trans h
  have c1:=hlow 1 0 _ (by omega) d1;have c3:=hlow 3 0 _ (by omega) d3;have c6:=hlow 3 3 _ (by omega) d6;have hyb:Kt.Blk W1 W.heap.size 136 #[.func (.yield l) #[] #[]]:=by rw [← hW1];exact Kt.Blk.new _ _ _
  have hs1:Hid (W1.heap.size = W.heap.size + 1):=Lib.hid (by rw [← hW1];simp);have hH3l:H + 3 < W.heap.size:=by have:=hH 3 (by omega);omega
  have HX:=Lib.hid hX;have HE:=Lib.hid hE;have HL:=Lib.hid hl;have hl1:l'.length + 1 ≤ 8:=by omega
  have hKb0:((K:Int) == 0) = false:=by simp;omega
  have HR:=Lib.hid hround;have HJ:=Lib.hid hJst;have HJX:=Lib.hid hJxst;have HK:=Lib.hid hKn;clear hround hJst hJxst hKn hbox hlow hX hE hl hen t0 t1 t2 t3 t4 t5 t6;refine callsIn_of_wp_marks Try.func61 rfl trivial ?_ rfl;simp only [Try.ntmps61,List.size_toArray,List.length_cons,List.length_nil,Nat.reduceAdd,Nat.reduceSub,Array.replicate_succ,Array.replicate_zero,List.push_toArray,List.append_toArray,List.nil_append,List.cons_append]
  gi_wp2_with fail
  obtain ⟨W2,hW2⟩:∃ W2,W1.alloc (.cells #[.int .i64 ((i:Int) + 1)] 3) = W2:=⟨_,rfl⟩;have hB2:Below W.heap.size W W2:=by rw [← hW2];exact hB1.alloc (by have:=hs1.out;omega) _
  have hmb0:Kt.Blk W2 W1.heap.size 3 #[.int .i64 ((i:Int) + 1)]:=by rw [← hW2];exact Kt.Blk.new _ _ _
  have hyb2:Kt.Blk W2 W.heap.size 136 #[.func (.yield l) #[] #[]]:=by rw [← hW2];exact hyb.alloc _
  have hch2:Ch0 X W W2:=Ch0.of_below hB2;have hst2:Kt.St W.heap.size X.b1 X.b2 M W W2:=⟨hch2.ext,fun k hk _ h1 h2 => hch2.same k hk (fun e => e) h1 h2⟩;have hJ2:=HJ.out _ _ _ _ hJ0 hst2;have hM2:=hInv.below hB2;obtain ⟨yb,hybe⟩:∃ yb,Hid (yb = W.heap.size):=⟨_,Lib.hid rfl⟩;obtain ⟨mb0,hmbe⟩:∃ mb0,Hid (mb0 = W1.heap.size):=⟨_,Lib.hid rfl⟩;rw [← hybe.out] at hyb2;rw [← hmbe.out] at hmb0;rw [hW2,← hybe.out,← hmbe.out];obtain ⟨nd1,nd2⟩:=hnew yb (by have:=hybe.out;omega);have hyM:¬ M yb:=fun e => by have:=hMlt _ e;have:=hybe.out;omega
  have hmM:¬ M mb0:=fun e => by have:=hMlt _ e;have:=hmbe.out;have:=hs1.out;omega
  have hymb:mb0 ≠ yb:=by have:=hybe.out;have:=hmbe.out;have:=hs1.out;omega
  have hmbW:W.heap.size ≤ mb0:=by have:=hmbe.out;have:=hs1.out;omega
  have hybW:W.heap.size ≤ yb:=by have:=hybe.out;omega
  clear hW2 hyb hJ0 hInv hB1 hB2 c1 c3 c6 hW1;obtain ⟨Q,hQ⟩:∃ Q,Hid (j - i - l'.length = Q):=⟨_,Lib.hid rfl⟩;have hQ2:i + K + Q = j + 1:=by have:=hQ.out;have:=HL.out;omega
  refine wpIn_loop (fun a w => ∃ (q mb:Nat) (u7 u8 u9 u10 u11 u12 u13 u14 u15 u16 u17 u18 u19 u20 u21 u22 u23 u24 u25 u26 u27 u28 u29 u30 u31 u32 u33 u34 u35 u36 u37 u38 u39 u40 u41 u42 u43 u44 u45 u46 u47 u48 u49 u50 u51 u52 u53 u54 u55 u56 u57 u58 u59 u60 u61 u62 u63 u64 u65 u66 u67 u68:Value) (ds:List Deferred) (M':Nat → Prop),q ≤ Q ∧ a = parFr l H yb mb u7 u8 u9 u10 u11 u12 u13 u14 u15 u16 u17 u18 u19 u20 u21 u22 u23 u24 u25 u26 u27 u28 u29 u30 u31 u32 u33 u34 u35 u36 u37 u38 u39 u40 u41 u42 u43 u44 u45 u46 u47 u48 u49 u50 u51 u52 u53 u54 u55 u56 u57 u58 u59 u60 u61 u62 u63 u64 u65 u66 u67 u68 ds ∧
      Hid (ParS X N l J M W yb (doneM X N sn l' i j q) M' w ds ∧ W.heap.size ≤ mb ∧ mb ≠ yb ∧ ¬ M' mb ∧ Kt.Blk w mb 3 #[.int .i64 ((i + 1 + q:Nat):Int)]))
    (fun a w => j + 1 - (intOf ((w.cell? (ptrOf (a.tmps.getD 6 undef))).getD undef)).toNat) ?start ?round
  case start =>
    exact ⟨0,mb0,_,_,_,_,_,_,_,_,_,_,_,_,_,_,_,_,_,_,_,_,_,_,_,_,_,_,_,_,_,_,_,_,_,_,_,_,_,_,_,_,_,_,_,_,_,_,_,_,_,_,_,_,_,_,_,_,_,_,_,_,_,_,[],M,Nat.zero_le _,rfl,Lib.hid ⟨⟨hJ2,hM2,hch2.more (fun _ e => e.elim),⟨fun k hk => .inl hk,fun k hk => Nat.lt_of_lt_of_le (hMlt k hk) hch2.ext.size⟩,hyM,hyb2,Kt.Marks.nil _⟩,hmbW,hymb,hmM,hmb0⟩⟩
  case round =>
    rintro a w ⟨q,mb,u7,u8,u9,u10,u11,u12,u13,u14,u15,u16,u17,u18,u19,u20,u21,u22,u23,u24,u25,u26,u27,u28,u29,u30,u31,u32,u33,u34,u35,u36,u37,u38,u39,u40,u41,u42,u43,u44,u45,u46,u47,u48,u49,u50,u51,u52,u53,u54,u55,u56,u57,u58,u59,u60,u61,u62,u63,u64,u65,u66,u67,u68,ds,M',hq,rfl,hst⟩;obtain ⟨hP,hmW,hmy,hmM',hmb⟩:=hst.out;have hch:=hP.ch;unfold parFr;have hws:=hch.ext.size;have hCw:Cht X w:=hCW.keep hws (fun q hq => hch.same q (hCW.lt q hq) (hKM q (.inl hq)) (hCW.ne1 q hq) (hCW.ne2 q hq));have hbx:∀ q o v,q < 4 → W.cell? ⟨H + q,o,none⟩ = some v → w.cell? ⟨H + q,o,none⟩ = some v:=fun q o v hq h => (World.cell?_of_block (a:=⟨H + q,o,none⟩) (hch.same (H + q) (by have:=hH q hq;omega) (hKM _ (.inr ⟨by omega,by omega⟩)) (hH q hq).1 (hH q hq).2.1)).trans h
    have b0:w.cell? ⟨H,0,none⟩ = some (.pointer (some ⟨X.bc,0,none⟩)):=hbx 0 0 _ (by omega) d0;have b2:=hbx 2 0 _ (by omega) d2;have b4:=hbx 3 1 _ (by omega) d4;have b5:=hbx 3 2 _ (by omega) d5;have b6:=hbx 3 3 _ (by omega) d6;have b1:=hbx 1 0 _ (by omega) d1;have hmc:w.cell? ⟨mb,0,none⟩ = some (.int .i64 ((i + 1 + q:Nat):Int)):=hmb.cell 0;obtain ⟨p,hp⟩:∃ p,Hid (i + 1 + q = p):=⟨_,Lib.hid rfl⟩;have hp0:=hp.out;rw [hp0] at hmc;by_cases hlt:q < Q
    · have hp1:i < p:=by omega
      have hqj:q < j - i:=by have:=HL.out;omega
      have hp2:p + K ≤ j + 1:=by omega
      clear hp0;have hKl:=HL.out;have HREST:=Lib.hid (rest_any (N:=N) HX.out HE.out m l' p j hm hit (by omega) (by omega) hj (by omega) M' w hCw hP.mem hP.sub.lt);have hmbn:=hnew mb hmW;have hmbl:=hmb.lt
      gi_wp2_with fail
      refine (Kt.calls_wd HREST.out).mono ?_;rintro e w3 ⟨hch3,hm3,rv,rfl,hv3⟩;obtain ⟨wz,hwz⟩:∃ wz,Hid (Gr.ways X.g (hitf X.tk) N l' p j = wz):=⟨_,Lib.hid rfl⟩;rw [hwz.out] at hv3;obtain ⟨Ar,cr',rfl,_⟩:=hv3;obtain ⟨LN,hLN⟩:∃ LN,Hid ((Nt.limbs wz).length = LN):=⟨_,Lib.hid rfl⟩;rw [hLN.out];have hP3:=hP.own HJ.out hch3 hm3 nd1 nd2;have hmb3:Kt.Blk w3 mb 3 #[.int .i64 (p:Int)]:=by
        have:=hmb;rw [hp.out] at this;exact (hch3.same mb hmbl (fun e => e) hmbn.1 hmbn.2).trans this
      have HP3:=Lib.hid hP3;have HMB3:=Lib.hid hmb3;have hmc3:w3.cell? ⟨mb,0,none⟩ = some (.int .i64 (p:Int)):=hmb3.cell 0;have hc3:∀ a o v,a < w.heap.size → a ≠ X.b1 → a ≠ X.b2 → w.cell? ⟨a,o,none⟩ = some v → w3.cell? ⟨a,o,none⟩ = some v:=fun a o v h1 h2 h3 h => (World.cell?_of_block (a:=⟨a,o,none⟩) (hch3.same a h1 (fun e => e) h2 h3)).trans h
      have hw3s:=hch3.ext.size;have hC3:Cht X w3:=hCw.on hch3;have HMC:=Lib.hid hmc;clear hP hm3 hP3 hmb3 hmb hmc;by_cases hz:LN = 0
      · have hzb:((LN:Int) == 0) = true:=by simp [hz]
        have hw0:wz = 0:=(Nt.len_zero_iff wz).1 (by rw [hLN.out];exact hz);have hnil:Gr.parts (hitf X.tk) (Gr.D X.g (hitf X.tk) N) l' p j = []:=List.eq_nil_of_length_eq_zero (by
          have:=hwz.out;unfold Gr.ways at this;rw [this];exact hw0)
        have hdone:doneM X N sn l' i j (q + 1) = doneM X N sn l' i j q:=by
          rw [doneM_succ,hp.out];unfold oneM;rw [hnil];simp
        obtain ⟨hnb1,hnb2⟩:=next_box (w:=w3) p;have HN:Hid (ParS X N l J M W yb (doneM X N sn l' i j (q + 1)) M' (w3.alloc (.cells #[.int .i64 ((p:Int) + 1)] 3)) ds):=Lib.hid (by rw [hdone];exact HP3.out.below HJ.out hnb1 nd1 nd2);have HB:Hid (W.heap.size ≤ w3.heap.size ∧ w3.heap.size ≠ yb ∧ ¬ M' w3.heap.size ∧ Kt.Blk (w3.alloc (.cells #[.int .i64 ((p:Int) + 1)] 3)) w3.heap.size 3 #[.int .i64 ((i + 1 + (q + 1):Nat):Int)]):=Lib.hid ⟨by omega,by have:=HP3.out.yb.lt;omega,fun e => by have:=HP3.out.sub.lt _ e;omega,by
          have e1:((i + 1 + (q + 1):Nat):Int) = (p:Int) + 1:=by have:=hp.out;omega
          rw [e1];exact hnb2⟩
        have HM:Hid (∀ x,x = .int .i64 ((p:Int) + 1) → j + 1 - (intOf x).toNat < j + 1 - p):=Lib.hid (by rintro x rfl;simp [intOf];omega);clear hz hnil hdone hnb1 hnb2
        gi_wp2_with fail
        exact ⟨⟨q + 1,w3.heap.size,_,_,_,_,_,_,_,_,_,_,_,_,_,_,_,_,_,_,_,_,_,_,_,_,_,_,_,_,_,_,_,_,_,_,_,_,_,_,_,_,_,_,_,_,_,_,_,_,_,_,_,_,_,_,_,_,_,_,_,_,_,_,ds,M',by omega,rfl,Lib.hid ⟨HN.out,HB.out⟩⟩,by
          have e1:(w3.alloc (.cells #[.int .i64 ((p:Int) + 1)] 3)).cell? ⟨w3.heap.size,0,none⟩ = some (.int .i64 ((p:Int) + 1)):=(Kt.Blk.new _ _ _).cell 0;show j + 1 - (intOf (((w3.alloc (.cells #[.int .i64 ((p:Int) + 1)] 3)).cell? ⟨w3.heap.size,0,none⟩).getD undef)).toNat < j + 1 - (intOf ((w.cell? ⟨mb,0,none⟩).getD undef)).toNat;rw [e1,HMC.out];simp [intOf];omega⟩
      · have hzb:((LN:Int) == 0) = false:=by simp;omega
        have hwp:0 < Gr.ways X.g (hitf X.tk) N l' p j:=by
          rw [hwz.out];rcases Nat.eq_zero_or_pos wz with e | e
          · exfalso;apply hz;rw [← hLN.out,e];exact (Nt.len_zero_iff 0).2 rfl
          · exact e
        have hHq:=hH 0 (by omega);have hHq1:=hH 1 (by omega);have hHq2:=hH 2 (by omega);have hHq3:=hH 3 (by omega);have y0:=hc3 H 0 _ (by omega) hHq.1 hHq.2.1 b0;have y1:=hc3 (H + 1) 0 _ (by omega) hHq1.1 hHq1.2.1 b1;have y2:=hc3 (H + 2) 0 _ (by omega) hHq2.1 hHq2.2.1 b2;have y4:=hc3 (H + 3) 1 _ (by omega) hHq3.1 hHq3.2.1 b4;have y5:=hc3 (H + 3) 2 _ (by omega) hHq3.1 hHq3.2.1 b5;clear hz hc3 b0 b1 b2 b4 b5 b6 hbx
        gi_wp2_with fail
        refine (Kt.calls_wd (trees_mk X sn i p w3)).mono ?_;rintro e w4 ⟨rfl,hb4,htb,hs4⟩;have HP4:=Lib.hid (HP3.out.below HJ.out hb4 nd1 nd2);have hmb4:Kt.Blk w4 mb 3 #[.int .i64 (p:Int)]:=HMB3.out.on hb4;have HMB4:=Lib.hid hmb4;have hC4:Cht X w4:=hC3.on (Ch0.of_below hb4);have hc4:∀ a o v,a < w3.heap.size → w3.cell? ⟨a,o,none⟩ = some v → w4.cell? ⟨a,o,none⟩ = some v:=fun a o v ha h => (hb4.cell (p:=⟨a,o,none⟩) ha).trans h
        have z0:=hc4 H 0 _ (by omega) y0;have z1:=hc4 (H + 1) 0 _ (by omega) y1;have z2:=hc4 (H + 2) 0 _ (by omega) y2;have z5:=hc4 (H + 3) 2 _ (by omega) y5;have h34:=hb4.size;have hMK:∀ q,X.Kn q ∨ H ≤ q ∧ q < H + 4 → ¬ M' q:=fun q hq e => by
          rcases HP4.out.sub.old q e with e | e
          · exact hKM q hq e
          · rcases hq with hq | hq
            · have:=hCW.lt q hq;omega
            · omega
        have hbb1:X.b1 < w4.heap.size:=up_lt HP4.out.mem HP4.out.sub.lt X.b1 (.inr (.inl rfl));have hbb2:X.b2 < w4.heap.size:=up_lt HP4.out.mem HP4.out.sub.lt X.b2 (.inr (.inr rfl));have HITR:=IHt p hp1 (by omega) w3.heap.size w4 hC4 htb (fun q hq => ⟨(hnew _ (by omega)).1,(hnew _ (by omega)).2,by omega⟩);clear y0 y1 y2 y4 y5 hc4 hmb4
        gi_wp2_with fail
        refine Kt.range_outer (B:=W.heap.size) (b1:=X.b1) (b2:=X.b2) (M0:=M') (w0:=w4) rfl rfl rfl trivial (enters_of Try.func49 (by kernel_rfl) rfl) HITR hbb1 hbb2 (by omega) (Nat.le_refl _) HP4.out.sub.lt
          (fun q hq => ⟨by
            rcases hq with hq | hq
            · exact hC4.lt q hq
            · omega,by
            rcases hq with hq | hq
            · exact hMK q (.inl hq)
            · intro e;have:=HP3.out.sub.lt q e;omega,rfl⟩) HP4.out.mem (fun M W W' h hk => h.inS hk) (fun M W l r h hl => h.loop hl) (fun M M' W h hM => h.less hM)
          (fun pre M w => J (doneM X N sn l' i j q ++ pre.flatMap fun a => (Gr.parts (hitf X.tk) (Gr.D X.g (hitf X.tk) N) l' p j).map (a :: ·)) M w)
          (fun c _ M w => c = .ret ∧ ∃ L,L <+: Gr.parts (hitf X.tk) (Gr.D X.g (hitf X.tk) N) (⟨0,(sn:Int)⟩ :: l') i j ∧ Jx L M w)
          (fun pre M W1 W2 h1 h2 => HJ.out _ _ _ _ h1 h2) (fun c pre M W1 W2 h1 h2 => ⟨h1.1,by obtain ⟨L,h3,h4⟩:=h1.2;exact ⟨L,h3,HJX.out _ _ _ _ h4 h2⟩⟩) (by rw [List.flatMap_nil,List.append_nil];exact HP4.out.j) ?hround ?hd ?hs
        case hround =>
          intro l2 pre x v M1 Wr hl2 hI1 hInv1 hCh1 hSub1 hMl hrec hpre henc;obtain ⟨a0,a1,a2,A4,n4,c4,hve⟩:=tv_form (show Kt.TV _ _ _ _ from henc);subst hve;refine ⟨fun a' W' => (∃ (u8 u9 u10 u11 u12 u13 u14 u15 u16 u17 u18 u19 u20 u21 u22 u23 u24 u25 u26 u27 u28 u29 u30 u31 u32 u33 u34 u35 u36 u37 u38 u39 u40 u41 u42 u43 u44 u45 u46 u47 u48 u49 u50 u51 u52 u53 u54 u55 u56 u57 u58 u59 u60 u61 u62 u63 u64 u65 u66 u67 u68:Value),a' = parFr l H yb mb (.pointer (some ⟨Wr.heap.size,0,none⟩)) u8 u9 u10 u11 u12 u13 u14 u15 u16 u17 u18 u19 u20 u21 u22 u23 u24 u25 u26 u27 u28 u29 u30 u31 u32 u33 u34 u35 u36 u37 u38 u39 u40 u41 u42 u43 u44 u45 u46 u47 u48 u49 u50 u51 u52 u53 u54 u55 u56 u57 u58 u59 u60 u61 u62 u63 u64 u65 u66 u67 u68 []) ∧ W' = Wr.alloc (.cells #[.int .i64 a0,.int .i64 a1,.int .i64 a2,.slice A4 n4 c4] 57),?_,?_⟩
          · intro K hK
            change Code.wpIn (Kt.Wd (some l2)) _ _ _ _ _ _
            gi_wp2_with fail
            refine hK _ _ ?_ (fun k hk => Below.heap_alloc _ _ _ hk) ⟨⟨_,_,_,_,_,_,_,_,_,_,_,_,_,_,_,_,_,_,_,_,_,_,_,_,_,_,_,_,_,_,_,_,_,_,_,_,_,_,_,_,_,_,_,_,_,_,_,_,_,_,_,_,_,_,_,_,_,_,_,_,_,rfl⟩,rfl⟩;exact ⟨rfl,rfl,rfl,by simp⟩
          · rintro a' Wa Wb ⟨⟨u8,u9,u10,u11,u12,u13,u14,u15,u16,u17,u18,u19,u20,u21,u22,u23,u24,u25,u26,u27,u28,u29,u30,u31,u32,u33,u34,u35,u36,u37,u38,u39,u40,u41,u42,u43,u44,u45,u46,u47,u48,u49,u50,u51,u52,u53,u54,u55,u56,u57,u58,u59,u60,u61,u62,u63,u64,u65,u66,u67,u68,rfl⟩,hWa⟩ hext hszb hsame hrec2 hle;obtain ⟨tb,htb⟩:∃ tb,Hid (tb = Wr.heap.size):=⟨_,Lib.hid rfl⟩;rw [← htb.out];have hwa:=hCh1.ext.size;have hWas:Wa.heap.size = Wr.heap.size + 1:=by rw [hWa];simp
            have hl2r:l2 < Wr.heap.size:=by
              obtain ⟨r',h⟩:=hrec;exact (Array.getElem?_eq_some_iff.1 h).1
            have hsame2:∀ k,k < Wr.heap.size → k ≠ l2 → Wb.heap[k]? = Wr.heap[k]?:=fun k hk hn => (hsame k hn).trans (by rw [hWa];exact Below.heap_alloc _ _ _ hk)
            have htbk:Kt.Blk Wb tb 57 #[.int .i64 a0,.int .i64 a1,.int .i64 a2,.slice A4 n4 c4]:=(hsame tb (by have:=htb.out;omega)).trans (by rw [hWa,htb.out];exact Kt.Blk.new _ _ _);have hk1:∀ q,q < w4.heap.size → ¬ M' q → q ≠ X.b1 → q ≠ X.b2 → Wb.heap[q]? = w4.heap[q]?:=fun q hq hn h1 h2 => (hsame2 q (by omega) (by omega)).trans (hCh1.same q hq hn h1 h2)
            have hck:∀ a o v,a < w4.heap.size → ¬ M' a → a ≠ X.b1 → a ≠ X.b2 → w4.cell? ⟨a,o,none⟩ = some v → Wb.cell? ⟨a,o,none⟩ = some v:=fun a o v h1 h2 h3 h4 h => (World.cell?_of_block (a:=⟨a,o,none⟩) (hk1 a h1 h2 h3 h4)).trans h
            have v0:=hck H 0 _ (by omega) (hMK _ (.inr ⟨by omega,by omega⟩)) hHq.1 hHq.2.1 z0;have v2:=hck (H + 2) 0 _ (by omega) (hMK _ (.inr ⟨by omega,by omega⟩)) hHq2.1 hHq2.2.1 z2;have v5:=hck (H + 3) 2 _ (by omega) (hMK _ (.inr ⟨by omega,by omega⟩)) hHq3.1 hHq3.2.1 z5;have vm:=hck mb 0 _ (by omega) hmM' hmbn.1 hmbn.2 (HMB4.out.cell 0);have vy:Kt.Blk Wb yb 136 #[.func (.yield l) #[] #[]]:=(hk1 yb HP4.out.yb.lt HP4.out.ny nd1 nd2).trans HP4.out.yb;replace vm:Wb.cell? ⟨mb,0,none⟩ = some (.int .i64 (p:Int)):=vm;have hCb:Cht X Wb:=hC4.keep (by omega) (fun q hq => hk1 q (hC4.lt q hq) (hMK q (.inl hq)) (hCW.ne1 q hq) (hCW.ne2 q hq));have hst5:Kt.St W.heap.size X.b1 X.b2 M1 Wr Wb:=⟨⟨by rw [hext.os,hWa];rfl,by rw [hext.tape,hWa];rfl,by rw [hext.output,hWa];rfl,by omega⟩,fun q hq hm _ _ => hsame2 q hq (by
              rintro rfl;rcases hm with h | h
              · exact hMl h
              · omega)⟩
            have HJ5:=Lib.hid (HJ.out _ _ _ _ hI1 hst5);obtain ⟨rl,hrl⟩:=hrec;have HM5:Memo X N M1 Wb:=((hInv1.loop hrl).inS (fun q hq hn => hsame2 q hq (fun e => hn (.inr e)))).less (fun q hq => .inl hq);have HT5:Hid (Kt.TV Wb (up X M1) x (.agg #[.int .i64 a0,.int .i64 a1,.int .i64 a2,.slice A4 n4 c4])):=Lib.hid (tv_round henc hsame2);have hM5lt:∀ q,M1 q → q < Wb.heap.size:=fun q hq => by have:=hSub1.lt q hq;omega
            have hM1n:∀ q,q < w4.heap.size → ¬ M' q → ¬ M1 q:=fun q hq hn e => by
              rcases hSub1.old q e with e | e
              · exact hn e
              · omega
            have hmE:m < X.E.length:=hn;have hext':Wb.heap.size = Wr.heap.size + 1:=by omega
            change Code.wpIn (Kt.Wd (some l2)) _ _ _ _ _ _
            clear hI1 hInv1 henc hst5 hck hWa hsame hext;unfold parFr
            gi_wp2_with fail
            refine (Kt.calls_wd (parts_mk X m p j Wb hCb hmE)).mono ?_;rintro e w6 ⟨rfl,hb6,hpb6,hs6⟩;have h56:=hb6.size;have hC6:Cht X w6:=hCb.on (Ch0.of_below hb6);have hM6:Memo X N M1 w6:=HM5.below hb6;have hst6:Kt.St W.heap.size X.b1 X.b2 M1 Wb w6:=⟨(Ch0.of_below (X:=X) hb6).ext,fun k hk _ _ _ => hb6.block k hk⟩;have HJ6:=HJ.out _ _ _ _ HJ5.out hst6;obtain ⟨rl6,hrl6⟩:∃ r',w6.heap[l2]? = some (.loop r'):=by
              obtain ⟨r',h⟩:=hrec2;exact ⟨r',(hb6.block l2 (Array.getElem?_eq_some_iff.1 h).1).trans h⟩
            have HITP:=IHp p hp1 (by omega) hwp Wb.heap.size w6 hC6 hpb6 (fun q hq => ⟨(hnew _ (by omega)).1,(hnew _ (by omega)).2,by omega⟩);have HT6:Hid (Kt.TV w6 (up X M1) x (.agg #[.int .i64 a0,.int .i64 a1,.int .i64 a2,.slice A4 n4 c4])):=Lib.hid (HT5.out.keep fun k hk _ => hb6.block k hk);have htb6:=htbk.on hb6;have hyb6:=vy.on hb6;have htM:¬ M1 tb:=fun e => by have:=hSub1.lt _ e;have:=htb.out;omega
            have hyM1:¬ M1 yb:=hM1n yb HP4.out.yb.lt HP4.out.ny;have htbn:=hnew tb (by have:=htb.out;omega);have htbl:tb < Wb.heap.size:=htbk.lt;have hM6lt:∀ q,M1 q → q < w6.heap.size:=fun q hq => by have:=hM5lt q hq;omega
            have hch56:Kt.Ch X.b1 X.b2 M1 Wb w6:=(Ch0.of_below (X:=X) hb6).more (fun _ e => e.elim);clear v0 v2 v5 vm HJ5 HM5 HT5 hrec2
            gi_wp2_with fail
            rw [hext'] at HITP;refine Kt.range_inner (l₀:=l2) (B:=W.heap.size) (b1:=X.b1) (b2:=X.b2) (M0:=M1) (w0:=w6) rfl hrl6 rfl rfl (by rw [Kt.wd_fn];exact True.intro) (enters_of Try.func61 (by kernel_rfl) rfl) (iter_wd (some l2) HITP) (by omega) (by omega) (by omega) (Nat.le_refl _) hM6lt
              (fun q hq => ⟨by
                rcases hq with hq | hq
                · exact hC6.lt q hq
                · omega,by
                rcases hq with hq | hq
                · exact hM1n q (hC4.lt q hq) (hMK q (.inl hq))
                · intro e;have:=hM5lt q e;omega,rfl⟩) hM6 (fun M W W' h hk => h.inS hk) (fun M W l r h hl => h.loop hl) (fun M M' W h hM => h.less hM)
              (fun pre2 M w => J ((doneM X N sn l' i j q ++ pre.flatMap fun a => (Gr.parts (hitf X.tk) (Gr.D X.g (hitf X.tk) N) l' p j).map (a :: ·)) ++ pre2.map (x :: ·)) M w)
              (fun c _ M w => c = .ret ∧ ∃ L,L <+: Gr.parts (hitf X.tk) (Gr.D X.g (hitf X.tk) N) (⟨0,(sn:Int)⟩ :: l') i j ∧ Jx L M w)
              (fun pre M W1 W2 h1 h2 => HJ.out _ _ _ _ h1 h2) (fun c pre M W1 W2 h1 h2 => ⟨h1.1,by obtain ⟨L,h3,h4⟩:=h1.2;exact ⟨L,h3,HJX.out _ _ _ _ h4 h2⟩⟩) (by rw [List.map_nil,List.append_nil];exact HJ6) ?hround2 ?hd2 ?hs2
            case hd2 =>
              intro M2 w7 hI2 hInv2 hCh2 hSub2;have HI2:Hid (J (doneM X N sn l' i j q ++ (pre ++ [x]).flatMap fun a => (Gr.parts (hitf X.tk) (Gr.D X.g (hitf X.tk) N) l' p j).map (a :: ·)) M2 w7):=Lib.hid (by
                rw [List.flatMap_append,List.flatMap_singleton,← List.append_assoc];exact hI2)
              have HV2:=Lib.hid hInv2;have HC2:=Lib.hid (Kt.Ch.trans hch56 hCh2 (fun _ e => .inl e));have HS2:Hid (Kt.Sub M1 Wb M2 w7):=Lib.hid ⟨fun q hq => by
                rcases hSub2.old q hq with e | e
                · exact .inl e
                · exact .inr (by omega),hSub2.lt⟩
              clear hI2 hInv2 hCh2 hSub2
              gi_wp2_with fail
              exact ⟨M2,HV2.out,HC2.out,HS2.out,HI2.out⟩
            case hs2 =>
              intro cx pre2 M2 w7 hpre2 hIx2 hInv2 hCh2 hSub2;obtain ⟨rfl,L,hL1,hL2⟩:=hIx2;have HI2:=Lib.hid hL2;have HV2:=Lib.hid hInv2;have HC2:=Lib.hid (Kt.Ch.trans hch56 hCh2 (fun _ e => .inl e));have HS2:Hid (Kt.Sub M1 Wb M2 w7):=Lib.hid ⟨fun q hq => by
                rcases hSub2.old q hq with e | e
                · exact .inl e
                · exact .inr (by omega),hSub2.lt⟩
              clear hInv2 hCh2 hSub2 hL2
              gi_wp2_with fail
              exact ⟨M2,HV2.out,HC2.out,HS2.out,rfl,L,hL1,HI2.out⟩
            case hround2 =>
              intro l3 pre2 y vy2 M3 W3 hl3 hI3 hInv3 hCh3 hSub3 hMl3 hrec3 hpre3 henc3;refine ⟨fun a' W' => (∃ (u9 u10 u11 u12 u13 u14 u15 u16 u17 u18 u19 u20 u21 u22 u23 u24 u25 u26 u27 u28 u29 u30 u31 u32 u33 u34 u35 u36 u37 u38 u39 u40 u41 u42 u43 u44 u45 u46 u47 u48 u49 u50 u51 u52 u53 u54 u55 u56 u57 u58 u59 u60 u61 u62 u63 u64 u65 u66 u67 u68:Value),a' = parFr l H yb mb (.pointer (some ⟨tb,0,none⟩)) vy2 u9 u10 u11 u12 u13 u14 u15 u16 u17 u18 u19 u20 u21 u22 u23 u24 u25 u26 u27 u28 u29 u30 u31 u32 u33 u34 u35 u36 u37 u38 u39 u40 u41 u42 u43 u44 u45 u46 u47 u48 u49 u50 u51 u52 u53 u54 u55 u56 u57 u58 u59 u60 u61 u62 u63 u64 u65 u66 u67 u68 []) ∧ W' = W3,?_,?_⟩
              · intro K hK
                change Code.wpIn (Kt.Wd (some l3)) _ _ _ _ _ _
                gi_wp2_with fail
                exact hK _ _ (Kt.Ext.refl _) (fun _ _ => rfl) ⟨⟨_,_,_,_,_,_,_,_,_,_,_,_,_,_,_,_,_,_,_,_,_,_,_,_,_,_,_,_,_,_,_,_,_,_,_,_,_,_,_,_,_,_,_,_,_,_,_,_,_,_,_,_,_,_,_,_,_,_,_,_,rfl⟩,rfl⟩
              · rintro a' Wc Wd ⟨⟨u9,u10,u11,u12,u13,u14,u15,u16,u17,u18,u19,u20,u21,u22,u23,u24,u25,u26,u27,u28,u29,u30,u31,u32,u33,u34,u35,u36,u37,u38,u39,u40,u41,u42,u43,u44,u45,u46,u47,u48,u49,u50,u51,u52,u53,u54,u55,u56,u57,u58,u59,u60,u61,u62,u63,u64,u65,u66,u67,u68,rfl⟩,rfl⟩ hext3 hsz3 hsame3 hrec4 hle3;have h6c:=hCh3.ext.size;have hk6:∀ k,k < w6.heap.size → ¬ M1 k → k ≠ X.b1 → k ≠ X.b2 → Wd.heap[k]? = w6.heap[k]?:=fun k hk hn h1 h2 => (hsame3 k (by omega)).trans (hCh3.same k hk hn h1 h2)
                have hyb7:Kt.Blk Wd yb 136 #[.func (.yield l) #[] #[]]:=(hk6 yb hyb6.lt hyM1 nd1 nd2).trans hyb6;have htb7:Kt.Blk Wd tb 57 #[.int .i64 a0,.int .i64 a1,.int .i64 a2,.slice A4 n4 c4]:=(hk6 tb htb6.lt htM htbn.1 htbn.2).trans htb6;have HT7:Kt.TV Wd (up X M3) x (.agg #[.int .i64 a0,.int .i64 a1,.int .i64 a2,.slice A4 n4 c4]):=tv_on HT6.out hk6 hSub3.old;have HY7:Kt.LV Wd (up X M3) y vy2:=lv_round henc3 (fun k _ hn => hsame3 k hn);have hst7:Kt.St W.heap.size X.b1 X.b2 M3 Wc Wd:=⟨hext3,fun q hq hm _ _ => hsame3 q (by
                  rintro rfl;rcases hm with h | h
                  · exact hMl3 h
                  · omega)⟩
                have HJ7:=HJ.out _ _ _ _ hI3 hst7;obtain ⟨rl3,hrl3⟩:=hrec3;have HM7:Memo X N M3 Wd:=((hInv3.loop hrl3).inS (fun q hq hn => hsame3 q (fun e => hn (.inr e)))).less (fun q hq => .inl hq);have hM7lt:∀ q,M3 q → q < Wd.heap.size:=fun q hq => by have:=hSub3.lt q hq;omega
                have hylen:y.length ≤ 100:=by
                  have h1:y ∈ Gr.parts (hitf X.tk) (Gr.D X.g (hitf X.tk) N) l' p j:=hpre3.subset (by simp);have:=parts_len _ _ _ _ _ y h1;omega
                have hpr:=doneM_pre2 (X:=X) (N:=N) (sn:=sn) (l:=l') (i:=i) (j:=j) (q:=q) (pre:=pre) (a:=x) hqj (by rw [hp.out];exact hpre) (pre2:=pre2 ++ [y]) (by rw [hp.out];exact hpre3);rw [hp.out,List.map_append,← List.append_assoc] at hpr;have hup7:=up_lt HM7 hM7lt
                change Code.wpIn (Kt.Wd (some l3)) _ _ _ _ _ _
                clear hI3 hInv3 henc3 hst7;unfold parFr;have HYL:=Lib.hid hylen;have HPR:=Lib.hid hpr;have HTT:=Lib.hid HT7;have HYY:=Lib.hid HY7;clear hylen hpr HT7 HY7
                gi_wp2_with fail
                refine Kt.region_invIn (YI ⟨_,Wd,up X M3,x,y,.func (.yield l) #[] #[],.agg #[.int .i64 a0,.int .i64 a1,.int .i64 a2,.slice A4 n4 c4],#[.int .i64 a0,.int .i64 a1,.int .i64 a2,.slice A4 n4 c4],vy2,fun b w => ∃ M4,Memo X N M4 w ∧ Kt.Ch X.b1 X.b2 M3 Wd w ∧ Kt.Sub M3 Wd M4 w ∧
                  ((b = true ∧ J (((doneM X N sn l' i j q ++ pre.flatMap fun a => (Gr.parts (hitf X.tk) (Gr.D X.g (hitf X.tk) N) l' p j).map (a :: ·)) ++ pre2.map (x :: ·)) ++ [x :: y]) M4 w) ∨ (b = false ∧ Jx (((doneM X N sn l' i j q ++ pre.flatMap fun a => (Gr.parts (hitf X.tk) (Gr.D X.g (hitf X.tk) N) l' p j).map (a :: ·)) ++ pre2.map (x :: ·)) ++ [x :: y]) M4 w))⟩) (by kernel_rfl) ?hg YI.start ?hstep ?hdone
                case hg =>
                  intro q o ho;rcases q with _ | _ | _ | _ | _ | _ | _ | q
                  all_goals first | (cases Option.some.inj ho;rfl) | (exfalso;simp at ho)
                case hstep =>
                  intro listed act w2 qq o hI ho hn hpre9;rcases qq with _ | _ | _ | _ | _ | _ | _ | qq
                  · cases Option.some.inj ho;refine Kt.opIn_of_op (fun c => by simp) ?_;have hb:=hI.below (hI.no5 (i:=0) (by decide) hn);have f5:act.tmps[5]?.getD undef = .pointer (some ⟨yb,0,none⟩):=(Kt.val_get act 5).symm.trans (hI.frame.val_out (s:=5) (show 5 ∉ yrS by decide));have cy:w2.cell? ⟨yb,0,none⟩ = some (.func (.yield l) #[] #[]):=(hyb7.on hb).cell 0;have hk:=hI.s0 (Nat.le_of_ble_eq_true rfl) hn;refine Kt.op_opq hk ?_;clear hk;intro KK hkk;unfold Oper.wp;go_simp;exact hkk
                  · cases Option.some.inj ho;refine Kt.opIn_of_op (fun c => by simp) ?_;have hb:=hI.below (hI.no5 (i:=1) (by decide) hn);have f7:act.tmps[7]?.getD undef = .pointer (some ⟨tb,0,none⟩):=(Kt.val_get act 7).symm.trans (hI.frame.val_out (s:=7) (show 7 ∉ yrS by decide));have ct:=htb7.on hb;have ct0:w2.cell? ⟨tb,0,none⟩ = some (.int .i64 a0):=ct.cell 0;have ct1:w2.cell? ⟨tb,1,none⟩ = some (.int .i64 a1):=ct.cell 1;have ct2:w2.cell? ⟨tb,2,none⟩ = some (.int .i64 a2):=ct.cell 2;have ct3:w2.cell? ⟨tb,3,none⟩ = some (.slice A4 n4 c4):=ct.cell 3;have hk:=hI.s1 (Nat.le_of_ble_eq_true rfl) hn;refine Kt.op_opq hk ?_;clear hk ct;intro KK hkk;unfold Oper.wp;go_simp;exact hkk
                  · cases Option.some.inj ho;refine Kt.opIn_of_op (fun c => by simp) ?_;have h1:=hpre9 ⟨1,.data⟩ (by simp) rfl;have e1:act.tmps[62]?.getD undef = .agg #[.int .i64 a0,.int .i64 a1,.int .i64 a2,.slice A4 n4 c4]:=(Kt.val_get act 62).symm.trans (hI.p1 h1);have hk:=hI.s2 (Nat.le_of_ble_eq_true rfl) hn h1;obtain rfl:w2 = Wd.drew:=hI.w0 (Kt.getD_no hn);refine Kt.op_opq hk ?_;clear hk;intro KK hkk;unfold Oper.wp;clear hsz3;go_simp;exact hkk
                  · cases Option.some.inj ho;refine Kt.opIn_of_op (fun c => by simp) ?_;refine Kt.op_move rfl ?_;rw [show act.eval (.tmp 8) = vy2 from hI.frame.val_out (s:=8) (show 8 ∉ yrS by decide)];exact hI.s3 (Nat.le_of_ble_eq_true rfl) hn
                  · cases Option.some.inj ho;refine Kt.opIn_of_op (fun c => by simp) ?_;have h2:=hpre9 ⟨2,.data⟩ (by simp) rfl;have h3:=hpre9 ⟨3,.data⟩ (by simp) rfl;obtain ⟨g1,g2⟩:=hI.w2 h2 (Kt.getD_no hn);have hdr:Below Wd.heap.size Wd (Wd.drew.alloc (.cells #[.int .i64 a0,.int .i64 a1,.int .i64 a2,.slice A4 n4 c4] 57)):=(show Below Wd.heap.size Wd Wd.drew from ⟨rfl,rfl,rfl,Nat.le_refl _,fun _ _ => rfl⟩).alloc (Nat.le_refl _) _;have hdz:(Wd.drew.alloc (.cells #[.int .i64 a0,.int .i64 a1,.int .i64 a2,.slice A4 n4 c4] 57)).heap.size = Wd.heap.size + 1:=World.size_alloc _ _;obtain ⟨va,wa,hrun,hlv,hbel⟩:=append_tree 49 (Kt.Blk.new Wd.drew 57 #[.int .i64 a0,.int .i64 a1,.int .i64 a2,.slice A4 n4 c4]) (M:=up X M3) (fun e => by have:=hup7 _ e;exact absurd this (Nat.lt_irrefl _)) (HTT.out.keep fun k hk _ => hdr.block k hk) (HYY.out.keep fun k hk _ => hdr.block k hk) HYL.out (fun k hk => by have:=hup7 k hk;omega);refine op_append rfl g2 (hI.p3 h3) (by rw [g1];exact hrun) ?_;exact hI.s4 (Nat.le_of_ble_eq_true rfl) hn h2 h3 (hdr.trans (hbel.mono (by omega))) hlv
                  · cases Option.some.inj ho;have h0:=hpre9 ⟨0,.data⟩ (by simp) rfl;have h4:=hpre9 ⟨4,.data⟩ (by simp) rfl;obtain ⟨g1,g2⟩:=hI.w4 h4 (Kt.getD_no hn);have hst8:Kt.St W.heap.size X.b1 X.b2 M3 Wd w2:=⟨(Ch0.of_below (X:=X) g1).ext,fun k hk _ _ _ => g1.block k hk⟩;have hyy:=HR.out _ _ _ M3 w2 (HJ.out _ _ _ _ HJ7 hst8) (HM7.below g1) (fun k hk => Nat.lt_of_lt_of_le (hM7lt k hk) g1.size) HPR.out g2;refine Kt.op_yield rfl ((Kt.val_get act 61).symm.trans (hI.p0 h0)) (Kt.val_get act 65).symm hyy ?_;rintro e w9 ⟨M4,k1,k2,k3,k4⟩;have kc:Kt.Ch X.b1 X.b2 M3 Wd w9:=Kt.Ch.trans ((Ch0.of_below (X:=X) g1).more (fun _ e => e.elim)) k2 (fun _ e => .inl e);have ks:Kt.Sub M3 Wd M4 w9:=⟨fun k hk => by
                      rcases k3.old k hk with e | e
                      · exact .inl e
                      · have:=g1.size;exact .inr (Nat.le_trans this e),k3.lt⟩
                    rcases k4 with ⟨rfl,k4⟩ | ⟨rfl,k4⟩
                    · exact ⟨_,rfl,hI.s5 (Nat.le_of_ble_eq_true rfl) hn h4 h0 ⟨M4,k1,kc,ks,.inl ⟨rfl,k4⟩⟩⟩
                    · exact ⟨_,rfl,hI.s5 (Nat.le_of_ble_eq_true rfl) hn h4 h0 ⟨M4,k1,kc,ks,.inr ⟨rfl,k4⟩⟩⟩
                  · cases Option.some.inj ho;refine Kt.opIn_of_op (fun c => by simp) ?_;have h5:=hpre9 ⟨5,.data⟩ (by simp) rfl;obtain ⟨b,g1,g2,_⟩:=hI.w5 h5;have e66:act.tmps[66]?.getD undef = .bool b:=(Kt.val_get act 66).symm.trans g1;have hk:=hI.s6 (Nat.le_of_ble_eq_true rfl) hn h5 g1;refine Kt.op_opq hk ?_;clear hk;intro KK hkk;unfold Oper.wp;go_simp;exact hkk
                  · exfalso;simp at ho
                case hdone =>
                  intro listed act w2 hI hr;have hup:=Kt.all_up (fun q o ho => by
                    rcases q with _ | _ | _ | _ | _ | _ | _ | q
                    all_goals first | (cases Option.some.inj ho;decide) | (exfalso;simp at ho)) hI.size hr
                  obtain ⟨b,_,⟨M4,hm4,hc4,hs4,hend⟩,hv67⟩:=hI.w5 (hup 5 (by decide));replace hv67:=hv67 (hup 6 (by decide));rw [hI.frame.out];simp only [yrS,Kt.sets];generalize Kt.val act 61 = v61;generalize Kt.val act 62 = v62;generalize Kt.val act 63 = v63;generalize Kt.val act 64 = v64;generalize Kt.val act 65 = v65;generalize Kt.val act 66 = v66;generalize Kt.val act 67 = v67 at hv67 ⊢;simp only [List.setIfInBounds_toArray,List.set_cons_zero,List.set_cons_succ];subst hv67;have HM4:=Lib.hid hm4;have HC4:=Lib.hid hc4;have HS4:=Lib.hid hs4;clear hI hr hup hm4 hc4 hs4;rcases hend with ⟨rfl,hJ4⟩ | ⟨rfl,hJ4⟩
                  · have HJ4:Hid (J ((doneM X N sn l' i j q ++ pre.flatMap fun a => (Gr.parts (hitf X.tk) (Gr.D X.g (hitf X.tk) N) l' p j).map (a :: ·)) ++ (pre2 ++ [y]).map (x :: ·)) M4 w2):=Lib.hid (by rw [List.map_append,← List.append_assoc];exact hJ4);clear hJ4
                    gi_wp2_with fail
                    exact ⟨M4,HM4.out,HC4.out,HS4.out,HJ4.out⟩
                  · have HJ4:=Lib.hid hJ4;clear hJ4
                    gi_wp2_with fail
                    refine ⟨M4,HM4.out,HC4.out,HS4.out,rfl,_,?_,HJ4.out⟩;exact HPR.out
        case hd =>
          intro M2 w5 hI2 hInv2 hCh2 hSub2 hND hD hDl;have hdone:doneM X N sn l' i j (q + 1) = doneM X N sn l' i j q ++ (Gr.D X.g (hitf X.tk) N (sn:Int) i p).flatMap fun a => (Gr.parts (hitf X.tk) (Gr.D X.g (hitf X.tk) N) l' p j).map (a :: ·):=by rw [doneM_succ,hp.out];rfl
          rw [← hdone] at hI2;have hP5:=HP4.out.range hI2 hInv2 hCh2 hSub2 nd1 nd2 rfl (by omega) (hnew _ (by omega)).1 (hnew _ (by omega)).2 hND hD;have h45:=hCh2.ext.size;have hmb5:Kt.Blk w5 mb 3 #[.int .i64 (p:Int)]:=(hCh2.same mb (by omega) hmM' hmbn.1 hmbn.2).trans HMB4.out;have hmc5:w5.cell? ⟨mb,0,none⟩ = some (.int .i64 (p:Int)):=hmb5.cell 0;obtain ⟨hnb1,hnb2⟩:=next_box (w:=w5) p;have HN:=Lib.hid (hP5.below HJ.out hnb1 nd1 nd2);have HB:Hid (W.heap.size ≤ w5.heap.size ∧ w5.heap.size ≠ yb ∧ ¬ M2 w5.heap.size ∧ Kt.Blk (w5.alloc (.cells #[.int .i64 ((p:Int) + 1)] 3)) w5.heap.size 3 #[.int .i64 ((i + 1 + (q + 1):Nat):Int)]):=Lib.hid ⟨by omega,by have:=hP5.yb.lt;omega,fun e => by have:=hP5.sub.lt _ e;omega,by
            have e1:((i + 1 + (q + 1):Nat):Int) = (p:Int) + 1:=by have:=hp.out;omega
            rw [e1];exact hnb2⟩
          clear hI2 hInv2 hCh2 hSub2 hP5 hnb1 hnb2 hmb5
          gi_wp2_with fail
          exact ⟨⟨q + 1,w5.heap.size,_,_,_,_,_,_,_,_,_,_,_,_,_,_,_,_,_,_,_,_,_,_,_,_,_,_,_,_,_,_,_,_,_,_,_,_,_,_,_,_,_,_,_,_,_,_,_,_,_,_,_,_,_,_,_,_,_,_,_,_,_,_,_,M2,by omega,rfl,Lib.hid ⟨HN.out,HB.out⟩⟩,by
          have e1:(w5.alloc (.cells #[.int .i64 ((p:Int) + 1)] 3)).cell? ⟨w5.heap.size,0,none⟩ = some (.int .i64 ((p:Int) + 1)):=(Kt.Blk.new _ _ _).cell 0;show j + 1 - (intOf (((w5.alloc (.cells #[.int .i64 ((p:Int) + 1)] 3)).cell? ⟨w5.heap.size,0,none⟩).getD undef)).toNat < j + 1 - (intOf ((w.cell? ⟨mb,0,none⟩).getD undef)).toNat;rw [e1,HMC.out];simp [intOf];omega⟩
        case hs =>
          intro cx pre M2 w5 hpre2 hIx2 hInv2 hCh2 hSub2 hND hD hDl;obtain ⟨rfl,L,hL1,hL2⟩:=hIx2;have HP5:=Lib.hid (HP4.out.range (J2:=Jx) hL2 hInv2 hCh2 hSub2 nd1 nd2 rfl (by omega) (hnew _ (by omega)).1 (hnew _ (by omega)).2 hND hD);clear hInv2 hCh2 hSub2
          gi_wp2_with fail
          exact iter_leaves rfl (fun M' W' => J (Gr.parts (hitf X.tk) (Gr.D X.g (hitf X.tk) N) (⟨0,(sn:Int)⟩ :: l') i j) M' W' ∨ ∃ pre,pre <+: Gr.parts (hitf X.tk) (Gr.D X.g (hitf X.tk) N) (⟨0,(sn:Int)⟩ :: l') i j ∧ Jx pre M' W') (fun W1 W2 h1 h2 => by
            rcases h1 with h1 | ⟨pre,h3,h4⟩
            · exact .inl (HJ.out _ _ _ _ h1 h2)
            · exact .inr ⟨pre,h3,HJX.out _ _ _ _ h4 h2⟩) HP5.out.mks (.inr ⟨L,hL1,HP5.out.j⟩) HP5.out.mem HP5.out.ch HP5.out.sub
    · obtain rfl:q = Q:=by omega
      have hall:=doneM_all (X:=X) (N:=N) sn l' i j q (by have:=hQ.out;have:=HL.out;omega);rw [hall] at hP;have HPF:=Lib.hid hP;clear hP hst
      gi_wp2_with fail
      exact iter_leaves rfl (fun M' W' => J (Gr.parts (hitf X.tk) (Gr.D X.g (hitf X.tk) N) (⟨0,(sn:Int)⟩ :: l') i j) M' W' ∨ ∃ pre,pre <+: Gr.parts (hitf X.tk) (Gr.D X.g (hitf X.tk) N) (⟨0,(sn:Int)⟩ :: l') i j ∧ Jx pre M' W') (fun W1 W2 h1 h2 => by
        rcases h1 with h1 | ⟨pre,h3,h4⟩
        · exact .inl (HJ.out _ _ _ _ h1 h2)
        · exact .inr ⟨pre,h3,HJX.out _ _ _ _ h4 h2⟩) HPF.out.mks (.inl HPF.out.j) HPF.out.mem HPF.out.ch HPF.out.sub
end Go.Proofs.Ytdbfiflmeiidjaa
end
