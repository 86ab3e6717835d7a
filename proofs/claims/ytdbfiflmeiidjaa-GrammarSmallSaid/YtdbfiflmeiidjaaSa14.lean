/- Joined: GrQ, Itg, GrT, GrU, Rgc. -/
import Derived.Test.YtdbfiflmeiidjaaSa13
import Derived.Test.YtdbfiflmeiidjaaSa01
import Derived.Test.YtdbfiflmeiidjaaSa02
import Derived.RangeFuncCalls
import Derived.RangeFuncLeaves
import Derived.Shelf.Abstract
import Derived.Shelf.RegionOpen
import Derived.OwnWalkIn
import Derived.TacticsInMore
import Derived.LoopNIn
import Derived.LoopIn
section
/- Count and Recognise. -/
namespace Go.Proofs.Ytdbfiflmeiidjaa
open Go Go.RowKit
def chKn (B:Nat) (T:Option Addr) (V:Nat → Value) (EV:Value):Nat → Prop:=fun k => k = B + 4 ∨ k = B ∨ EV.ownBlock = some k ∨ (∃ s,s < 64 ∧ (V s).ownBlock = some k) ∨ (k < B ∧ ∃ o,T = some ⟨k,o,none⟩)
def chX (B:Nat) (T:Option Addr) (g:List Gr.Rule) (tk:List Int) (V:Nat → Value) (EV:Value) (E:List Gr.End) (zs:List Int):ChX :=
  ⟨B + 4,B + 2,B + 3,chKn B T V EV,g,tk,E,fun r => (Ls.nth zs r).toNat⟩
theorem own_ints {w:World} {base:Nat} {v:Value} {zs:List Int} {Kn:Nat → Prop} (h:Kt.Own w base 3 .i64 v zs) (hK:∀ k,v.ownBlock = some k → Kn k):∃ A c,v = .slice A zs.length c ∧ Kt.KInts w Kn .i64 A zs:=by
  by_cases hn:0 < zs.length
  · obtain ⟨g,c,e,hc,hb,hg,hcell,hfr⟩:=h.block hn;refine ⟨_,c,e,fun _ => ⟨g,0,rfl,hK g (by rw [e];rfl),fun j hj => by rw [Nat.zero_add];exact hcell j hj⟩⟩
  · obtain ⟨A,c,e,_⟩:=h.shape;exact ⟨A,c,e,fun hp => absurd hp hn⟩
theorem chart_of {g:List Gr.Rule} {n nt ct B:Nat} {T:Option Addr} {tk:List Int} {w:World} {V:Nat → Value} {EV:Value} {E:List Gr.End} {zs:List Int}
    (hl:g.length = n) (hnt:tk.length = nt) (htk:Kt.Ints w B .u16 T tk) (h:NC B g n n (.slice T nt ct) n w V EV E zs) :
    Cht (chX B T g tk V EV E zs) w:=by
  have hs:=h.size;obtain ⟨ge,ev1,ev2,ev3⟩:=h.ev;have hge:=(World.ownsRow.lt h.ends ge ev1).2;have hkv:∀ s,s < 64 → ∀ k,(V s).ownBlock = some k → B + 6 ≤ k ∧ k < w.heap.size:=fun s hs3 k hk => World.ownsRow.lt (h.rows.own s hs3) k hk
  have hKn:∀ k,chKn B T V EV k → k ≠ B + 2 ∧ k ≠ B + 3 ∧ k < w.heap.size:=by
    rintro k (rfl | rfl | hk | ⟨s,hs3,hk⟩ | ⟨hk,_⟩)
    · omega
    · omega
    · rw [ev1] at hk;injection hk with hk;omega
    · have:=hkv s hs3 k hk;omega
    · omega
  refine ⟨fun k hk => (hKn k hk).1,fun k hk => (hKn k hk).2.1,fun k hk => (hKn k hk).2.2,.inl rfl,?_,fun s hs3 => ?_,?_,fun r hr => ?_,?_,h.c67,h.c68,h.eok,by show B + 2 ≠ B + 3;omega⟩
  · refine ⟨T,ct,?_,fun hp => ?_⟩
    · show w.cell? ⟨B + 4,0,none⟩ = some (.slice T tk.length ct);rw [hnt];exact h.c0
    · obtain ⟨b,off,e,hb,hc⟩:=htk hp;exact ⟨b,off,e,.inr (.inr (.inr (.inr ⟨hb,off,e⟩))),hc⟩
  · have e1:Gr.rulesTo g n (s:Int) = (Gr.rulesOf g (s:Int)).map Int.ofNat:=by rw [← hl];rfl
    have ho:Kt.Own w (B + 6) 3 .i64 (V s) ((Gr.rulesOf g (s:Int)).map Int.ofNat):=by rw [← e1];exact h.rows.own s hs3
    obtain ⟨A,c,hv,hi⟩:=own_ints (Kn:=chKn B T V EV) ho (fun k hk => .inr (.inr (.inr (.inl ⟨s,hs3,hk⟩))));refine ⟨A,c,?_,hi⟩;have:=h.rows.cell s hs3;rw [hv,List.length_map] at this;exact this
  · refine ⟨some ⟨B,0,none⟩,n,zs,?_,h.zl.trans hl.symm,fun hp => ⟨B,0,rfl,.inr (.inl rfl),fun j hj => by rw [Nat.zero_add];exact h.beg.cell j hj⟩,fun r hr => ?_⟩
    · show w.cell? ⟨B + 4,65,none⟩ = some (.slice (some ⟨B,0,none⟩) g.length n);rw [hl];exact h.c65
    · obtain ⟨m,h1,_⟩:=h.nb r (by show r < n;rw [← hl];exact hr);show Ls.nth zs r = (((Ls.nth zs r).toNat:Nat):Int);omega
  · obtain ⟨m,h1,h2⟩:=h.nb r (by show r < n;rw [← hl];exact hr);show Gr.Ends E (Ls.nth zs r).toNat (Gr.rul g r).right;rw [h1,Int.toNat_natCast];exact h2
  · obtain ⟨g',c,hv,_,_⟩:=World.ownsRow.form h.ends h.eok.pos;have eg:g' = ge:=by rw [hv] at ev1;injection ev1
    subst eg;refine ⟨g',c,by show w.cell? ⟨B + 4,66,none⟩ = _;rw [h.c66,hv];rfl,.inr (.inr (.inl ev1)),fun k hk => ?_⟩;have ho:=h.ends;rw [hv] at ho;have key:∀ q,q < 4 → ∀ u,(Gr.endCells (Gr.en E k))[q]? = some u → w.cell? ⟨g',k * 4 + q,none⟩ = some u:=fun q hq u hu => by
      have:=World.ownsRow.cells ho (g:=g') rfl (k * 4 + q) u (by rw [Gr.flatE_get E k q hk hq];exact hu);simpa [Addr.add_lit] using this
    exact ⟨key 0 (by omega) _ rfl,key 1 (by omega) _ rfl,key 2 (by omega) _ rfl,key 3 (by omega) _ rfl⟩
theorem memo_start {B:Nat} {g:List Gr.Rule} {n:Nat} {tv:Value} {w:World} {V:Nat → Value} {EV:Value} {E:List Gr.End} {zs:List Int} {X:ChX} {N:Nat} {M:Nat → Prop} (h:NC B g n n tv n w V EV E zs)
    (e1:X.b1 = B + 2) (e2:X.b2 = B + 3) (h1:¬ M (B + 2)) (h2:¬ M (B + 3)):Memo X N M w:=by
  obtain ⟨c1,m1⟩:=h.m1;obtain ⟨c2,m2⟩:=h.m2;exact ⟨by rw [e1];exact h1,by rw [e2];exact h2,⟨#[],c1,by rw [e1];exact m1,fun e he => by simp at he⟩,⟨#[],c2,by rw [e2];exact m2,fun e he => by simp at he⟩⟩
def counts (g:List Gr.Rule) (tk:List Int):Nat:=Gr.cnt g (hitf tk) tk.length 0 0 tk.length
theorem below_ch0 {X:ChX} {B:Nat} {w w1 w2:World} (h:Below B w w1) (hc:Ch0 X w1 w2) (hB:B ≤ w1.heap.size) (h1:B ≤ X.b1) (h2:B ≤ X.b2):Below B w w2 :=
  ⟨hc.ext.os.trans h.os,hc.ext.tape.trans h.tape,hc.ext.output.trans h.output,Nat.le_trans h.size hc.ext.size,fun i hi => (hc.same i (by omega) (fun e => e) (by omega) (by omega)).trans (h.block i hi)⟩
def CountPost (g:List Gr.Rule) (tk:List Int) (w:World) (e:Ending) (w':World):Prop :=
  Below w.heap.size w w' ∧ ∃ v c,e = .returned (.tuple #[v,.int .i64 c]) ∧ Gr.KCode g tk.length c ∧ Kt.Num w' w.heap.size v (if c = 0 then counts g tk else 0)
set_option maxHeartbeats 1000000 in
theorem Count_any (g:List Gr.Rule) (tk:List Int) (A:Option Addr) (n cp:Nat) (T:Option Addr) (nt ct:Nat) (w:World) (hl:g.length = n) (hn:n ≤ 4611686018427387904) (hnt:tk.length = nt) (hnt2:nt ≤ 4611686018427387904) (hk:Gr.Fit g nt ∨ 40 < nt)
    (hW:WfR g) (hg:Kt.Rules w w.heap.size A g) (ht:Kt.Ints w w.heap.size .u16 T tk) :
    Calls Try.prog 5 #[.slice A n cp,.slice T nt ct] w (CountPost g tk w):=by
  have HC:=Lib.hid (checked2_any g A n cp T nt ct w hl hn hnt2 hg);have HL:=Lib.hid hl;have HT:=Lib.hid hnt;have HW:=Lib.hid hW;have HG:=Lib.hid hg;have HTK:=Lib.hid ht;clear hl hnt hW hg ht;go_enter Try.func5,Try.ntmps5;go_wp2_with fail;refine HC.out.mono ?_;rintro e w1 ⟨hb,c,rfl,hc⟩;have HK:=Lib.hid hc;clear HC;by_cases he:c = 0
  · subst he;obtain ⟨hgood,h40⟩:=hc.good.1 rfl;have h30:Gr.Fit g nt:=hk.resolve_right (by omega);have HN:=Lib.hid (newChart_any g hgood HW.out A n cp T nt ct w1 HL.out (HG.out.on hb));have HGD:=Lib.hid hgood;clear hc hgood;go_wp2_with fail;refine HN.out.mono ?_;rintro e w2 ⟨rfl,hb2,V,EV,E,zs,hN,hEl⟩;have hns:=hN.size;have hCh:=chart_of (tk:=tk) HL.out HT.out ((HTK.out.on hb).below hb2) hN;have hM:=memo_start (X:=chX w1.heap.size T g tk V EV E zs) (N:=nt) (M:=fun k => k < w1.heap.size) hN rfl rfl (by omega) (by omega);obtain ⟨ρ,hρ⟩:=HGD.out.ranked;have hX:ChG (chX w1.heap.size T g tk V EV E zs) ρ:=⟨hρ,HGD.out.len,HGD.out.ok,by show tk.length ≤ 40;rw [HT.out];exact h30.le,by show Gr.Fit g tk.length;rw [HT.out];exact h30⟩;have hE:ChE (chX w1.heap.size T g tk V EV E zs):=⟨hCh.eok,hEl,hCh.nbE⟩;have HS:=Lib.hid (symbol_any (N:=nt) hX hE 0 0 nt (by omega) (by omega) (by show nt ≤ tk.length;rw [HT.out];exact Nat.le_refl _) (by omega) _ w2 hCh hM (fun k hk => by omega));have hb3:Below w.heap.size w w2:=hb.trans (hb2.mono hb.size);have hsz:=hb.size;clear hN hCh hM hX hE hEl HN;go_wp2_with fail;refine HS.out.mono ?_;rintro e w3 ⟨hch,hm,v,rfl,hv⟩;have HV:Hid (Kt.Num w3 w.heap.size v (counts g tk)):=Lib.hid (by
      unfold counts;rw [HT.out];obtain ⟨A',c',h1,h2,h3,h4⟩:=hv;refine ⟨A',c',h1,h2,h3,fun hp => ?_⟩;obtain ⟨b,e,h5,h6,h7,h8⟩:=h4 hp;exact ⟨b,e,by
        rcases Nat.lt_or_ge b w.heap.size with h9 | h9
        · exact absurd (.inl (by show b < w1.heap.size;omega)) h5
        · exact h9,h6,h7,h8⟩)
    have hb4:Below w.heap.size w w3:=below_ch0 hb3 hch (by omega) (by show w.heap.size ≤ w1.heap.size + 2;omega) (by show w.heap.size ≤ w1.heap.size + 3;omega);clear hv hm hch;go_wp2;go_ret2;exact ⟨hb4,v,0,rfl,by rw [HT.out];exact HK.out,by rw [if_pos rfl];exact HV.out⟩
  · have heb:(c != 0) = true:=by simp [he]
    have HE:=Lib.hid he;clear he hc;go_wp2;go_ret2;exact ⟨hb,_,c,rfl,by rw [HT.out];exact HK.out,by rw [if_neg HE.out];exact Kt.Num.zero _ _⟩
end Go.Proofs.Ytdbfiflmeiidjaa
end
section
/- Regions and calls in the fenced walk; trees in memory. -/
namespace Kt
open Go Go.RowKit
def Wd (ro:Option Nat):Fence:={ Fence.wide with round:=ro }
theorem wd_round (ro:Option Nat):(Wd ro).round = ro:=rfl
theorem wd_depth (ro:Option Nat):(Wd ro).depth = none:=rfl
theorem wd_fn (ro:Option Nat) (f:FuncId):(Wd ro).fn f = True:=rfl
theorem calls_wd {n:Nat} {ro:Option Nat} {P:Program} {f:FuncId} {args:Array Value} {w:World} {R:Ending → World → Prop} (h:Calls P f args w R):CallsIn (Wd ro) n P f args w R:=callsIn_wide (n:=n).2 h
theorem rows_wd {n:Nat} {ro:Option Nat} {P:Program} {row:String} {args:Array Value} {w:World} {R:Value → World → Prop} (h:Rows P row args w R):RowsIn (Wd ro) n P row args w R :=
  fun c cs _ => let ⟨v,w',r,s⟩:=h c cs;⟨v,w',r,stepsIn_wide.2 s⟩
theorem opIn_of_op {P:Program} {o:Oper} {a:Act} {w:World} {K:Act → World → Prop} {Q:Exit → Act → World → Prop} {n:Nat} {ro:Option Nat} (hnd:∀ c,o.op ≠ .defer c) (h:Oper.wp P o a w K Q):Oper.wpIn (Wd ro) n P o a w K Q:=by
  refine ⟨fun _ _ => trivial,?_⟩;unfold Oper.wp at h;rw [Oper.semAt_eq _ _ _ hnd];cases hr:(execOp a.eval o).run P w with
  | ok x w' =>
    rw [hr] at h;cases x with
    | enter f args => exact ⟨(fun e => by cases e),calls_wd h⟩
    | row r args => exact ⟨(fun e => by cases e),rows_wd h⟩
    | value v => exact h
    | skip => exact h
    | defer d => exact h
    | _ => exact h.elim
  | halt x w' =>
    rw [hr] at h;cases x <;> first | exact h | exact h.elim
theorem room_wd (ro:Option Nat) (k:Nat):(Wd ro).room k:=fun d h => by cases h
theorem round_any {m m':Nat} {ro ro':Option Nat} {P:Program} {l:Nat} {f:FuncId} {tmps:Array Value} {assign body:Code} {w:World} {R:Ending → World → Prop} (h:RoundIn (Wd ro) m P l f tmps assign body w R):RoundIn (Wd ro') m' P l f tmps assign body w R :=
  ⟨trivial,fun c cs _ => h.2 c cs (room_wd _ _)⟩
theorem yield_any {m m':Nat} {ro ro':Option Nat} {P:Program} {l:Nat} {args:Array Value} {W:World} {R:Ending → World → Prop} (h:YieldAt (Wd ro) m P l args W R):YieldAt (Wd ro') m' P l args W R:=by
  obtain ⟨fn,tmps,assign,body,hy,hR⟩:=h;exact ⟨fn,tmps,assign,body,hy,round_any hR⟩
section
variable {P:Program} {md:Region.Mode} {ops:Array Oper} {Q:Exit → Act → World → Prop} {F:Fence} {n:Nat}
theorem wpAnyIn_inv (I:Array Bool → Act → World → Prop) (hg:∀ (i:Nat) (o:Oper),ops[i]? = some o → o.guard = none)
    (hstep:∀ listed a w i o,I listed a w → ops[i]? = some o → listed.getD i true = false → (∀ e ∈ o.after,Region.binds md e = true → listed.getD e.on false = true) → Oper.wpIn F n P o a w (fun a' w' => I (listed.setIfInBounds i true) a' w') Q)
    (hdone:∀ listed a w,I listed a w → Region.ready md ops listed = [] → Q .normal a w) :
    ∀ (fuel:Nat) (listed:Array Bool) (a:Act) (w:World),unl listed ≤ fuel → I listed a w → wpAnyIn F n P md ops Q fuel listed a w:=by
  intro fuel
  induction fuel with
  | zero =>
    intro listed a w hu hI;have hr:Region.ready md ops listed = []:=by
      refine List.eq_nil_iff_forall_not_mem.2 fun i hi => ?_
      have:=unl_set (mem_ready.1 hi).1;omega
    exact ⟨hr,hdone _ _ _ hI hr⟩
  | succ fuel ih =>
    intro listed a w hu hI;refine ⟨fun hr => hdone _ _ _ hI hr,fun i hi => ?_⟩;obtain ⟨h1,o,ho,h2⟩:=mem_ready.1 hi;have h3:=unl_set h1;have hs:=hstep listed a w i o hI ho h1 h2;unfold wpOpIn;rw [ho];have hw:Region.wanted o (yielded ops a.tmps) = true:=by simp [Region.wanted,hg i o ho]
    simp only [hw,if_true];exact Oper.wpIn_mono (fun a' w' h => ih _ a' w' (by omega) h) hs
theorem region_invIn {id:Nat} {a:Act} {w:World} (I:Array Bool → Act → World → Prop) (hm:P.follows .mixedOrders = true) (hg:∀ (i:Nat) (o:Oper),ops[i]? = some o → o.guard = none)
    (hI:I (Array.replicate ops.size false) a w.drew)
    (hstep:∀ listed a w i o,I listed a w → ops[i]? = some o → listed.getD i true = false → (∀ e ∈ o.after,Region.binds .any e = true → listed.getD e.on false = true) → Oper.wpIn F n P o a w (fun a' w' => I (listed.setIfInBounds i true) a' w') Q)
    (hdone:∀ listed a w,I listed a w → Region.ready .any ops listed = [] → Q .normal a w):(Code.region id ops true).wpIn F n P Q a w :=
  wpIn_region_any hm (wpAnyIn_inv I hg hstep hdone _ _ _ _ (by unfold unl;simp) hI)
end
theorem op_yield {P:Program} {o:Oper} {a:Act} {w:World} {K:Act → World → Prop} {Q:Exit → Act → World → Prop} {n m l:Nat} {ro ro':Option Nat} {x y:Nat} {v:Value} {R:Ending → World → Prop} {T:Array TypeId}
    (ho:o.op = .call { callee:=.value (.tmp x),args:=#[.tmp y],argTypes:=T }) (hx:a.tmps[x]?.getD undef = .func (.yield l) #[] #[]) (hy:a.tmps[y]?.getD undef = v) (h:YieldAt (Wd ro') m P l #[v] w R)
    (hK:∀ e w',R e w' → ∃ u,e = .returned u ∧ K (a.put o.dst u) w'):Oper.wpIn (Wd ro) n P o a w K Q:=by
  obtain ⟨fn,tmps,assign,body,hrun,hR⟩:=h;refine ⟨fun _ _ => trivial,?_⟩;rw [Oper.semAt_eq _ _ _ (fun c => by rw [ho];simp)];have hs:(execOp a.eval o).run P w = .ok (.round l fn tmps assign body) w:=by
    simp [execOp,ho,resolve,invoke,hx,hy,hrun,go_sem]
  rw [hs];refine ⟨(fun e => by cases e),(round_any hR).mono fun e w' hr => ?_⟩;obtain ⟨u,rfl,hk⟩:=hK e w' hr;exact hk
theorem op_callv {P:Program} {o:Oper} {a:Act} {w:World} {K:Act → World → Prop} {Q:Exit → Act → World → Prop} {n:Nat} {ro:Option Nat} {x y:Nat} {v:Value} {f:FuncId} {lb:Array Value} {R:Ending → World → Prop} {T:Array TypeId}
    (ho:o.op = .call { callee:=.value (.tmp x),args:=#[.tmp y],argTypes:=T }) (hx:a.tmps[x]?.getD undef = .func (.func f) #[] lb) (hy:a.tmps[y]?.getD undef = v) (eg:∀ args w,(callFunc f args).run P w = .ok (.enter f args) w) (h:CallsIn (Wd ro) (n - 1) P f (#[v] ++ lb) w R)
    (hK:∀ e w',R e w' → ∃ u,e = .returned u ∧ K (a.put o.dst u) w'):Oper.wpIn (Wd ro) n P o a w K Q:=by
  refine ⟨fun _ _ => trivial,?_⟩;rw [Oper.semAt_eq _ _ _ (fun c => by rw [ho];simp)];have hs:(execOp a.eval o).run P w = .ok (.enter f (#[v] ++ lb)) w:=by
    simp [execOp,ho,resolve,invoke,hx,hy,eg,go_sem]
  rw [hs];refine ⟨(fun e => by cases e),h.mono fun e w' hr => ?_⟩;obtain ⟨u,rfl,hk⟩:=hK e w' hr;exact hk
end Kt
end
section
/- Trees in memory; the marks of ranges over functions. -/
namespace Kt
open Go Go.RowKit
def noTr:Gr.Tr:=.node 0 0 0 []
inductive TV (W:World) (M:Nat → Prop):Gr.Tr → Value → Prop
  | node (r i j:Nat) (l:List Gr.Tr) (A:Option Addr) (c b off:Nat) (vs:Nat → Value) (hA:0 < l.length → A = some ⟨b,off,none⟩ ∧ ¬ M b ∧ b < W.heap.size) (hle:l.length ≤ c) (h63:l.length ≤ 4611686018427387904)
      (hc:∀ k,k < l.length → ∀ q,q < 4 → W.cell? ⟨b,off + k * 4 + q,none⟩ = (vs k).cells[q]?) (ht:∀ k,k < l.length → TV W M (l.getD k noTr) (vs k)) :
      TV W M (.node r i j l) (.agg #[.int .i64 (r:Int),.int .i64 (i:Int),.int .i64 (j:Int),.slice A l.length c])
def LV (W:World) (M:Nat → Prop) (l:List Gr.Tr) (v:Value):Prop :=
  ∃ (A:Option Addr) (c b off:Nat) (vs:Nat → Value),v = .slice A l.length c ∧ (0 < l.length → A = some ⟨b,off,none⟩ ∧ ¬ M b ∧ b < W.heap.size) ∧ l.length ≤ c ∧ l.length ≤ 4611686018427387904 ∧
    (∀ k,k < l.length → ∀ q,q < 4 → W.cell? ⟨b,off + k * 4 + q,none⟩ = (vs k).cells[q]?) ∧ ∀ k,k < l.length → TV W M (l.getD k noTr) (vs k)
variable {W W':World} {M M':Nat → Prop}
theorem TV.keep {t:Gr.Tr} {v:Value} (h:TV W M t v) (hk:∀ k,k < W.heap.size → ¬ M k → W'.heap[k]? = W.heap[k]?):TV W' M t v:=by
  induction h with
  | node r i j l A c b off vs hA hle h63 hc ht ih =>
    refine .node r i j l A c b off vs (fun hp => ?_) hle h63 (fun k hkl q hq => ?_) ih
    · obtain ⟨h1,h2,h3⟩:=hA hp;refine ⟨h1,h2,?_⟩;have h4:=hk b h3 h2;rw [Array.getElem?_eq_getElem h3] at h4;exact (Array.getElem?_eq_some_iff.1 h4).1
    · obtain ⟨h1,h2,h3⟩:=hA (by omega);exact (World.cell?_of_block (a:=⟨b,off + k * 4 + q,none⟩) (hk b h3 h2)).trans (hc k hkl q hq)
theorem TV.less {t:Gr.Tr} {v:Value} (h:TV W M t v) (hM:∀ k,M' k → M k):TV W M' t v:=by
  induction h with
  | node r i j l A c b off vs hA hle h63 hc ht ih =>
    exact .node r i j l A c b off vs (fun hp => ⟨(hA hp).1,fun e => (hA hp).2.1 (hM b e),(hA hp).2.2⟩) hle h63 hc ih
theorem LV.keep {l:List Gr.Tr} {v:Value} (h:LV W M l v) (hk:∀ k,k < W.heap.size → ¬ M k → W'.heap[k]? = W.heap[k]?):LV W' M l v:=by
  obtain ⟨A,c,b,off,vs,e,hA,hle,h63,hc,ht⟩:=h;refine ⟨A,c,b,off,vs,e,fun hp => ?_,hle,h63,fun k hkl q hq => ?_,fun k hkl => (ht k hkl).keep hk⟩
  · obtain ⟨h1,h2,h3⟩:=hA hp;refine ⟨h1,h2,?_⟩;have h4:=hk b h3 h2;rw [Array.getElem?_eq_getElem h3] at h4;exact (Array.getElem?_eq_some_iff.1 h4).1
  · obtain ⟨h1,h2,h3⟩:=hA (by omega);exact (World.cell?_of_block (a:=⟨b,off + k * 4 + q,none⟩) (hk b h3 h2)).trans (hc k hkl q hq)
theorem LV.less {l:List Gr.Tr} {v:Value} (h:LV W M l v) (hM:∀ k,M' k → M k):LV W M' l v:=by
  obtain ⟨A,c,b,off,vs,e,hA,hle,h63,hc,ht⟩:=h;exact ⟨A,c,b,off,vs,e,fun hp => ⟨(hA hp).1,fun e => (hA hp).2.1 (hM b e),(hA hp).2.2⟩,hle,h63,hc,fun k hkl => (ht k hkl).less hM⟩
theorem LV.nil (W:World) (M:Nat → Prop):LV W M [] (.slice none 0 0):=⟨none,0,0,0,fun _ => undef,rfl,fun h => by simp at h,Nat.le_refl _,by simp,fun k hk => by simp at hk,fun k hk => by simp at hk⟩
theorem TV.of_list {l:List Gr.Tr} {v:Value} (h:LV W M l v) (r i j:Nat):TV W M (.node r i j l) (.agg #[.int .i64 (r:Int),.int .i64 (i:Int),.int .i64 (j:Int),v]):=by
  obtain ⟨A,c,b,off,vs,rfl,hA,hle,h63,hc,ht⟩:=h;exact .node r i j l A c b off vs hA hle h63 hc ht
theorem TV.parts {r i j:Nat} {l:List Gr.Tr} {v:Value} (h:TV W M (.node r i j l) v):∃ s,v = .agg #[.int .i64 (r:Int),.int .i64 (i:Int),.int .i64 (j:Int),s] ∧ LV W M l s:=by
  cases h with
  | node _ _ _ _ A c b off vs hA hle h63 hc ht => exact ⟨_,rfl,A,c,b,off,vs,rfl,hA,hle,h63,hc,ht⟩
theorem TV.cells4 {t:Gr.Tr} {v:Value} (h:TV W M t v):∃ x0 x1 x2 x3,v = .agg #[x0,x1,x2,x3]:=by
  cases h with
  | node _ _ _ _ A c b off vs hA hle h63 hc ht => exact ⟨_,_,_,_,rfl⟩
def mark (D:Nat):Deferred:={ target:=.collected D,args:=#[] }
def Marks (B b1 b2:Nat) (M:Nat → Prop) (W:World) (ds:List Deferred):Prop :=
  ∃ Ds:List Nat,ds = Ds.map mark ∧ Ds.Nodup ∧ ∀ D ∈ Ds,B ≤ D ∧ D < W.heap.size ∧ ¬ M D ∧ D ≠ b1 ∧ D ≠ b2 ∧ W.heap[D]? = some (.deferred (some []))
variable {B b1 b2:Nat}
theorem Marks.nil (W:World):Marks B b1 b2 M W []:=⟨[],rfl,List.nodup_nil,fun D h => by cases h⟩
theorem Marks.keep {ds:List Deferred} (h:Marks B b1 b2 M W ds) (hc:Ch b1 b2 M W W') (hs:Sub M W M' W'):Marks B b1 b2 M' W' ds:=by
  obtain ⟨Ds,h1,h2,h3⟩:=h;refine ⟨Ds,h1,h2,fun D hD => ?_⟩;obtain ⟨g1,g2,g3,g4,g5,g6⟩:=h3 D hD;refine ⟨g1,Nat.lt_of_lt_of_le g2 hc.ext.size,fun e => ?_,g4,g5,(hc.same D g2 g3 g4 g5).trans g6⟩;rcases hs.old D e with e | e
  · exact g3 e
  · omega
theorem Marks.ch {ds:List Deferred} (h:Marks B b1 b2 M W ds) (hc:Ch b1 b2 (fun _ => False) W W'):Marks B b1 b2 M W' ds:=by
  obtain ⟨Ds,h1,h2,h3⟩:=h;refine ⟨Ds,h1,h2,fun D hD => ?_⟩;obtain ⟨g1,g2,g3,g4,g5,g6⟩:=h3 D hD;exact ⟨g1,Nat.lt_of_lt_of_le g2 hc.ext.size,g3,g4,g5,(hc.same D g2 (fun e => e) g4 g5).trans g6⟩
theorem Marks.cons {ds:List Deferred} {D:Nat} (h:Marks B b1 b2 M W ds) (hlt:∀ D',mark D' ∈ ds → D' ≠ D) (hB:B ≤ D) (hM:¬ M D) (h1:D ≠ b1) (h2:D ≠ b2) (hD:W.heap[D]? = some (.deferred (some []))):Marks B b1 b2 M W (mark D :: ds):=by
  obtain ⟨Ds,e1,e2,e3⟩:=h;subst e1;refine ⟨D :: Ds,rfl,List.nodup_cons.2 ⟨fun hm => hlt D (List.mem_map.2 ⟨D,hm,rfl⟩) rfl,e2⟩,fun D' hD' => ?_⟩;rcases List.mem_cons.1 hD' with e | e
  · subst e;exact ⟨hB,(Array.getElem?_eq_some_iff.1 hD).1,hM,h1,h2,hD⟩
  · exact e3 D' e
theorem Marks.old {ds:List Deferred} (h:Marks B b1 b2 M W ds):∀ D',mark D' ∈ ds → D' < W.heap.size:=by
  obtain ⟨Ds,rfl,_,e3⟩:=h;intro D' hD';obtain ⟨D,hD,e⟩:=List.mem_map.1 hD';have:D = D':=by simpa [mark] using e
  subst this;exact (e3 D hD).2.1
theorem leaves_marks {P:Program} {F:Fence} {n:Nat} {fn:Func} {tmps:Array Value} {R:Ending → World → Prop} (K:World → Prop)
    (hst:∀ D W,K W → B ≤ D → ¬ M D → D ≠ b1 → D ≠ b2 → W.heap[D]? = some (.deferred (some [])) → K (W.putObj D (.deferred none))) (hbase:∀ W',K W' → LeavesInM F n P fn tmps R [] .returning W') :
    ∀ (ds:List Deferred) (w:World),Marks B b1 b2 M w ds → K w → LeavesInM F n P fn tmps R ds .returning w:=by
  intro ds
  induction ds with
  | nil => exact fun w _ hK => hbase w hK
  | cons d ds ih =>
    rintro w ⟨Ds,h1,h2,h3⟩ hK;cases Ds with
    | nil => cases h1
    | cons D Ds =>
      injection h1 with h1 h4;subst h1;obtain ⟨g1,g2,g3,g4,g5,g6⟩:=h3 D (by simp);obtain ⟨h5,h6⟩:=List.nodup_cons.1 h2;refine ⟨by simp,.inl ⟨D,_,rfl,run_takeDeferred g6,ih _ ⟨Ds,h4,h6,fun D' hD' => ?_⟩ (hst D w hK g1 g3 g4 g5 g6)⟩⟩;obtain ⟨k1,k2,k3,k4,k5,k6⟩:=h3 D' (by simp [hD']);exact ⟨k1,by simpa using k2,k3,k4,k5,(World.putObj_heap_other (by intro e;subst e;exact h5 hD')).trans k6⟩
end Kt
end
section
/- The makers of the iterators: trees and parts; what the iterators promise. -/
namespace Go.Proofs.Ytdbfiflmeiidjaa
open Go Go.RowKit
variable {X:ChX} {N:Nat}
def TBox (X:ChX) (s i j H:Nat) (W:World):Prop :=
  W.cell? ⟨H,0,none⟩ = some (.pointer (some ⟨X.bc,0,none⟩)) ∧ W.cell? ⟨H + 1,0,none⟩ = some (.int .i64 (s:Int)) ∧ W.cell? ⟨H + 2,0,none⟩ = some (.int .i64 (i:Int)) ∧ W.cell? ⟨H + 3,0,none⟩ = some (.int .i64 (j:Int))
theorem trees_mk (X:ChX) (s i j:Nat) (W:World):Calls Try.prog 36 #[.pointer (some ⟨X.bc,0,none⟩),.int .i64 (s:Int),.int .i64 (i:Int),.int .i64 (j:Int)] W fun e W' =>
    e = .returned (.func (.func 49) #[] #[.pointer (some ⟨W.heap.size,0,none⟩),.pointer (some ⟨W.heap.size + 1,0,none⟩),.pointer (some ⟨W.heap.size + 2,0,none⟩),.pointer (some ⟨W.heap.size + 3,0,none⟩)]) ∧ Below W.heap.size W W' ∧ TBox X s i j W.heap.size W' ∧ W'.heap.size = W.heap.size + 4:=by
  go_enter Try.func36,Try.ntmps36;go_wp2;go_ret;have k0:=Kt.Blk.new W 62 #[.pointer (some ⟨X.bc,0,none⟩)];have k1:=Kt.Blk.new' (W.alloc (.cells #[.pointer (some ⟨X.bc,0,none⟩)] 62)) (W.heap.size + 1) 3 #[.int .i64 (s:Int)] (by simp);have k2:=Kt.Blk.new' ((W.alloc (.cells #[.pointer (some ⟨X.bc,0,none⟩)] 62)).alloc (.cells #[.int .i64 (s:Int)] 3)) (W.heap.size + 2) 3 #[.int .i64 (i:Int)] (by simp);have k3:=Kt.Blk.new' (((W.alloc (.cells #[.pointer (some ⟨X.bc,0,none⟩)] 62)).alloc (.cells #[.int .i64 (s:Int)] 3)).alloc (.cells #[.int .i64 (i:Int)] 3)) (W.heap.size + 3) 3 #[.int .i64 (j:Int)] (by simp);refine ⟨rfl,((((Below.refl _ _).alloc (Nat.le_refl _) _).alloc (by simp) _).alloc (by simp;omega) _).alloc (by simp;omega) _,⟨(((k0.alloc _).alloc _).alloc _).cell 0,((k1.alloc _).alloc _).cell 0,(k2.alloc _).cell 0,k3.cell 0⟩,by simp⟩
def PBox (X:ChX) (n i j H:Nat) (W:World):Prop :=
  W.cell? ⟨H,0,none⟩ = some (.pointer (some ⟨X.bc,0,none⟩)) ∧ W.cell? ⟨H + 1,0,none⟩ = some (.int .i64 (i:Int)) ∧ W.cell? ⟨H + 2,0,none⟩ = some (.int .i64 (j:Int)) ∧
  W.cell? ⟨H + 3,0,none⟩ = some (.int .u16 (Gr.en X.E n).item.cls) ∧ W.cell? ⟨H + 3,1,none⟩ = some (.int .i64 (Gr.en X.E n).item.sym) ∧ W.cell? ⟨H + 3,2,none⟩ = some (.int .i64 ((Gr.en X.E n).next:Int)) ∧ W.cell? ⟨H + 3,3,none⟩ = some (.int .i64 ((Gr.en X.E n).items:Int))
theorem parts_mk (X:ChX) (n i j:Nat) (W:World) (hC:Cht X W) (hn:n < X.E.length):Calls Try.prog 50 #[.pointer (some ⟨X.bc,0,none⟩),.int .i64 (n:Int),.int .i64 (i:Int),.int .i64 (j:Int)] W fun e W' =>
    e = .returned (.func (.func 61) #[] #[.pointer (some ⟨W.heap.size + 3,0,none⟩),.pointer (some ⟨W.heap.size,0,none⟩),.pointer (some ⟨W.heap.size + 1,0,none⟩),.pointer (some ⟨W.heap.size + 2,0,none⟩)]) ∧ Below W.heap.size W W' ∧ PBox X n i j W.heap.size W' ∧ W'.heap.size = W.heap.size + 4:=by
  obtain ⟨ge,cc,d0,hkg,dc⟩:=hC.c66;obtain ⟨d1,d2,d3,d4⟩:=dc n hn;have l1:=hC.lt _ hC.kbc;have l2:=hC.lt _ hkg;obtain ⟨en0,hen⟩:∃ en0,Gr.en X.E n = en0:=⟨_,rfl⟩;obtain ⟨⟨cx,sx⟩,nx,K⟩:=en0;rw [hen] at d1 d2 d3 d4;replace d1:W.cell? ⟨ge,n * 4,none⟩ = some (.int .u16 cx):=d1;replace d2:W.cell? ⟨ge,n * 4 + 1,none⟩ = some (.int .i64 sx):=d2;replace d3:W.cell? ⟨ge,n * 4 + 2,none⟩ = some (.int .i64 (nx:Int)):=d3;replace d4:W.cell? ⟨ge,n * 4 + 3,none⟩ = some (.int .i64 (K:Int)):=d4;obtain ⟨EL,hEL⟩:∃ EL,Hid (X.E.length = EL):=⟨_,Lib.hid rfl⟩;rw [hEL.out] at d0 hn;have hen':=Lib.hid hen;clear dc hC hen;go_enter Try.func50,Try.ntmps50;go_upto_region 1 with fail;obtain ⟨W3,hW3⟩:∃ W3,((W.alloc (.cells #[.pointer (some ⟨X.bc,0,none⟩)] 62)).alloc (.cells #[.int .i64 (i:Int)] 3)).alloc (.cells #[.int .i64 (j:Int)] 3) = W3:=⟨_,rfl⟩;have k0:=Kt.Blk.new W 62 #[.pointer (some ⟨X.bc,0,none⟩)];have k1:=Kt.Blk.new' (W.alloc (.cells #[.pointer (some ⟨X.bc,0,none⟩)] 62)) (W.heap.size + 1) 3 #[.int .i64 (i:Int)] (by simp);have k2:=Kt.Blk.new' ((W.alloc (.cells #[.pointer (some ⟨X.bc,0,none⟩)] 62)).alloc (.cells #[.int .i64 (i:Int)] 3)) (W.heap.size + 2) 3 #[.int .i64 (j:Int)] (by simp);have k0':=(k0.alloc (.cells #[.int .i64 (i:Int)] 3)).alloc (.cells #[.int .i64 (j:Int)] 3);have k1':=k1.alloc (.cells #[.int .i64 (j:Int)] 3);have hb3:Below W.heap.size W W3:=by rw [← hW3];exact (((Below.refl _ _).alloc (Nat.le_refl _) _).alloc (by simp) _).alloc (by simp;omega) _
  have hs3:W3.heap.size = W.heap.size + 3:=by rw [← hW3];simp
  rw [hW3] at k0' k1' k2 ⊢;have e0:W3.cell? ⟨X.bc,66,none⟩ = some (.slice (some ⟨ge,0,none⟩) EL cc):=(hb3.cell (p:=⟨X.bc,66,none⟩) l1).trans d0;have e1:W3.cell? ⟨ge,n * 4,none⟩ = some (.int .u16 cx):=(hb3.cell (p:=⟨ge,n * 4,none⟩) l2).trans d1;have e2:W3.cell? ⟨ge,n * 4 + 1,none⟩ = some (.int .i64 sx):=(hb3.cell (p:=⟨ge,n * 4 + 1,none⟩) l2).trans d2;have e3:W3.cell? ⟨ge,n * 4 + 2,none⟩ = some (.int .i64 (nx:Int)):=(hb3.cell (p:=⟨ge,n * 4 + 2,none⟩) l2).trans d3;have e4:W3.cell? ⟨ge,n * 4 + 3,none⟩ = some (.int .i64 (K:Int)):=(hb3.cell (p:=⟨ge,n * 4 + 3,none⟩) l2).trans d4;have f0:W3.cell? ⟨W.heap.size,0,none⟩ = some (.pointer (some ⟨X.bc,0,none⟩)):=k0'.cell 0;have k3:=Kt.Blk.new' W3 (W.heap.size + 3) 97 #[.int .u16 cx,.int .i64 sx,.int .i64 (nx:Int),.int .i64 (K:Int)] hs3.symm;have hb4:Below W.heap.size W (W3.alloc (.cells #[.int .u16 cx,.int .i64 sx,.int .i64 (nx:Int),.int .i64 (K:Int)] 97)):=hb3.alloc (by omega) _;have K0:=Lib.hid k0';have K1:=Lib.hid k1';have K2:=Lib.hid k2;have K3:=Lib.hid k3;clear hW3 k0 k1 k2 k3 k0' k1' d0 d1 d2 d3 d4;go_wp2;go_ret;refine ⟨rfl,hb4,⟨(K0.out.alloc _).cell 0,(K1.out.alloc _).cell 0,(K2.out.alloc _).cell 0,?_,?_,?_,?_⟩,by simp [hs3]⟩
  · rw [hen'.out];exact K3.out.cell 0
  · rw [hen'.out];exact K3.out.cell 1
  · rw [hen'.out];exact K3.out.cell 2
  · rw [hen'.out];exact K3.out.cell 3
def EncT (X:ChX):World → (Nat → Prop) → Gr.Tr → Value → Prop:=fun W M t v => Kt.TV W (up X M) t v
def EncL (X:ChX):World → (Nat → Prop) → List Gr.Tr → Value → Prop:=fun W M l v => Kt.LV W (up X M) l v
def TreesIt (X:ChX) (N s i j:Nat):Prop:=∀ (H:Nat) (W0:World),Cht X W0 → TBox X s i j H W0 → (∀ q,q < 4 → H + q ≠ X.b1 ∧ H + q ≠ X.b2 ∧ H + q < W0.heap.size) →
  Kt.Iter (Kt.Wd none) Try.prog 49 #[.pointer (some ⟨H,0,none⟩),.pointer (some ⟨H + 1,0,none⟩),.pointer (some ⟨H + 2,0,none⟩),.pointer (some ⟨H + 3,0,none⟩)] X.b1 X.b2 (Memo X N) (EncT X) (fun k => X.Kn k ∨ (H ≤ k ∧ k < H + 4)) W0 (Gr.D X.g (hitf X.tk) N (s:Int) i j)
def PartsIt (X:ChX) (N n:Nat) (l:List Gr.Item) (i j:Nat):Prop:=∀ (H:Nat) (W0:World),Cht X W0 → PBox X n i j H W0 → (∀ q,q < 4 → H + q ≠ X.b1 ∧ H + q ≠ X.b2 ∧ H + q < W0.heap.size) →
  Kt.Iter (Kt.Wd none) Try.prog 61 #[.pointer (some ⟨H + 3,0,none⟩),.pointer (some ⟨H,0,none⟩),.pointer (some ⟨H + 1,0,none⟩),.pointer (some ⟨H + 2,0,none⟩)] X.b1 X.b2 (Memo X N) (EncL X) (fun k => X.Kn k ∨ (H ≤ k ∧ k < H + 4)) W0 (Gr.parts (hitf X.tk) (Gr.D X.g (hitf X.tk) N) l i j)
theorem Memo.inS {M:Nat → Prop} {W W':World} (h:Memo X N M W) (hk:∀ k,k < W.heap.size → ¬ M k → W'.heap[k]? = W.heap[k]?):Memo X N M W':=by
  have hlt:∀ k,k < W.heap.size → ¬ M k → k < W'.heap.size:=fun k h1 h2 => by
    have h4:=hk k h1 h2;rw [Array.getElem?_eq_getElem h1] at h4;exact (Array.getElem?_eq_some_iff.1 h4).1
  have hnum:∀ v x,Kt.NumM W (up X M) v x → Kt.NumM W' (up X M) v x:=by
    rintro v x ⟨A,c,h1,h2,h3,h4⟩;refine ⟨A,c,h1,h2,h3,fun hp => ?_⟩;obtain ⟨b,e,h5,h6,h7,h8⟩:=h4 hp;have h9:¬ M b:=fun e => h5 (.inl e)
    exact ⟨b,e,h5,hlt b h6 h9,fun j hj => (World.cell?_of_block (a:=⟨b,j,none⟩) (hk b h6 h9)).trans (h7 j hj),fun j => (World.frozen?_of_block (a:=⟨b,j,none⟩) (hk b h6 h9)).trans (h8 j)⟩
  obtain ⟨es1,c1,e1,f1⟩:=h.s1.ex;obtain ⟨es2,c2,e2,f2⟩:=h.s2.ex;have l1:X.b1 < W.heap.size:=(Array.getElem?_eq_some_iff.1 e1).1;have l2:X.b2 < W.heap.size:=(Array.getElem?_eq_some_iff.1 e2).1;refine ⟨h.n1,h.n2,⟨es1,c1,(hk _ l1 h.n1).trans e1,fun e he => ?_⟩,⟨es2,c2,(hk _ l2 h.n2).trans e2,fun e he => ?_⟩⟩
  · obtain ⟨s,i,j,a1,a2,a3⟩:=f1 e he;exact ⟨s,i,j,a1,a2,hnum _ _ a3⟩
  · obtain ⟨n,i,j,a1,a2,l,a3,a4⟩:=f2 e he;exact ⟨n,i,j,a1,a2,l,a3,hnum _ _ a4⟩
theorem Memo.loop {M:Nat → Prop} {W:World} {l:Nat} {r:Loop} (h:Memo X N M W) (hl:W.heap[l]? = some (.loop r)):Memo X N (fun k => M k ∨ k = l) W:=by
  have hnum:∀ v x,Kt.NumM W (up X M) v x → Kt.NumM W (up X fun k => M k ∨ k = l) v x:=by
    rintro v x ⟨A,c,h1,h2,h3,h4⟩;refine ⟨A,c,h1,h2,h3,fun hp => ?_⟩;obtain ⟨b,e,h5,h6,h7,h8⟩:=h4 hp;refine ⟨b,e,fun hb => ?_,h6,h7,h8⟩;rcases hb with (hb | hb) | hb
    · exact h5 (.inl hb)
    · subst hb;have:=h7 0 hp;simp [World.cell?,hl] at this
    · exact h5 (.inr hb)
  obtain ⟨es1,c1,e1,f1⟩:=h.s1.ex;obtain ⟨es2,c2,e2,f2⟩:=h.s2.ex;refine ⟨fun e => ?_,fun e => ?_,⟨es1,c1,e1,fun e he => ?_⟩,⟨es2,c2,e2,fun e he => ?_⟩⟩
  · rcases e with e | e
    · exact h.n1 e
    · rw [e,hl] at e1;cases e1
  · rcases e with e | e
    · exact h.n2 e
    · rw [e,hl] at e2;cases e2
  · obtain ⟨s,i,j,a1,a2,a3⟩:=f1 e he;exact ⟨s,i,j,a1,a2,hnum _ _ a3⟩
  · obtain ⟨n,i,j,a1,a2,l,a3,a4⟩:=f2 e he;exact ⟨n,i,j,a1,a2,l,a3,hnum _ _ a4⟩
theorem Memo.defer {M:Nat → Prop} {W:World} {l:Nat} {r:Option (List Deferred)} (h:Memo X N M W) (hl:W.heap[l]? = some (.deferred r)):Memo X N (fun k => M k ∨ k = l) W:=by
  have hnum:∀ v x,Kt.NumM W (up X M) v x → Kt.NumM W (up X fun k => M k ∨ k = l) v x:=by
    rintro v x ⟨A,c,h1,h2,h3,h4⟩;refine ⟨A,c,h1,h2,h3,fun hp => ?_⟩;obtain ⟨b,e,h5,h6,h7,h8⟩:=h4 hp;refine ⟨b,e,fun hb => ?_,h6,h7,h8⟩;rcases hb with (hb | hb) | hb
    · exact h5 (.inl hb)
    · subst hb;have:=h7 0 hp;simp [World.cell?,hl] at this
    · exact h5 (.inr hb)
  obtain ⟨es1,c1,e1,f1⟩:=h.s1.ex;obtain ⟨es2,c2,e2,f2⟩:=h.s2.ex;refine ⟨fun e => ?_,fun e => ?_,⟨es1,c1,e1,fun e he => ?_⟩,⟨es2,c2,e2,fun e he => ?_⟩⟩
  · rcases e with e | e
    · exact h.n1 e
    · rw [e,hl] at e1;cases e1
  · rcases e with e | e
    · exact h.n2 e
    · rw [e,hl] at e2;cases e2
  · obtain ⟨s,i,j,a1,a2,a3⟩:=f1 e he;exact ⟨s,i,j,a1,a2,hnum _ _ a3⟩
  · obtain ⟨n,i,j,a1,a2,l,a3,a4⟩:=f2 e he;exact ⟨n,i,j,a1,a2,l,a3,hnum _ _ a4⟩
theorem iter_leaves {P:Program} {F:Fence} {n:Nat} {fn:Func} {tmps:Array Value} {M M':Nat → Prop} {W w:World} {ds:List Deferred} (hfn:fn.results = #[]) (G:(Nat → Prop) → World → Prop) (hG:∀ W1 W2,G M' W1 → Kt.St W.heap.size X.b1 X.b2 M' W1 W2 → G M' W2)
    (hm:Kt.Marks W.heap.size X.b1 X.b2 M' w ds) (h0:G M' w) (h1:Memo X N M' w) (h2:Kt.Ch X.b1 X.b2 M W w) (h3:Kt.Sub M W M' w) :
    LeavesInM F n P fn tmps (fun e W' => ∃ M',(∃ v,e = .returned v) ∧ Memo X N M' W' ∧ Kt.Ch X.b1 X.b2 M W W' ∧ Kt.Sub M W M' W' ∧ G M' W') ds .returning w:=by
  refine Kt.leaves_marks (M:=M') (fun W' => G M' W' ∧ Memo X N M' W' ∧ Kt.Ch X.b1 X.b2 M W W' ∧ Kt.Sub M W M' W') ?_ (fun W' hK => ⟨_,results_none hfn _ _ _,M',⟨_,rfl⟩,hK.2.1,hK.2.2.1,hK.2.2.2,hK.1⟩) ds w hm ⟨h0,h1,h2,h3⟩;rintro D W1 ⟨g1,g2,g3,g4⟩ hB hM k1 k2 hD;refine ⟨hG _ _ g1 (Kt.St.put _ _ hB hM),((g2.defer hD).inS (fun q hq hn => World.putObj_heap_other (fun e => hn (.inr e)))).less (fun q hq => .inl hq),⟨g3.ext.trans (Kt.Ext.put _ _ _),fun q hq hn h1 h2 => (World.putObj_heap_other (by omega)).trans (g3.same q hq hn h1 h2)⟩,⟨g4.old,fun q hq => by rw [World.putObj_size];exact g4.lt q hq⟩⟩
end Go.Proofs.Ytdbfiflmeiidjaa
end
section
/- A region that draws its order, reads, and calls one function: by an invariant, each operation walked once. -/
namespace Kt
open Go Go.RowKit
structure RcP where
  N:Nat
  m:Nat
  slot:Nat → Nat
  S:List Nat
  pv:Nat → Option Value
  Pre:Nat → Bool
  Post:Nat → Bool
  po:Nat → Value → Option Value
  a0:Act
  W:World
  R:Value → World → Prop
  dp:Nat → List Nat
structure RcOk (p:RcP):Prop where
  inj:∀ i j,i < p.N → j < p.N → p.slot i = p.slot j → i = j
  mem:∀ j,j < p.N → p.slot j ∈ p.S
  lt:∀ j,j < p.N → p.slot j < p.a0.tmps.size
  hm:p.m < p.N
  nm:p.pv p.m = none
  nom:∀ r,p.po p.m r = none
  nPre:p.Pre p.m = false
  nPost:p.Post p.m = false
  dis:∀ j,p.Post j = true → p.pv j = none ∧ p.Pre j = false
  pos:∀ j r u,p.po j r = some u → p.Post j = true
structure RcI (p:RcP) (listed:Array Bool) (act:Act) (w:World):Prop where
  size:listed.size = p.N
  frame:Fr p.S p.a0 act
  pure:∀ j v,j < p.N → p.pv j = some v → listed.getD j false = true → val act (p.slot j) = v
  cl:∀ j i,listed.getD j false = true → i ∈ p.dp j → listed.getD i false = true
  world:listed.getD p.m false = false → w = p.W.drew
  ord:listed.getD p.m false = false → ∀ j,p.Post j = true → listed.getD j false = false
  clm:listed.getD p.m false = true → ∀ i,p.Pre i = true → listed.getD i false = true
  res:listed.getD p.m false = true → ∃ r,p.R r w ∧ val act (p.slot p.m) = r ∧ ∀ j u,j < p.N → p.po j r = some u → listed.getD j false = true → val act (p.slot j) = u
variable {p:RcP} {listed:Array Bool} {act:Act} {w w':World}
theorem RcI.start:RcI p (Array.replicate p.N false) p.a0 p.W.drew:=by
  have hf:∀ j,(Array.replicate p.N false).getD j false = false:=fun j => by
    by_cases hj:j < p.N <;> simp [hj]
  refine ⟨by simp,Fr.refl _ _,fun j v _ _ hl => ?_,fun j i hl _ => ?_,fun _ => rfl,fun _ j _ => hf j,fun hl => ?_,fun hl => ?_⟩
  all_goals (rw [hf] at hl;cases hl)
theorem RcI.before (h:RcI p listed act w) {j:Nat} (hj:p.Pre j = true) (hn:listed.getD j true = false):w = p.W.drew:=by
  refine h.world ?_;cases hl:listed.getD p.m false with
  | false => rfl
  | true =>
    have:=h.clm hl j hj;rw [getD_no hn] at this;cases this
theorem RcI.postm (h:RcI p listed act w) {j:Nat} (hj:p.Post j = true) (hl:listed.getD j false = true):listed.getD p.m false = true:=by
  cases hq:listed.getD p.m false with
  | true => rfl
  | false =>
    have:=h.ord hq j hj;rw [this] at hl;cases hl
theorem RcI.pure_step (ok:RcOk p) (h:RcI p listed act w) {j s:Nat} {v:Value} (hd:∀ i ∈ p.dp j,listed.getD i false = true) (hj:j < p.N) (hn:listed.getD j true = false) (hv:p.pv j = some v) (hs:s = p.slot j) :
    RcI p (listed.setIfInBounds j true) (act.put (some s) v) w:=by
  subst hs;have hjm:j ≠ p.m:=fun e => by rw [e,ok.nm] at hv;cases hv
  have hjp:p.Post j ≠ true:=fun e => by rw [(ok.dis j e).1] at hv;cases hv
  have hne:∀ i,i < p.N → i ≠ j → val (act.put (some (p.slot j)) v) (p.slot i) = val act (p.slot i):=fun i hi hij => val_put_ne (fun e => hij (ok.inj _ _ hj hi e).symm) v
  refine ⟨by simp [h.size],h.frame.put (ok.mem j hj) v,fun i u hi hu hl => ?_,cl_set h.cl hd,fun hl => ?_,fun hl i hi => ?_,fun hl i hi => ?_,fun hl => ?_⟩
  · by_cases hij:i = j
    · subst hij;rw [hv] at hu;injection hu with hu;rw [val_put (by rw [h.frame.2.1];exact ok.lt _ hj),hu]
    · rw [getD_setL (fun e => hij e.symm)] at hl;rw [hne i hi hij];exact h.pure i u hi hu hl
  · rw [getD_setL hjm] at hl;exact h.world hl
  · rw [getD_setL hjm] at hl;rw [getD_setL (fun e => by subst e;exact hjp hi)];exact h.ord hl i hi
  · rw [getD_setL hjm] at hl;by_cases e:j = i
    · subst e;exact getD_same (by rw [h.size];exact hj)
    · rw [getD_setL e];exact h.clm hl i hi
  · rw [getD_setL hjm] at hl;obtain ⟨r,h1,h2,h3⟩:=h.res hl;refine ⟨r,h1,by rw [hne _ ok.hm hjm.symm];exact h2,fun i u hi hu hli => ?_⟩;have hij:i ≠ j:=fun e => by subst e;exact hjp (ok.pos _ _ _ hu)
    rw [getD_setL (fun e => hij e.symm)] at hli;rw [hne i hi hij];exact h3 i u hi hu hli
theorem RcI.call_step (ok:RcOk p) (h:RcI p listed act w) {j s:Nat} {r:Value} (hd:∀ i ∈ p.dp j,listed.getD i false = true) (hj:j = p.m) (hn:listed.getD j true = false) (hs:s = p.slot p.m) (hpre:∀ i,p.Pre i = true → listed.getD i false = true) (hR:p.R r w') :
    RcI p (listed.setIfInBounds j true) (act.put (some s) r) w':=by
  subst hs hj;have hm:=ok.hm;have hop:listed.getD p.m false = false:=getD_no hn;have hsl:(listed.setIfInBounds p.m true).getD p.m false = true:=getD_same (by rw [h.size];exact hm);have hne:∀ i,i < p.N → i ≠ p.m → val (act.put (some (p.slot p.m)) r) (p.slot i) = val act (p.slot i):=fun i hi hij => val_put_ne (fun e => hij (ok.inj _ _ hm hi e).symm) r
  refine ⟨by simp [h.size],h.frame.put (ok.mem _ hm) r,fun i u hi hu hl => ?_,cl_set h.cl hd,fun hl => ?_,fun hl => ?_,fun _ i hi => ?_,fun _ => ⟨r,hR,val_put (by rw [h.frame.2.1];exact ok.lt _ hm) _,fun i u hi hu hli => ?_⟩⟩
  · have him:i ≠ p.m:=fun e => by rw [e,ok.nm] at hu;cases hu
    rw [getD_setL (fun e => him e.symm)] at hl;rw [hne i hi him];exact h.pure i u hi hu hl
  · rw [hsl] at hl;cases hl
  · rw [hsl] at hl;cases hl
  · have him:i ≠ p.m:=fun e => by rw [e,ok.nPre] at hi;cases hi
    rw [getD_setL (fun e => him e.symm)];exact hpre i hi
  · exfalso;have hpo:=ok.pos _ _ _ hu;have him:i ≠ p.m:=fun e => by rw [e,ok.nPost] at hpo;cases hpo
    rw [getD_setL (fun e => him e.symm),h.ord hop i hpo] at hli;cases hli
theorem RcI.post_step (ok:RcOk p) (h:RcI p listed act w) {j s:Nat} {r u:Value} (hd:∀ i ∈ p.dp j,listed.getD i false = true) (hj:j < p.N) (hl:listed.getD p.m false = true) (hr:val act (p.slot p.m) = r) (hu:p.po j r = some u) (hs:s = p.slot j) :
    RcI p (listed.setIfInBounds j true) (act.put (some s) u) w:=by
  subst hs;have hpj:=ok.pos _ _ _ hu;have hjm:j ≠ p.m:=fun e => by rw [e,ok.nPost] at hpj;cases hpj
  have hne:∀ i,i < p.N → i ≠ j → val (act.put (some (p.slot j)) u) (p.slot i) = val act (p.slot i):=fun i hi hij => val_put_ne (fun e => hij (ok.inj _ _ hj hi e).symm) u
  refine ⟨by simp [h.size],h.frame.put (ok.mem j hj) u,fun i v hi hv hli => ?_,cl_set h.cl hd,fun hl2 => ?_,fun hl2 => ?_,fun _ i hi => ?_,fun _ => ?_⟩
  · have hij:i ≠ j:=fun e => by subst e;rw [(ok.dis _ hpj).1] at hv;cases hv
    rw [getD_setL (fun e => hij e.symm)] at hli;rw [hne i hi hij];exact h.pure i v hi hv hli
  · rw [getD_setL hjm,hl] at hl2;cases hl2
  · rw [getD_setL hjm,hl] at hl2;cases hl2
  · have hij:j ≠ i:=fun e => by subst e;rw [(ok.dis _ hpj).2] at hi;cases hi
    rw [getD_setL hij];exact h.clm hl i hi
  · obtain ⟨r',h1,h2,h3⟩:=h.res hl;obtain rfl:r' = r:=h2.symm.trans hr;refine ⟨r',h1,by rw [hne _ ok.hm hjm.symm];exact h2,fun i v hi hv hli => ?_⟩;by_cases hij:i = j
    · subst hij;rw [hu] at hv;injection hv with hv;rw [val_put (by rw [h.frame.2.1];exact ok.lt _ hj),hv]
    · rw [getD_setL (fun e => hij e.symm)] at hli;rw [hne i hi hij];exact h3 i v hi hv hli
end Kt
end
