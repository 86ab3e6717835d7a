/- Joined: Itr, Lists, Kit. -/
import Derived.RangeFuncNested
import Derived.RangeFuncBound
import Derived.WalkKit
import Derived.Carry
import Derived.Lib.Hide
import Derived.Deep.Draws
import Derived.Deep.AppendLies
import Derived.Lib.AppendIntMem
import Derived.Lib.ItoaMem
import Derived.Deep.QuietTactic
section
/- A range over a function whose iterator calls functions that turn two maps of their own: own laws, out of the kit's base rules. -/
namespace Kt
open Go Go.RowKit
structure Ext (W W':World):Prop where
  os:W'.os = W.os
  tape:W'.tape = W.tape
  output:W'.output = W.output
  size:W.heap.size ≤ W'.heap.size
theorem Ext.refl (W:World):Ext W W:=⟨rfl,rfl,rfl,Nat.le_refl _⟩
theorem Ext.trans {A B C:World} (h:Ext A B) (k:Ext B C):Ext A C:=⟨k.os.trans h.os,k.tape.trans h.tape,k.output.trans h.output,Nat.le_trans h.size k.size⟩
theorem Ext.put (W:World) (l:Nat) (o:Obj):Ext W (W.putObj l o):=⟨rfl,rfl,rfl,by simp⟩
structure Ch (b1 b2:Nat) (M:Nat → Prop) (W W':World):Prop where
  ext:Ext W W'
  same:∀ k,k < W.heap.size → ¬ M k → k ≠ b1 → k ≠ b2 → W'.heap[k]? = W.heap[k]?
structure St (B b1 b2:Nat) (M:Nat → Prop) (W W':World):Prop where
  ext:Ext W W'
  same:∀ k,k < W.heap.size → (M k ∨ k < B) → k ≠ b1 → k ≠ b2 → W'.heap[k]? = W.heap[k]?
structure Sub (M:Nat → Prop) (W:World) (M':Nat → Prop) (W':World):Prop where
  old:∀ k,M' k → M k ∨ W.heap.size ≤ k
  lt:∀ k,M' k → k < W'.heap.size
variable {b1 b2 B:Nat} {M M' M'':Nat → Prop} {W W' W'':World}
theorem Ch.refl (W:World):Ch b1 b2 M W W:=⟨Ext.refl W,fun _ _ _ _ _ => rfl⟩
theorem Ch.trans (h:Ch b1 b2 M W W') (k:Ch b1 b2 M' W' W'') (hs:∀ k,M' k → M k ∨ W.heap.size ≤ k):Ch b1 b2 M W W'' :=
  ⟨h.ext.trans k.ext,fun i hi hM h1 h2 => (k.same i (Nat.lt_of_lt_of_le hi h.ext.size) (fun e => by rcases hs i e with e | e;exact hM e;omega) h1 h2).trans (h.same i hi hM h1 h2)⟩
theorem Ch.more (h:Ch b1 b2 M W W') (hs:∀ k,M k → M' k):Ch b1 b2 M' W W':=⟨h.ext,fun i hi hM => h.same i hi fun e => hM (hs i e)⟩
theorem St.refl (W:World):St B b1 b2 M W W:=⟨Ext.refl W,fun _ _ _ _ _ => rfl⟩
theorem St.trans (h:St B b1 b2 M W W') (k:St B b1 b2 M W' W''):St B b1 b2 M W W'' :=
  ⟨h.ext.trans k.ext,fun i hi hM h1 h2 => (k.same i (Nat.lt_of_lt_of_le hi h.ext.size) hM h1 h2).trans (h.same i hi hM h1 h2)⟩
theorem St.less {B':Nat} (h:St B b1 b2 M W W') (hB:B' ≤ B) (hM:∀ k,M' k → M k):St B' b1 b2 M' W W':=⟨h.ext,fun i hi hi2 => h.same i hi (by rcases hi2 with e | e;exact .inl (hM i e);exact .inr (by omega))⟩
theorem St.put (l:Nat) (o:Obj) (hB:B ≤ l) (hM:¬ M l):St B b1 b2 M W (W.putObj l o) :=
  ⟨Ext.put W l o,fun k _ h _ _ => World.putObj_heap_other (fun e => by subst e;rcases h with h | h;exact hM h;omega)⟩
theorem Sub.refl (h:∀ k,M k → k < W.heap.size):Sub M W M W:=⟨fun _ h => .inl h,h⟩
theorem Sub.trans (h:Sub M W M' W') (k:Sub M' W' M'' W'') (hs:W.heap.size ≤ W'.heap.size):Sub M W M'' W'' :=
  ⟨fun i hi => by
    rcases k.old i hi with e | e
    · exact h.old i e
    · exact .inr (by omega),k.lt⟩
variable {α:Type} {F:Fence} {n:Nat} {P:Program}
def Iter (F:Fence) (P:Program) (g:Nat) (lb:Array Value) (b1 b2:Nat) (Inv:(Nat → Prop) → World → Prop) (Enc:World → (Nat → Prop) → α → Value → Prop) (Kn:Nat → Prop) (w0:World) (xs:List α):Prop :=
  ∀ (l n:Nat) (J Jx:List α → (Nat → Prop) → World → Prop) (M:Nat → Prop) (W:World),
    (∀ k,M k → k < W.heap.size) → (∀ k,Kn k → ¬ M k ∧ W.heap[k]? = w0.heap[k]?) → w0.heap.size ≤ W.heap.size → Inv M W →
    (∀ pre M W1 W2,J pre M W1 → St W.heap.size b1 b2 M W1 W2 → J pre M W2) →
    (∀ pre M W1 W2,Jx pre M W1 → St W.heap.size b1 b2 M W1 W2 → Jx pre M W2) →
    (∀ pre x v M1 W1,J pre M1 W1 → Inv M1 W1 → (∀ k,M1 k → k < W1.heap.size) → pre ++ [x] <+: xs → Enc W1 M1 x v →
      YieldAt F 0 P l #[v] W1 fun e W' => ∃ M',Inv M' W' ∧ Ch b1 b2 M1 W1 W' ∧ Sub M1 W1 M' W' ∧
        ((e = .returned (.bool true) ∧ J (pre ++ [x]) M' W') ∨ (e = .returned (.bool false) ∧ Jx (pre ++ [x]) M' W'))) →
    J [] M W →
    CallsIn F n P g (#[.func (.yield l) #[] #[]] ++ lb) W fun e W' => ∃ M',(∃ v,e = .returned v) ∧ Inv M' W' ∧ Ch b1 b2 M W W' ∧ Sub M W M' W' ∧ (J xs M' W' ∨ ∃ pre,pre <+: xs ∧ Jx pre M' W')
theorem yield_round {l:Nat} {r:Loop} {p:Tmp} {W:World} {v:Value} {R:Ending → World → Prop} (hl:W.heap[l]? = some (.loop r)) (hr:r.state = .ready) (hps:r.params = #[p]) (hF:F.fn r.fn)
    (h:r.assign.wpIn (F.inRound l) n P (Exit.then (fun a₁ Wa => Wa.heap[l]? = some (.loop r) ∧ r.body.wpIn (F.inRound l) n P (fun e _ W3 => W3.heap[l]? = some (.loop { r with state:=.busy }) ∧
      (match e with
       | .normal => R (.returned (.bool true)) (W3.putObj l (.loop { r with state:=.ready,pending:=none }))
       | .ret => R (.returned (.bool false)) (W3.putObj l (.loop { r with state:=.done,pending:=some .ret }))
       | .exit id => R (.returned (.bool false)) (W3.putObj l (.loop { r with state:=.done,pending:=some (.exit id) }))
       | .goto t => R (.returned (.bool false)) (W3.putObj l (.loop { r with state:=.done,pending:=some (.goto t) }))
       | .panic _ => False
       | .outgrown => False)) a₁ (Wa.putObj l (.loop { r with state:=.busy }))) (fun _ _ _ => False)) { tmps:=r.tmps.setIfInBounds p v,defers:=[] } W) :
    YieldAt F n P l #[v] W R:=by
  have hy:=run_yield (P:=P) (args:=#[v]) hl (by rw [hps];rfl);refine ⟨_,_,_,_,hy,roundIn_of_wpIn hF ?_⟩;have e1:(r.params.zip #[v]).foldl (fun tmps (x:Tmp × Value) => tmps.setIfInBounds x.1 x.2) r.tmps = r.tmps.setIfInBounds p v:=by rw [hps];simp [Array.zip]
  rw [show (r.params.zip #[v]).foldl (fun tmps (t,a) => tmps.setIfInBounds t a) r.tmps = r.tmps.setIfInBounds p v from e1];refine wpIn_mono h ?_;intro e a Wa hp;cases e with
  | normal =>
    obtain ⟨hla,hb⟩:=hp;refine ⟨_,run_beginRound hla hr,wpIn_mono hb ?_⟩;intro e3 a3 W3 hp3;have fin:=fun (jump:Option Code) => run_endRound (P:=P) (w:=W3) (l:=l) jump hp3.1
    cases e3 with
    | normal => exact ⟨_,_,fin none,hp3.2⟩
    | ret => exact ⟨_,_,fin (some .ret),hp3.2⟩
    | exit id => exact ⟨_,_,fin (some (.exit id)),hp3.2⟩
    | goto t => exact ⟨_,_,fin (some (.goto t)),hp3.2⟩
    | panic c => exact hp3.2.elim
    | outgrown => exact hp3.2.elim
  | ret => exact hp.elim
  | exit id => exact hp.elim
  | goto t => exact hp.elim
  | panic c => exact hp.elim
  | outgrown => exact hp.elim
section
variable {g:Operand} {p:Tmp} {assign body:Code} {Q:Exit → Act → World → Prop} {a:Act} {w:World} {gf:Nat} {lb:Array Value}
  {Inv:(Nat → Prop) → World → Prop} {Enc:World → (Nat → Prop) → α → Value → Prop} {Kn:Nat → Prop} {w0:World} {xs:List α}
def bodyOf (b1 b2:Nat) (Inv:(Nat → Prop) → World → Prop) (I:List α → (Nat → Prop) → World → Prop) (Ix:Code → List α → (Nat → Prop) → World → Prop) (xs:List α) (M:Nat → Prop) (W:World):Exit → Act → World → Prop:=fun e _ W' =>
  ∃ M',Inv M' W' ∧ Ch b1 b2 M W W' ∧ Sub M W M' W' ∧
    match e with
    | .normal => I xs M' W'
    | .ret => Ix .ret xs M' W'
    | .exit id => Ix (.exit id) xs M' W'
    | .goto t => Ix (.goto t) xs M' W'
    | .panic _ => False
    | .outgrown => False
theorem round_of_body {l:Nat} (Dd:Nat → Prop) {r:Loop} {M0:Nat → Prop} {W:World} {v:Value} {pre:List α} {x:α}
    (hb1:b1 < l) (hb2:b2 < l) (hB:B ≤ l) (hDd:∀ D,Dd D → D < l ∧ D ≠ b1 ∧ D ≠ b2 ∧ ¬ M0 D) (hl:W.heap[l]? = some (.loop r)) (hr:r.state = .ready) (hpe:r.pending = none) (hps:r.params = #[p]) (hF:F.fn r.fn)
    (invS:∀ M W W',Inv M W → (∀ k,k < W.heap.size → ¬ M k → W'.heap[k]? = W.heap[k]?) → Inv M W')
    (invL:∀ M W l r,Inv M W → W.heap[l]? = some (.loop r) → Inv (fun k => M k ∨ k = l) W)
    (I:List α → (Nat → Prop) → World → Prop) (Ix:Code → List α → (Nat → Prop) → World → Prop)
    (stI:∀ pre M W1 W2,I pre M W1 → St B b1 b2 M W1 W2 → I pre M W2) (stIx:∀ c pre M W1 W2,Ix c pre M W1 → St B b1 b2 M W1 W2 → Ix c pre M W2)
    (hMl:¬ M0 l)
    (Ax:Act → World → Prop)
    (hassign:∀ (K:Act → World → Prop),(∀ a' W',Ext W W' → (∀ k,k < W.heap.size → W'.heap[k]? = W.heap[k]?) → Ax a' W' → K a' W') →
      r.assign.wpIn (F.inRound l) n P (Exit.then K (fun _ _ _ => False)) { tmps:=r.tmps.setIfInBounds p v,defers:=[] } W)
    (hbody:∀ a' Wa Wb,Ax a' Wa → Ext Wa Wb → Wb.heap.size = Wa.heap.size → (∀ k,k ≠ l → Wb.heap[k]? = Wa.heap[k]?) → (∃ r',Wb.heap[l]? = some (.loop r') ∧ r'.defers = r.defers) → W.heap.size ≤ Wa.heap.size →
      r.body.wpIn (F.inRound l) n P (bodyOf b1 b2 Inv I Ix (pre ++ [x]) M0 Wb) a' Wb) :
    YieldAt F n P l #[v] W fun e W' => ∃ M',Inv (fun k => M' k ∨ k = l) W' ∧ Ch b1 b2 (fun k => M0 k ∨ k = l) W W' ∧ Sub (fun k => M0 k ∨ k = l) W (fun k => M' k ∨ k = l) W' ∧ ¬ M' l ∧ (∀ D,Dd D → ¬ M' D ∧ W'.heap[D]? = W.heap[D]?) ∧
      ((e = .returned (.bool true) ∧ I (pre ++ [x]) M' W' ∧ W'.heap[l]? = some (.loop r)) ∨
       (e = .returned (.bool false) ∧ ∃ c,Ix c (pre ++ [x]) M' W' ∧ W'.heap[l]? = some (.loop { r with state:=.done,pending:=some c }))):=by
  have hlt:l < W.heap.size:=(Array.getElem?_eq_some_iff.1 hl).1;refine yield_round hl hr hps hF (hassign _ ?_);intro a' Wa hext hsame hax;have hla:Wa.heap[l]? = some (.loop r):=(hsame l hlt).trans hl;have hlta:l < Wa.heap.size:=Nat.lt_of_lt_of_le hlt hext.size;refine ⟨hla,?_⟩;obtain ⟨Wb,hWb⟩:∃ Wb,Wa.putObj l (.loop { r with state:=.busy }) = Wb:=⟨_,rfl⟩;rw [hWb];have hsb:Wb.heap.size = Wa.heap.size:=by rw [← hWb];simp
  have hob:∀ k,k ≠ l → Wb.heap[k]? = Wa.heap[k]?:=fun k hk => by rw [← hWb];exact World.putObj_heap_other hk
  have hlb:Wb.heap[l]? = some (.loop { r with state:=.busy }):=by rw [← hWb];exact World.putObj_heap_same hlta
  have heb:Ext Wa Wb:=by rw [← hWb];exact Ext.put _ _ _
  refine wpIn_mono (hbody a' Wa Wb hax heb hsb hob ⟨_,hlb,rfl⟩ hext.size) ?_;rintro e a3 W3 ⟨M',hInv,hch,hsub,hend⟩;have hltb:l < Wb.heap.size:=by omega
  have hl3:W3.heap[l]? = some (.loop { r with state:=.busy }):=(hch.same l hltb hMl (by omega) (by omega)).trans hlb;have hlt3:l < W3.heap.size:=(Array.getElem?_eq_some_iff.1 hl3).1;have hM'l:¬ M' l:=fun e => by
    rcases hsub.old l e with e | e
    · exact hMl e
    · omega
  have hM'D:∀ D,Dd D → ¬ M' D:=fun D hd e => by
    obtain ⟨d1,d2,d3,d4⟩:=hDd D hd;rcases hsub.old D e with e | e
    · exact d4 e
    · omega
  refine ⟨hl3,?_⟩;have fin:∀ r',Inv (fun k => M' k ∨ k = l) (W3.putObj l (.loop r')) ∧ Ch b1 b2 (fun k => M0 k ∨ k = l) W (W3.putObj l (.loop r')) ∧ Sub (fun k => M0 k ∨ k = l) W (fun k => M' k ∨ k = l) (W3.putObj l (.loop r')) ∧ St B b1 b2 M' W3 (W3.putObj l (.loop r')) ∧ (∀ D,Dd D → ¬ M' D ∧ (W3.putObj l (.loop r')).heap[D]? = W.heap[D]?) ∧ (W3.putObj l (.loop r')).heap[l]? = some (.loop r'):=fun r' => by
    refine ⟨invS _ _ _ (invL _ _ _ _ hInv hl3) (fun k hk hn => World.putObj_heap_other fun e => hn (.inr e)),⟨hext.trans (heb.trans (hch.ext.trans (Ext.put _ _ _))),fun k hk hn h1 h2 => ?_⟩,⟨fun k hk => ?_,fun k hk => ?_⟩,St.put _ _ hB hM'l,?_,World.putObj_heap_same hlt3⟩
    · have hkl:k ≠ l:=fun e => hn (.inr e)
      have hkM:¬ M0 k:=fun e => hn (.inl e)
      have hs:=hext.size;exact (World.putObj_heap_other hkl).trans ((hch.same k (by omega) hkM h1 h2).trans ((hob k hkl).trans (hsame k hk)))
    · have hs:=hext.size;rcases hk with hk | hk
      · rcases hsub.old k hk with e | e
        · exact .inl (.inl e)
        · exact .inr (by omega)
      · exact .inl (.inr hk)
    · rw [World.putObj_size];rcases hk with hk | hk
      · exact hsub.lt k hk
      · omega
    · intro D hd;obtain ⟨d1,d2,d3,d4⟩:=hDd D hd;have hDl2:D ≠ l:=by omega
      refine ⟨hM'D D hd,?_⟩;exact (World.putObj_heap_other hDl2).trans ((hch.same D (by omega) d4 d2 d3).trans ((hob D hDl2).trans (hsame D (by omega))))
  cases e with
  | normal =>
    obtain ⟨f1,f2,f3,f4,f5,f6⟩:=fin { r with state:=.ready,pending:=none };refine ⟨M',f1,f2,f3,hM'l,f5,.inl ⟨rfl,stI _ _ _ _ hend f4,?_⟩⟩;rw [f6];congr 2;cases r;simp_all
  | ret =>
    obtain ⟨f1,f2,f3,f4,f5,f6⟩:=fin { r with state:=.done,pending:=some .ret };exact ⟨M',f1,f2,f3,hM'l,f5,.inr ⟨rfl,.ret,stIx _ _ _ _ _ hend f4,f6⟩⟩
  | exit id =>
    obtain ⟨f1,f2,f3,f4,f5,f6⟩:=fin { r with state:=.done,pending:=some (.exit id) };exact ⟨M',f1,f2,f3,hM'l,f5,.inr ⟨rfl,.exit id,stIx _ _ _ _ _ hend f4,f6⟩⟩
  | goto t =>
    obtain ⟨f1,f2,f3,f4,f5,f6⟩:=fin { r with state:=.done,pending:=some (.goto t) };exact ⟨M',f1,f2,f3,hM'l,f5,.inr ⟨rfl,.goto t,stIx _ _ _ _ _ hend f4,f6⟩⟩
  | panic c => exact hend.elim
  | outgrown => exact hend.elim
theorem range_outer (hro:F.round = none) (hd:F.depth = none) (hg:a.eval g = .func (.func gf) #[] lb) (hFg:F.fn gf) (eg:∀ args w,(callFunc gf args).run P w = .ok (.enter gf args) w)
    (hit:Iter F P gf lb b1 b2 Inv Enc Kn w0 xs) (hb1:b1 < w.heap.size) (hb2:b2 < w.heap.size) (hB:B ≤ w.heap.size) (hw0:w0.heap.size ≤ w.heap.size) {M0:Nat → Prop} (hM0:∀ k,M0 k → k < w.heap.size)
    (hKn:∀ k,Kn k → k < w.heap.size ∧ ¬ M0 k ∧ w.heap[k]? = w0.heap[k]?) (hInv:Inv M0 w)
    (invS:∀ M W W',Inv M W → (∀ k,k < W.heap.size → ¬ M k → W'.heap[k]? = W.heap[k]?) → Inv M W')
    (invL:∀ M W l r,Inv M W → W.heap[l]? = some (.loop r) → Inv (fun k => M k ∨ k = l) W)
    (invM:∀ M M' W,Inv M W → (∀ k,M' k → M k) → Inv M' W)
    (I:List α → (Nat → Prop) → World → Prop) (Ix:Code → List α → (Nat → Prop) → World → Prop)
    (stI:∀ pre M W1 W2,I pre M W1 → St B b1 b2 M W1 W2 → I pre M W2) (stIx:∀ c pre M W1 W2,Ix c pre M W1 → St B b1 b2 M W1 W2 → Ix c pre M W2)
    (h0:I [] M0 w)
    (hround:∀ (l:Nat) (pre:List α) (x:α) (v:Value) (M:Nat → Prop) (W:World),w.heap.size ≤ l → I pre M W → Inv M W → Ch b1 b2 M0 w W → Sub M0 w M W → ¬ M l → (∃ r',W.heap[l]? = some (.loop r')) → pre ++ [x] <+: xs → Enc W (fun k => M k ∨ k = l) x v →
      ∃ Ax:Act → World → Prop,
      (∀ (K:Act → World → Prop),(∀ a' W',Ext W W' → (∀ k,k < W.heap.size → W'.heap[k]? = W.heap[k]?) → Ax a' W' → K a' W') →
        assign.wpIn (F.inRound l) 0 P (Exit.then K (fun _ _ _ => False)) { tmps:=a.tmps.setIfInBounds p v,defers:=[] } W) ∧
      (∀ a' Wa Wb,Ax a' Wa → Ext Wa Wb → Wb.heap.size = Wa.heap.size → (∀ k,k ≠ l → Wb.heap[k]? = Wa.heap[k]?) → (∃ r',Wb.heap[l]? = some (.loop r')) → W.heap.size ≤ Wa.heap.size →
        body.wpIn (F.inRound l) 0 P (bodyOf b1 b2 Inv I Ix (pre ++ [x]) M Wb) a' Wb))
    (hdone:∀ (M:Nat → Prop) (W:World),I xs M W → Inv M W → Ch b1 b2 M0 w W → Sub M0 w M W → ¬ M w.heap.size → W.heap[w.heap.size]? = some (.deferred (some [])) → w.heap.size < W.heap.size → Q .normal { a with defers:={ target:=.collected w.heap.size,args:=#[] } :: a.defers } W)
    (hstop:∀ (c:Code) (pre:List α) (M:Nat → Prop) (W:World),pre <+: xs → Ix c pre M W → Inv M W → Ch b1 b2 M0 w W → Sub M0 w M W → ¬ M w.heap.size → W.heap[w.heap.size]? = some (.deferred (some [])) → w.heap.size < W.heap.size → c.wpIn F n P Q { a with defers:={ target:=.collected w.heap.size,args:=#[] } :: a.defers } W) :
    (Code.rangeFunc g #[p] assign body).wpIn F n P Q a w:=by
  refine wpIn_rangeFunc ?_;intro fn hfn;rw [hro];obtain ⟨rec,hrec⟩:∃ rec:Loop,rec = { state:=.ready,pending:=none,fn,tmps:=a.tmps,params:=#[p],assign,body,defers:=w.heap.size }:=⟨_,rfl⟩;obtain ⟨l,hl⟩:∃ l,l = w.heap.size + 1:=⟨_,rfl⟩;obtain ⟨W1,hW1⟩:∃ W1,(w.alloc (.deferred (some []))).alloc (.loop rec) = W1:=⟨_,rfl⟩;have hL1:W1.heap[l]? = some (.loop rec):=by
    rw [← hW1,hl];have:=World.alloc_heap_new (w.alloc (.deferred (some []))) (.loop rec);rwa [World.size_alloc] at this
  have hK1:W1.heap[w.heap.size]? = some (.deferred (some [])):=by
    rw [← hW1];exact (Below.heap_alloc _ _ _ (by simp)).trans (World.alloc_heap_new w _)
  have hsame1:∀ k,k < w.heap.size → W1.heap[k]? = w.heap[k]?:=fun k hk => by
    rw [← hW1];exact (Below.heap_alloc _ _ _ (by simp;omega)).trans (Below.heap_alloc _ _ _ hk)
  have hsz1:W1.heap.size = w.heap.size + 2:=by rw [← hW1];simp
  have hext1:Ext w W1:=by rw [← hW1];exact ⟨rfl,rfl,rfl,by simp;omega⟩
  have hD:w.heap.size < l:=by omega
  have hDb:w.heap.size ≠ b1 ∧ w.heap.size ≠ b2:=by omega
  have hM0D:¬ M0 w.heap.size:=fun e => by have:=hM0 _ e;omega
  obtain ⟨D,hDe⟩:∃ D,D = w.heap.size:=⟨_,rfl⟩;have hM0l:¬ M0 l:=fun e => by have:=hM0 _ e;omega
  have hst1:St B b1 b2 M0 w W1:=⟨hext1,fun k hk _ _ _ => hsame1 k hk⟩;have hInv1:Inv (fun k => M0 k ∨ k = l) W1:=invL _ _ _ _ (invS _ _ _ hInv fun k hk _ => hsame1 k hk) hL1;have hh:=hit l (n - 1)
    (fun pre M W => ∃ N:Nat → Prop,M = (fun k => N k ∨ k = l) ∧ ¬ N l ∧ I pre N W ∧ W.heap[l]? = some (.loop rec) ∧ Ch b1 b2 M0 w W ∧ Sub M0 w N W ∧ ¬ N w.heap.size ∧ W.heap[w.heap.size]? = some (.deferred (some [])))
    (fun pre M W => ∃ N:Nat → Prop,M = (fun k => N k ∨ k = l) ∧ ¬ N l ∧ (∃ c,Ix c pre N W ∧ W.heap[l]? = some (.loop { rec with state:=.done,pending:=some c })) ∧ Ch b1 b2 M0 w W ∧ Sub M0 w N W ∧ ¬ N w.heap.size ∧ W.heap[w.heap.size]? = some (.deferred (some [])))
    (fun k => M0 k ∨ k = l) W1 (fun k hk => by
      rcases hk with hk | hk
      · have:=hM0 k hk;omega
      · omega)
    (fun k hk => by
      obtain ⟨h1,h2,h3⟩:=hKn k hk;exact ⟨fun e => by rcases e with e | e;exact h2 e;omega,(hsame1 k h1).trans h3⟩)
    (by omega) hInv1
    (fun pre M Wx Wy hj hst => by
      obtain ⟨N,rfl,hNl,hi,hlx,hch,hsb,hND,hK⟩:=hj;have hlt:=(Array.getElem?_eq_some_iff.1 hlx).1;have hs:=hst.less (M':=N) (B':=B) (by omega) (fun k hk => Or.inl hk);exact ⟨N,rfl,hNl,stI _ _ _ _ hi hs,(hst.same l hlt (.inl (.inr rfl)) (by omega) (by omega)).trans hlx,⟨hch.ext.trans hst.ext,fun k hk hn h1 h2 => (hst.same k (Nat.lt_of_lt_of_le hk hch.ext.size) (.inr (by omega)) h1 h2).trans (hch.same k hk hn h1 h2)⟩,⟨hsb.old,fun k hk => Nat.lt_of_lt_of_le (hsb.lt k hk) hst.ext.size⟩,hND,(hst.same _ (Array.getElem?_eq_some_iff.1 hK).1 (.inr (by omega)) hDb.1 hDb.2).trans hK⟩)
    (fun pre M Wx Wy hj hst => by
      obtain ⟨N,rfl,hNl,⟨c,hi,hlx⟩,hch,hsb,hND,hK⟩:=hj;have hlt:=(Array.getElem?_eq_some_iff.1 hlx).1;have hs:=hst.less (M':=N) (B':=B) (by omega) (fun k hk => Or.inl hk);exact ⟨N,rfl,hNl,⟨c,stIx _ _ _ _ _ hi hs,(hst.same l hlt (.inl (.inr rfl)) (by omega) (by omega)).trans hlx⟩,⟨hch.ext.trans hst.ext,fun k hk hn h1 h2 => (hst.same k (Nat.lt_of_lt_of_le hk hch.ext.size) (.inr (by omega)) h1 h2).trans (hch.same k hk hn h1 h2)⟩,⟨hsb.old,fun k hk => Nat.lt_of_lt_of_le (hsb.lt k hk) hst.ext.size⟩,hND,(hst.same _ (Array.getElem?_eq_some_iff.1 hK).1 (.inr (by omega)) hDb.1 hDb.2).trans hK⟩)
    ?_ ⟨M0,rfl,hM0l,stI _ _ _ _ h0 hst1,hL1,⟨hext1,fun k hk _ _ _ => hsame1 k hk⟩,⟨fun k hk => .inl hk,fun k hk => by have:=hM0 k hk;omega⟩,hM0D,hK1⟩
  · refine ⟨l,[{ target:=.collected w.heap.size,args:=#[] }],W1,{ target:=.fn (.func gf) lb,args:=#[.func (.yield l) #[] #[]] },W1,gf,#[.func (.yield l) #[] #[]] ++ lb,W1,?_,?_,?_,?_,(fun e => by rw [hd] at e;cases e),?_⟩
    · rw [← hW1,hrec,hl];exact run_enterLoop_outer _ _ _ _ _
    · simp only [resolve,hg];simp [go_sem]
    · intro f' hf';simp [Target.leads] at hf';subst hf';exact hFg
    · simp [invoke,go_sem,eg]
    · refine hh.mono ?_;rintro e W2 ⟨M,⟨v,rfl⟩,hInv2,hch2,hsub2,hend⟩;rcases hend with ⟨N,rfl,hNl,hi,hlx,hch,hsb,hND,hK⟩ | ⟨pre,hpre,N,rfl,hNl,⟨c,hi,hlx⟩,hch,hsb,hND,hK⟩
      · have hlt:=(Array.getElem?_eq_some_iff.1 hlx).1;have hs:St B b1 b2 N W2 (W2.putObj l (.loop { rec with state:=.exhausted })):=St.put _ _ (by omega) hNl;have hinv3:Inv N (W2.putObj l (.loop { rec with state:=.exhausted })):=invM _ _ _ (invS _ _ _ hInv2 fun k hk hn => World.putObj_heap_other fun e => hn (.inr e)) fun k hk => .inl hk
        have hch3:Ch b1 b2 M0 w (W2.putObj l (.loop { rec with state:=.exhausted })):=⟨hch.ext.trans (Ext.put _ _ _),fun k hk hn h1 h2 => (World.putObj_heap_other (by omega)).trans (hch.same k hk hn h1 h2)⟩;have hsb3:Sub M0 w N (W2.putObj l (.loop { rec with state:=.exhausted })):=⟨hsb.old,fun k hk => by rw [World.putObj_size];exact hsb.lt k hk⟩;exact ⟨none,_,by have:=run_endLoop (P:=P) hlx (by rw [hrec];simp);rw [this,hrec],hdone N _ (stI _ _ _ _ hi hs) hinv3 hch3 hsb3 hND ((World.putObj_heap_other (by omega)).trans hK) (by rw [World.putObj_size];exact (Array.getElem?_eq_some_iff.1 hK).1)⟩
      · have hlt:=(Array.getElem?_eq_some_iff.1 hlx).1;have hs:St B b1 b2 N W2 (W2.putObj l (.loop { ({ rec with state:=.done,pending:=some c }:Loop) with state:=.exhausted })):=St.put _ _ (by omega) hNl;have hinv3:Inv N (W2.putObj l (.loop { ({ rec with state:=.done,pending:=some c }:Loop) with state:=.exhausted })):=invM _ _ _ (invS _ _ _ hInv2 fun k hk hn => World.putObj_heap_other fun e => hn (.inr e)) fun k hk => .inl hk
        have hch3:Ch b1 b2 M0 w (W2.putObj l (.loop { ({ rec with state:=.done,pending:=some c }:Loop) with state:=.exhausted })):=⟨hch.ext.trans (Ext.put _ _ _),fun k hk hn h1 h2 => (World.putObj_heap_other (by omega)).trans (hch.same k hk hn h1 h2)⟩;have hsb3:Sub M0 w N (W2.putObj l (.loop { ({ rec with state:=.done,pending:=some c }:Loop) with state:=.exhausted })):=⟨hsb.old,fun k hk => by rw [World.putObj_size];exact hsb.lt k hk⟩;exact ⟨some c,_,run_endLoop (P:=P) hlx (by simp),hstop c pre N _ hpre (stIx _ _ _ _ _ hi hs) hinv3 hch3 hsb3 hND ((World.putObj_heap_other (by omega)).trans hK) (by rw [World.putObj_size];exact (Array.getElem?_eq_some_iff.1 hK).1)⟩
  · intro pre x v M W hj hInvW hMlt hpx henc;obtain ⟨N,rfl,hNl,hi,hlx,hch,hsb,hND,hK⟩:=hj;have hInvN:Inv N W:=invM _ _ _ hInvW fun k hk => .inl hk
    obtain ⟨Ax,hA,hBd⟩:=hround l pre x v N W (by omega) hi hInvN hch hsb hNl ⟨_,hlx⟩ hpx henc;have hres:=round_of_body (fun D => D = w.heap.size) (b1:=b1) (b2:=b2) (B:=B) (v:=v) (pre:=pre) (x:=x) (M0:=N) (Inv:=Inv) (p:=p) (n:=0) (by omega) (by omega) (by omega) (fun D e => by subst e;exact ⟨by omega,hDb.1,hDb.2,hND⟩) hlx (by rw [hrec]) (by rw [hrec]) (by rw [hrec]) (by rw [hrec];exact hfn) invS invL I Ix stI stIx hNl Ax
      (by rw [hrec];exact hA)
      (fun a' Wa Wb h1 h2 h3 h4 h5 h6 => by
        have:=hBd a' Wa Wb h1 h2 h3 h4 (by obtain ⟨r',h,_⟩:=h5;exact ⟨r',h⟩) h6;rw [hrec];exact this)
    refine hres.mono ?_;rintro e W' ⟨M',f1,f2,f3,f4,f5,f7⟩;have hchw:Ch b1 b2 M0 w W':=⟨hch.ext.trans f2.ext,fun k hk hn h1 h2 => (f2.same k (Nat.lt_of_lt_of_le hk hch.ext.size) (fun e => by
      rcases e with e | e
      · rcases hsb.old k e with e2 | e2
        · exact hn e2
        · omega
      · omega) h1 h2).trans (hch.same k hk hn h1 h2)⟩
    have hsbw:Sub M0 w M' W':=⟨fun k hk => by
      rcases f3.old k (.inl hk) with e | e
      · rcases e with e | e
        · exact hsb.old k e
        · exact .inr (by omega)
      · have:=hch.ext.size;exact .inr (by omega),fun k hk => f3.lt k (.inl hk)⟩
    refine ⟨_,f1,f2,f3,?_⟩;rcases f7 with ⟨rfl,g1,g2⟩ | ⟨rfl,c,g1,g2⟩
    · exact .inl ⟨rfl,M',rfl,f4,g1,g2,hchw,hsbw,(f5 _ rfl).1,(f5 _ rfl).2.trans hK⟩
    · exact .inr ⟨rfl,M',rfl,f4,⟨c,g1,g2⟩,hchw,hsbw,(f5 _ rfl).1,(f5 _ rfl).2.trans hK⟩
theorem range_inner {l₀:Nat} {r₀:Loop} (hro:F.round = some l₀) (hl₀:w.heap[l₀]? = some (.loop r₀)) (hd:F.depth = none) (hg:a.eval g = .func (.func gf) #[] lb) (hFg:F.fn gf) (eg:∀ args w,(callFunc gf args).run P w = .ok (.enter gf args) w)
    (hit:Iter F P gf lb b1 b2 Inv Enc Kn w0 xs) (hb1:b1 < w.heap.size) (hb2:b2 < w.heap.size) (hB:B ≤ w.heap.size) (hw0:w0.heap.size ≤ w.heap.size) {M0:Nat → Prop} (hM0:∀ k,M0 k → k < w.heap.size)
    (hKn:∀ k,Kn k → k < w.heap.size ∧ ¬ M0 k ∧ w.heap[k]? = w0.heap[k]?) (hInv:Inv M0 w)
    (invS:∀ M W W',Inv M W → (∀ k,k < W.heap.size → ¬ M k → W'.heap[k]? = W.heap[k]?) → Inv M W')
    (invL:∀ M W l r,Inv M W → W.heap[l]? = some (.loop r) → Inv (fun k => M k ∨ k = l) W)
    (invM:∀ M M' W,Inv M W → (∀ k,M' k → M k) → Inv M' W)
    (I:List α → (Nat → Prop) → World → Prop) (Ix:Code → List α → (Nat → Prop) → World → Prop)
    (stI:∀ pre M W1 W2,I pre M W1 → St B b1 b2 M W1 W2 → I pre M W2) (stIx:∀ c pre M W1 W2,Ix c pre M W1 → St B b1 b2 M W1 W2 → Ix c pre M W2)
    (h0:I [] M0 w)
    (hround:∀ (l:Nat) (pre:List α) (x:α) (v:Value) (M:Nat → Prop) (W:World),w.heap.size ≤ l → I pre M W → Inv M W → Ch b1 b2 M0 w W → Sub M0 w M W → ¬ M l → (∃ r',W.heap[l]? = some (.loop r')) → pre ++ [x] <+: xs → Enc W (fun k => M k ∨ k = l) x v →
      ∃ Ax:Act → World → Prop,
      (∀ (K:Act → World → Prop),(∀ a' W',Ext W W' → (∀ k,k < W.heap.size → W'.heap[k]? = W.heap[k]?) → Ax a' W' → K a' W') →
        assign.wpIn (F.inRound l) 0 P (Exit.then K (fun _ _ _ => False)) { tmps:=a.tmps.setIfInBounds p v,defers:=[] } W) ∧
      (∀ a' Wa Wb,Ax a' Wa → Ext Wa Wb → Wb.heap.size = Wa.heap.size → (∀ k,k ≠ l → Wb.heap[k]? = Wa.heap[k]?) → (∃ r',Wb.heap[l]? = some (.loop r')) → W.heap.size ≤ Wa.heap.size →
        body.wpIn (F.inRound l) 0 P (bodyOf b1 b2 Inv I Ix (pre ++ [x]) M Wb) a' Wb))
    (hdone:∀ (M:Nat → Prop) (W:World),I xs M W → Inv M W → Ch b1 b2 M0 w W → Sub M0 w M W → Q .normal a W)
    (hstop:∀ (c:Code) (pre:List α) (M:Nat → Prop) (W:World),pre <+: xs → Ix c pre M W → Inv M W → Ch b1 b2 M0 w W → Sub M0 w M W → c.wpIn F n P Q a W) :
    (Code.rangeFunc g #[p] assign body).wpIn F n P Q a w:=by
  refine wpIn_rangeFunc ?_;intro fn hfn;rw [hro];obtain ⟨rec,hrec⟩:∃ rec:Loop,rec = { state:=.ready,pending:=none,fn,tmps:=a.tmps,params:=#[p],assign,body,defers:=r₀.defers }:=⟨_,rfl⟩;obtain ⟨l,hl⟩:∃ l,l = w.heap.size:=⟨_,rfl⟩;obtain ⟨W1,hW1⟩:∃ W1,w.alloc (.loop rec) = W1:=⟨_,rfl⟩;have hL1:W1.heap[l]? = some (.loop rec):=by
    rw [← hW1,hl];exact World.alloc_heap_new w _
  have hsame1:∀ k,k < w.heap.size → W1.heap[k]? = w.heap[k]?:=fun k hk => by
    rw [← hW1];exact Below.heap_alloc _ _ _ hk
  have hsz1:W1.heap.size = w.heap.size + 1:=by rw [← hW1];simp
  have hext1:Ext w W1:=by rw [← hW1];exact ⟨rfl,rfl,rfl,by simp⟩
  have hM0l:¬ M0 l:=fun e => by have:=hM0 _ e;omega
  have hst1:St B b1 b2 M0 w W1:=⟨hext1,fun k hk _ _ _ => hsame1 k hk⟩;have hInv1:Inv (fun k => M0 k ∨ k = l) W1:=invL _ _ _ _ (invS _ _ _ hInv fun k hk _ => hsame1 k hk) hL1;have hh:=hit l (n - 1)
    (fun pre M W => ∃ N:Nat → Prop,M = (fun k => N k ∨ k = l) ∧ ¬ N l ∧ I pre N W ∧ W.heap[l]? = some (.loop rec) ∧ Ch b1 b2 M0 w W ∧ Sub M0 w N W)
    (fun pre M W => ∃ N:Nat → Prop,M = (fun k => N k ∨ k = l) ∧ ¬ N l ∧ (∃ c,Ix c pre N W ∧ W.heap[l]? = some (.loop { rec with state:=.done,pending:=some c })) ∧ Ch b1 b2 M0 w W ∧ Sub M0 w N W)
    (fun k => M0 k ∨ k = l) W1 (fun k hk => by
      rcases hk with hk | hk
      · have:=hM0 k hk;omega
      · omega)
    (fun k hk => by
      obtain ⟨h1,h2,h3⟩:=hKn k hk;exact ⟨fun e => by rcases e with e | e;exact h2 e;omega,(hsame1 k h1).trans h3⟩)
    (by omega) hInv1
    (fun pre M Wx Wy hj hst => by
      obtain ⟨N,rfl,hNl,hi,hlx,hch,hsb⟩:=hj;have hlt:=(Array.getElem?_eq_some_iff.1 hlx).1;have hs:=hst.less (M':=N) (B':=B) (by omega) (fun k hk => Or.inl hk);exact ⟨N,rfl,hNl,stI _ _ _ _ hi hs,(hst.same l hlt (.inl (.inr rfl)) (by omega) (by omega)).trans hlx,⟨hch.ext.trans hst.ext,fun k hk hn h1 h2 => (hst.same k (Nat.lt_of_lt_of_le hk hch.ext.size) (.inr (by omega)) h1 h2).trans (hch.same k hk hn h1 h2)⟩,⟨hsb.old,fun k hk => Nat.lt_of_lt_of_le (hsb.lt k hk) hst.ext.size⟩⟩)
    (fun pre M Wx Wy hj hst => by
      obtain ⟨N,rfl,hNl,⟨c,hi,hlx⟩,hch,hsb⟩:=hj;have hlt:=(Array.getElem?_eq_some_iff.1 hlx).1;have hs:=hst.less (M':=N) (B':=B) (by omega) (fun k hk => Or.inl hk);exact ⟨N,rfl,hNl,⟨c,stIx _ _ _ _ _ hi hs,(hst.same l hlt (.inl (.inr rfl)) (by omega) (by omega)).trans hlx⟩,⟨hch.ext.trans hst.ext,fun k hk hn h1 h2 => (hst.same k (Nat.lt_of_lt_of_le hk hch.ext.size) (.inr (by omega)) h1 h2).trans (hch.same k hk hn h1 h2)⟩,⟨hsb.old,fun k hk => Nat.lt_of_lt_of_le (hsb.lt k hk) hst.ext.size⟩⟩)
    ?_ ⟨M0,rfl,hM0l,stI _ _ _ _ h0 hst1,hL1,⟨hext1,fun k hk _ _ _ => hsame1 k hk⟩,⟨fun k hk => .inl hk,fun k hk => by have:=hM0 k hk;omega⟩⟩
  · refine ⟨l,[],W1,{ target:=.fn (.func gf) lb,args:=#[.func (.yield l) #[] #[]] },W1,gf,#[.func (.yield l) #[] #[]] ++ lb,W1,?_,?_,?_,?_,(fun e => by rw [hd] at e;cases e),?_⟩
    · rw [← hW1,hrec,hl];exact run_enterLoop_inner hl₀ _ _ _ _ _
    · simp only [resolve,hg];simp [go_sem]
    · intro f' hf';simp [Target.leads] at hf';subst hf';exact hFg
    · simp [invoke,go_sem,eg]
    · refine hh.mono ?_;rintro e W2 ⟨M,⟨v,rfl⟩,hInv2,hch2,hsub2,hend⟩;rcases hend with ⟨N,rfl,hNl,hi,hlx,hch,hsb⟩ | ⟨pre,hpre,N,rfl,hNl,⟨c,hi,hlx⟩,hch,hsb⟩
      · have hlt:=(Array.getElem?_eq_some_iff.1 hlx).1;have hs:St B b1 b2 N W2 (W2.putObj l (.loop { rec with state:=.exhausted })):=St.put _ _ (by omega) hNl;have hinv3:Inv N (W2.putObj l (.loop { rec with state:=.exhausted })):=invM _ _ _ (invS _ _ _ hInv2 fun k hk hn => World.putObj_heap_other fun e => hn (.inr e)) fun k hk => .inl hk
        have hch3:Ch b1 b2 M0 w (W2.putObj l (.loop { rec with state:=.exhausted })):=⟨hch.ext.trans (Ext.put _ _ _),fun k hk hn h1 h2 => (World.putObj_heap_other (by omega)).trans (hch.same k hk hn h1 h2)⟩;have hsb3:Sub M0 w N (W2.putObj l (.loop { rec with state:=.exhausted })):=⟨hsb.old,fun k hk => by rw [World.putObj_size];exact hsb.lt k hk⟩;exact ⟨none,_,by have:=run_endLoop (P:=P) hlx (by rw [hrec];simp);rw [this,hrec],hdone N _ (stI _ _ _ _ hi hs) hinv3 hch3 hsb3⟩
      · have hlt:=(Array.getElem?_eq_some_iff.1 hlx).1;have hs:St B b1 b2 N W2 (W2.putObj l (.loop { ({ rec with state:=.done,pending:=some c }:Loop) with state:=.exhausted })):=St.put _ _ (by omega) hNl;have hinv3:Inv N (W2.putObj l (.loop { ({ rec with state:=.done,pending:=some c }:Loop) with state:=.exhausted })):=invM _ _ _ (invS _ _ _ hInv2 fun k hk hn => World.putObj_heap_other fun e => hn (.inr e)) fun k hk => .inl hk
        have hch3:Ch b1 b2 M0 w (W2.putObj l (.loop { ({ rec with state:=.done,pending:=some c }:Loop) with state:=.exhausted })):=⟨hch.ext.trans (Ext.put _ _ _),fun k hk hn h1 h2 => (World.putObj_heap_other (by omega)).trans (hch.same k hk hn h1 h2)⟩;have hsb3:Sub M0 w N (W2.putObj l (.loop { ({ rec with state:=.done,pending:=some c }:Loop) with state:=.exhausted })):=⟨hsb.old,fun k hk => by rw [World.putObj_size];exact hsb.lt k hk⟩;exact ⟨some c,_,run_endLoop (P:=P) hlx (by simp),hstop c pre N _ hpre (stIx _ _ _ _ _ hi hs) hinv3 hch3 hsb3⟩
  · intro pre x v M W hj hInvW hMlt hpx henc;obtain ⟨N,rfl,hNl,hi,hlx,hch,hsb⟩:=hj;have hInvN:Inv N W:=invM _ _ _ hInvW fun k hk => .inl hk
    obtain ⟨Ax,hA,hBd⟩:=hround l pre x v N W (by omega) hi hInvN hch hsb hNl ⟨_,hlx⟩ hpx henc;have hres:=round_of_body (fun _ => False) (b1:=b1) (b2:=b2) (B:=B) (v:=v) (pre:=pre) (x:=x) (M0:=N) (Inv:=Inv) (p:=p) (n:=0) (by omega) (by omega) (by omega) (fun D e => e.elim) hlx (by rw [hrec]) (by rw [hrec]) (by rw [hrec]) (by rw [hrec];exact hfn) invS invL I Ix stI stIx hNl Ax
      (by rw [hrec];exact hA)
      (fun a' Wa Wb h1 h2 h3 h4 h5 h6 => by
        have:=hBd a' Wa Wb h1 h2 h3 h4 (by obtain ⟨r',h,_⟩:=h5;exact ⟨r',h⟩) h6;rw [hrec];exact this)
    refine hres.mono ?_;rintro e W' ⟨M',f1,f2,f3,f4,f5,f7⟩;have hchw:Ch b1 b2 M0 w W':=⟨hch.ext.trans f2.ext,fun k hk hn h1 h2 => (f2.same k (Nat.lt_of_lt_of_le hk hch.ext.size) (fun e => by
      rcases e with e | e
      · rcases hsb.old k e with e2 | e2
        · exact hn e2
        · omega
      · omega) h1 h2).trans (hch.same k hk hn h1 h2)⟩
    have hsbw:Sub M0 w M' W':=⟨fun k hk => by
      rcases f3.old k (.inl hk) with e | e
      · rcases e with e | e
        · exact hsb.old k e
        · exact .inr (by omega)
      · have:=hch.ext.size;exact .inr (by omega),fun k hk => f3.lt k (.inl hk)⟩
    refine ⟨_,f1,f2,f3,?_⟩;rcases f7 with ⟨rfl,g1,g2⟩ | ⟨rfl,c,g1,g2⟩
    · exact .inl ⟨rfl,M',rfl,f4,g1,g2,hchw,hsbw⟩
    · exact .inr ⟨rfl,M',rfl,f4,⟨c,g1,g2⟩,hchw,hsbw⟩
end
end Kt
end
section
/- Lists. -/
namespace Ls
def nth (l:List Int) (k:Nat):Int:=l.getD k 0
theorem nth_of {l:List Int} {k:Nat} (h:k < l.length):l[k]? = some (nth l k):=by simp [nth,List.getD,h]
theorem nth_mem (l:List Int) (k:Nat) (h:k < l.length):nth l k ∈ l:=by simp [nth,List.getD,h]
theorem nth_get (l:List Int) (k:Nat) (h:k < l.length):nth l k = l[k]:=by simp [nth,List.getD,h]
theorem nth_take (l:List Int) (k j:Nat) (h:j < k):nth (l.take k) j = nth l j:=by
  have e:(l.take k)[j]? = l[j]?:=by rw [List.getElem?_take,if_pos h]
  simp only [nth,List.getD,e]
theorem ext_nth {a b:List Int} (hl:a.length = b.length) (h:∀ k,k < a.length → nth a k = nth b k):a = b:=by
  apply List.ext_getElem hl;intro k h1 h2;rw [← nth_get a k h1,← nth_get b k h2];exact h k h1
theorem take_succ' {α:Type} (l:List α) (k:Nat) (h:k < l.length):l.take (k + 1) = l.take k ++ [l[k]]:=List.take_succ_eq_append_getElem h
theorem take_nth (l:List Int) (k:Nat) (h:k < l.length):l.take (k + 1) = l.take k ++ [nth l k]:=by
  rw [take_succ' l k h,nth_get l k h]
def zeros (n:Nat):List Int:=List.replicate n 0
theorem zeros_len (n:Nat):(zeros n).length = n:=by simp [zeros]
end Ls
end
section
/- General facts on worlds and slices of integers, over any program: used by all walks of this seat. -/
namespace Kt
open Go Go.RowKit
theorem next {W w1 w2:World} (h:Below W.heap.size W w1) (k:Below w1.heap.size w1 w2):Below W.heap.size W w2:=h.trans (k.mono h.size)
theorem below_drewN {B:Nat} {a w:World} (h:Below B a w) (n:Nat):Below B a (w.drewN n):=⟨h.os,h.tape,h.output,h.size,h.block⟩
theorem below_of_drewN (w:World) (n:Nat):Below w.heap.size w (w.drewN n):=below_drewN (Below.refl _ _) n
theorem ret_int {k:IntKind} {a b:Int} (h:a = b):Ending.returned (.int k a) = .returned (.int k b):=by rw [h]
theorem ret_bool {a b:Bool} (h:a = b):Ending.returned (.bool a) = .returned (.bool b):=by rw [h]
theorem ret_ii {k l:IntKind} {a b c d:Int} (h:a = c) (h':b = d):Ending.returned (.tuple #[.int k a,.int l b]) = .returned (.tuple #[.int k c,.int l d]):=by rw [h,h']
section
variable {P:Program}
end
def Ints (w:World) (B:Nat) (k:IntKind) (A:Option Addr) (zs:List Int):Prop :=
  0 < zs.length → ∃ b off,A = some ⟨b,off,none⟩ ∧ b < B ∧ ∀ j,j < zs.length → w.cell? ⟨b,off + j,none⟩ = some (.int k (Ls.nth zs j))
section
variable {w w':World} {B B':Nat} {k:IntKind} {A:Option Addr} {zs:List Int}
theorem Ints.nil:Ints w B k A []:=fun h => absurd h (by simp)
theorem Ints.keep (h:Ints w B k A zs) (hk:∀ p:Addr,p.block < B → w'.cell? p = w.cell? p):Ints w' B k A zs:=fun hn => by
  obtain ⟨b,off,e,hb,hc⟩:=h hn;exact ⟨b,off,e,hb,fun j hj => (hk _ hb).trans (hc j hj)⟩
theorem Ints.more (h:Ints w B k A zs) (hB:B ≤ B'):Ints w B' k A zs:=fun hn => by
  obtain ⟨b,off,e,hb,hc⟩:=h hn;exact ⟨b,off,e,by omega,hc⟩
theorem Ints.below (h:Ints w B k A zs) (hb:Below B w w'):Ints w' B k A zs:=h.keep fun _ hp => hb.cell hp
theorem Ints.on (h:Ints w w.heap.size k A zs) (hb:Below w.heap.size w w'):Ints w' w'.heap.size k A zs:=(h.below hb).more hb.size
theorem Ints.drewN (h:Ints w B k A zs) (n:Nat):Ints (w.drewN n) B k A zs:=h
theorem Ints.alloc (h:Ints w B k A zs) (hB:B ≤ w.heap.size) (o:Obj):Ints (w.alloc o) B k A zs:=h.keep fun p hp => World.cell?_alloc_lt w o p (by omega)
theorem Ints.of_own {base:Nat} {e:TypeId} {n c:Nat} (h:w.ownsRow base e 1 (.slice A n c) n (zs.map (Value.int k))):Ints w w.heap.size k A zs:=by
  intro hn;have hl:zs.length = n:=by simpa using h.1
  obtain ⟨g,cap,hv,_,hlt⟩:=h.form (by omega);have hA:A = some ⟨g,0,none⟩:=by injection hv
  subst hA;refine ⟨g,0,rfl,hlt,fun j hj => ?_⟩;have:=h.cells (g:=g) rfl j (.int k (Ls.nth zs j)) (by rw [List.getElem?_map,Ls.nth_of hj];rfl);simpa [Addr.add_lit] using this
end
def Blk (w:World) (g:Nat) (t:TypeId) (cs:Array Value):Prop:=w.heap[g]? = some (.cells cs t (0,0))
section
variable {w w':World} {g:Nat} {t:TypeId} {cs:Array Value}
theorem Blk.lt (h:Blk w g t cs):g < w.heap.size:=by
  rcases Nat.lt_or_ge g w.heap.size with hlt | hge
  · exact hlt
  · unfold Blk at h;rw [Array.getElem?_eq_none hge] at h;cases h
theorem Blk.cell (h:Blk w g t cs) (i:Nat):w.cell? ⟨g,i,none⟩ = cs[i]?:=cell_of_row w g i cs t (0,0) h
theorem Blk.frozen (h:Blk w g t cs) (i:Nat):w.frozen? ⟨g,i,none⟩ = false:=by
  unfold Blk at h;simp [World.frozen?,h]
theorem Blk.new (w:World) (t:TypeId) (cs:Array Value):Blk (w.alloc (.cells cs t)) w.heap.size t cs:=heap_alloc_new w _
theorem Blk.new' (w:World) (g:Nat) (T:TypeId) (cs:Array Value) (hg:g = w.heap.size):Blk (w.alloc (.cells cs T)) g T cs:=by subst hg;exact Blk.new w T cs
theorem Blk.drewN (h:Blk w g t cs) (n:Nat):Blk (w.drewN n) g t cs:=h
theorem Blk.alloc (h:Blk w g t cs) (o:Obj):Blk (w.alloc o) g t cs:=(Below.heap_alloc w o g h.lt).trans h
theorem Blk.set_ (h:Blk w g t cs) (i:Nat) (u:Value):Blk (w.setCell ⟨g,i,none⟩ u) g t (cs.setIfInBounds i u):=by
  unfold Blk at h ⊢;simp [World.setCell,Array.getElem?_modify,h]
theorem Blk.far (h:Blk w g t cs) {p:Addr} (hp:g ≠ p.block) (u:Value):Blk (w.setCell p u) g t cs:=(Below.heap_setCell w p u g hp).trans h
theorem Blk.below {B:Nat} (h:Blk w g t cs) (hb:Below B w w') (hg:g < B):Blk w' g t cs:=(hb.block g hg).trans h
theorem Blk.on (h:Blk w g t cs) (hb:Below w.heap.size w w'):Blk w' g t cs:=h.below hb h.lt
theorem Blk.grown {row:Option Nat} (h:Blk w g t cs) (hb:w.grownBy w' row) (hg:some g ≠ row):Blk w' g t cs:=(hb.block g h.lt hg).trans h
end
def IArr (k:IntKind) (zs:List Int):Array Value:=(zs.map (Value.int k)).toArray
theorem IArr_get (k:IntKind) (zs:List Int) (j:Nat) (h:j < zs.length):(IArr k zs)[j]? = some (.int k (Ls.nth zs j)):=by
  unfold IArr;rw [List.getElem?_toArray,List.getElem?_map,Ls.nth_of h];rfl
theorem IArr_set (k:IntKind) (zs:List Int) (j:Nat) (v:Int):(IArr k zs).setIfInBounds j (.int k v) = IArr k (zs.set j v):=by
  unfold IArr;rw [List.setIfInBounds_toArray,List.map_set]
def IBlk (w:World) (g:Nat) (T:TypeId) (k:IntKind) (zs:List Int):Prop:=Blk w g T (IArr k zs)
section
variable {w w':World} {g:Nat} {T:TypeId} {k:IntKind} {zs:List Int}
theorem IBlk.lt (h:IBlk w g T k zs):g < w.heap.size:=Blk.lt h
theorem IBlk.cell (h:IBlk w g T k zs) (j:Nat) (hj:j < zs.length):w.cell? ⟨g,j,none⟩ = some (.int k (Ls.nth zs j)):=(Blk.cell h j).trans (IArr_get k zs j hj)
theorem IBlk.frozen (h:IBlk w g T k zs) (j:Nat):w.frozen? ⟨g,j,none⟩ = false:=Blk.frozen h j
theorem IBlk.new (w:World) (T:TypeId) (k:IntKind) (zs:List Int):IBlk (w.alloc (.cells (IArr k zs) T)) w.heap.size T k zs:=Blk.new w T _
theorem IBlk.new' (w:World) (g:Nat) (T:TypeId) (k:IntKind) (zs:List Int) (hg:g = w.heap.size):IBlk (w.alloc (.cells (IArr k zs) T)) g T k zs:=by subst hg;exact IBlk.new w T k zs
theorem IBlk.drewN (h:IBlk w g T k zs) (n:Nat):IBlk (w.drewN n) g T k zs:=h
theorem IBlk.alloc (h:IBlk w g T k zs) (o:Obj):IBlk (w.alloc o) g T k zs:=Blk.alloc h o
theorem IBlk.set_ (h:IBlk w g T k zs) (j:Nat) (v:Int):IBlk (w.setCell ⟨g,j,none⟩ (.int k v)) g T k (zs.set j v):=by
  have:=Blk.set_ h j (.int k v);rwa [IArr_set] at this
theorem IBlk.on (h:IBlk w g T k zs) (hb:Below w.heap.size w w'):IBlk w' g T k zs:=Blk.on h hb
theorem IBlk.below {B:Nat} (h:IBlk w g T k zs) (hb:Below B w w') (hg:g < B):IBlk w' g T k zs:=Blk.below h hb hg
theorem IBlk.far (h:IBlk w g T k zs) {p:Addr} (hp:g ≠ p.block) (u:Value):IBlk (w.setCell p u) g T k zs:=Blk.far h hp u
theorem IBlk.ints (h:IBlk w g T k zs):Ints w w.heap.size k (some ⟨g,0,none⟩) zs:=fun _ => ⟨g,0,rfl,h.lt,fun j hj => by rw [Nat.zero_add];exact h.cell j hj⟩
end
theorem run_make_ints {P:Program} (t e:TypeId) (i:TypeInfo) (k:IntKind) (ht:P.underlying t = some (.slice e)) (hi:P.info? e = some i) (hz:i.zero = some (.int k 0)) (hs:i.size = 1) (hb:i.bytes ≤ 8) (n:Nat) (hn:n ≤ 1099511627776) (w:World) :
    (Instr.makeSlice t (.int .i64 (n:Int)) (.int .i64 (n:Int))).run P w = .ok (.slice (some ⟨w.heap.size,0,none⟩) n n) (w.alloc (.cells (IArr k (Ls.zeros n)) e)):=by
  have hbb:(i.bytes:Int) * (n:Int) ≤ 8 * 1099511627776:=Int.mul_le_mul (by omega) (by omega) (by omega) (by omega);have hr:=run_make (P:=P) w t e i _ ht hi hz .i64 .i64 n n (by omega) (by omega) (by omega) (by omega);simp only [Int.toNat_natCast,hs,Nat.mul_one] at hr;rw [hr];have e:madeCells (Value.int k 0).cells n = IArr k (Ls.zeros n):=by
    have h1:(Value.int k 0).cells = #[Value.int k 0]:=rfl;rw [h1];apply Array.toList_inj.1;rw [toList_madeCells_one];simp [IArr,Ls.zeros]
  rw [e]
end Kt
end
