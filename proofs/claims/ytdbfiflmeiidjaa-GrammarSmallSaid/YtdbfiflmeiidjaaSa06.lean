/- Joined: GrE. -/
import Derived.Test.YtdbfiflmeiidjaaSa03
import Derived.Test.YtdbfiflmeiidjaaSa04
import Derived.Test.YtdbfiflmeiidjaaSa05
section
/- A chart while it is made: its endings, its rules, its maps in memory. -/
namespace Gr
structure End where
  item:Item
  next:Nat
  items:Nat
def e0:End:=⟨⟨0,0⟩,0,0⟩
def en (E:List End) (n:Nat):End:=E.getD n e0
def endCells (e:End):List Go.Value:=[.int .u16 e.item.cls,.int .i64 e.item.sym,.int .i64 e.next,.int .i64 e.items]
def endVal (e:End):Go.Value:=.agg #[.int .u16 e.item.cls,.int .i64 e.item.sym,.int .i64 e.next,.int .i64 e.items]
def flatE (E:List End):List Go.Value:=E.flatMap endCells
theorem flatE_snoc (E:List End) (e:End):flatE (E ++ [e]) = flatE E ++ endCells e:=by simp [flatE]
theorem flatE_get:∀ (E:List End) (n j:Nat),n < E.length → j < 4 → (flatE E)[n * 4 + j]? = (endCells (en E n))[j]?
  | [],n,j,h,_ => by simp at h
  | e :: E,0,j,_,hj => by
    show (endCells e ++ flatE E)[0 * 4 + j]? = _;rw [Nat.zero_mul,Nat.zero_add,List.getElem?_append_left (by simp [endCells];exact hj)];rfl
  | e :: E,n + 1,j,h,hj => by
    show (endCells e ++ flatE E)[(n + 1) * 4 + j]? = _;have hl:(endCells e).length = 4:=rfl;rw [List.getElem?_append_right (by omega),hl,show (n + 1) * 4 + j - 4 = n * 4 + j from by omega];exact flatE_get E n j (by simpa using h) hj
theorem en_left (E:List End) (e:End) {n:Nat} (h:n < E.length):en (E ++ [e]) n = en E n:=by
  unfold en;rw [List.getD_eq_getElem?_getD,List.getD_eq_getElem?_getD,List.getElem?_append_left h]
theorem en_new (E:List End) (e:End):en (E ++ [e]) E.length = e:=by
  unfold en;rw [List.getD_eq_getElem?_getD,List.getElem?_append_right (Nat.le_refl _),Nat.sub_self];rfl
inductive Ends (E:List End):Nat → List Item → Prop
  | nil:Ends E 0 []
  | cons {n m:Nat} {x:Item} {l:List Item}:0 < n → n < E.length → en E n = ⟨x,m,l.length + 1⟩ → Ends E m l → Ends E n (x :: l)
theorem Ends.more {E:List End} {n:Nat} {l:List Item} (h:Ends E n l) (e:End):Ends (E ++ [e]) n l:=by
  induction h with
  | nil => exact .nil
  | cons h1 h2 h3 _ ih => exact .cons h1 (by simp;omega) (by rw [en_left _ _ h2];exact h3) ih
structure EndsOk (E:List End):Prop where
  pos:0 < E.length
  zero:en E 0 = e0
theorem EndsOk.more {E:List End} (h:EndsOk E) (e:End):EndsOk (E ++ [e]):=⟨by simp,by rw [en_left _ _ h.pos];exact h.zero⟩
theorem Ends.lt {E:List End} {n:Nat} {l:List Item} (h:Ends E n l) (hE:EndsOk E):n < E.length:=by
  cases h with
  | nil => exact hE.pos
  | cons _ h2 _ _ => exact h2
theorem Ends.items {E:List End} {n:Nat} {l:List Item} (h:Ends E n l) (hE:EndsOk E):(en E n).items = l.length:=by
  cases h with
  | nil => rw [hE.zero];rfl
  | cons _ _ h3 _ => rw [h3];rfl
def rulesTo (g:List Rule) (k:Nat) (s:Int):List Int:=((List.range k).filter fun r => decide ((rul g r).left = s)).map Int.ofNat
theorem rulesTo_succ (g:List Rule) (k:Nat) (s:Int):rulesTo g (k + 1) s = if (rul g k).left = s then rulesTo g k s ++ [(k:Int)] else rulesTo g k s:=by
  unfold rulesTo;rw [List.range_succ,List.filter_append,List.map_append];by_cases h:(rul g k).left = s
  · rw [if_pos h];simp [h]
  · rw [if_neg h];simp [h]
theorem rulesTo_len (g:List Rule) (k:Nat) (s:Int):(rulesTo g k s).length ≤ k:=by
  unfold rulesTo;rw [List.length_map];exact Nat.le_trans (List.length_filter_le _ _) (by simp)
end Gr
namespace Go.Proofs.Ytdbfiflmeiidjaa
open Go Go.RowKit
structure NC (B:Nat) (g:List Gr.Rule) (k1 k2:Nat) (tv:Value) (n:Nat) (w:World) (V:Nat → Value) (EV:Value) (E:List Gr.End) (zs:List Int):Prop where
  size:B + 6 ≤ w.heap.size
  rows:Kt.RowsV w (B + 6) (B + 4) 1 3 V (fun s => Gr.rulesTo g k1 (s:Int))
  c0:w.cell? ⟨B + 4,0,none⟩ = some tv
  c65:w.cell? ⟨B + 4,65,none⟩ = some (.slice (some ⟨B,0,none⟩) n n)
  c66:w.cell? ⟨B + 4,66,none⟩ = some EV
  c67:w.cell? ⟨B + 4,67,none⟩ = some (.map (some (B + 2)))
  c68:w.cell? ⟨B + 4,68,none⟩ = some (.map (some (B + 3)))
  beg:Kt.IBlk w B 3 .i64 zs
  zl:zs.length = n
  nb:∀ r,r < k2 → ∃ m:Nat,Ls.nth zs r = (m:Int) ∧ Gr.Ends E m (Gr.rul g r).right
  ends:w.ownsRow (B + 1) 97 4 EV E.length (Gr.flatE E)
  ev:∃ ge,EV.ownBlock = some ge ∧ (ge = B + 1 ∨ B + 6 ≤ ge) ∧ ∀ s,s < 64 → (V s).ownBlock ≠ some ge
  eok:Gr.EndsOk E
  m1:∃ c,w.heap[B + 2]? = some (.map #[] c)
  m2:∃ c,w.heap[B + 3]? = some (.map #[] c)
  num:∃ es c,w.heap[B + 5]? = some (.map es c) ∧ ∀ e ∈ es.toList,∃ j,0 < j ∧ j < E.length ∧ e.key = Gr.endVal (Gr.en E j) ∧ e.val = .int .i64 (j:Int) ∧ ∃ lit,keyOf Try.prog 97 e.key = some lit
variable {B:Nat} {g:List Gr.Rule} {k1 k2:Nat} {tv:Value} {n:Nat} {w w':World} {V:Nat → Value} {EV:Value} {E:List Gr.End} {zs:List Int}
theorem cellNew {W w:World} {a:Addr} (hb:Below W.heap.size W w) (ha:a.block < W.heap.size) {v:Value} (h:W.cell? a = some v):w.cell? a = some v:=(hb.cell ha).trans h
theorem NC.on (h:NC B g k1 k2 tv n w V EV E zs) (hb:Below w.heap.size w w'):NC B g k1 k2 tv n w' V EV E zs:=by
  have hs:=h.size;have hs2:=hb.size;refine ⟨by omega,?_,cellNew hb (by show B + 4 < _;omega) h.c0,cellNew hb (by show B + 4 < _;omega) h.c65,cellNew hb (by show B + 4 < _;omega) h.c66,cellNew hb (by show B + 4 < _;omega) h.c67,cellNew hb (by show B + 4 < _;omega) h.c68,h.beg.on hb,h.zl,h.nb,?_,h.ev,h.eok,?_,?_,?_⟩
  · exact ⟨fun s hs => cellNew hb (by show B + 4 < _;omega) (h.rows.cell s hs),fun s hs => (h.rows.own s hs).on hb,h.rows.ne,h.rows.apart,by obtain ⟨T',cs,hb'⟩:=h.rows.bl;exact ⟨T',cs,hb'.on hb⟩⟩
  · exact World.ownsRow.kept h.ends (row:=none) ⟨hb.os,hb.tape,hb.output,hb.size,fun i hi _ => hb.block i hi⟩ (by cases hv:EV.ownBlock <;> simp)
  · obtain ⟨c,hc⟩:=h.m1;exact ⟨c,(hb.block _ (by omega)).trans hc⟩
  · obtain ⟨c,hc⟩:=h.m2;exact ⟨c,(hb.block _ (by omega)).trans hc⟩
  · obtain ⟨es,c,hc,he⟩:=h.num;exact ⟨es,c,(hb.block _ (by omega)).trans hc,he⟩
theorem NC.alloc (h:NC B g k1 k2 tv n w V EV E zs) (o:Obj):NC B g k1 k2 tv n (w.alloc o) V EV E zs:=h.on ((Below.refl _ _).alloc (Nat.le_refl _) o)
theorem setC {w:World} {b i b' i':Nat} {u v:Value} (h:w.cell? ⟨b,i,none⟩ = some v) (hne:b ≠ b' ∨ i ≠ i'):(w.setCell ⟨b',i',none⟩ u).cell? ⟨b,i,none⟩ = some v:=by
  rw [World.cell?_setCell_other _ _ _ _ (by simp;intro e1 e2;rcases hne with h | h;exact h e1.symm;exact h e2.symm)];exact h
theorem NC.push {s0 gg cap m:Nat} {w1:World} (h:NC B g k1 k2 tv n w V EV E zs) (hs0:s0 < 64) (hl:(Gr.rul g k1).left = (s0:Int))
    (hown:w1.ownsRow (B + 6) 3 1 (.slice (some ⟨gg,0,none⟩) (m + 1) cap) (m + 1) ((Gr.rulesTo g k1 (s0:Int)).map (Value.int .i64) ++ [.int .i64 (k1:Int)])) (hm:m = (Gr.rulesTo g k1 (s0:Int)).length)
    (hgrow:w.grownBy w1 (V s0).ownBlock) (hat:(V s0).ownBlock = some gg ∨ w.heap.size ≤ gg) :
    NC B g (k1 + 1) k2 tv n (w1.setCell ⟨B + 4,1 + s0,none⟩ (.slice (some ⟨gg,0,none⟩) (m + 1) cap)) (fun s => if s = s0 then .slice (some ⟨gg,0,none⟩) (m + 1) cap else V s) EV E zs:=by
  have hs:=h.size;have hs2:=hgrow.size;have hlow:∀ b,b < B + 6 → some b ≠ (V s0).ownBlock:=fun b hb e => by have:=(World.ownsRow.lt (h.rows.own s0 hs0) b e.symm).1;omega
  have hcell:∀ o v,w.cell? ⟨B + 4,o,none⟩ = some v → w1.cell? ⟨B + 4,o,none⟩ = some v:=fun o v hv => (hgrow.cell_far ⟨B + 4,o,none⟩ (by show B + 4 < _;omega) (hlow _ (by show B + 4 < _;omega))).trans hv
  have hobj:∀ b,b < B + 6 → b ≠ B + 4 → (w1.setCell ⟨B + 4,1 + s0,none⟩ (.slice (some ⟨gg,0,none⟩) (m + 1) cap)).heap[b]? = w.heap[b]?:=fun b hb hne => (Below.heap_setCell _ _ _ b (by exact hne)).trans (hgrow.block b (by omega) (hlow b hb))
  have hrow:=h.rows.push (x:=(k1:Int)) hs0 (by omega) hown hm hgrow hat;obtain ⟨ge,e1,e2,e3⟩:=h.ev;refine ⟨by simp;omega,?_,setC (hcell 0 _ h.c0) (.inr (by omega)),setC (hcell 65 _ h.c65) (.inr (by omega)),setC (hcell 66 _ h.c66) (.inr (by omega)),setC (hcell 67 _ h.c67) (.inr (by omega)),setC (hcell 68 _ h.c68) (.inr (by omega)),?_,h.zl,h.nb,?_,?_,h.eok,?_,?_,?_⟩
  · have e:(fun s:Nat => Gr.rulesTo g (k1 + 1) (s:Int)) = fun s:Nat => if s = s0 then Gr.rulesTo g k1 (s0:Int) ++ [(k1:Int)] else Gr.rulesTo g k1 (s:Int):=by
      funext s;rw [Gr.rulesTo_succ,hl];by_cases e:s = s0
      · rw [if_pos (by omega),if_pos e,e]
      · rw [if_neg (by omega),if_neg e]
    rw [e];exact hrow
  · have:=h.beg;exact (hobj B (by omega) (by omega)).trans this
  · have h2:=World.ownsRow.kept h.ends hgrow (.inr (by rw [e1];exact fun e => e3 s0 hs0 e.symm));exact ownsRow_setCell_other h2 (by rw [e1];intro e;injection e with e;rcases e2 with e2 | e2 <;> simp at e <;> omega) _
  · refine ⟨ge,e1,e2,fun s hs3 => ?_⟩;by_cases e:s = s0
    · rw [if_pos e];simp only [Value.ownBlock,ne_eq,Option.some.injEq];rcases hat with h3 | h3
      · intro e4;subst e4;exact e3 s0 hs0 h3
      · have:=(World.ownsRow.lt h.ends ge e1).2;omega
    · rw [if_neg e];exact e3 s hs3
  · obtain ⟨c,hc⟩:=h.m1;exact ⟨c,(hobj _ (by omega) (by omega)).trans hc⟩
  · obtain ⟨c,hc⟩:=h.m2;exact ⟨c,(hobj _ (by omega) (by omega)).trans hc⟩
  · obtain ⟨es,c,hc,he⟩:=h.num;exact ⟨es,c,(hobj _ (by omega) (by omega)).trans hc,he⟩
theorem NC.snoc {gg cap:Nat} {w1:World} {x:Gr.End} (h:NC B g k1 k2 tv n w V EV E zs)
    (hown:w1.ownsRow (B + 1) 97 4 (.slice (some ⟨gg,0,none⟩) (E.length + 1) cap) (E.length + 1) (Gr.flatE E ++ Gr.endCells x))
    (hgrow:w.grownBy w1 EV.ownBlock) (hat:EV.ownBlock = some gg ∨ w.heap.size ≤ gg) :
    NC B g k1 k2 tv n (w1.setCell ⟨B + 4,66,none⟩ (.slice (some ⟨gg,0,none⟩) (E.length + 1) cap)) V (.slice (some ⟨gg,0,none⟩) (E.length + 1) cap) (E ++ [x]) zs:=by
  have hs:=h.size;have hs2:=hgrow.size;obtain ⟨ge,e1,e2,e3⟩:=h.ev;have hlow:∀ b,b < B + 6 → b ≠ B + 1 → some b ≠ EV.ownBlock:=fun b hb hne e => by rw [e1] at e;injection e with e;omega
  have hcell:∀ o v,w.cell? ⟨B + 4,o,none⟩ = some v → w1.cell? ⟨B + 4,o,none⟩ = some v:=fun o v hv => (hgrow.cell_far ⟨B + 4,o,none⟩ (by show B + 4 < _;omega) (hlow _ (by show B + 4 < _;omega) (by show B + 4 ≠ _;omega))).trans hv
  have hobj:∀ b,b < B + 6 → b ≠ B + 4 → b ≠ B + 1 → (w1.setCell ⟨B + 4,66,none⟩ (.slice (some ⟨gg,0,none⟩) (E.length + 1) cap)).heap[b]? = w.heap[b]?:=fun b hb hne h1 => (Below.heap_setCell _ _ _ b (by exact hne)).trans (hgrow.block b (by omega) (hlow b hb h1))
  have hgg:gg ≠ B + 4:=by
    rcases hat with e | e
    · rw [e1] at e;injection e with e;omega
    · omega
  refine ⟨by simp;omega,?_,setC (hcell 0 _ h.c0) (.inr (by omega)),setC (hcell 65 _ h.c65) (.inr (by omega)),?_,setC (hcell 67 _ h.c67) (.inr (by omega)),setC (hcell 68 _ h.c68) (.inr (by omega)),?_,h.zl,?_,?_,?_,h.eok.more x,?_,?_,?_⟩
  · refine ⟨fun s hs3 => setC (hcell _ _ (h.rows.cell s hs3)) (.inr (by omega)),fun s hs3 => ?_,h.rows.ne,h.rows.apart,?_⟩
    · have h1:Kt.Own w1 (B + 6) 3 .i64 (V s) (Gr.rulesTo g k1 (s:Int)):=(h.rows.own s hs3).grown hgrow (.inr (by rw [e1];exact e3 s hs3));exact ownsRow_setCell_other h1 (h.rows.ne s hs3) _
    · obtain ⟨T',cs,hb'⟩:=h.rows.bl;exact ⟨T',_,(hb'.grown hgrow (hlow _ (by omega) (by omega))).set_ _ _⟩
  · exact World.cell?_setCell_same' _ _ _ (by rw [hcell 66 _ h.c66];rfl)
  · have:=h.beg;exact (hobj B (by omega) (by omega) (by omega)).trans this
  · intro r hr;obtain ⟨m,h1,h2⟩:=h.nb r hr;exact ⟨m,h1,h2.more x⟩
  · rw [Gr.flatE_snoc,List.length_append,List.length_singleton];exact ownsRow_setCell_other hown (by simp [Value.ownBlock];exact hgg) _
  · refine ⟨gg,rfl,?_,fun s hs3 e => ?_⟩
    · rcases hat with e | e
      · rw [e1] at e;injection e with e;omega
      · right;omega
    · rcases hat with e4 | e4
      · rw [e1] at e4;injection e4 with e4;subst e4;exact e3 s hs3 e
      · have:=(World.ownsRow.lt (h.rows.own s hs3) gg e).2;omega
  · obtain ⟨c,hc⟩:=h.m1;exact ⟨c,(hobj _ (by omega) (by omega) (by omega)).trans hc⟩
  · obtain ⟨c,hc⟩:=h.m2;exact ⟨c,(hobj _ (by omega) (by omega) (by omega)).trans hc⟩
  · obtain ⟨es,c,hc,he⟩:=h.num;refine ⟨es,c,(hobj _ (by omega) (by omega) (by omega)).trans hc,fun e hm => ?_⟩;obtain ⟨j,h1,h2,h3,h4⟩:=he e hm;exact ⟨j,h1,by simp;omega,by rw [Gr.en_left _ _ h2];exact h3,h4⟩
theorem NC.put {es':Array MapEntry} {c':Nat} (h:NC B g k1 k2 tv n w V EV E zs) (he:∀ e ∈ es'.toList,∃ j,0 < j ∧ j < E.length ∧ e.key = Gr.endVal (Gr.en E j) ∧ e.val = .int .i64 (j:Int) ∧ ∃ lit,keyOf Try.prog 97 e.key = some lit) :
    NC B g k1 k2 tv n (w.putObj (B + 5) (.map es' c')) V EV E zs:=by
  have hs:=h.size;have hgrow:w.grownBy (w.putObj (B + 5) (.map es' c')) (some (B + 5)):=⟨rfl,rfl,rfl,by simp,fun k _ hne => World.putObj_heap_other (fun e => hne (by rw [e]))⟩;obtain ⟨ge,e1,e2,e3⟩:=h.ev;have hobj:∀ b,b ≠ B + 5 → (w.putObj (B + 5) (.map es' c')).heap[b]? = w.heap[b]?:=fun b hne => World.putObj_heap_other hne
  have hcell:∀ o v,w.cell? ⟨B + 4,o,none⟩ = some v → (w.putObj (B + 5) (.map es' c')).cell? ⟨B + 4,o,none⟩ = some v:=fun o v hv => (World.cell?_of_block (hobj (B + 4) (by omega))).trans hv
  refine ⟨by simp;omega,⟨fun s hs3 => hcell _ _ (h.rows.cell s hs3),fun s hs3 => ?_,h.rows.ne,h.rows.apart,?_⟩,hcell 0 _ h.c0,hcell 65 _ h.c65,hcell 66 _ h.c66,hcell 67 _ h.c67,hcell 68 _ h.c68,(hobj B (by omega)).trans h.beg,h.zl,h.nb,World.ownsRow.kept h.ends hgrow (.inr (by rw [e1];simp;omega)),h.ev,h.eok,?_,?_,?_⟩
  · refine (h.rows.own s hs3).grown hgrow (.inr fun e => ?_);have:=(World.ownsRow.lt (h.rows.own s hs3) (B + 5) e).1;omega
  · obtain ⟨T',cs,hb'⟩:=h.rows.bl;exact ⟨T',cs,(hobj _ (by omega)).trans hb'⟩
  · obtain ⟨c,hc⟩:=h.m1;exact ⟨c,(hobj _ (by omega)).trans hc⟩
  · obtain ⟨c,hc⟩:=h.m2;exact ⟨c,(hobj _ (by omega)).trans hc⟩
  · exact ⟨es',c',World.putObj_heap_same (by omega),he⟩
theorem nthSet (l:List Int) (k:Nat) (x:Int) (h:k < l.length):Ls.nth (l.set k x) k = x:=by
  unfold Ls.nth;rw [List.getD_eq_getElem?_getD,List.getElem?_set_self h];rfl
theorem nthSet_ne (l:List Int) (k j:Nat) (x:Int) (h:k ≠ j):Ls.nth (l.set k x) j = Ls.nth l j:=by
  unfold Ls.nth;rw [List.getD_eq_getElem?_getD,List.getD_eq_getElem?_getD,List.getElem?_set_ne h]
theorem NC.begin_ {m:Nat} (h:NC B g k1 k2 tv n w V EV E zs) (hk:k2 < n) (hE:Gr.Ends E m (Gr.rul g k2).right) :
    ∃ zs',NC B g k1 (k2 + 1) tv n (w.setCell ⟨B,k2,none⟩ (.int .i64 (m:Int))) V EV E zs':=by
  have hs:=h.size;obtain ⟨ge,e1,e2,e3⟩:=h.ev;have hobj:∀ b,b ≠ B → (w.setCell ⟨B,k2,none⟩ (.int .i64 (m:Int))).heap[b]? = w.heap[b]?:=fun b hne => Below.heap_setCell _ _ _ b (by exact hne)
  refine ⟨zs.set k2 (m:Int),by simp;omega,⟨fun s hs3 => setC (h.rows.cell s hs3) (.inl (by omega)),fun s hs3 => ?_,h.rows.ne,h.rows.apart,?_⟩,setC h.c0 (.inl (by omega)),setC h.c65 (.inl (by omega)),setC h.c66 (.inl (by omega)),setC h.c67 (.inl (by omega)),setC h.c68 (.inl (by omega)),h.beg.set_ k2 _,by simp [h.zl],fun r hr => ?_,?_,h.ev,h.eok,?_,?_,?_⟩
  · refine ownsRow_setCell_other (h.rows.own s hs3) (fun e => ?_) _;have:=(World.ownsRow.lt (h.rows.own s hs3) B e).1;omega
  · obtain ⟨T',cs,hb'⟩:=h.rows.bl;exact ⟨T',cs,(hobj _ (by omega)).trans hb'⟩
  · by_cases e:r = k2
    · subst e;exact ⟨m,nthSet _ _ _ (by rw [h.zl];exact hk),hE⟩
    · obtain ⟨m',h1,h2⟩:=h.nb r (by omega);exact ⟨m',by rw [nthSet_ne _ _ _ _ (fun e2 => e e2.symm)];exact h1,h2⟩
  · exact ownsRow_setCell_other h.ends (by rw [e1];intro e;injection e with e;rcases e2 with e2 | e2 <;> simp at e <;> omega) _
  · obtain ⟨c,hc⟩:=h.m1;exact ⟨c,(hobj _ (by omega)).trans hc⟩
  · obtain ⟨c,hc⟩:=h.m2;exact ⟨c,(hobj _ (by omega)).trans hc⟩
  · obtain ⟨es,c,hc,he⟩:=h.num;exact ⟨es,c,(hobj _ (by omega)).trans hc,he⟩
end Go.Proofs.Ytdbfiflmeiidjaa
end
