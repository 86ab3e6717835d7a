/- Joined: SmM. -/
import Derived.Test.YtdbfiflmeiidjaaSa36
section
/- GrammarSmall's rules and tokens, and the blocks in which they are made. -/
namespace Gr
def itL:List (List Item):=[[⟨1,0⟩],[⟨2,0⟩],[⟨3,0⟩],[⟨0,1⟩],[⟨1,0⟩,⟨0,0⟩],[⟨0,0⟩,⟨0,1⟩],[⟨0,0⟩,⟨0,0⟩,⟨2,0⟩]]
def itM:List (List Item):=[[⟨1,0⟩],[⟨2,0⟩],[⟨0,0⟩],[⟨0,1⟩,⟨0,1⟩],[⟨1,0⟩,⟨0,1⟩],[⟨0,1⟩,⟨0,0⟩],[⟨2,0⟩,⟨0,1⟩,⟨2,0⟩]]
def txL:List (List Int):=[[],[1],[2],[3],[1,1],[1,2],[3,3],[1,2,1],[2,3,2],[1,1,3,2],[3,3,3,3]]
def gA (k:Nat):List Rule:=(itL.take k).map fun l => ⟨0,l⟩
def gB (k:Nat):List Rule:=gA 7 ++ (itM.take k).map fun l => ⟨1,l⟩
theorem gA_len {k:Nat} (h:k ≤ 7):(gA k).length = k:=by
  unfold gA;rw [List.length_map,List.length_take];exact Nat.min_eq_left h
theorem gB_len {k:Nat} (h:k ≤ 7):(gB k).length = 7 + k:=by
  unfold gB;rw [List.length_append,gA_len (Nat.le_refl _),List.length_map,List.length_take];congr 1;exact Nat.min_eq_left h
theorem take_one {α:Type} {l:List α} {k:Nat} {d:α} (h:k < l.length):l.take (k + 1) = l.take k ++ [l.getD k d]:=by
  rw [List.take_succ_eq_append_getElem h,List.getD_eq_getElem?_getD,List.getElem?_eq_getElem h];rfl
theorem gA_succ {k:Nat} (h:k < 7):gA k ++ [⟨0,itL.getD k []⟩] = gA (k + 1):=by
  unfold gA;rw [take_one (d:=[]) (show k < itL.length from h),List.map_append];rfl
theorem gB_succ {k:Nat} (h:k < 7):gB k ++ [⟨1,itM.getD k []⟩] = gB (k + 1):=by
  unfold gB;rw [take_one (d:=[]) (show k < itM.length from h),List.map_append,List.append_assoc];rfl
theorem gB_zero:gB 0 = gA 7:=by
  unfold gB;exact List.append_nil _
def okI (l:List Item):Bool:=l.all (fun y => decide (0 ≤ y.cls ∧ y.cls ≤ 65535)) && decide (l.length ≤ 3)
theorem gB_ok:∀ r,r < 14 → okI (rul (gB 7) r).right = true:=by decide
theorem okI.wf {l:List Item} (h:okI l = true):(∀ y ∈ l,0 ≤ y.cls ∧ y.cls ≤ 65535) ∧ l.length ≤ 3:=by
  unfold okI at h;rw [Bool.and_eq_true,List.all_eq_true] at h;exact ⟨fun y hy => of_decide_eq_true (h.1 y hy),of_decide_eq_true h.2⟩
end Gr
namespace Kt
open Go Go.RowKit
def allocs (w:World):List (TypeId × Array Value) → World
  | [] => w
  | p :: L => allocs (w.alloc (.cells p.2 p.1)) L
theorem allocs_below:∀ (L:List (TypeId × Array Value)) (w:World),Below w.heap.size w (allocs w L)
  | [],_ => Below.refl _ _
  | p :: L,w => ((Below.refl _ _).alloc (Nat.le_refl _) _).trans ((allocs_below L (w.alloc (.cells p.2 p.1))).mono (by simp))
theorem allocs_blk:∀ (L:List (TypeId × Array Value)) (w:World) (i:Nat) (T:TypeId) (cs:Array Value),L[i]? = some (T,cs) → Blk (allocs w L) (w.heap.size + i) T cs
  | [],_,i,_,_,h => by simp at h
  | p :: L,w,0,T,cs,h => by
    have e:p = (T,cs):=by simpa using h
    subst e;exact (Blk.new w T cs).below (allocs_below L (w.alloc (.cells cs T))) (by simp)
  | p :: L,w,i + 1,T,cs,h => by
    have:=allocs_blk L (w.alloc (.cells p.2 p.1)) i T cs (by simpa using h);rw [show (w.alloc (.cells p.2 p.1)).heap.size + i = w.heap.size + (i + 1) from by simp;omega] at this;exact this
theorem Items.at {w w':World} {B B' b:Nat} {l:List Gr.Item} (h:Items w B (some ⟨b,0,none⟩) l) (hk:w'.heap[b]? = w.heap[b]?) (hb:b < B'):Items w' B' (some ⟨b,0,none⟩) l:=fun hn => by
  obtain ⟨b',o,e,_,hc⟩:=h hn;injection e with e;injection e with e1 e2 _;subst e1;subst e2;exact ⟨b,0,rfl,hb,fun k hkl => ⟨(World.cell?_of_block (a:=⟨b,0 + k * 2,none⟩) hk).trans (hc k hkl).1,(World.cell?_of_block (a:=⟨b,0 + k * 2 + 1,none⟩) hk).trans (hc k hkl).2⟩⟩
theorem Kp.grownW {X:Nat → Prop} {W w w2:World} {row:Option Nat} (h:Kp X W w) (hg:w.grownBy w2 row) (hrow:∀ k,row = some k → X k ∨ W.heap.size ≤ k):Kp X W w2:=⟨hg.os.trans h.os,hg.tape.trans h.tape,hg.output.trans h.output,Nat.le_trans h.size hg.size,fun k hk hn => (hg.block k (Nat.lt_of_lt_of_le hk h.size) fun e => by
  rcases hrow k e.symm with h1 | h1
  · exact hn h1
  · omega).trans (h.same k hk hn)⟩
theorem Rules.tail0 {w:World} {B b:Nat} {x:Gr.Rule} {g:List Gr.Rule} (h:Rules w B (some ⟨b,0,none⟩) (x :: g)):Rules w B (some ⟨b,2,none⟩) g:=by
  obtain ⟨b',o',e,_,ht⟩:=h.tail;injection e with e;injection e with e1 e2 _;subst e1;subst e2;exact ht
end Kt
namespace Go.Proofs.Ytdbfiflmeiidjaa
open Go Go.RowKit
theorem items_blk {w:World} {b:Nat} {T:TypeId} {cs:Array Value} {l:List Gr.Item} (h:Kt.Blk w b T cs) (e:cs = (flatI l).toArray):Kt.Items w w.heap.size (some ⟨b,0,none⟩) l:=fun _ => ⟨b,0,rfl,h.lt,fun k hk => by
  obtain ⟨h1,h2⟩:=flatI_get l k hk;subst e;constructor
  · rw [h.cell,Nat.zero_add];simpa using h1
  · rw [h.cell,Nat.zero_add];simpa using h2⟩
theorem ints_blk {w:World} {b:Nat} {T:TypeId} {cs:Array Value} {l:List Int} (h:Kt.Blk w b T cs) (e:cs = (l.map (Value.int .u16)).toArray):Kt.Ints w w.heap.size .u16 (some ⟨b,0,none⟩) l:=fun _ => ⟨b,0,rfl,h.lt,fun k hk => by
  subst e;rw [h.cell,Nat.zero_add];simp [Ls.nth,hk]⟩
def RowsI (w:World) (lo ob:Nat) (Ls:List (List Gr.Item)):Prop:=(lo ≤ ob ∧ ob < w.heap.size) ∧ ∀ k,k < Ls.length → ∃ b n,lo ≤ b ∧ b < w.heap.size ∧ w.cell? ⟨ob,k,none⟩ = some (.slice (some ⟨b,0,none⟩) n n) ∧ (Ls.getD k []).length = n ∧ n ≤ 1000 ∧ Kt.Items w w.heap.size (some ⟨b,0,none⟩) (Ls.getD k [])
def RowsT (w:World) (ob:Nat) (Ls:List (List Int)):Prop:=ob < w.heap.size ∧ ∀ k,k < Ls.length → ∃ A n c,w.cell? ⟨ob,k,none⟩ = some (.slice A n c) ∧ (Ls.getD k []).length = n ∧ n ≤ 4 ∧ Kt.Ints w w.heap.size .u16 A (Ls.getD k [])
def EA (h:Nat):List (TypeId × Array Value):=[(24,#[.int .u16 1,.int .i64 0]),(24,#[.int .u16 2,.int .i64 0]),(24,#[.int .u16 0,.int .i64 0]),(24,#[.int .u16 0,.int .i64 1]),(24,#[.int .u16 1,.int .i64 0]),(24,#[.int .u16 2,.int .i64 0]),(24,#[.int .u16 3,.int .i64 0]),(24,#[.int .u16 0,.int .i64 1]),(24,#[.int .u16 1,.int .i64 0,.int .u16 0,.int .i64 0]),(24,#[.int .u16 0,.int .i64 0,.int .u16 0,.int .i64 1]),(24,#[.int .u16 0,.int .i64 0,.int .u16 0,.int .i64 0,.int .u16 2,.int .i64 0]),(26,#[.slice (some ⟨h + 4,0,none⟩) 1 1,.slice (some ⟨h + 5,0,none⟩) 1 1,.slice (some ⟨h + 6,0,none⟩) 1 1,.slice (some ⟨h + 7,0,none⟩) 1 1,.slice (some ⟨h + 8,0,none⟩) 2 2,.slice (some ⟨h + 9,0,none⟩) 2 2,.slice (some ⟨h + 10,0,none⟩) 3 3])]
def EB (h:Nat):List (TypeId × Array Value):=[(24,#[.int .u16 1,.int .i64 0]),(24,#[.int .u16 2,.int .i64 0]),(24,#[.int .u16 0,.int .i64 0]),(24,#[.int .u16 0,.int .i64 1,.int .u16 0,.int .i64 1]),(24,#[.int .u16 1,.int .i64 0,.int .u16 0,.int .i64 1]),(24,#[.int .u16 0,.int .i64 1,.int .u16 0,.int .i64 0]),(24,#[.int .u16 2,.int .i64 0,.int .u16 0,.int .i64 1,.int .u16 2,.int .i64 0]),(26,#[.slice (some ⟨h + 0,0,none⟩) 1 1,.slice (some ⟨h + 1,0,none⟩) 1 1,.slice (some ⟨h + 2,0,none⟩) 1 1,.slice (some ⟨h + 3,0,none⟩) 2 2,.slice (some ⟨h + 4,0,none⟩) 2 2,.slice (some ⟨h + 5,0,none⟩) 2 2,.slice (some ⟨h + 6,0,none⟩) 3 3])]
def EC (h:Nat):List (TypeId × Array Value):=[(22,#[.int .u16 1]),(22,#[.int .u16 2]),(22,#[.int .u16 3]),(22,#[.int .u16 1,.int .u16 1]),(22,#[.int .u16 1,.int .u16 2]),(22,#[.int .u16 3,.int .u16 3]),(22,#[.int .u16 1,.int .u16 2,.int .u16 1]),(22,#[.int .u16 2,.int .u16 3,.int .u16 2]),(22,#[.int .u16 1,.int .u16 1,.int .u16 3,.int .u16 2]),(22,#[.int .u16 3,.int .u16 3,.int .u16 3,.int .u16 3]),(30,#[.slice none 0 0,.slice (some ⟨h + 0,0,none⟩) 1 1,.slice (some ⟨h + 1,0,none⟩) 1 1,.slice (some ⟨h + 2,0,none⟩) 1 1,.slice (some ⟨h + 3,0,none⟩) 2 2,.slice (some ⟨h + 4,0,none⟩) 2 2,.slice (some ⟨h + 5,0,none⟩) 2 2,.slice (some ⟨h + 6,0,none⟩) 3 3,.slice (some ⟨h + 7,0,none⟩) 3 3,.slice (some ⟨h + 8,0,none⟩) 4 4,.slice (some ⟨h + 9,0,none⟩) 4 4])]
theorem rowsA (w:World):RowsI (Kt.allocs w (EA w.heap.size)) w.heap.size (w.heap.size + 11) Gr.itL:=⟨⟨Nat.le_add_right _ _,(Kt.allocs_blk (EA w.heap.size) w 11 _ _ rfl).lt⟩,fun k hk => by
  have hk2:k < 7:=hk;have hs:=Kt.allocs_blk (EA w.heap.size) w 11 _ _ rfl
  match k,hk2 with
  | 0,_ => exact ⟨w.heap.size + 4,1,Nat.le_add_right _ _,(Kt.allocs_blk (EA w.heap.size) w 4 _ _ rfl).lt,hs.cell 0,rfl,by decide,items_blk (l:=[⟨1,0⟩]) (Kt.allocs_blk (EA w.heap.size) w 4 _ _ rfl) rfl⟩
  | 1,_ => exact ⟨w.heap.size + 5,1,Nat.le_add_right _ _,(Kt.allocs_blk (EA w.heap.size) w 5 _ _ rfl).lt,hs.cell 1,rfl,by decide,items_blk (l:=[⟨2,0⟩]) (Kt.allocs_blk (EA w.heap.size) w 5 _ _ rfl) rfl⟩
  | 2,_ => exact ⟨w.heap.size + 6,1,Nat.le_add_right _ _,(Kt.allocs_blk (EA w.heap.size) w 6 _ _ rfl).lt,hs.cell 2,rfl,by decide,items_blk (l:=[⟨3,0⟩]) (Kt.allocs_blk (EA w.heap.size) w 6 _ _ rfl) rfl⟩
  | 3,_ => exact ⟨w.heap.size + 7,1,Nat.le_add_right _ _,(Kt.allocs_blk (EA w.heap.size) w 7 _ _ rfl).lt,hs.cell 3,rfl,by decide,items_blk (l:=[⟨0,1⟩]) (Kt.allocs_blk (EA w.heap.size) w 7 _ _ rfl) rfl⟩
  | 4,_ => exact ⟨w.heap.size + 8,2,Nat.le_add_right _ _,(Kt.allocs_blk (EA w.heap.size) w 8 _ _ rfl).lt,hs.cell 4,rfl,by decide,items_blk (l:=[⟨1,0⟩,⟨0,0⟩]) (Kt.allocs_blk (EA w.heap.size) w 8 _ _ rfl) rfl⟩
  | 5,_ => exact ⟨w.heap.size + 9,2,Nat.le_add_right _ _,(Kt.allocs_blk (EA w.heap.size) w 9 _ _ rfl).lt,hs.cell 5,rfl,by decide,items_blk (l:=[⟨0,0⟩,⟨0,1⟩]) (Kt.allocs_blk (EA w.heap.size) w 9 _ _ rfl) rfl⟩
  | 6,_ => exact ⟨w.heap.size + 10,3,Nat.le_add_right _ _,(Kt.allocs_blk (EA w.heap.size) w 10 _ _ rfl).lt,hs.cell 6,rfl,by decide,items_blk (l:=[⟨0,0⟩,⟨0,0⟩,⟨2,0⟩]) (Kt.allocs_blk (EA w.heap.size) w 10 _ _ rfl) rfl⟩⟩
theorem rowsB (w:World):RowsI (Kt.allocs w (EB w.heap.size)) w.heap.size (w.heap.size + 7) Gr.itM:=⟨⟨Nat.le_add_right _ _,(Kt.allocs_blk (EB w.heap.size) w 7 _ _ rfl).lt⟩,fun k hk => by
  have hk2:k < 7:=hk;have hs:=Kt.allocs_blk (EB w.heap.size) w 7 _ _ rfl
  match k,hk2 with
  | 0,_ => exact ⟨w.heap.size + 0,1,Nat.le_add_right _ _,(Kt.allocs_blk (EB w.heap.size) w 0 _ _ rfl).lt,hs.cell 0,rfl,by decide,items_blk (l:=[⟨1,0⟩]) (Kt.allocs_blk (EB w.heap.size) w 0 _ _ rfl) rfl⟩
  | 1,_ => exact ⟨w.heap.size + 1,1,Nat.le_add_right _ _,(Kt.allocs_blk (EB w.heap.size) w 1 _ _ rfl).lt,hs.cell 1,rfl,by decide,items_blk (l:=[⟨2,0⟩]) (Kt.allocs_blk (EB w.heap.size) w 1 _ _ rfl) rfl⟩
  | 2,_ => exact ⟨w.heap.size + 2,1,Nat.le_add_right _ _,(Kt.allocs_blk (EB w.heap.size) w 2 _ _ rfl).lt,hs.cell 2,rfl,by decide,items_blk (l:=[⟨0,0⟩]) (Kt.allocs_blk (EB w.heap.size) w 2 _ _ rfl) rfl⟩
  | 3,_ => exact ⟨w.heap.size + 3,2,Nat.le_add_right _ _,(Kt.allocs_blk (EB w.heap.size) w 3 _ _ rfl).lt,hs.cell 3,rfl,by decide,items_blk (l:=[⟨0,1⟩,⟨0,1⟩]) (Kt.allocs_blk (EB w.heap.size) w 3 _ _ rfl) rfl⟩
  | 4,_ => exact ⟨w.heap.size + 4,2,Nat.le_add_right _ _,(Kt.allocs_blk (EB w.heap.size) w 4 _ _ rfl).lt,hs.cell 4,rfl,by decide,items_blk (l:=[⟨1,0⟩,⟨0,1⟩]) (Kt.allocs_blk (EB w.heap.size) w 4 _ _ rfl) rfl⟩
  | 5,_ => exact ⟨w.heap.size + 5,2,Nat.le_add_right _ _,(Kt.allocs_blk (EB w.heap.size) w 5 _ _ rfl).lt,hs.cell 5,rfl,by decide,items_blk (l:=[⟨0,1⟩,⟨0,0⟩]) (Kt.allocs_blk (EB w.heap.size) w 5 _ _ rfl) rfl⟩
  | 6,_ => exact ⟨w.heap.size + 6,3,Nat.le_add_right _ _,(Kt.allocs_blk (EB w.heap.size) w 6 _ _ rfl).lt,hs.cell 6,rfl,by decide,items_blk (l:=[⟨2,0⟩,⟨0,1⟩,⟨2,0⟩]) (Kt.allocs_blk (EB w.heap.size) w 6 _ _ rfl) rfl⟩⟩
theorem rowsC (w:World):RowsT (Kt.allocs w (EC w.heap.size)) (w.heap.size + 10) Gr.txL:=⟨(Kt.allocs_blk (EC w.heap.size) w 10 _ _ rfl).lt,fun k hk => by
  have hk2:k < 11:=hk;have hs:=Kt.allocs_blk (EC w.heap.size) w 10 _ _ rfl
  match k,hk2 with
  | 0,_ => exact ⟨none,0,0,hs.cell 0,rfl,by decide,Kt.Ints.nil⟩
  | 1,_ => exact ⟨_,1,_,hs.cell 1,rfl,by decide,ints_blk (l:=[1]) (Kt.allocs_blk (EC w.heap.size) w 0 _ _ rfl) rfl⟩
  | 2,_ => exact ⟨_,1,_,hs.cell 2,rfl,by decide,ints_blk (l:=[2]) (Kt.allocs_blk (EC w.heap.size) w 1 _ _ rfl) rfl⟩
  | 3,_ => exact ⟨_,1,_,hs.cell 3,rfl,by decide,ints_blk (l:=[3]) (Kt.allocs_blk (EC w.heap.size) w 2 _ _ rfl) rfl⟩
  | 4,_ => exact ⟨_,2,_,hs.cell 4,rfl,by decide,ints_blk (l:=[1,1]) (Kt.allocs_blk (EC w.heap.size) w 3 _ _ rfl) rfl⟩
  | 5,_ => exact ⟨_,2,_,hs.cell 5,rfl,by decide,ints_blk (l:=[1,2]) (Kt.allocs_blk (EC w.heap.size) w 4 _ _ rfl) rfl⟩
  | 6,_ => exact ⟨_,2,_,hs.cell 6,rfl,by decide,ints_blk (l:=[3,3]) (Kt.allocs_blk (EC w.heap.size) w 5 _ _ rfl) rfl⟩
  | 7,_ => exact ⟨_,3,_,hs.cell 7,rfl,by decide,ints_blk (l:=[1,2,1]) (Kt.allocs_blk (EC w.heap.size) w 6 _ _ rfl) rfl⟩
  | 8,_ => exact ⟨_,3,_,hs.cell 8,rfl,by decide,ints_blk (l:=[2,3,2]) (Kt.allocs_blk (EC w.heap.size) w 7 _ _ rfl) rfl⟩
  | 9,_ => exact ⟨_,4,_,hs.cell 9,rfl,by decide,ints_blk (l:=[1,1,3,2]) (Kt.allocs_blk (EC w.heap.size) w 8 _ _ rfl) rfl⟩
  | 10,_ => exact ⟨_,4,_,hs.cell 10,rfl,by decide,ints_blk (l:=[3,3,3,3]) (Kt.allocs_blk (EC w.heap.size) w 9 _ _ rfl) rfl⟩⟩
variable {w w2 wa wo:World} {base n:Nat} {v:Value} {g:List Gr.Rule} {V:Nat → Value}
theorem AR.ready2 {lf:Int} {A:Option Addr} {k c:Nat} {l:List Gr.Item} (h:AR wo base v g V) (hn:g.length = n) (hit:Kt.Items wo wo.heap.size A l) (hwa:wo.alloc (.cells #[.int .i64 lf,.slice A k c] 29) = wa) :
    AR wa base v g V ∧ wa.ownsRow base 29 2 v n (flatV V g) ∧ Kt.Blk wa wo.heap.size 29 #[.int .i64 lf,.slice A k c] ∧ Kt.Items wa wa.heap.size A l ∧ Below wo.heap.size wo wa:=by
  have hb:Below wo.heap.size wo wa:=by rw [← hwa];exact (Below.refl _ _).alloc (Nat.le_refl _) _
  have h2:=h.below hb;exact ⟨h2,h2.ownN hn,by rw [← hwa];exact Kt.Blk.new _ _ _,hit.on hb,hb⟩
theorem AR.apart {H:Nat} (h:AR w base v g V) (hH:H < base):v.ownBlock ≠ some H:=fun e => by
  have:=(h.own.lt H e).1;omega
theorem wfr_three {l1 l2 l3:Int} {t1 t2 t3:List Gr.Item} (h1:Gr.okI t1 = true) (h2:Gr.okI t2 = true) (h3:Gr.okI t3 = true):WfR [⟨l1,t1⟩,⟨l2,t2⟩,⟨l3,t3⟩]:=fun r hr => by
  have hr2:r < 3:=hr
  match r,hr2 with
  | 0,_ => exact (Gr.okI.wf h1).1
  | 1,_ => exact (Gr.okI.wf h2).1
  | 2,_ => exact (Gr.okI.wf h3).1
theorem len_three {l1 l2 l3:Int} {t1 t2 t3:List Gr.Item} (h1:Gr.okI t1 = true) (h2:Gr.okI t2 = true) (h3:Gr.okI t3 = true):∀ r,r < [(⟨l1,t1⟩:Gr.Rule),⟨l2,t2⟩,⟨l3,t3⟩].length → (Gr.rul [⟨l1,t1⟩,⟨l2,t2⟩,⟨l3,t3⟩] r).right.length ≤ 1000:=fun r hr => by
  have hr2:r < 3:=hr
  match r,hr2 with
  | 0,_ => exact Nat.le_trans (Gr.okI.wf h1).2 (by decide)
  | 1,_ => exact Nat.le_trans (Gr.okI.wf h2).2 (by decide)
  | 2,_ => exact Nat.le_trans (Gr.okI.wf h3).2 (by decide)
theorem len_two {l1 l2:Int} {t1 t2:List Gr.Item} (h1:Gr.okI t1 = true) (h2:Gr.okI t2 = true):∀ r,r < [(⟨l1,t1⟩:Gr.Rule),⟨l2,t2⟩].length → (Gr.rul [⟨l1,t1⟩,⟨l2,t2⟩] r).right.length ≤ 1000:=fun r hr => by
  have hr2:r < 2:=hr
  match r,hr2 with
  | 0,_ => exact Nat.le_trans (Gr.okI.wf h1).2 (by decide)
  | 1,_ => exact Nat.le_trans (Gr.okI.wf h2).2 (by decide)
end Go.Proofs.Ytdbfiflmeiidjaa
namespace Kt
open Go Go.RowKit
def Rs3V (w:World) (g:List Gr.Rule) (u:Value):Prop:=∃ b,u = .slice (some ⟨b,0,none⟩) 3 3 ∧ Rules w w.heap.size (some ⟨b,0,none⟩) g
theorem Rs3V.kp {w w':World} {g:List Gr.Rule} {u:Value} (h:Rs3V w g u) (hk:Kp (fun _ => False) w w'):Rs3V w' g u:=by
  obtain ⟨b,e,hi⟩:=h;exact ⟨b,e,hi.on (kp_below hk)⟩
theorem Rs3V.made {w:World} {T:TypeId} {l1 l2 l3:Int} {t1 t2 t3:List Gr.Item} {A1 A2 A3:Option Addr} {m1 m2 m3 c1 c2 c3:Nat} (e1:t1.length = m1) (e2:t2.length = m2) (e3:t3.length = m3) (h1:m1 ≤ 1000) (h2:m2 ≤ 1000) (h3:m3 ≤ 1000) (i1:Items w w.heap.size A1 t1) (i2:Items w w.heap.size A2 t2) (i3:Items w w.heap.size A3 t3) :
    Rs3V (w.alloc (.cells #[.int .i64 l1,.slice A1 m1 c1,.int .i64 l2,.slice A2 m2 c2,.int .i64 l3,.slice A3 m3 c3] T)) [⟨l1,t1⟩,⟨l2,t2⟩,⟨l3,t3⟩] (.slice (some ⟨w.heap.size,0,none⟩) 3 3):=by
  have hb:=Blk.new w T #[.int .i64 l1,.slice A1 m1 c1,.int .i64 l2,.slice A2 m2 c2,.int .i64 l3,.slice A3 m3 c3];have h:=(Below.refl w.heap.size w).alloc (Nat.le_refl _) (.cells #[.int .i64 l1,.slice A1 m1 c1,.int .i64 l2,.slice A2 m2 c2,.int .i64 l3,.slice A3 m3 c3] T);subst e1 e2 e3;refine ⟨_,rfl,fun _ => ⟨w.heap.size,0,rfl,hb.lt,fun r hr => ?_⟩⟩;have hr2:r < 3:=hr
  match r,hr2 with
  | 0,_ => exact ⟨hb.cell 0,A1,c1,hb.cell 1,Nat.le_trans h1 (by decide),i1.on h⟩
  | 1,_ => exact ⟨hb.cell 2,A2,c2,hb.cell 3,Nat.le_trans h2 (by decide),i2.on h⟩
  | 2,_ => exact ⟨hb.cell 4,A3,c3,hb.cell 5,Nat.le_trans h3 (by decide),i3.on h⟩
end Kt
end
