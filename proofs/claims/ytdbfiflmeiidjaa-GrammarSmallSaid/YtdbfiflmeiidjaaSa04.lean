/- Joined: GrR, GrCM, GrD. -/
import Derived.Test.YtdbfiflmeiidjaaSa02
import Derived.Deep.AppendLies
import Derived.OneCell
import Derived.Test.YtdbfiflmeiidjaaSa03
section
/- An array of 64 slices of integers, each a row of the call's own, in a block. -/
namespace Kt
open Go Go.RowKit
structure RowsV (w:World) (base b o:Nat) (T:TypeId) (V:Nat → Value) (f:Nat → List Int):Prop where
  cell:∀ s,s < 64 → w.cell? ⟨b,o + s,none⟩ = some (V s)
  own:∀ s,s < 64 → Own w base T .i64 (V s) (f s)
  ne:∀ s,s < 64 → (V s).ownBlock ≠ some b
  apart:∀ s s',s < 64 → s' < 64 → s ≠ s' → (V s).ownBlock = none ∨ (V s).ownBlock ≠ (V s').ownBlock
  bl:∃ T' cs,Blk w b T' cs
def RowsA (w:World) (base b o:Nat) (T:TypeId) (f:Nat → List Int):Prop:=∃ V,RowsV w base b o T V f
variable {w w':World} {base b o:Nat} {T:TypeId} {f:Nat → List Int}
theorem RowsV.lt {V:Nat → Value} (h:RowsV w base b o T V f):b < w.heap.size:=by
  obtain ⟨T',cs,hb⟩:=h.bl;exact hb.lt
theorem RowsV.alloc {V:Nat → Value} (h:RowsV w base b o T V f) (ob:Obj):RowsV (w.alloc ob) base b o T V f :=
  ⟨fun s hs => (World.cell?_alloc_lt w ob _ h.lt).trans (h.cell s hs),fun s hs => (h.own s hs).alloc ob,h.ne,h.apart,by obtain ⟨T',cs,hb⟩:=h.bl;exact ⟨T',cs,hb.alloc ob⟩⟩
theorem RowsV.row_lt {V:Nat → Value} (h:RowsV w base b o T V f) {s:Nat} (hs:s < 64) (k:Nat) (hk:w.heap.size ≤ k):(V s).ownBlock ≠ some k:=fun e => by
  have:=(World.ownsRow.lt (h.own s hs) k e).2;omega
theorem RowsA.lt (h:RowsA w base b o T f):b < w.heap.size:=by
  obtain ⟨V,h⟩:=h;exact h.lt
theorem RowsA.alloc (h:RowsA w base b o T f) (ob:Obj):RowsA (w.alloc ob) base b o T f:=by
  obtain ⟨V,h⟩:=h;exact ⟨V,h.alloc ob⟩
theorem RowsA.on (h:RowsA w base b o T f) (hb:Below w.heap.size w w'):RowsA w' base b o T f:=by
  have hl:=h.lt;obtain ⟨V,h⟩:=h;exact ⟨V,fun s hs => (hb.cell hl).trans (h.cell s hs),fun s hs => (h.own s hs).on hb,h.ne,h.apart,by obtain ⟨T',cs,hb'⟩:=h.bl;exact ⟨T',cs,hb'.on hb⟩⟩
theorem RowsA.drewN (h:RowsA w base b o T f) (n:Nat):RowsA (w.drewN n) base b o T f:=by
  obtain ⟨V,h⟩:=h;exact ⟨V,h.cell,h.own,h.ne,h.apart,h.bl⟩
theorem RowsA.set (h:RowsA w base b o T f) (q:Nat) (hq:∀ s,s < 64 → q ≠ o + s) (u:Value):RowsA (w.setCell ⟨b,q,none⟩ u) base b o T f:=by
  obtain ⟨V,h⟩:=h;refine ⟨V,fun s hs => ?_,fun s hs => ?_,h.ne,h.apart,by obtain ⟨T',cs,hb⟩:=h.bl;exact ⟨T',_,hb.set_ q u⟩⟩
  · rw [World.cell?_setCell_other _ _ _ _ (by simp;exact hq s hs)];exact h.cell s hs
  · exact ownsRow_setCell_other (h.own s hs) (h.ne s hs) u
theorem RowsV.push {W w1:World} {s0 g cap n:Nat} {x:Int} {V:Nat → Value} (h:RowsV W base b o T V f) (hs0:s0 < 64) (hb:b < W.heap.size)
    (hown:w1.ownsRow base T 1 (.slice (some ⟨g,0,none⟩) (n + 1) cap) (n + 1) ((f s0).map (Value.int .i64) ++ [.int .i64 x])) (hn:n = (f s0).length)
    (hgrow:W.grownBy w1 (V s0).ownBlock) (hat:(V s0).ownBlock = some g ∨ W.heap.size ≤ g) :
    RowsV (w1.setCell ⟨b,o + s0,none⟩ (.slice (some ⟨g,0,none⟩) (n + 1) cap)) base b o T (fun s => if s = s0 then .slice (some ⟨g,0,none⟩) (n + 1) cap else V s) (fun s => if s = s0 then f s0 ++ [x] else f s):=by
  subst hn;have hgb:g ≠ b:=by
    rcases hat with e | e
    · intro e2;rw [e2] at e;exact h.ne s0 hs0 e
    · omega
  have hcell:∀ s,s < 64 → w1.cell? ⟨b,o + s,none⟩ = some (V s):=fun s hs => (hgrow.cell_far ⟨b,o + s,none⟩ hb (fun e => h.ne s0 hs0 e.symm)).trans (h.cell s hs)
  have hlt:∀ s,s < 64 → ∀ k,(V s).ownBlock = some k → k < W.heap.size:=fun s hs k hk => (World.ownsRow.lt (h.own s hs) k hk).2
  have hcellb:=fun s (hs:s < 64) => hcell s hs
  refine ⟨fun s hs => ?_,fun s hs => ?_,fun s hs => ?_,fun s s' hs hs' hne => ?_,by
    obtain ⟨T',cs,hbl⟩:=h.bl;exact ⟨T',_,(hbl.grown hgrow (fun e => h.ne s0 hs0 e.symm)).set_ _ _⟩⟩
  · by_cases e:s = s0
    · subst e;rw [if_pos rfl];exact World.cell?_setCell_same' _ _ _ (by rw [hcell s hs];rfl)
    · rw [if_neg e,World.cell?_setCell_other _ _ _ _ (by simp)];exact hcell s hs
  · by_cases e:s = s0
    · subst e;rw [if_pos rfl,if_pos rfl];have:=Own.snoc (k:=.i64) hown;have h2:=ownsRow_setCell_other (a:=⟨b,o + s,none⟩) this (by simp [Value.ownBlock];exact hgb) (.slice (some ⟨g,0,none⟩) ((f s).length + 1) cap);exact h2
    · rw [if_neg e,if_neg e];have h1:Own w1 base T .i64 (V s) (f s):=(h.own s hs).grown hgrow (h.apart s s0 hs hs0 e);exact ownsRow_setCell_other h1 (h.ne s hs) _
  · by_cases e:s = s0
    · rw [if_pos e];simp [Value.ownBlock];exact hgb
    · rw [if_neg e];exact h.ne s hs
  · by_cases e:s = s0
    · have e':s' ≠ s0:=fun e2 => hne (by rw [e,e2])
      rw [if_pos e,if_neg e'];right;show some g ≠ _;intro e3;rcases hat with e4 | e4
      · rcases h.apart s' s0 hs' hs0 e' with e5 | e5
        · rw [e5] at e3;cases e3
        · rw [e4] at e5;exact e5 e3.symm
      · have:=hlt s' hs' g e3.symm;omega
    · rw [if_neg e];by_cases e':s' = s0
      · rw [if_pos e'];cases hv:(V s).ownBlock with
        | none => exact .inl rfl
        | some k =>
          right;show some k ≠ some g;intro e3;injection e3 with e3;subst e3;rcases hat with e4 | e4
          · rcases h.apart s s0 hs hs0 e with e5 | e5
            · rw [hv] at e5;cases e5
            · rw [hv,e4] at e5;exact e5 rfl
          · have:=hlt s hs k hv;omega
      · rw [if_neg e'];exact h.apart s s' hs hs' hne
theorem RowsA.push {W w1:World} {s0 g cap n:Nat} {x:Int} {V:Nat → Value} (h:RowsV W base b o T V f) (hs0:s0 < 64) (hb:b < W.heap.size)
    (hown:w1.ownsRow base T 1 (.slice (some ⟨g,0,none⟩) (n + 1) cap) (n + 1) ((f s0).map (Value.int .i64) ++ [.int .i64 x])) (hn:n = (f s0).length)
    (hgrow:W.grownBy w1 (V s0).ownBlock) (hat:(V s0).ownBlock = some g ∨ W.heap.size ≤ g) :
    RowsA (w1.setCell ⟨b,o + s0,none⟩ (.slice (some ⟨g,0,none⟩) (n + 1) cap)) base b o T (fun s => if s = s0 then f s0 ++ [x] else f s):=⟨_,h.push hs0 hb hown hn hgrow hat⟩
theorem below_grown {B:Nat} {a w w1:World} {row:Option Nat} (h:Below B a w) (hB:B ≤ w.heap.size) (g:w.grownBy w1 row) (hr:∀ k,row = some k → B ≤ k):Below B a w1 :=
  ⟨g.os.trans h.os,g.tape.trans h.tape,g.output.trans h.output,Nat.le_trans h.size g.size,fun i hi => (g.block i (by omega) (fun e => by have:=hr i e.symm;omega)).trans (h.block i hi)⟩
end Kt
end
section
/- Unit rules and whether a symbol derives itself: plain mathematics. -/
namespace Gr
def unit (r:Rule):Option Int:=match r.right with
  | [x] => if x.cls = 0 then some x.sym else none
  | _ => none
def tgts (g:List Rule) (k:Nat) (s:Int):List Int:=(List.range k).filterMap fun r => if (rul g r).left = s then unit (rul g r) else none
theorem tgts_succ (g:List Rule) (k:Nat) (s:Int):tgts g (k + 1) s = tgts g k s ++ (if (rul g k).left = s then (unit (rul g k)).toList else []):=by
  unfold tgts;rw [List.range_succ,List.filterMap_append];congr 1;by_cases h:(rul g k).left = s
  · simp only [List.filterMap_cons,List.filterMap_nil,if_pos h];cases unit (rul g k) <;> rfl
  · simp only [List.filterMap_cons,List.filterMap_nil,if_neg h]
theorem mem_tgts {g:List Rule} {k:Nat} {s t:Int}:t ∈ tgts g k s ↔ ∃ r,r < k ∧ (rul g r).left = s ∧ unit (rul g r) = some t:=by
  unfold tgts;rw [List.mem_filterMap];constructor
  · rintro ⟨r,hr,h⟩;split at h
    · exact ⟨r,List.mem_range.1 hr,‹_›,h⟩
    · cases h
  · rintro ⟨r,hr,hl,hu⟩;exact ⟨r,List.mem_range.2 hr,by rw [if_pos hl];exact hu⟩
theorem tgts_len (g:List Rule) (k:Nat) (s:Int):(tgts g k s).length ≤ k:=by
  unfold tgts;exact Nat.le_trans (List.length_filterMap_le _ _) (by simp)
def E (g:List Rule) (s t:Int):Prop:=t ∈ tgts g g.length s
inductive Path (g:List Rule):Int → Int → Prop
  | one {s t:Int}:E g s t → Path g s t
  | cons {s t u:Int}:E g s t → Path g t u → Path g s u
theorem Path.trans {g:List Rule} {s t u:Int} (h:Path g s t) (k:Path g t u):Path g s u:=by
  induction h with
  | one e => exact .cons e k
  | cons e _ ih => exact .cons e (ih k)
def Cyc (g:List Rule):Prop:=∃ s,Path g s s
theorem no_cyc {g:List Rule} {ρ:Int → Nat} (h:∀ s t,E g s t → ρ t < ρ s):¬ Cyc g:=by
  rintro ⟨s,hp⟩;have:∀ a b,Path g a b → ρ b < ρ a:=by
    intro a b hp
    induction hp with
    | one e => exact h _ _ e
    | cons e _ ih => exact Nat.lt_trans ih (h _ _ e)
  exact absurd (this s s hp) (Nat.lt_irrefl _)
theorem unit_some {r:Rule} {t:Int} (h:unit r = some t):∃ x,r.right = [x] ∧ x.cls = 0 ∧ x.sym = t:=by
  unfold unit at h;split at h
  · rename_i x hx;split at h
    · injection h with h;exact ⟨x,hx,‹_›,h⟩
    · cases h
  · cases h
theorem ranked_of {g:List Rule} {ρ:Int → Nat} (hle:∀ s,ρ s ≤ 63) (h:∀ s t,E g s t → ρ t < ρ s):Ranked g ρ :=
  ⟨hle,fun r hr x hx hc => h _ _ (mem_tgts.2 ⟨r,hr,rfl,by unfold unit;rw [hx];simp [hc]⟩)⟩
structure Dn (g:List Rule) (dn:List Int):Prop where
  nodup:dn.Nodup
  bd:∀ s ∈ dn,0 ≤ s ∧ s < 64
  closed:∀ i,i < dn.length → ∀ t,E g (dn.getD i 0) t → ∃ j,j < i ∧ dn.getD j 0 = t
theorem Dn.nil (g:List Rule):Dn g []:=⟨List.nodup_nil,(fun _ h => by cases h),(fun i h => by cases h)⟩
theorem getD_left (l:List Int) (t:List Int) {i:Nat} (h:i < l.length):(l ++ t).getD i 0 = l.getD i 0:=by
  rw [List.getD_eq_getElem?_getD,List.getD_eq_getElem?_getD,List.getElem?_append_left h]
theorem mem_getD {l:List Int} {t:Int} (h:t ∈ l):∃ j,j < l.length ∧ l.getD j 0 = t:=by
  obtain ⟨j,hj,e⟩:=List.getElem_of_mem h;exact ⟨j,hj,by rw [List.getD_eq_getElem?_getD,List.getElem?_eq_getElem hj];exact e⟩
theorem getD_mem {l:List Int} {i:Nat} (h:i < l.length):l.getD i 0 ∈ l:=by
  rw [List.getD_eq_getElem?_getD,List.getElem?_eq_getElem h];exact List.getElem_mem h
theorem Dn.snoc {g:List Rule} {dn:List Int} (h:Dn g dn) {s:Int} (hs:s ∉ dn) (h0:0 ≤ s ∧ s < 64) (hc:∀ t,E g s t → t ∈ dn):Dn g (dn ++ [s]):=by
  refine ⟨?_,fun t ht => ?_,fun i hi t ht => ?_⟩
  · rw [List.nodup_append];refine ⟨h.nodup,by simp,fun a ha b hb => ?_⟩;simp only [List.mem_singleton] at hb;subst hb;intro e;subst e;exact hs ha
  · rcases List.mem_append.1 ht with e | e
    · exact h.bd t e
    · simp only [List.mem_singleton] at e;rw [e];exact h0
  · rw [List.length_append,List.length_singleton] at hi;by_cases hlt:i < dn.length
    · rw [getD_left _ _ hlt] at ht;obtain ⟨j,hj,e⟩:=h.closed i hlt t ht;exact ⟨j,hj,by rw [getD_left _ _ (by omega)];exact e⟩
    · obtain rfl:i = dn.length:=by omega
      rw [List.getD_eq_getElem?_getD,List.getElem?_append_right (Nat.le_refl _),Nat.sub_self] at ht;obtain ⟨j,hj,e⟩:=mem_getD (hc t ht);exact ⟨j,hj,by rw [getD_left _ _ hj];exact e⟩
theorem nodup_len:∀ (N:Nat) (l:List Int),l.Nodup → (∀ x ∈ l,0 ≤ x ∧ x < (N:Int)) → l.length ≤ N
  | 0,l,_,h => by
    cases l with
    | nil => simp
    | cons x l => have:=h x (by simp);omega
  | N + 1,l,hn,h => by
    have h1:=nodup_len N (l.erase (N:Int)) (hn.erase _) (fun x hx => by
      have h2:=h x (List.mem_of_mem_erase hx);have h3:x ≠ (N:Int):=fun e => by
        subst e;exact (List.Nodup.not_mem_erase hn) hx
      omega)
    have h4:=List.length_erase (a:=(N:Int)) (l:=l);split at h4 <;> omega
theorem idx_le:∀ (l:List Int) (j:Nat) (h:j < l.length),l.idxOf l[j] ≤ j
  | x :: l,0,_ => by simp
  | x :: l,j + 1,h => by
    have hj:j < l.length:=by simpa using h
    have:=idx_le l j hj;rw [List.getElem_cons_succ,List.idxOf_cons];cases x == l[j]'hj
    · simp;exact this
    · simp
theorem Dn.ranked {g:List Rule} {dn:List Int} (h:Dn g dn) (hall:∀ s:Int,0 ≤ s → s < 64 → s ∈ dn) (hs:∀ s t,E g s t → 0 ≤ s ∧ s < 64):∃ ρ:Int → Nat,(∀ s,ρ s ≤ 63) ∧ ∀ s t,E g s t → ρ t < ρ s:=by
  have hlen:dn.length ≤ 64:=nodup_len 64 dn h.nodup h.bd;refine ⟨fun s => if 0 ≤ s ∧ s < 64 then dn.idxOf s else 0,fun s => ?_,fun s t he => ?_⟩
  · show (if _ then _ else _) ≤ 63;split
    · have:=List.idxOf_lt_length_iff.2 (hall s (by omega) (by omega));omega
    · omega
  · obtain ⟨h0,h1⟩:=hs s t he;have hi:=List.idxOf_lt_length_iff.2 (hall s h0 h1);have hg:dn.getD (dn.idxOf s) 0 = s:=by
      rw [List.getD_eq_getElem?_getD,List.getElem?_eq_getElem hi];exact List.getElem_idxOf hi
    obtain ⟨j,hj,e⟩:=h.closed _ hi t (by rw [hg];exact he);have ht:t ∈ dn:=by rw [← e];exact getD_mem (by omega)
    have htb:=h.bd t ht;show (if _ then _ else _) < (if _ then _ else _);rw [if_pos htb,if_pos ⟨h0,h1⟩];refine Nat.lt_of_le_of_lt ?_ hj;have hjl:j < dn.length:=by omega
    have e2:dn[j] = t:=by
      rw [List.getD_eq_getElem?_getD,List.getElem?_eq_getElem hjl] at e;exact e
    rw [← e2];exact idx_le dn j hjl
def offc (on:Nat → Bool):Nat:=((List.range 64).filter fun s => !on s).length
def upd (on:Nat → Bool) (s:Nat) (b:Bool):Nat → Bool:=fun t => if t = s then b else on t
theorem offc_aux (on:Nat → Bool) (s:Nat) (h:on s = false):∀ l:List Nat,((l.filter fun t => !upd on s true t).length ≤ (l.filter fun t => !on t).length) ∧ (s ∈ l → (l.filter fun t => !upd on s true t).length < (l.filter fun t => !on t).length)
  | [] => ⟨Nat.le_refl _,fun h => by cases h⟩
  | x :: l => by
    obtain ⟨h1,h2⟩:=offc_aux on s h l;by_cases e:x = s
    · subst e;rw [List.filter_cons_of_neg (by simp [upd]),List.filter_cons_of_pos (by simp [h]),List.length_cons];exact ⟨by omega,fun _ => by omega⟩
    · have e1:upd on s true x = on x:=by simp [upd,e]
      cases hx:on x
      · rw [List.filter_cons_of_pos (by rw [e1,hx];rfl),List.filter_cons_of_pos (by rw [hx];rfl),List.length_cons,List.length_cons];refine ⟨by omega,fun hm => ?_⟩;rcases List.mem_cons.1 hm with e2 | e2
        · exact absurd e2.symm e
        · have:=h2 e2;omega
      · rw [List.filter_cons_of_neg (by rw [e1,hx];simp),List.filter_cons_of_neg (by rw [hx];simp)];refine ⟨h1,fun hm => ?_⟩;rcases List.mem_cons.1 hm with e2 | e2
        · exact absurd e2.symm e
        · exact h2 e2
theorem offc_upd {on:Nat → Bool} {s:Nat} (h:on s = false) (hs:s < 64):offc (upd on s true) < offc on:=(offc_aux on s h _).2 (List.mem_range.2 hs)
theorem upd_back {on:Nat → Bool} {s:Nat} (h:on s = false):upd (upd on s true) s false = on:=by
  funext t;unfold upd;by_cases e:t = s
  · subst e;simp [h]
  · simp [e]
end Gr
end
section
/- The depth-first search of cyclic: its closure's walk. -/
namespace Kt
open Go Go.RowKit
def BArr (f:Nat → Bool):Array Value:=((List.range 64).map fun s => Value.bool (f s)).toArray
theorem BArr_get (f:Nat → Bool) {s:Nat} (h:s < 64):(BArr f)[s]? = some (.bool (f s)):=by
  unfold BArr;rw [List.getElem?_toArray,List.getElem?_map,List.getElem?_range h];rfl
theorem BArr_set (f:Nat → Bool) (s:Nat) (b:Bool) (h:s < 64):(BArr f).setIfInBounds s (.bool b) = BArr (Gr.upd f s b):=by
  apply Array.ext_getElem?;intro i;rw [Array.getElem?_setIfInBounds];by_cases hi:i < 64
  · rw [BArr_get f hi,BArr_get _ hi];unfold Gr.upd;by_cases e:s = i
    · subst e;rw [if_pos rfl,if_pos rfl,if_pos (by simp [BArr];exact h)]
    · rw [if_neg e,if_neg (fun e2 => e e2.symm)]
  · have h1:∀ f,(BArr f)[i]? = none:=fun f => Array.getElem?_eq_none (by simp [BArr];omega)
    rw [h1,h1];by_cases e:s = i
    · omega
    · rw [if_neg e]
def Tgt (w:World) (B b:Nat) (f:Nat → List Int):Prop:=b < B ∧ ∀ s,s < 64 → ∃ A c,w.cell? ⟨b,s,none⟩ = some (.slice A (f s).length c) ∧ Ints w B .i64 A (f s)
theorem Tgt.below {w w':World} {B b:Nat} {f:Nat → List Int} (h:Tgt w B b f) (hb:Below B w w'):Tgt w' B b f:=by
  obtain ⟨h0,h⟩:=h;refine ⟨h0,fun s hs => ?_⟩;obtain ⟨A,c,h1,h2⟩:=h s hs;exact ⟨A,c,(hb.cell (p:=⟨b,s,none⟩) h0).trans h1,h2.below hb⟩
end Kt
namespace Go.Proofs.Ytdbfiflmeiidjaa
open Go Go.RowKit
structure Dfs (g:List Gr.Rule) (B bo bd bs bf:Nat) (w:World) (on:Nat → Bool) (dn:List Int):Prop where
  tgt:Kt.Tgt w B bs (fun s => Gr.tgts g g.length (s:Int))
  hbo:Kt.Blk w bo 134 (Kt.BArr on)
  hbd:Kt.Blk w bd 134 (Kt.BArr fun s => decide ((s:Int) ∈ dn))
  hbf:w.cell? ⟨bf,0,none⟩ = some (.func (.func 58) #[] #[.pointer (some ⟨bo,0,none⟩),.pointer (some ⟨bd,0,none⟩),.pointer (some ⟨bs,0,none⟩),.pointer (some ⟨bf,0,none⟩)])
  dnn:Gr.Dn g dn
structure DfsB (B bo bd bf:Nat):Prop where
  o:B ≤ bo
  d:B ≤ bd
  f:B ≤ bf
  od:bo ≠ bd
  fo:bf ≠ bo
  fd:bf ≠ bd
theorem Dfs.setOn {g:List Gr.Rule} {B bo bd bs bf:Nat} {w:World} {on:Nat → Bool} {dn:List Int} (h:Dfs g B bo bd bs bf w on dn) (hB:DfsB B bo bd bf) {s:Nat} (hs:s < 64) (b:Bool) :
    Dfs g B bo bd bs bf (w.setCell ⟨bo,s,none⟩ (.bool b)) (Gr.upd on s b) dn :=
  ⟨h.tgt.below ((Below.refl _ _).setCell (p:=⟨bo,s,none⟩) hB.o _),by rw [← Kt.BArr_set on s b hs];exact h.hbo.set_ s _,h.hbd.far (p:=⟨bo,s,none⟩) hB.od.symm _,
    (World.cell?_setCell_other _ _ _ _ (by simp;exact fun e => absurd e.symm hB.fo)).trans h.hbf,h.dnn⟩
theorem Dfs.setDn {g:List Gr.Rule} {B bo bd bs bf:Nat} {w:World} {on:Nat → Bool} {dn:List Int} (h:Dfs g B bo bd bs bf w on dn) (hB:DfsB B bo bd bf) {s:Nat} (hs:s < 64) (hc:∀ t,Gr.E g (s:Int) t → t ∈ dn) :
    ∃ dn',Dfs g B bo bd bs bf (w.setCell ⟨bd,s,none⟩ (.bool true)) on dn' ∧ (∀ t ∈ dn,t ∈ dn') ∧ (s:Int) ∈ dn':=by
  have key:∀ dn',Gr.Dn g dn' → (∀ t:Nat,t < 64 → (((t:Int) ∈ dn') ↔ (t = s ∨ (t:Int) ∈ dn))) → Dfs g B bo bd bs bf (w.setCell ⟨bd,s,none⟩ (.bool true)) on dn':=fun dn' hd hm =>
    ⟨h.tgt.below ((Below.refl _ _).setCell (p:=⟨bd,s,none⟩) hB.d _),h.hbo.far (p:=⟨bd,s,none⟩) hB.od _,by
      have:=h.hbd.set_ s (.bool true);rw [Kt.BArr_set _ s true hs] at this;have e:Kt.BArr (Gr.upd (fun s => decide ((s:Int) ∈ dn)) s true) = Kt.BArr fun s => decide ((s:Int) ∈ dn'):=by
        unfold Kt.BArr;congr 1;refine List.map_congr_left fun t ht => ?_
        rw [List.mem_range] at ht;congr 1;unfold Gr.upd;by_cases e:t = s
        · rw [if_pos e,eq_comm,decide_eq_true_eq];exact (hm t ht).2 (.inl e)
        · rw [if_neg e,decide_eq_decide,hm t ht];exact ⟨fun h => .inr h,fun h => by rcases h with h | h;exact absurd h e;exact h⟩
      rw [e] at this;exact this,(World.cell?_setCell_other _ _ _ _ (by simp;exact fun e => absurd e.symm hB.fd)).trans h.hbf,hd⟩
  by_cases hin:(s:Int) ∈ dn
  · exact ⟨dn,key dn h.dnn (fun t _ => ⟨fun e => .inr e,fun e => by rcases e with e | e;rw [e];exact hin;exact e⟩),fun t ht => ht,hin⟩
  · exact ⟨dn ++ [(s:Int)],key _ (h.dnn.snoc hin (by omega) hc) (fun t _ => by simp;exact ⟨fun e => by rcases e with e | e;exact .inr e;exact .inl (by omega),fun e => by rcases e with e | e;exact .inr (by omega);exact .inl e⟩),fun t ht => by simp [ht],by simp⟩
def DfsPost (g:List Gr.Rule) (B bo bd bs bf:Nat) (w:World) (on:Nat → Bool) (dn:List Int) (s:Nat) (e:Ending) (w':World):Prop :=
  Below B w w' ∧ ∃ b:Bool,e = .returned (.bool b) ∧ (b = true → Gr.Cyc g) ∧ (b = false → ∃ dn',Dfs g B bo bd bs bf w' on dn' ∧ (∀ t ∈ dn,t ∈ dn') ∧ (s:Int) ∈ dn')
theorem derives_on (g:List Gr.Rule) (B bo bd bs bf s:Nat) (on:Nat → Bool) (dn:List Int) (w:World) (hs:s < 64) (hon:on s = true) (hD:Dfs g B bo bd bs bf w on dn) (hp:∀ t:Nat,t < 64 → on t = true → Gr.Path g (t:Int) (s:Int)) :
    Calls Try.prog 58 #[.int .i64 s,.pointer (some ⟨bo,0,none⟩),.pointer (some ⟨bd,0,none⟩),.pointer (some ⟨bs,0,none⟩),.pointer (some ⟨bf,0,none⟩)] w (DfsPost g B bo bd bs bf w on dn s):=by
  have c1:=(hD.hbo.cell s).trans (Kt.BArr_get on hs);have HP:=Lib.hid (hp s hs hon);rw [hon] at c1;clear hD hp hon;go_enter Try.func58,Try.ntmps58;go_wp2;go_ret;exact ⟨Below.refl _ _,true,rfl,fun _ => ⟨_,HP.out⟩,fun e => by cases e⟩
theorem derives_dn (g:List Gr.Rule) (B bo bd bs bf s:Nat) (on:Nat → Bool) (dn:List Int) (w:World) (hs:s < 64) (hon:on s = false) (hdn:(s:Int) ∈ dn) (hD:Dfs g B bo bd bs bf w on dn) :
    Calls Try.prog 58 #[.int .i64 s,.pointer (some ⟨bo,0,none⟩),.pointer (some ⟨bd,0,none⟩),.pointer (some ⟨bs,0,none⟩),.pointer (some ⟨bf,0,none⟩)] w (DfsPost g B bo bd bs bf w on dn s):=by
  have c1:=(hD.hbo.cell s).trans (Kt.BArr_get on hs);have c2:=(hD.hbd.cell s).trans (Kt.BArr_get _ hs);rw [hon] at c1;rw [decide_eq_true hdn] at c2;have HD:=Lib.hid hD;have HN:=Lib.hid hdn;clear hD hon hdn;go_enter Try.func58,Try.ntmps58;go_wp2;go_ret;exact ⟨Below.refl _ _,false,rfl,(fun e => by cases e),fun _ => ⟨dn,HD.out,fun t h => h,HN.out⟩⟩
set_option maxHeartbeats 1000000 in
theorem derives_any (g:List Gr.Rule) (hsym:∀ s t,Gr.E g s t → 0 ≤ t ∧ t < 64) (hlen:g.length ≤ 200) (B bo bd bs bf:Nat) (hB:DfsB B bo bd bf):∀ (d s:Nat) (on:Nat → Bool) (dn:List Int) (w:World),s < 64 → Gr.offc on ≤ d → Dfs g B bo bd bs bf w on dn →
    (∀ t:Nat,t < 64 → on t = true → Gr.Path g (t:Int) (s:Int)) →
    Calls Try.prog 58 #[.int .i64 s,.pointer (some ⟨bo,0,none⟩),.pointer (some ⟨bd,0,none⟩),.pointer (some ⟨bs,0,none⟩),.pointer (some ⟨bf,0,none⟩)] w (DfsPost g B bo bd bs bf w on dn s):=by
  intro d
  induction d with
  | zero =>
    intro s on dn w hs hd hD hp;cases hon:on s
    · have:=Gr.offc_upd hon hs;omega
    · exact derives_on g B bo bd bs bf s on dn w hs hon hD hp
  | succ d ih =>
    intro s on dn w hs hd hD hp;cases hon:on s
    · by_cases hdn:(s:Int) ∈ dn
      · exact derives_dn g B bo bd bs bf s on dn w hs hon hdn hD
      · have c1:=(hD.hbo.cell s).trans (Kt.BArr_get on hs);have c2:=(hD.hbd.cell s).trans (Kt.BArr_get _ hs);rw [hon] at c1;rw [decide_eq_false hdn] at c2;have f1:=hD.hbo.frozen s;have hoff:=Gr.offc_upd hon hs;have hD1:=hD.setOn hB hs true;obtain ⟨hbs,htg⟩:=hD1.tgt;obtain ⟨A,cc,c3,hints⟩:=htg s hs;obtain ⟨m,hm⟩:∃ m,Hid ((Gr.tgts g g.length (s:Int)).length = m):=⟨_,Lib.hid rfl⟩;have hm200:m ≤ 200:=by have:=Gr.tgts_len g g.length (s:Int);have:=hm.out;omega
        rw [hm.out] at c3;obtain ⟨L,hL⟩:∃ L,Hid (Gr.tgts g g.length (s:Int) = L):=⟨_,Lib.hid rfl⟩;replace hints:Kt.Ints (w.setCell ⟨bo,s,none⟩ (.bool true)) B .i64 A (Gr.tgts g g.length (s:Int)):=hints;rw [hL.out] at hints;have hLm:Hid (L.length = m):=Lib.hid (by rw [← hL.out];exact hm.out);have hLE:Hid (∀ t,Gr.E g (s:Int) t ↔ t ∈ L):=Lib.hid (fun t => by unfold Gr.E;rw [hL.out]);have HD1:=Lib.hid hD1;have HON:=Lib.hid hon;have HP:Hid (∀ tn:Nat,Gr.E g (s:Int) (tn:Int) → ∀ t:Nat,t < 64 → Gr.upd on s true t = true → Gr.Path g (t:Int) (tn:Int)):=Lib.hid (fun tn he t ht h => by
          unfold Gr.upd at h;by_cases e:t = s
          · rw [e];exact .one he
          · rw [if_neg e] at h;exact (hp t ht h).trans (.one he))
        clear hD hp hD1 hon hdn htg hm hL;have hb0:Below B w (w.setCell ⟨bo,s,none⟩ (.bool true)):=(Below.refl _ _).setCell (p:=⟨bo,s,none⟩) hB.o _;go_enter Try.func58,Try.ntmps58;go_wp2_with fail;go_loopw [26] (fun i wr => ∃ (k:Nat) (dn':List Int),k ≤ m ∧ i = .int .i64 k ∧ Hid (Dfs g B bo bd bs bf wr (Gr.upd on s true) dn' ∧ (∀ t ∈ dn,t ∈ dn') ∧ ∀ j,j < k → Ls.nth L j ∈ dn') ∧ Below B w wr) (fun i _ => m - (intOf i).toNat)
        case atStart => exact ⟨0,dn,Nat.zero_le _,rfl,Lib.hid ⟨HD1.out,fun t h => h,fun j hj => by omega⟩,hb0⟩
        case round =>
          obtain ⟨k,dn',hk,rfl,hst,hbel⟩:=hrel;by_cases hlt:k < m
          · have hbi:Below B (w.setCell ⟨bo,s,none⟩ (.bool true)) wr:=⟨hbel.os,hbel.tape,hbel.output,by simpa using hbel.size,fun j hj => (hbel.block j hj).trans (hb0.block j hj).symm⟩;obtain ⟨b,o,rfl,hbb,hc⟩:=(hints.below hbi) (by have:=hLm.out;omega);have ck:=hc k (by have:=hLm.out;omega);clear hc;obtain ⟨t,ht⟩:∃ t,Hid (Ls.nth L k = t):=⟨_,Lib.hid rfl⟩;have hE:Gr.E g (s:Int) t:=(hLE.out t).2 (by rw [← ht.out];exact Ls.nth_mem L k (by have:=hLm.out;omega));obtain ⟨t0,t1⟩:=hsym _ _ hE;obtain ⟨tn,rfl⟩:∃ tn:Nat,t = (tn:Int):=⟨t.toNat,by omega⟩;rw [ht.out] at ck;have cf:=hst.out.1.hbf;have IH:=Lib.hid (ih tn (Gr.upd on s true) dn' wr (by omega) (by omega) hst.out.1 (HP.out tn hE));clear hE;go_wp2_with fail;refine IH.out.mono ?_;rintro e w' ⟨hb',b',rfl,hT,hF⟩;cases b'
            · obtain ⟨dn2,hD2,hsub,hin⟩:=hF rfl;have HN:Hid (Dfs g B bo bd bs bf w' (Gr.upd on s true) dn2 ∧ (∀ t ∈ dn,t ∈ dn2) ∧ ∀ j,j < k + 1 → Ls.nth L j ∈ dn2):=Lib.hid ⟨hD2,fun t h => hsub t (hst.out.2.1 t h),fun j hj => by
                by_cases e:j = k
                · rw [e,ht.out];exact hin
                · exact hsub _ (hst.out.2.2 j (by omega))⟩
              clear hT hF hD2 hsub hin;replace hb':=hbel.trans hb';go_wp2;go_roundw
              case rel => exact ⟨k + 1,dn2,by omega,by go_num,HN,hb'⟩
              case measure => simp [intOf];omega
            · have HT:=Lib.hid (hT rfl);clear hT hF;replace hb':=hbel.trans hb';go_wp2;go_ret;exact ⟨hb',true,rfl,fun _ => HT.out,fun e => by cases e⟩
          · obtain rfl:k = m:=by omega
            have h1:=hst.out.1.setOn hB hs false;rw [Gr.upd_back HON.out] at h1;have h2:=h1.setDn hB hs (fun t he => by
              have hmem:=(hLE.out t).1 he;obtain ⟨j,hj,e⟩:=List.getElem_of_mem hmem;have:=hst.out.2.2 j (by have:=hLm.out;omega);rw [Ls.nth_get L j hj,e] at this;exact this)
            have H2:=Lib.hid h2;have c1:=(hst.out.1.hbo.cell s).trans (Kt.BArr_get _ hs);have c2:=((h1.hbd).cell s).trans (Kt.BArr_get _ hs);have f1:=hst.out.1.hbo.frozen s;have f2:=h1.hbd.frozen s;clear h1 h2;go_wp2;go_ret;refine ⟨(hbel.setCell (p:=⟨bo,s,none⟩) hB.o _).setCell (p:=⟨bd,s,none⟩) hB.d _,false,rfl,(fun e => by cases e),fun _ => ?_⟩;obtain ⟨dn2,g1,g2,g3⟩:=H2.out;exact ⟨dn2,g1,fun t h => g2 t (hst.out.2.1 t h),g3⟩
    · exact derives_on g B bo bd bs bf s on dn w hs hon hD hp
end Go.Proofs.Ytdbfiflmeiidjaa
end
