/- Joined: Kit2, Rgn, Rga, Rgq, MapK. -/
import Derived.Test.YtdbfiflmeiidjaaSa01
import Derived.OrdersHeld
import Derived.Deep.RegionHeld
import Derived.Deep.AppendLies
import Derived.OneCell
import Derived.Maps.Keyed
import Derived.RangeFuncRecord
import Derived.DeepKeys4
section
/- Slices that a call makes by append: their shape and their numbers, over any program. -/
namespace Kt
open Go Go.RowKit
def Own (w:World) (base:Nat) (T:TypeId) (k:IntKind) (v:Value) (zs:List Int):Prop:=w.ownsRow base T 1 v zs.length (zs.map (Value.int k))
section
variable {w w':World} {base:Nat} {T:TypeId} {k:IntKind} {v:Value} {zs:List Int}
theorem Own.nil (w:World) (base:Nat) (T:TypeId) (k:IntKind):Own w base T k (.slice none 0 0) []:=World.ownsRow_nil _ _ _ _
theorem Own.shape (h:Own w base T k v zs):∃ A c,v = .slice A zs.length c ∧ zs.length ≤ c ∧ Ints w w.heap.size k A zs:=by
  obtain ⟨h1,h2⟩:=h;rcases h2 with ⟨hv,hn⟩ | ⟨g,cap,cur,hv,hb,hg,hnc,hm,hs,ht⟩
  · have:zs = []:=List.eq_nil_of_length_eq_zero hn;subst this;exact ⟨none,0,hv,Nat.le_refl _,Ints.nil⟩
  · exact ⟨_,cap,hv,hnc,Ints.of_own (base:=base) (e:=T) (c:=cap) ⟨h1,.inr ⟨g,cap,cur,rfl,hb,hg,hnc,hm,hs,ht⟩⟩⟩
theorem Own.block (h:Own w base T k v zs) (hn:0 < zs.length):∃ g c,v = .slice (some ⟨g,0,none⟩) zs.length c ∧ zs.length ≤ c ∧ base ≤ g ∧ g < w.heap.size ∧
    (∀ j,j < zs.length → w.cell? ⟨g,j,none⟩ = some (.int k (Ls.nth zs j))) ∧ (∀ j,w.frozen? ⟨g,j,none⟩ = false):=by
  obtain ⟨h1,h2⟩:=h;rcases h2 with ⟨hv,h0⟩ | ⟨g,cap,cur,hv,hb,hg,hnc,hm,hs,ht⟩
  · omega
  · refine ⟨g,cap,hv,hnc,hb,(Array.getElem?_eq_some_iff.1 hg).1,fun j hj => ?_,fun j => ?_⟩
    · have h:w.ownsRow base T 1 (.slice (some ⟨g,0,none⟩) zs.length cap) zs.length (zs.map (Value.int k)):=⟨h1,.inr ⟨g,cap,cur,rfl,hb,hg,hnc,hm,hs,ht⟩⟩;have:=h.cells (g:=g) rfl j (.int k (Ls.nth zs j)) (by rw [List.getElem?_map,Ls.nth_of hj];rfl);simpa [Addr.add_lit] using this
    · simp [World.frozen?,hg]
theorem Own.alloc (h:Own w base T k v zs) (o:Obj):Own (w.alloc o) base T k v zs:=World.ownsRow.alloc h o
theorem Own.drewN (h:Own w base T k v zs) (n:Nat):Own (w.drewN n) base T k v zs:=h
theorem Own.grown {row:Option Nat} (h:Own w base T k v zs) (hg:w.grownBy w' row) (hne:v.ownBlock = none ∨ v.ownBlock ≠ row):Own w' base T k v zs:=World.ownsRow.kept h hg hne
theorem Own.on (h:Own w base T k v zs) (hb:Below w.heap.size w w'):Own w' base T k v zs :=
  World.ownsRow.kept h (row:=none) ⟨hb.os,hb.tape,hb.output,hb.size,fun i hi _ => hb.block i hi⟩ (by cases hv:v.ownBlock <;> simp)
theorem Own.snoc {x:Int} (h:w.ownsRow base T 1 v (zs.length + 1) (zs.map (Value.int k) ++ [.int k x])):Own w base T k v (zs ++ [x]):=by
  unfold Own;simpa using h
end
theorem cell_one (w:World) (T:TypeId) (v:Value):∀ j u,[v][j]? = some u → (w.alloc (.cells #[v] T)).cell? ((⟨w.heap.size,0,none⟩:Addr).add j) = some u:=by
  intro j u hj
  match j,hj with
  | 0,hj =>
    simp at hj;subst hj;simp [Addr.add]
theorem own_block_ne {w:World} {base:Nat} {T:TypeId} {k:IntKind} {v:Value} {zs:List Int} (h:Own w base T k v zs):∀ g,v.ownBlock = some g → base ≤ g:=fun g hg => (World.ownsRow.lt h g hg).1
end Kt
end
section
/- A region that draws its order, by an invariant over the operations that have come up so far: each operation is walked once, not once for each order. -/
namespace Kt
open Go
section
variable {P:Program} {md:Region.Mode} {ops:Array Oper} {Q:Exit → Act → World → Prop}
def unl (listed:Array Bool):Nat:=listed.toList.count false
theorem unl_set {listed:Array Bool} {i:Nat} (h:listed.getD i true = false):unl (listed.setIfInBounds i true) + 1 = unl listed:=by
  have hlt:i < listed.size:=by
    rcases Nat.lt_or_ge i listed.size with h' | h'
    · exact h'
    · simp [h'] at h
  have he:listed.toList[i] = false:=by simpa [hlt] using h
  unfold unl;rw [Array.toList_setIfInBounds,List.count_set (by simpa using hlt)];have hpos:0 < listed.toList.count false:=List.count_pos_iff.2 (by rw [← he];exact List.getElem_mem _);rw [he];simp only [beq_self_eq_true,if_true];rw [show (true == false) = false from rfl];simp only [Bool.false_eq_true,if_false];omega
theorem wpAny_inv (I:Array Bool → Act → World → Prop) (hg:∀ (i:Nat) (o:Oper),ops[i]? = some o → o.guard = none)
    (hstep:∀ listed a w i o,I listed a w → ops[i]? = some o → listed.getD i true = false → (∀ e ∈ o.after,Region.binds md e = true → listed.getD e.on false = true) → Oper.wp P o a w (fun a' w' => I (listed.setIfInBounds i true) a' w') Q)
    (hdone:∀ listed a w,I listed a w → Region.ready md ops listed = [] → Q .normal a w) :
    ∀ (fuel:Nat) (listed:Array Bool) (a:Act) (w:World),unl listed ≤ fuel → I listed a w → wpAny P md ops Q fuel listed a w:=by
  intro fuel
  induction fuel with
  | zero =>
    intro listed a w hu hI;have hr:Region.ready md ops listed = []:=by
      refine List.eq_nil_iff_forall_not_mem.2 fun i hi => ?_
      have:=unl_set (mem_ready.1 hi).1;omega
    exact ⟨hr,hdone _ _ _ hI hr⟩
  | succ fuel ih =>
    intro listed a w hu hI;refine ⟨fun hr => hdone _ _ _ hI hr,fun i hi => ?_⟩;obtain ⟨h1,o,ho,h2⟩:=mem_ready.1 hi;have h3:=unl_set h1;have hs:=hstep listed a w i o hI ho h1 h2;unfold wpOp;rw [ho];have hw:Region.wanted o (yielded ops a.tmps) = true:=by simp [Region.wanted,hg i o ho]
    simp only [hw,if_true];exact .inl (Oper.wp_mono (fun a' w' h => ih _ a' w' (by omega) h) hs)
theorem region_inv {id:Nat} {a:Act} {w:World} (I:Array Bool → Act → World → Prop) (hm:P.follows .mixedOrders = true) (hg:∀ (i:Nat) (o:Oper),ops[i]? = some o → o.guard = none)
    (hI:I (Array.replicate ops.size false) a w.drew)
    (hstep:∀ listed a w i o,I listed a w → ops[i]? = some o → listed.getD i true = false → (∀ e ∈ o.after,Region.binds .any e = true → listed.getD e.on false = true) → Oper.wp P o a w (fun a' w' => I (listed.setIfInBounds i true) a' w') Q)
    (hdone:∀ listed a w,I listed a w → Region.ready .any ops listed = [] → Q .normal a w):(Code.region id ops true).wp P Q a w :=
  wp_region_any hm (wpAny_inv I hg hstep hdone _ _ _ _ (by unfold unl;simp) hI)
theorem all_up {listed:Array Bool} (hd:∀ (j:Nat) (o:Oper),ops[j]? = some o → ∀ e ∈ o.after,Region.binds md e = true → e.on < j) (hsz:listed.size = ops.size) (hr:Region.ready md ops listed = []) :
    ∀ j,j < ops.size → listed.getD j false = true:=by
  intro j
  induction j using Nat.strongRecOn with
  | _ j ih =>
    intro hj;cases hl:listed.getD j true with
    | true =>
      have:j < listed.size:=by omega
      simp [this] at hl ⊢;exact hl
    | false =>
      exfalso;have hm:j ∈ Region.ready md ops listed:=mem_ready.2 ⟨hl,ops[j],Array.getElem?_eq_getElem hj,fun e he hb => by
        have h1:=hd j ops[j] (Array.getElem?_eq_getElem hj) e he hb;exact ih e.on h1 (by omega)⟩
      rw [hr] at hm;cases hm
end
def Fr (S:List Nat) (a0 a:Act):Prop:=a.defers = a0.defers ∧ a.tmps.size = a0.tmps.size ∧ ∀ s,s ∉ S → a.tmps[s]? = a0.tmps[s]?
def val (a:Act) (s:Nat):Value:=a.tmps.getD s undef
theorem Fr.refl (S:List Nat) (a:Act):Fr S a a:=⟨rfl,rfl,fun _ _ => rfl⟩
theorem Fr.put {S:List Nat} {a0 a:Act} (h:Fr S a0 a) {s:Nat} (hs:s ∈ S) (v:Value):Fr S a0 (a.put (some s) v):=by
  refine ⟨h.1,?_,fun t ht => ?_⟩
  · simp [Act.put,h.2.1]
  · have hne:s ≠ t:=fun e => ht (e ▸ hs)
    simp [Act.put,Array.getElem?_setIfInBounds_ne hne,h.2.2 t ht]
theorem val_put {a:Act} {s:Nat} (hs:s < a.tmps.size) (v:Value):val (a.put (some s) v) s = v:=by simp [val,Act.put,hs]
theorem val_put_ne {a:Act} {s t:Nat} (h:s ≠ t) (v:Value):val (a.put (some s) v) t = val a t:=by simp [val,Act.put,Array.getElem?_setIfInBounds_ne h]
theorem Fr.val_out {S:List Nat} {a0 a:Act} (h:Fr S a0 a) {s:Nat} (hs:s ∉ S):val a s = val a0 s:=by simp [val,h.2.2 s hs]
def sets (f:Nat → Value):List Nat → Array Value → Array Value
  | [],t => t
  | s :: S,t => sets f S (t.setIfInBounds s (f s))
theorem sets_size (f:Nat → Value):∀ (S:List Nat) (t:Array Value),(sets f S t).size = t.size
  | [],_ => rfl
  | s :: S,t => by rw [sets,sets_size f S];simp
theorem sets_get (f:Nat → Value):∀ (S:List Nat) (t:Array Value) (i:Nat),i < t.size → (sets f S t)[i]? = some (if i ∈ S then f i else t.getD i undef)
  | [],t,i,h => by simp [sets,h]
  | s :: S,t,i,h => by
    rw [sets,sets_get f S _ i (by simpa using h)];by_cases h1:i ∈ S
    · simp [h1]
    · by_cases h2:s = i
      · subst h2;simp [h1,h]
      · simp [h1,Array.getElem?_setIfInBounds_ne h2,Ne.symm h2]
theorem Fr.out {S:List Nat} {a0 a:Act} (h:Fr S a0 a):a = ⟨sets (val a) S a0.tmps,a0.defers⟩:=by
  obtain ⟨h1,h2,h3⟩:=h;cases a with
  | mk t d =>
    simp only at h1 h2 h3;subst h1;congr 1;apply Array.ext_getElem?;intro i;rcases Nat.lt_or_ge i t.size with hi | hi
    · rw [sets_get _ _ _ _ (by omega)];by_cases hs:i ∈ S
      · simp [hs,val,hi]
      · have:=h3 i hs;simp [hs];rw [← this];simp [hi]
    · rw [Array.getElem?_eq_none hi,Array.getElem?_eq_none (by rw [sets_size];omega)]
section
variable {P:Program} {o:Oper} {a:Act} {w:World} {K:Act → World → Prop} {Q:Exit → Act → World → Prop}
theorem op_move {x:Operand} (hop:o.op = .move x) (h:K (a.put o.dst (a.eval x)) w):Oper.wp P o a w K Q:=by
  unfold Oper.wp;simp [execOp,hop];exact h
theorem op_assign {x:Operand} (hop:o.op = .assign x) (h:K (a.put o.dst (a.eval x)) w):Oper.wp P o a w K Q:=by
  unfold Oper.wp;simp [execOp,hop];exact h
end
end Kt
end
section
/- A region that draws its order and ends in an append: by an invariant, each operation walked once. -/
namespace Kt
open Go Go.RowKit
structure RgP where
  N:Nat
  bd:Nat
  ap:Nat
  slot:Nat → Nat
  S:List Nat
  pv:Nat → Option Value
  a0:Act
  W:World
  base:Nat
  e:TypeId
  sz:Nat
  V:Value
  n:Nat
  xs:List Value
  news:List Value
  Fin:Act → World → Prop
  bv:Nat → Value
  dp:Nat → List Nat
structure RgOk (p:RgP):Prop where
  inj:∀ i j,i < p.N - 1 → j < p.N - 1 → p.slot i = p.slot j → i = j
  mem:∀ j,j < p.N - 1 → p.slot j ∈ p.S
  lt:∀ j,j < p.N - 1 → p.slot j < p.a0.tmps.size
  hN:2 ≤ p.N
  hb:p.bd < p.N - 1
  ha:p.ap < p.N - 1 ∨ p.ap = p.N - 1
  hne:p.bd ≠ p.ap
  nb:p.pv p.bd = none
  na:p.pv p.ap = none
  nl:p.pv (p.N - 1) = none
structure RgI (p:RgP) (listed:Array Bool) (act:Act) (w:World):Prop where
  size:listed.size = p.N
  frame:Fr p.S p.a0 act
  pure:∀ j v,j < p.N → p.pv j = some v → listed.getD j false = true → val act (p.slot j) = v
  cl:∀ j i,listed.getD j false = true → i ∈ p.dp j → listed.getD i false = true
  last:listed.getD (p.N - 1) false = true → p.Fin act w ∧ ∀ j,j < p.N → listed.getD j false = true
  kp:listed.getD (p.N - 1) false = false → p.W.grownBy w p.V.ownBlock
  own:listed.getD p.ap false = false → w.ownsRow p.base p.e p.sz p.V p.n p.xs
  bld:listed.getD p.bd false = true → listed.getD p.ap false = false → ∃ g,p.W.heap.size ≤ g ∧ val act (p.slot p.bd) = p.bv g ∧ Blk w g p.e p.news.toArray
  app:listed.getD p.ap false = true → listed.getD (p.N - 1) false = false → ∃ g cap,val act (p.slot p.ap) = .slice (some ⟨g,0,none⟩) (p.n + 1) cap ∧ w.ownsRow p.base p.e p.sz (.slice (some ⟨g,0,none⟩) (p.n + 1) cap) (p.n + 1) (p.xs ++ p.news) ∧
    (p.V.ownBlock = some g ∨ p.W.heap.size ≤ g) ∧ g < w.heap.size
variable {p:RgP} {listed:Array Bool} {act:Act} {w w':World}
theorem val_get (a:Act) (s:Nat):val a s = a.tmps[s]?.getD undef:=by simp [val]
theorem grown_drew (W:World) (row:Option Nat):W.grownBy W.drew row:=⟨rfl,rfl,rfl,Nat.le_refl _,fun _ _ _ => rfl⟩
theorem grown_alloc {W:World} {row:Option Nat} (h:W.grownBy w row) (o:Obj):W.grownBy (w.alloc o) row :=
  ⟨h.os,h.tape,h.output,Nat.le_trans h.size (by simp),fun k hk hne => (Below.heap_alloc _ _ _ (Nat.lt_of_lt_of_le hk h.size)).trans (h.block k hk hne)⟩
theorem grown_trans {W:World} {row:Option Nat} (h:W.grownBy w row) (k:w.grownBy w' row):W.grownBy w' row :=
  ⟨k.os.trans h.os,k.tape.trans h.tape,k.output.trans h.output,Nat.le_trans h.size k.size,fun i hi hne => (k.block i (Nat.lt_of_lt_of_le hi h.size) hne).trans (h.block i hi hne)⟩
theorem op_opq {P:Program} {o:Oper} {act:Act} {w w':World} {Q:Exit → Act → World → Prop} {s:Nat} {v:Value} {G:Act → World → Prop} (hk:G (act.put (some s) v) w')
    (H:∀ KK:Act → World → Prop,KK (act.put (some s) v) w' → Oper.wp P o act w KK Q):Oper.wp P o act w G Q:=H G hk
theorem op_opq0 {P:Program} {o:Oper} {act:Act} {w w':World} {Q:Exit → Act → World → Prop} {G:Act → World → Prop} (hk:G act w')
    (H:∀ KK:Act → World → Prop,KK act w' → Oper.wp P o act w KK Q):Oper.wp P o act w G Q:=H G hk
theorem RgI.start (hown:p.W.ownsRow p.base p.e p.sz p.V p.n p.xs):RgI p (Array.replicate p.N false) p.a0 p.W.drew:=by
  have hf:∀ j,(Array.replicate p.N false).getD j false = false:=fun j => by
    by_cases hj:j < p.N <;> simp [hj]
  refine ⟨by simp,Fr.refl _ _,fun j v _ _ hl => ?_,fun j i hl _ => ?_,fun hl => ?_,fun _ => grown_drew _ _,fun _ => hown,fun hl => ?_,fun hl => ?_⟩
  all_goals (rw [hf] at hl;cases hl)
theorem getD_setL {l:Array Bool} {i j:Nat} (h:i ≠ j):(l.setIfInBounds i true).getD j false = l.getD j false:=by
  simp [Array.getElem?_setIfInBounds_ne h]
theorem getD_same {l:Array Bool} {i:Nat} (h:i < l.size):(l.setIfInBounds i true).getD i false = true:=by
  simp [h]
theorem getD_no {l:Array Bool} {i:Nat} (h:l.getD i true = false):l.getD i false = false:=by
  by_cases hi:i < l.size
  · simpa [hi] using h
  · simp [hi]
theorem RgI.open_ (h:RgI p listed act w) {j:Nat} (hj:j < p.N) (hn:listed.getD j true = false):listed.getD (p.N - 1) false = false:=by
  cases hl:listed.getD (p.N - 1) false with
  | false => rfl
  | true =>
    have:=(h.last hl).2 j hj;rw [getD_no hn] at this;cases this
theorem cl_set {listed:Array Bool} {dp:Nat → List Nat} (h:∀ j i,listed.getD j false = true → i ∈ dp j → listed.getD i false = true) {n:Nat} (hd:∀ i ∈ dp n,listed.getD i false = true) :
    ∀ j i,(listed.setIfInBounds n true).getD j false = true → i ∈ dp j → (listed.setIfInBounds n true).getD i false = true:=by
  intro j i hj hi;have h1:listed.getD i false = true:=by
    by_cases e:n = j
    · subst e;exact hd i hi
    · rw [getD_setL e] at hj;exact h j i hj hi
  by_cases e:n = i
  · subst e;by_cases hs:n < listed.size
    · exact getD_same hs
    · exact absurd h1 (by simp [hs])
  · rw [getD_setL e];exact h1
theorem RgI.pure_step (ok:RgOk p) (h:RgI p listed act w) {j s:Nat} {v:Value} (hd:∀ i ∈ p.dp j,listed.getD i false = true) (hj:j < p.N - 1) (hn:listed.getD j true = false) (hv:p.pv j = some v) (hs:s = p.slot j) :
    RgI p (listed.setIfInBounds j true) (act.put (some s) v) w:=by
  subst hs;have hop:=h.open_ (j:=j) (by omega) hn;have hne:∀ i,i < p.N - 1 → i ≠ j → val (act.put (some (p.slot j)) v) (p.slot i) = val act (p.slot i):=fun i hi hij => val_put_ne (fun e => hij (ok.inj _ _ hj hi e).symm) v
  have hjb:j ≠ p.bd:=fun e => by rw [e,ok.nb] at hv;cases hv
  have hja:j ≠ p.ap:=fun e => by rw [e,ok.na] at hv;cases hv
  have hjl:j ≠ p.N - 1:=by omega
  refine ⟨by simp [h.size],h.frame.put (ok.mem j hj) v,fun i u hi hu hl => ?_,cl_set h.cl hd,fun hl => ?_,fun hl => ?_,fun hl => ?_,fun hl hl2 => ?_,fun hl hl2 => ?_⟩
  · by_cases hij:i = j
    · subst hij;rw [hv] at hu;injection hu with hu;rw [val_put (by rw [h.frame.2.1];exact ok.lt _ hj),hu]
    · rw [getD_setL (fun e => hij e.symm)] at hl;have hi2:i < p.N - 1:=by
        rcases Nat.lt_or_ge i (p.N - 1) with h1 | h1
        · exact h1
        · have:i = p.N - 1:=by omega
          rw [this,ok.nl] at hu;cases hu
      rw [hne i hi2 hij];exact h.pure i u hi hu hl
  · rw [getD_setL hjl,hop] at hl;cases hl
  · exact h.kp hop
  · rw [getD_setL hja] at hl;exact h.own hl
  · rw [getD_setL hjb] at hl;rw [getD_setL hja] at hl2;rw [hne _ ok.hb hjb.symm];exact h.bld hl hl2
  · rw [getD_setL hja] at hl;rcases ok.ha with ha | ha
    · rw [hne _ ha hja.symm];exact h.app hl hop
    · rw [ha,hop] at hl;cases hl
theorem RgI.bld_step (ok:RgOk p) (h:RgI p listed act w) {s:Nat} (hd:∀ i ∈ p.dp p.bd,listed.getD i false = true) (hn:listed.getD p.bd true = false) (hs:s = p.slot p.bd) {cs:Array Value} (hcs:cs = p.news.toArray) :
    RgI p (listed.setIfInBounds p.bd true) (act.put (some s) (p.bv w.heap.size)) (w.alloc (.cells cs p.e)):=by
  subst hs hcs;have hb:=ok.hb;have hop:=h.open_ (j:=p.bd) (by omega) hn;have hne:∀ i,i < p.N - 1 → i ≠ p.bd → val (act.put (some (p.slot p.bd)) (p.bv w.heap.size)) (p.slot i) = val act (p.slot i):=fun i hi hij => val_put_ne (fun e => hij (ok.inj _ _ hb hi e).symm) _
  have hjl:p.bd ≠ p.N - 1:=by omega
  refine ⟨by simp [h.size],h.frame.put (ok.mem _ hb) _,fun i u hi hu hl => ?_,cl_set h.cl hd,fun hl => ?_,fun hl => ?_,fun hl => ?_,fun hl hl2 => ?_,fun hl hl2 => ?_⟩
  · by_cases hij:i = p.bd
    · rw [hij,ok.nb] at hu;cases hu
    · rw [getD_setL (fun e => hij e.symm)] at hl;have hi2:i < p.N - 1:=by
        rcases Nat.lt_or_ge i (p.N - 1) with h1 | h1
        · exact h1
        · have:i = p.N - 1:=by omega
          rw [this,ok.nl] at hu;cases hu
      rw [hne i hi2 hij];exact h.pure i u hi hu hl
  · rw [getD_setL hjl,hop] at hl;cases hl
  · exact grown_alloc (h.kp hop) _
  · rw [getD_setL ok.hne] at hl;exact World.ownsRow.alloc (h.own hl) _
  · exact ⟨w.heap.size,(h.kp hop).size,val_put (by rw [h.frame.2.1];exact ok.lt _ hb) _,Blk.new _ _ _⟩
  · rw [getD_setL ok.hne] at hl;rcases ok.ha with ha | ha
    · rw [hne _ ha ok.hne.symm];obtain ⟨g,cap,h1,h2,h3,h4⟩:=h.app hl hop;exact ⟨g,cap,h1,World.ownsRow.alloc h2 _,h3,by simp;omega⟩
    · rw [ha,hop] at hl;cases hl
theorem RgI.app_step (ok:RgOk p) (h:RgI p listed act w) (ha:p.ap < p.N - 1) {s g cap:Nat} (hd:∀ i ∈ p.dp p.ap,listed.getD i false = true) (hn:listed.getD p.ap true = false) (hs:s = p.slot p.ap)
    (h1:w'.ownsRow p.base p.e p.sz (.slice (some ⟨g,0,none⟩) (p.n + 1) cap) (p.n + 1) (p.xs ++ p.news)) (h2:w.grownBy w' p.V.ownBlock) (h3:p.V.ownBlock = some g ∨ g = w.heap.size) (h4:g < w'.heap.size) :
    RgI p (listed.setIfInBounds p.ap true) (act.put (some s) (.slice (some ⟨g,0,none⟩) (p.n + 1) cap)) w':=by
  subst hs;have hop:=h.open_ (j:=p.ap) (by omega) hn;have hne:∀ i,i < p.N - 1 → i ≠ p.ap → val (act.put (some (p.slot p.ap)) (.slice (some ⟨g,0,none⟩) (p.n + 1) cap)) (p.slot i) = val act (p.slot i):=fun i hi hij => val_put_ne (fun e => hij (ok.inj _ _ ha hi e).symm) _
  have hjl:p.ap ≠ p.N - 1:=by omega
  have hsa:(listed.setIfInBounds p.ap true).getD p.ap false = true:=getD_same (by rw [h.size];omega);refine ⟨by simp [h.size],h.frame.put (ok.mem _ ha) _,fun i u hi hu hl => ?_,cl_set h.cl hd,fun hl => ?_,fun hl => ?_,fun hl => ?_,fun hl hl2 => ?_,fun hl hl2 => ?_⟩
  · by_cases hij:i = p.ap
    · rw [hij,ok.na] at hu;cases hu
    · rw [getD_setL (fun e => hij e.symm)] at hl;have hi2:i < p.N - 1:=by
        rcases Nat.lt_or_ge i (p.N - 1) with h1 | h1
        · exact h1
        · have:i = p.N - 1:=by omega
          rw [this,ok.nl] at hu;cases hu
      rw [hne i hi2 hij];exact h.pure i u hi hu hl
  · rw [getD_setL hjl,hop] at hl;cases hl
  · exact grown_trans (h.kp hop) h2
  · rw [hsa] at hl;cases hl
  · rw [hsa] at hl2;cases hl2
  · refine ⟨g,cap,val_put (by rw [h.frame.2.1];exact ok.lt _ ha) _,h1,?_,h4⟩;rcases h3 with h3 | h3
    · exact .inl h3
    · have:=(h.kp hop).size;exact .inr (by omega)
theorem RgI.last_step (ok:RgOk p) (h:RgI p listed act w) {j:Nat} {act':Act} (hd:∀ i ∈ p.dp j,listed.getD i false = true) (hj:j = p.N - 1) (hall:∀ i,i < p.N - 1 → listed.getD i false = true) (hfr:Fr p.S p.a0 act')
    (hv:∀ i,i < p.N - 1 → val act' (p.slot i) = val act (p.slot i)) (hF:p.Fin act' w') :
    RgI p (listed.setIfInBounds j true) act' w':=by
  subst hj;have hN:=ok.hN;have hsl:(listed.setIfInBounds (p.N - 1) true).getD (p.N - 1) false = true:=getD_same (by rw [h.size];omega);have hal:∀ i,i < p.N → (listed.setIfInBounds (p.N - 1) true).getD i false = true:=fun i hi => by
    by_cases e:i = p.N - 1
    · rw [e];exact hsl
    · rw [getD_setL (fun e2 => e e2.symm)];exact hall i (by omega)
  refine ⟨by simp [h.size],hfr,fun i u hi hu hl => ?_,cl_set h.cl hd,fun _ => ⟨hF,hal⟩,fun hl => ?_,fun hl => ?_,fun _ hl => ?_,fun _ hl => ?_⟩
  · by_cases e:i = p.N - 1
    · rw [e,ok.nl] at hu;cases hu
    · rw [hv i (by omega)];exact h.pure i u hi hu (hall i (by omega))
  · rw [hsl] at hl;cases hl
  · rw [hal p.ap (by have:=ok.ha;omega)] at hl;cases hl
  · rw [hal p.ap (by have:=ok.ha;omega)] at hl;cases hl
  · rw [hsl] at hl;cases hl
theorem RgI.cell (h:RgI p listed act w) (hop:listed.getD (p.N - 1) false = false) {b o:Nat} {v:Value} (hb:b < p.W.heap.size) (hne:p.V.ownBlock ≠ some b) (hc:p.W.cell? ⟨b,o,none⟩ = some v):w.cell? ⟨b,o,none⟩ = some v :=
  ((h.kp hop).cell_far ⟨b,o,none⟩ hb (fun e => hne e.symm)).trans hc
end Kt
end
section
/- A region that draws its order and only reads, but for its last operation perhaps: by an invariant, each operation walked once. -/
namespace Kt
open Go Go.RowKit
structure RqP where
  N:Nat
  m:Nat
  slot:Nat → Nat
  S:List Nat
  pv:Nat → Option Value
  a0:Act
  W:World
  Fin:Act → World → Prop
structure RqOk (p:RqP):Prop where
  inj:∀ i j,i < p.N → j < p.N → i ≠ p.m → j ≠ p.m → p.slot i = p.slot j → i = j
  mem:∀ j,j < p.N → j ≠ p.m → p.slot j ∈ p.S
  lt:∀ j,j < p.N → j ≠ p.m → p.slot j < p.a0.tmps.size
  nl:p.pv p.m = none
structure RqI (p:RqP) (listed:Array Bool) (act:Act) (w:World):Prop where
  size:listed.size = p.N
  frame:Fr p.S p.a0 act
  pure:∀ j v,j < p.N → p.pv j = some v → listed.getD j false = true → val act (p.slot j) = v
  last:listed.getD p.m false = true → p.Fin act w ∧ ∀ j,j < p.N → listed.getD j false = true
  world:listed.getD p.m false = false → w = p.W.drew
variable {p:RqP} {listed:Array Bool} {act:Act} {w w':World}
theorem listed_out {l:Array Bool} {n:Nat} (h:l.size = n):l.getD n false = false:=by simp [← h]
theorem RqI.start:RqI p (Array.replicate p.N false) p.a0 p.W.drew:=by
  have hf:∀ j,(Array.replicate p.N false).getD j false = false:=fun j => by
    by_cases hj:j < p.N <;> simp [hj]
  refine ⟨by simp,Fr.refl _ _,fun j v _ _ hl => ?_,fun hl => ?_,fun _ => rfl⟩
  all_goals (rw [hf] at hl;cases hl)
theorem RqI.open_ (h:RqI p listed act w) {j:Nat} (hj:j < p.N) (hn:listed.getD j true = false):listed.getD p.m false = false:=by
  cases hl:listed.getD p.m false with
  | false => rfl
  | true =>
    have:=(h.last hl).2 j hj;rw [getD_no hn] at this;cases this
theorem RqI.at (h:RqI p listed act w) {j:Nat} (hj:j < p.N) (hn:listed.getD j true = false):w = p.W.drew:=h.world (h.open_ hj hn)
theorem RqI.pure_step (ok:RqOk p) (h:RqI p listed act w) {j s:Nat} {v:Value} (hj:j < p.N) (hn:listed.getD j true = false) (hv:p.pv j = some v) (hs:s = p.slot j) :
    RqI p (listed.setIfInBounds j true) (act.put (some s) v) w:=by
  subst hs;have hop:=h.open_ (j:=j) hj hn;have hjm:j ≠ p.m:=fun e => by rw [e,ok.nl] at hv;cases hv
  refine ⟨by simp [h.size],h.frame.put (ok.mem j hj hjm) v,fun i u hi hu hl => ?_,fun hl => ?_,fun hl => ?_⟩
  · by_cases hij:i = j
    · subst hij;rw [hv] at hu;injection hu with hu;rw [val_put (by rw [h.frame.2.1];exact ok.lt _ hj hjm),hu]
    · rw [getD_setL (fun e => hij e.symm)] at hl;have him:i ≠ p.m:=fun e => by rw [e,ok.nl] at hu;cases hu
      rw [val_put_ne (fun e => hij (ok.inj _ _ hj hi hjm him e).symm)];exact h.pure i u hi hu hl
  · rw [getD_setL hjm,hop] at hl;cases hl
  · exact h.world hop
theorem RqI.last_step (ok:RqOk p) (h:RqI p listed act w) {j:Nat} (hj:j = p.m) (hm:p.m < p.N) (hall:∀ i,i < p.N → i ≠ p.m → listed.getD i false = true) (hF:p.Fin act w') :
    RqI p (listed.setIfInBounds j true) act w':=by
  subst hj;have hsl:(listed.setIfInBounds p.m true).getD p.m false = true:=getD_same (by rw [h.size];exact hm);have hal:∀ i,i < p.N → (listed.setIfInBounds p.m true).getD i false = true:=fun i hi => by
    by_cases e:i = p.m
    · rw [e];exact hsl
    · rw [getD_setL (fun e2 => e e2.symm)];exact hall i hi e
  refine ⟨by simp [h.size],h.frame,fun i u hi hu hl => ?_,fun _ => ⟨hF,hal⟩,fun hl => ?_⟩
  · by_cases e:i = p.m
    · rw [e,ok.nl] at hu;cases hu
    · exact h.pure i u hi hu (hall i hi e)
  · rw [hsl] at hl;cases hl
end Kt
end
section
/- Maps whose keys are structs of integers: look and put. -/
namespace Kt
open Go
section
variable {P:Program}
theorem run_look_key {w:World} {r:Nat} {es:Array MapEntry} {clock:Nat} {T k E:TypeId} {x z:Value} {lx:Lit} (K:WideMaps.KeyLaw P k) (hT:P.underlying T = some (.map k E))
    (hg:w.heap[r]? = some (.map es clock)) (hes:∀ e ∈ es.toList,∃ l,keyOf P k e.key = some l) (hx:keyOf P k x = some lx) (hz:(zeroValue E).run P w = .ok z w) :
    (Instr.lookup T (.map (some r)) x true).run P w = .ok (.tuple #[z,.bool false]) w ∨
    ∃ e ∈ es.toList,e.key = x ∧ (Instr.lookup T (.map (some r)) x true).run P w = .ok (.tuple #[e.val,.bool true]) w:=by
  have hck:∀ b,(Instr.checkKey b 10000 k x).run P w = .ok () w:=fun b => K.check w b hx
  rcases K.find w hx es.toList hes with ⟨h,_⟩ | ⟨j,e,h,hj,hk⟩
  · left;simp [Instr.lookup,run_underlying hT,h,hck,MapKept.run_getObj_map hg,hz,Result.andThen]
  · right;refine ⟨e,List.mem_of_getElem? hj,hk,?_⟩;simp [Instr.lookup,run_underlying hT,h,hck,MapKept.run_getObj_map hg,Result.andThen]
theorem run_setObj_map' {w:World} {r:Nat} {es:Array MapEntry} {clock:Nat} (o:Obj) (h:w.heap[r]? = some (.map es clock)):(setObj r o).run P w = .ok () (w.putObj r o):=by simp [setObj,Sem.run,h,World.putObj]
theorem run_put_key {w:World} {r:Nat} {es:Array MapEntry} {clock:Nat} {T k E:TypeId} {x v:Value} {lx:Lit} (K:WideMaps.KeyLaw P k) (hT:P.underlying T = some (.map k E))
    (hg:w.heap[r]? = some (.map es clock)) (hes:∀ e ∈ es.toList,∃ l,keyOf P k e.key = some l) (hx:keyOf P k x = some lx) :
    ∃ es' clock',(Instr.mapUpdate T (.map (some r)) x v).run P w = .ok () (w.putObj r (.map es' clock')) ∧ ∀ e ∈ es'.toList,e ∈ es.toList ∨ (e.key = x ∧ e.val = v):=by
  have hck:∀ b,(Instr.checkKey b 10000 k x).run P w = .ok () w:=fun b => K.check w b hx
  rcases K.find w hx es.toList hes with ⟨h,_⟩ | ⟨j,e,h,hj,hk⟩
  · refine ⟨es.push { key:=x,val:=v,born:=clock },clock + 1,?_,fun e he => ?_⟩
    · unfold Instr.mapUpdate;simp [run_underlying hT,h,hck,MapKept.run_getObj_map hg,run_setObj_map' _ hg,Result.andThen]
    · simp at he;rcases he with he | rfl
      · exact .inl (by simpa using he)
      · exact .inr ⟨rfl,rfl⟩
  · have hes':es[j]? = some e:=by simpa using hj
    have hst:=K.stays w hx;refine ⟨es.modify j fun e => { e with key:=x,val:=v },clock,?_,fun e' he => ?_⟩
    · unfold Instr.mapUpdate;simp [run_underlying hT,h,hck,MapKept.run_getObj_map hg,run_setObj_map' _ hg,Result.andThen,hes',hk,hst]
    · obtain ⟨i,hi,hie⟩:=List.getElem_of_mem he;have hi2:i < es.size:=by simpa using hi
      have e2:(es.modify j fun e => { e with key:=x,val:=v })[i]'(by simpa using hi2) = e':=by rw [← hie,Array.getElem_toList]
      rw [Array.getElem_modify] at e2;split at e2
      · exact .inr ⟨by rw [← e2],by rw [← e2]⟩
      · left;rw [← e2];simp
end
end Kt
end
