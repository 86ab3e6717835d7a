/- Joined: GrC, GrV. -/
import Derived.Test.YtdbfiflmeiidjaaSa04
import Derived.Test.YtdbfiflmeiidjaaSa02
import Derived.Deep.DeepCutAuto
import Derived.Laws.EntriesVeiled
import Derived.Laws.AppendOwnNone
import Derived.Maps.AppendAt
import Derived.StillTailTactics
import Derived.Deep.RegionLaw
import Derived.Deep.RegionLawGrows
section
/- Whether a symbol derives itself: cyclic: its walk. -/
namespace Gr
def RuleOk (r:Rule):Prop:=ruleE r = 0
theorem RuleOk.parts {r:Rule} (h:RuleOk r):(0 ≤ r.left ∧ r.left < 64) ∧ 1 ≤ r.right.length ∧ r.right.length ≤ 8 ∧ ∀ x ∈ r.right,(0 ≤ x.sym ∧ x.sym < 64) ∧ (x.cls = 0 ∨ x.sym = 0):=by
  unfold RuleOk ruleE at h;split at h
  · cases h
  rename_i h1;split at h
  · cases h
  rename_i h2;split at h
  · cases h
  rename_i h3;have h1':symOk r.left = true:=by simpa using h1
  have h3':r.right.all itemOk = true:=by simpa using h3
  refine ⟨of_decide_eq_true h1',by omega,by omega,fun x hx => ?_⟩;have:=List.all_eq_true.1 h3' x hx;unfold itemOk at this;simp only [Bool.and_eq_true,Bool.or_eq_true,decide_eq_true_eq] at this;exact ⟨of_decide_eq_true this.1,this.2⟩
theorem unit_one (s:Int) (x:Item) (h:x.cls = 0):unit ⟨s,[x]⟩ = some x.sym:=by
  show (if x.cls = 0 then some x.sym else none) = _;rw [if_pos h]
theorem unit_cls (s:Int) (x:Item) (h:x.cls ≠ 0):unit ⟨s,[x]⟩ = none:=by
  show (if x.cls = 0 then some x.sym else none) = _;rw [if_neg h]
theorem unit_long (s:Int) (l:List Item) (h:l.length ≠ 1):unit ⟨s,l⟩ = none:=by
  match l with
  | [] => rfl
  | [x] => simp at h
  | x :: y :: l => rfl
theorem tgts_none {g:List Rule} {k:Nat} (h:unit (rul g k) = none):(fun s:Nat => tgts g (k + 1) (s:Int)) = fun s:Nat => tgts g k (s:Int):=by
  funext s;rw [tgts_succ,h];simp
theorem tgts_some {g:List Rule} {k sn:Nat} {t:Int} (h:unit (rul g k) = some t) (hl:(rul g k).left = (sn:Int)):(fun s:Nat => tgts g (k + 1) (s:Int)) = fun s:Nat => if s = sn then tgts g k (sn:Int) ++ [t] else tgts g k (s:Int):=by
  funext s;rw [tgts_succ,h,hl];by_cases e:s = sn
  · subst e;simp
  · rw [if_neg e,if_neg (by omega)];simp
end Gr
namespace Go.Proofs.Ytdbfiflmeiidjaa
open Go Go.RowKit
theorem Try.infoI64:(Try.prog.info? 3).map (fun i => (i.zero,i.size,i.bytes)) = some (some (.int .i64 0),1,8):=by kernel_rfl
theorem rows_new (w:World) (T:TypeId) (cs:Array Value) (h:cs = ((List.range 64).map fun _ => Value.slice none 0 0).toArray) (W:World) (hW:W = w.alloc (.cells cs T)):Kt.RowsA W w.heap.size w.heap.size 0 3 (fun _ => []):=by
  subst hW;refine ⟨fun _ => .slice none 0 0,fun s hs => ?_,fun s hs => Kt.Own.nil _ _ _ _,fun s hs => by simp [Value.ownBlock],fun s s' _ _ _ => .inl rfl,⟨T,cs,Kt.Blk.new w T cs⟩⟩;rw [Nat.zero_add,(Kt.Blk.new w T cs).cell s,h,List.getElem?_toArray,List.getElem?_map,List.getElem?_range hs];rfl
def cycSlot:Nat → Nat:=fun j => match j with | 0 => 28 | 1 => 29 | 2 => 30 | 3 => 31 | 4 => 32 | 5 => 33 | 6 => 34 | 7 => 35 | 8 => 36 | 9 => 37 | 10 => 38 | 11 => 39 | 12 => 40 | 13 => 41 | _ => 999
def cycS:List Nat:=[28,29,30,31,32,33,34,35,36,37,38,39,40,41]
def cycP (a0:Act) (W:World) (sb rb b' o' c' sn:Nat) (x:Int) (Vs:Value) (m:Nat) (L:List Value) (Fin:Act → World → Prop):Kt.RgP :=
  ⟨15,11,12,cycSlot,cycS,fun j => match j with | 0 => some (.pointer (some ⟨rb,0,none⟩)) | 1 => some (.int .i64 (sn:Int)) | 2 => some (.pointer (some ⟨rb,0,none⟩)) | 3 => some (.int .i64 (sn:Int)) | 4 => some (.pointer (some ⟨sb,sn,none⟩)) | 5 => some (Vs) | 6 => some (.pointer (some ⟨rb,1,none⟩)) | 7 => some (.slice (some ⟨b',o',none⟩) 1 c') | 8 => some (.pointer (some ⟨b',o',none⟩)) | 9 => some (.pointer (some ⟨b',o' + 1,none⟩)) | 10 => some (.int .i64 x) | 13 => some (.pointer (some ⟨sb,sn,none⟩)) | _ => none,a0,W,sb,3,1,Vs,m,L,[.int .i64 x],Fin,fun g => .slice (some ⟨g,0,none⟩) 1 1,fun _ => []⟩
theorem cyc_ok {a0:Act} {W:World} {sb rb b' o' c' sn:Nat} {x:Int} {Vs:Value} {m:Nat} {L:List Value} {Fin:Act → World → Prop} {listed:Array Bool} {act:Act} {w:World} (_:Kt.RgI (cycP a0 W sb rb b' o' c' sn x Vs m L Fin) listed act w) (h:42 ≤ a0.tmps.size):Kt.RgOk (cycP a0 W sb rb b' o' c' sn x Vs m L Fin) :=
  ⟨fun i j hi hj => (by decide:∀ i,i < 14 → ∀ j,j < 14 → cycSlot i = cycSlot j → i = j) i hi j hj,(by decide:∀ j,j < 14 → cycSlot j ∈ cycS),fun j hj => Nat.lt_of_lt_of_le ((by decide:∀ j,j < 14 → cycSlot j < 42) j hj) h,Nat.le_of_ble_eq_true rfl,Nat.le_of_ble_eq_true rfl,.inl (Nat.le_of_ble_eq_true rfl),Nat.ne_of_beq_eq_false rfl,rfl,rfl,rfl⟩
theorem wp_rename {P:Program} {c:Code} {Q:Exit → Act → World → Prop} {a:Act} {w w':World} (h:w = w') (k:c.wp P Q a w'):c.wp P Q a w:=by rw [h];exact k
theorem tgt_of_rows {W:World} {base b:Nat} {f:Nat → List Int} (h:Kt.RowsA W base b 0 3 f):Kt.Tgt W W.heap.size b f:=by
  obtain ⟨V,h⟩:=h;refine ⟨h.lt,fun s hs => ?_⟩;obtain ⟨A,c,h1,_,h3⟩:=(h.own s hs).shape;have:=h.cell s hs;rw [Nat.zero_add,h1] at this;exact ⟨A,c,this,h3⟩
theorem dfs_start {g:List Gr.Rule} {W:World} {bs:Nat} (h:Kt.Tgt W W.heap.size bs (fun s => Gr.tgts g g.length (s:Int))) {c1 c2 c3:Array Value} (h1:c1 = Kt.BArr fun _ => false) (h2:c2 = Kt.BArr fun _ => false) {v:Value} (h3:c3 = #[v]) {T:TypeId} {n1 n2:Nat} (e1:n1 = W.heap.size + 1) (e2:n2 = W.heap.size + 2) :
    Dfs g W.heap.size W.heap.size n1 bs n2 ((((W.alloc (.cells c1 134)).alloc (.cells c2 134)).alloc (.cells c3 T)).setCell ⟨n2,0,none⟩ (.func (.func 58) #[] #[.pointer (some ⟨W.heap.size,0,none⟩),.pointer (some ⟨n1,0,none⟩),.pointer (some ⟨bs,0,none⟩),.pointer (some ⟨n2,0,none⟩)])) (fun _ => false) []:=by
  subst h1 h2 h3 e1 e2;have hb:Below W.heap.size W ((((W.alloc (.cells (Kt.BArr fun _ => false) 134)).alloc (.cells (Kt.BArr fun _ => false) 134)).alloc (.cells #[v] T)).setCell ⟨W.heap.size + 2,0,none⟩ (.func (.func 58) #[] #[.pointer (some ⟨W.heap.size,0,none⟩),.pointer (some ⟨W.heap.size + 1,0,none⟩),.pointer (some ⟨bs,0,none⟩),.pointer (some ⟨W.heap.size + 2,0,none⟩)])) :=
    ((((Below.refl _ _).alloc (Nat.le_refl _) _).alloc (by simp) _).alloc (by simp;omega) _).setCell (p:=⟨W.heap.size + 2,0,none⟩) (by simp) _
  have k1:=Kt.Blk.new W 134 (Kt.BArr fun _ => false);have k2:=Kt.Blk.new' (W.alloc (.cells (Kt.BArr fun _ => false) 134)) (W.heap.size + 1) 134 (Kt.BArr fun _ => false) (by simp);have k3:=Kt.Blk.new' ((W.alloc (.cells (Kt.BArr fun _ => false) 134)).alloc (.cells (Kt.BArr fun _ => false) 134)) (W.heap.size + 2) T #[v] (by simp);refine ⟨h.below hb,((k1.alloc _).alloc _).far (p:=⟨W.heap.size + 2,0,none⟩) (by simp) _,?_,?_,Gr.Dn.nil g⟩
  · have:=(k2.alloc (.cells #[v] T)).far (p:=⟨W.heap.size + 2,0,none⟩) (by simp) (.func (.func 58) #[] #[.pointer (some ⟨W.heap.size,0,none⟩),.pointer (some ⟨W.heap.size + 1,0,none⟩),.pointer (some ⟨bs,0,none⟩),.pointer (some ⟨W.heap.size + 2,0,none⟩)]);have e:(fun s:Nat => decide ((s:Int) ∈ ([]:List Int))) = fun _ => false:=by funext s;simp
    rw [e];exact this
  · have:=k3.set_ 0 (.func (.func 58) #[] #[.pointer (some ⟨W.heap.size,0,none⟩),.pointer (some ⟨W.heap.size + 1,0,none⟩),.pointer (some ⟨bs,0,none⟩),.pointer (some ⟨W.heap.size + 2,0,none⟩)]);exact this.cell 0
theorem edge_parts {g:List Gr.Rule} (hv:∀ r,r < g.length → Gr.RuleOk (Gr.rul g r)) {s t:Int} (h:Gr.E g s t):(0 ≤ s ∧ s < 64) ∧ (0 ≤ t ∧ t < 64):=by
  obtain ⟨r,hr,h1,h2⟩:=Gr.mem_tgts.1 h;obtain ⟨x,hx,_,rfl⟩:=Gr.unit_some h2;obtain ⟨h3,_,_,h4⟩:=(hv r hr).parts;rw [h1] at h3;exact ⟨h3,(h4 x (by rw [hx];simp)).1⟩
def CycPost (g:List Gr.Rule) (w:World) (e:Ending) (w':World):Prop :=
  Below w.heap.size w w' ∧ ∃ b:Bool,e = .returned (.bool b) ∧ (b = true → Gr.Cyc g) ∧ (b = false → ∃ ρ:Int → Nat,(∀ s,ρ s ≤ 63) ∧ ∀ s t,Gr.E g s t → ρ t < ρ s)
set_option maxRecDepth 100000 in
set_option maxHeartbeats 1000000 in
theorem cyclic_any (g:List Gr.Rule) (A:Option Addr) (n cp:Nat) (w:World) (hl:g.length = n) (hn:n ≤ 200) (hg:Kt.Rules w w.heap.size A g) (hv:∀ r,r < g.length → Gr.RuleOk (Gr.rul g r)) :
    Calls Try.prog 45 #[.slice A n cp] w (CycPost g w):=by
  have HL:=Lib.hid hl;have HV:=Lib.hid hv;obtain ⟨i0,hi0,hz0,hz1,hz2⟩:=info_parts Try.infoI64;clear hl hv;go_enter Try.func45,Try.ntmps45;go_wp2_with fail;go_loopw [12] (fun i wr => ∃ k:Nat,k ≤ n ∧ i = .int .i64 k ∧ Hid (Kt.RowsA wr w.heap.size w.heap.size 0 3 (fun s => Gr.tgts g k (s:Int))) ∧ Below w.heap.size w wr) (fun i _ => n - (intOf i).toNat)
  case atStart => exact ⟨0,Nat.zero_le _,rfl,Lib.hid (rows_new w _ _ rfl _ rfl),(Below.refl _ _).alloc (Nat.le_refl _) _⟩
  case round =>
    obtain ⟨k,hk,rfl,hrows,hbel⟩:=hrel;by_cases hlt:k < n
    · obtain ⟨b,o,rfl,hb,hc⟩:=(hg.below hbel) (by have:=HL.out;omega);obtain ⟨c1,A',c',c2,hlr,hit⟩:=hc k (by have:=HL.out;omega);have hok:=HV.out k (by have:=HL.out;omega);obtain ⟨ru,hru⟩:∃ ru,Hid (Gr.rul g k = ru):=⟨_,Lib.hid rfl⟩;obtain ⟨s,l⟩:=ru;rw [hru.out] at c1 c2 hlr hit hok;obtain ⟨hs,hl1,hl8,hits⟩:=hok.parts;obtain ⟨h0,h1⟩:0 ≤ s ∧ s < 64:=hs;obtain ⟨m,hm⟩:∃ m,Hid (l.length = m):=⟨_,Lib.hid rfl⟩;replace c2:wr.cell? ⟨b,o + k * 2 + 1,none⟩ = some (.slice A' l.length c'):=c2;replace hit:Kt.Items wr w.heap.size A' l:=hit;rw [hm.out] at c2;have hgs:=hbel.size;obtain ⟨sn,rfl⟩:∃ sn:Nat,s = (sn:Int):=⟨s.toNat,by omega⟩;have hbel2:Below w.heap.size w (wr.alloc (.cells #[.int .i64 (sn:Int),.slice A' m c'] 29)):=hbel.alloc hgs _;clear hok hl1 hl8 hc;by_cases h1m:m = 1
      · obtain ⟨x,rfl⟩:∃ x,l = [x]:=List.length_eq_one_iff.1 (by rw [hm.out,h1m]);obtain ⟨b',o',rfl,hb',hc'⟩:=hit (by simp);have ci:=hc' 0 (by simp);simp only [Nat.zero_mul,Nat.add_zero] at ci;obtain ⟨xc,xs⟩:=x;obtain ⟨ci1,ci2⟩:wr.cell? ⟨b',o',none⟩ = some (.int .u16 xc) ∧ wr.cell? ⟨b',o' + 1,none⟩ = some (.int .i64 xs):=ci;obtain ⟨⟨x0,x1⟩,_⟩:(0 ≤ xs ∧ xs < 64) ∧ (xc = 0 ∨ xs = 0):=hits ⟨xc,xs⟩ (by simp);subst h1m;have hb2:b' < wr.heap.size:=by omega
        clear hc' hits hm;by_cases hxc:xc = 0
        · subst hxc;have HU:Hid (Gr.unit (Gr.rul g k) = some xs):=Lib.hid (by rw [hru.out];exact Gr.unit_one _ _ rfl);have HF:Hid ((fun s:Nat => Gr.tgts g (k + 1) (s:Int)) = fun s:Nat => if s = sn then Gr.tgts g k (sn:Int) ++ [xs] else Gr.tgts g k (s:Int)):=Lib.hid (Gr.tgts_some HU.out (by rw [hru.out]));go_upto_region 6 with fail;obtain ⟨W9,hW9⟩:∃ W9,wr.alloc (.cells #[.int .i64 (sn:Int),.slice (some ⟨b',o',none⟩) 1 c'] 29) = W9:=⟨_,rfl⟩;have q0:Kt.Blk W9 wr.heap.size 29 #[.int .i64 (sn:Int),.slice (some ⟨b',o',none⟩) 1 c']:=by rw [← hW9];exact Kt.Blk.new _ _ _
          have q1:=q0.cell 0;have q2:=q0.cell 1;have q3:W9.cell? ⟨b',o' + 1,none⟩ = some (.int .i64 xs):=by rw [← hW9];exact (World.cell?_alloc_lt wr _ _ hb2).trans ci2
          obtain ⟨V,hV0⟩:=hrows.out;have hV:Kt.RowsV W9 w.heap.size w.heap.size 0 3 V (fun s => Gr.tgts g k (s:Int)):=by rw [← hW9];exact hV0.alloc _
          have hbs9:w.heap.size < W9.heap.size:=hV.lt;have hbw9:w.heap.size ≤ W9.heap.size:=by omega
          have hbr9:wr.heap.size < W9.heap.size:=q0.lt;have hbb9:b' < W9.heap.size:=by omega
          have hsn:sn < 64:=by omega
          have hrw:(V sn).ownBlock ≠ some wr.heap.size:=hV0.row_lt hsn _ (Nat.le_refl _);have hsw:(V sn).ownBlock ≠ some w.heap.size:=hV.ne sn hsn;have hbw:(V sn).ownBlock ≠ some b':=fun e => by
            have:=Kt.own_block_ne (hV.own sn hsn) _ e;omega
          have hbel9:Below w.heap.size w W9:=by rw [← hW9];exact hbel2
          have q4:W9.cell? ⟨w.heap.size,sn,none⟩ = some (V sn):=by have:=hV.cell sn hsn;rwa [Nat.zero_add] at this
          obtain ⟨T9,cs9,hbl9⟩:=hV.bl;have q5:=hbl9.frozen sn;obtain ⟨m,hm⟩:∃ m,(Gr.tgts g k (sn:Int)).length = m:=⟨_,rfl⟩;have hm2:m ≤ 200:=by have:=Gr.tgts_len g k (sn:Int);omega
          have hown:W9.ownsRow w.heap.size 3 1 (V sn) m ((Gr.tgts g k (sn:Int)).map (Value.int .i64)):=by rw [← hm];exact hV.own sn hsn
          have hfin:∀ gg cap w2,w2.ownsRow w.heap.size 3 1 (.slice (some ⟨gg,0,none⟩) (m + 1) cap) (m + 1) ((Gr.tgts g k (sn:Int)).map (Value.int .i64) ++ [.int .i64 xs]) → W9.grownBy w2 (V sn).ownBlock → ((V sn).ownBlock = some gg ∨ W9.heap.size ≤ gg) →
              Kt.RowsA (w2.setCell ⟨w.heap.size,sn,none⟩ (.slice (some ⟨gg,0,none⟩) (m + 1) cap)) w.heap.size w.heap.size 0 3 (fun s => Gr.tgts g (k + 1) (s:Int)) ∧ Below w.heap.size w (w2.setCell ⟨w.heap.size,sn,none⟩ (.slice (some ⟨gg,0,none⟩) (m + 1) cap)):=fun gg cap w2 h1 h2 h3 => by
            have h4:=Kt.RowsA.push (s0:=sn) (x:=xs) hV hsn hbs9 h1 hm.symm h2 h3;rw [Nat.zero_add,← HF.out] at h4;exact ⟨h4,(Kt.below_grown hbel9 hbw9 h2 (Kt.own_block_ne (hV.own sn hsn))).setCell (p:=⟨w.heap.size,sn,none⟩) (Nat.le_refl _) _⟩
          rw [hW9];clear hV0 hrows ci1 ci2 c1 c2 hbel2 HU HF hru hbl9 hV hbel9 q0;refine Kt.region_inv (Kt.RgI (cycP _ W9 w.heap.size wr.heap.size b' o' c' sn xs (V sn) m ((Gr.tgts g k (sn:Int)).map (Value.int .i64)) (fun _ wx => Kt.RowsA wx w.heap.size w.heap.size 0 3 (fun s => Gr.tgts g (k + 1) (s:Int)) ∧ Below w.heap.size w wx))) (by kernel_rfl) ?hg (Kt.RgI.start hown) ?hstep ?hdone
          case hg =>
            intro q o ho;rcases q with _ | _ | _ | _ | _ | _ | _ | _ | _ | _ | _ | _ | _ | _ | _ | q
            all_goals first | (cases Option.some.inj ho;rfl) | (exfalso;simp at ho)
          case hstep =>
            intro listed act w2 q o hI ho hn hpre;have ok:=cyc_ok hI (Nat.le_of_ble_eq_true rfl);rcases q with _ | _ | _ | _ | _ | _ | _ | _ | _ | _ | _ | _ | _ | _ | _ | q
            · cases Option.some.inj ho;have f5:act.tmps[5]?.getD undef = .pointer (some ⟨wr.heap.size,0,none⟩):=(Kt.val_get act 5).symm.trans (hI.frame.val_out (s:=5) (show 5 ∉ cycS by decide));have hk:=hI.pure_step ok (fun _ hi => (List.not_mem_nil hi).elim) (Nat.le_of_ble_eq_true rfl) hn (j:=0) (s:=28) (v:=.pointer (some ⟨wr.heap.size,0,none⟩)) rfl rfl;unfold Oper.wp;go_simp;exact hk
            · cases Option.some.inj ho;have e0:act.tmps[28]?.getD undef = .pointer (some ⟨wr.heap.size,0,none⟩):=(Kt.val_get act 28).symm.trans (hI.pure 0 _ (Nat.le_of_ble_eq_true rfl) rfl (hpre ⟨0,.data⟩ (by simp) rfl));have hop:=hI.open_ (j:=1) (Nat.le_of_ble_eq_true rfl) hn;have c0:w2.cell? ⟨wr.heap.size,0,none⟩ = some (.int .i64 (sn:Int)):=hI.cell hop hbr9 hrw q1;have hk:=hI.pure_step ok (fun _ hi => (List.not_mem_nil hi).elim) (Nat.le_of_ble_eq_true rfl) hn (j:=1) (s:=29) (v:=.int .i64 (sn:Int)) rfl rfl;unfold Oper.wp;go_simp;exact hk
            · cases Option.some.inj ho;have f5:act.tmps[5]?.getD undef = .pointer (some ⟨wr.heap.size,0,none⟩):=(Kt.val_get act 5).symm.trans (hI.frame.val_out (s:=5) (show 5 ∉ cycS by decide));have hk:=hI.pure_step ok (fun _ hi => (List.not_mem_nil hi).elim) (Nat.le_of_ble_eq_true rfl) hn (j:=2) (s:=30) (v:=.pointer (some ⟨wr.heap.size,0,none⟩)) rfl rfl;unfold Oper.wp;go_simp;exact hk
            · cases Option.some.inj ho;have e2:act.tmps[30]?.getD undef = .pointer (some ⟨wr.heap.size,0,none⟩):=(Kt.val_get act 30).symm.trans (hI.pure 2 _ (Nat.le_of_ble_eq_true rfl) rfl (hpre ⟨2,.data⟩ (by simp) rfl));have hop:=hI.open_ (j:=3) (Nat.le_of_ble_eq_true rfl) hn;have c0:w2.cell? ⟨wr.heap.size,0,none⟩ = some (.int .i64 (sn:Int)):=hI.cell hop hbr9 hrw q1;have hk:=hI.pure_step ok (fun _ hi => (List.not_mem_nil hi).elim) (Nat.le_of_ble_eq_true rfl) hn (j:=3) (s:=31) (v:=.int .i64 (sn:Int)) rfl rfl;unfold Oper.wp;go_simp;exact hk
            · cases Option.some.inj ho;have f3:act.tmps[3]?.getD undef = .pointer (some ⟨w.heap.size,0,none⟩):=(Kt.val_get act 3).symm.trans (hI.frame.val_out (s:=3) (show 3 ∉ cycS by decide));have e3:act.tmps[31]?.getD undef = .int .i64 (sn:Int):=(Kt.val_get act 31).symm.trans (hI.pure 3 _ (Nat.le_of_ble_eq_true rfl) rfl (hpre ⟨3,.data⟩ (by simp) rfl));have hk:=hI.pure_step ok (fun _ hi => (List.not_mem_nil hi).elim) (Nat.le_of_ble_eq_true rfl) hn (j:=4) (s:=32) (v:=.pointer (some ⟨w.heap.size,sn,none⟩)) rfl rfl;unfold Oper.wp;go_simp;exact hk
            · cases Option.some.inj ho;have e4:act.tmps[32]?.getD undef = .pointer (some ⟨w.heap.size,sn,none⟩):=(Kt.val_get act 32).symm.trans (hI.pure 4 _ (Nat.le_of_ble_eq_true rfl) rfl (hpre ⟨4,.data⟩ (by simp) rfl));have hop:=hI.open_ (j:=5) (Nat.le_of_ble_eq_true rfl) hn;have c0:w2.cell? ⟨w.heap.size,sn,none⟩ = some ((V sn)):=hI.cell hop hbs9 hsw q4;have hk:=hI.pure_step ok (fun _ hi => (List.not_mem_nil hi).elim) (Nat.le_of_ble_eq_true rfl) hn (j:=5) (s:=33) (v:=(V sn)) rfl rfl;unfold Oper.wp;go_simp;exact hk
            · cases Option.some.inj ho;have f5:act.tmps[5]?.getD undef = .pointer (some ⟨wr.heap.size,0,none⟩):=(Kt.val_get act 5).symm.trans (hI.frame.val_out (s:=5) (show 5 ∉ cycS by decide));have hk:=hI.pure_step ok (fun _ hi => (List.not_mem_nil hi).elim) (Nat.le_of_ble_eq_true rfl) hn (j:=6) (s:=34) (v:=.pointer (some ⟨wr.heap.size,1,none⟩)) rfl rfl;unfold Oper.wp;go_simp;exact hk
            · cases Option.some.inj ho;have e6:act.tmps[34]?.getD undef = .pointer (some ⟨wr.heap.size,1,none⟩):=(Kt.val_get act 34).symm.trans (hI.pure 6 _ (Nat.le_of_ble_eq_true rfl) rfl (hpre ⟨6,.data⟩ (by simp) rfl));have hop:=hI.open_ (j:=7) (Nat.le_of_ble_eq_true rfl) hn;have c0:w2.cell? ⟨wr.heap.size,1,none⟩ = some (.slice (some ⟨b',o',none⟩) 1 c'):=hI.cell hop hbr9 hrw q2;have hk:=hI.pure_step ok (fun _ hi => (List.not_mem_nil hi).elim) (Nat.le_of_ble_eq_true rfl) hn (j:=7) (s:=35) (v:=.slice (some ⟨b',o',none⟩) 1 c') rfl rfl;unfold Oper.wp;go_simp;exact hk
            · cases Option.some.inj ho;have e7:act.tmps[35]?.getD undef = .slice (some ⟨b',o',none⟩) 1 c':=(Kt.val_get act 35).symm.trans (hI.pure 7 _ (Nat.le_of_ble_eq_true rfl) rfl (hpre ⟨7,.data⟩ (by simp) rfl));have hk:=hI.pure_step ok (fun _ hi => (List.not_mem_nil hi).elim) (Nat.le_of_ble_eq_true rfl) hn (j:=8) (s:=36) (v:=.pointer (some ⟨b',o',none⟩)) rfl rfl;unfold Oper.wp;go_simp;exact hk
            · cases Option.some.inj ho;have e8:act.tmps[36]?.getD undef = .pointer (some ⟨b',o',none⟩):=(Kt.val_get act 36).symm.trans (hI.pure 8 _ (Nat.le_of_ble_eq_true rfl) rfl (hpre ⟨8,.data⟩ (by simp) rfl));have hk:=hI.pure_step ok (fun _ hi => (List.not_mem_nil hi).elim) (Nat.le_of_ble_eq_true rfl) hn (j:=9) (s:=37) (v:=.pointer (some ⟨b',o' + 1,none⟩)) rfl rfl;unfold Oper.wp;go_simp;exact hk
            · cases Option.some.inj ho;have e9:act.tmps[37]?.getD undef = .pointer (some ⟨b',o' + 1,none⟩):=(Kt.val_get act 37).symm.trans (hI.pure 9 _ (Nat.le_of_ble_eq_true rfl) rfl (hpre ⟨9,.data⟩ (by simp) rfl));have hop:=hI.open_ (j:=10) (Nat.le_of_ble_eq_true rfl) hn;have c0:w2.cell? ⟨b',o' + 1,none⟩ = some (.int .i64 xs):=hI.cell hop hbb9 hbw q3;have hk:=hI.pure_step ok (fun _ hi => (List.not_mem_nil hi).elim) (Nat.le_of_ble_eq_true rfl) hn (j:=10) (s:=38) (v:=.int .i64 xs) rfl rfl;unfold Oper.wp;go_simp;exact hk
            · cases Option.some.inj ho;have e10:act.tmps[38]?.getD undef = .int .i64 xs:=(Kt.val_get act 38).symm.trans (hI.pure 10 _ (Nat.le_of_ble_eq_true rfl) rfl (hpre ⟨10,.data⟩ (by simp) rfl));unfold Oper.wp;go_simp;exact hI.bld_step ok (fun _ hi => (List.not_mem_nil hi).elim) hn rfl rfl
            · cases Option.some.inj ho;have e5:act.eval (.tmp 33) = (V sn):=hI.pure 5 _ (Nat.le_of_ble_eq_true rfl) rfl (hpre ⟨5,.data⟩ (by simp) rfl);have hna:listed.getD 12 false = false:=Kt.getD_no hn;obtain ⟨gb,_,hgb,hbl⟩:=hI.bld (hpre ⟨11,.data⟩ (by simp) rfl) hna;have hbase:w.heap.size ≤ w2.heap.size:=Nat.le_trans hbw9 (hI.kp (hI.open_ (j:=12) (Nat.le_of_ble_eq_true rfl) hn)).size;exact wp_append_lies _ _ _ _ rfl w.heap.size 3 i0 (.int .i64 0) 1 8 Try.underlying95 hi0 hz0 hz1 hz2 rfl (by decide) (V sn) m ((Gr.tgts g k (sn:Int)).map (Value.int .i64)) e5 (hI.own hna) ⟨gb,0,none⟩ 1 1 [.int .i64 xs] hgb rfl (World.news_of_block hbl) (by simp [Value.oneCell']) (by decide) (by unfold maxLen;omega) (by omega) hbase _ rfl (fun g cap w3 h1 h2 h3 h4 => hI.app_step ok (Nat.le_of_ble_eq_true rfl) (fun _ hi => (List.not_mem_nil hi).elim) hn rfl h1 h2 h3 h4)
            · cases Option.some.inj ho;have f3:act.tmps[3]?.getD undef = .pointer (some ⟨w.heap.size,0,none⟩):=(Kt.val_get act 3).symm.trans (hI.frame.val_out (s:=3) (show 3 ∉ cycS by decide));have e1:act.tmps[29]?.getD undef = .int .i64 (sn:Int):=(Kt.val_get act 29).symm.trans (hI.pure 1 _ (Nat.le_of_ble_eq_true rfl) rfl (hpre ⟨1,.data⟩ (by simp) rfl));have hk:=hI.pure_step ok (fun _ hi => (List.not_mem_nil hi).elim) (Nat.le_of_ble_eq_true rfl) hn (j:=13) (s:=41) (v:=.pointer (some ⟨w.heap.size,sn,none⟩)) rfl rfl;unfold Oper.wp;go_simp;exact hk
            · cases Option.some.inj ho;have hop:=hI.open_ (j:=14) (Nat.le_of_ble_eq_true rfl) hn;have hall:∀ i,i < 14 → listed.getD i false = true:=fun i hi => by rcases i with _ | _ | _ | _ | _ | _ | _ | _ | _ | _ | _ | _ | _ | _ | i;exact hpre ⟨0,.phase⟩ (by simp) rfl;exact hpre ⟨1,.phase⟩ (by simp) rfl;exact hpre ⟨2,.phase⟩ (by simp) rfl;exact hpre ⟨3,.phase⟩ (by simp) rfl;exact hpre ⟨4,.phase⟩ (by simp) rfl;exact hpre ⟨5,.phase⟩ (by simp) rfl;exact hpre ⟨6,.phase⟩ (by simp) rfl;exact hpre ⟨7,.phase⟩ (by simp) rfl;exact hpre ⟨8,.phase⟩ (by simp) rfl;exact hpre ⟨9,.phase⟩ (by simp) rfl;exact hpre ⟨10,.phase⟩ (by simp) rfl;exact hpre ⟨11,.phase⟩ (by simp) rfl;exact hpre ⟨12,.phase⟩ (by simp) rfl;exact hpre ⟨13,.data⟩ (by simp) rfl;omega
              obtain ⟨gg,cap,hv,hown1,hat,hlt1⟩:=hI.app (hall 12 (Nat.le_of_ble_eq_true rfl)) hop;have ev:act.tmps[40]?.getD undef = .slice (some ⟨gg,0,none⟩) (m + 1) cap:=(Kt.val_get act 40).symm.trans hv;have e13:act.tmps[41]?.getD undef = .pointer (some ⟨w.heap.size,sn,none⟩):=(Kt.val_get act 41).symm.trans (hI.pure 13 _ (Nat.le_of_ble_eq_true rfl) rfl (hall 13 (by decide)));have c0:w2.cell? ⟨w.heap.size,sn,none⟩ = some ((V sn)):=hI.cell hop hbs9 hsw q4;have hz:w2.frozen? ⟨w.heap.size,sn,none⟩ = false:=(hI.kp hop).frozen_far ⟨w.heap.size,sn,none⟩ hbs9 (fun e => hsw e.symm) |>.trans q5;unfold Oper.wp;go_simp;exact hI.last_step ok (fun _ hi => (List.not_mem_nil hi).elim) rfl hall hI.frame (fun _ _ => rfl) (hfin gg cap w2 hown1 (hI.kp hop) hat)
            · exfalso;simp at ho
          case hdone =>
            intro listed act w2 hI hr;have hup:=Kt.all_up (fun q o ho => by
              rcases q with _ | _ | _ | _ | _ | _ | _ | _ | _ | _ | _ | _ | _ | _ | _ | q
              all_goals first | (cases Option.some.inj ho;decide) | (exfalso;simp at ho)) hI.size hr
            obtain ⟨hF1,hF2⟩:=(hI.last (hup 14 (by decide))).1;rw [hI.frame.out];simp only [cycP,cycS,Kt.sets];generalize Kt.val act 28 = v28;generalize Kt.val act 29 = v29;generalize Kt.val act 30 = v30;generalize Kt.val act 31 = v31;generalize Kt.val act 32 = v32;generalize Kt.val act 33 = v33;generalize Kt.val act 34 = v34;generalize Kt.val act 35 = v35;generalize Kt.val act 36 = v36;generalize Kt.val act 37 = v37;generalize Kt.val act 38 = v38;generalize Kt.val act 39 = v39;generalize Kt.val act 40 = v40;generalize Kt.val act 41 = v41;simp only [List.setIfInBounds_toArray,List.set_cons_zero,List.set_cons_succ];have HN:=Lib.hid hF1;clear hF1 hI hr hup;go_wp2;go_roundw
            case rel => exact ⟨k + 1,by omega,by go_num,HN,hF2⟩
            case measure => simp [intOf];omega
        · have hxb:(xc == 0) = false:=by simp [hxc]
          have HN:Hid (Kt.RowsA (wr.alloc (.cells #[.int .i64 (sn:Int),.slice (some ⟨b',o',none⟩) 1 c'] 29)) w.heap.size w.heap.size 0 3 (fun s => Gr.tgts g (k + 1) (s:Int))):=Lib.hid (by
            rw [Gr.tgts_none (by rw [hru.out];exact Gr.unit_cls _ _ hxc)];exact hrows.out.alloc _)
          clear hxc;go_wp2;go_roundw
          case rel => exact ⟨k + 1,by omega,by go_num,HN,hbel2⟩
          case measure => simp [intOf];omega
      · have hmb:((m:Int) == 1) = false:=by simp;omega
        have HN:Hid (Kt.RowsA (wr.alloc (.cells #[.int .i64 (sn:Int),.slice A' m c'] 29)) w.heap.size w.heap.size 0 3 (fun s => Gr.tgts g (k + 1) (s:Int))):=Lib.hid (by
          rw [Gr.tgts_none (by rw [hru.out];exact Gr.unit_long _ _ (by rw [hm.out];exact h1m))];exact hrows.out.alloc _)
        clear h1m hits;go_wp2;go_roundw
        case rel => exact ⟨k + 1,by omega,by go_num,HN,hbel2⟩
        case measure => simp [intOf];omega
    · obtain rfl:k = n:=by omega
      rename World => wo
      have hT:=tgt_of_rows hrows.out;rw [← HL.out] at hT;have hlen:g.length ≤ 200:=by have:=HL.out;omega
      have hsz:=hbel.size;have HT:=Lib.hid hT;have HR:Hid (∀ s t,Gr.E g s t → (0 ≤ s ∧ s < 64) ∧ (0 ≤ t ∧ t < 64)):=Lib.hid (fun s t h => edge_parts HV.out h);have hbz:=hrows.out.lt;clear hT hrows hi0 hz0 hz1 hz2 hg;go_upto_region 10 with fail;obtain ⟨W3,hW3⟩:∃ W3,((wo.alloc (.cells (Kt.BArr fun _ => false) 134)).alloc (.cells (Kt.BArr fun _ => false) 134)).alloc (.cells #[Value.nilFunc] 132) = W3:=⟨_,rfl⟩;refine wp_rename (w':=W3) (by rw [← hW3];rfl) ?_;have hB3:Kt.Blk W3 (wo.heap.size + 1 + 1) 132 #[Value.nilFunc]:=by rw [← hW3];exact Kt.Blk.new' _ _ _ _ (by simp)
      have c3:W3.cell? ⟨wo.heap.size + 1 + 1,0,none⟩ = some Value.nilFunc:=hB3.cell 0;have f3:=hB3.frozen 0;have HB:DfsB wo.heap.size wo.heap.size (wo.heap.size + 1) (wo.heap.size + 1 + 1):=⟨by omega,by omega,by omega,by omega,by omega,by omega⟩;have HD0:=Lib.hid (dfs_start (bs:=w.heap.size) HT.out (c1:=Kt.BArr fun _ => false) (c2:=Kt.BArr fun _ => false) (c3:=#[Value.nilFunc]) rfl rfl rfl (T:=132) (n1:=wo.heap.size + 1) (n2:=wo.heap.size + 1 + 1) rfl rfl);have hb3:Below w.heap.size w W3:=by rw [← hW3];exact ((hbel.alloc hsz _).alloc (by simp;omega) _).alloc (by simp;omega) _
      rw [hW3] at HD0;clear hB3 hW3 hbel;go_wp2_with fail;go_loopw [44] (fun i wx => ∃ (q:Nat) (dn:List Int),q ≤ 64 ∧ i = .int .i64 q ∧ Hid (Dfs g wo.heap.size wo.heap.size (wo.heap.size + 1) w.heap.size (wo.heap.size + 1 + 1) wx (fun _ => false) dn ∧ ∀ s:Nat,s < q → (s:Int) ∈ dn) ∧ Below w.heap.size w wx) (fun i _ => 64 - (intOf i).toNat)
      case atStart => exact ⟨0,[],Nat.zero_le _,rfl,Lib.hid ⟨HD0.out,fun s hs => by omega⟩,hb3.setCell (p:=⟨wo.heap.size + 1 + 1,0,none⟩) (by show w.heap.size ≤ wo.heap.size + 1 + 1;omega) _⟩
      case round =>
        obtain ⟨q,dn,hq,rfl,hst,hbel⟩:=hrel;have hsy:=hbel.size;by_cases hlt:q < 64
        · have cf:=hst.out.1.hbf;have IH:=Lib.hid (derives_any g (fun s t h => (HR.out s t h).2) hlen _ _ _ w.heap.size _ HB 64 q (fun _ => false) dn _ hlt (by unfold Gr.offc;exact Nat.le_trans (List.length_filter_le _ _) (by simp)) hst.out.1 (fun t _ h => by cases h));go_wp2_with fail;refine IH.out.mono ?_;rintro e w' ⟨hb',b',rfl,hT,hF⟩;have hb2:Below w.heap.size w w':=hbel.trans (hb'.mono hsz);cases b'
          · obtain ⟨dn2,hD2,hsub,hin⟩:=hF rfl;have HN:Hid (Dfs g wo.heap.size wo.heap.size (wo.heap.size + 1) w.heap.size (wo.heap.size + 1 + 1) w' (fun _ => false) dn2 ∧ ∀ s:Nat,s < q + 1 → (s:Int) ∈ dn2):=Lib.hid ⟨hD2,fun s hs => by
              by_cases e:s = q
              · rw [e];exact hin
              · exact hsub _ (hst.out.2 s (by omega))⟩
            clear hT hF hD2 hsub hin;go_wp2;go_roundw
            case rel => exact ⟨q + 1,dn2,by omega,by go_num,HN,hb2⟩
            case measure => simp [intOf];omega
          · have HT2:=Lib.hid (hT rfl);clear hT hF;go_wp2;go_ret;exact ⟨hb2,true,rfl,fun _ => HT2.out,fun e => by cases e⟩
        · obtain rfl:q = 64:=by omega
          have HF2:=Lib.hid (hst.out.1.dnn.ranked (fun s h0 h1 => by
            obtain ⟨sn,rfl⟩:∃ sn:Nat,s = (sn:Int):=⟨s.toNat,by omega⟩;exact hst.out.2 sn (by omega)) (fun s t h => (HR.out s t h).1))
          clear hst;go_wp2;go_ret;exact ⟨hbel,false,rfl,(fun e => by cases e),fun _ => HF2.out⟩
end Go.Proofs.Ytdbfiflmeiidjaa
end
section
/- Valid and checked: their walks. -/
namespace Gr
def firstE:List Rule → Int
  | [] => 0
  | r :: g => if ruleE r ≠ 0 then ruleE r else firstE g
theorem firstE_zero:∀ (g:List Rule),(∀ r,r < g.length → ruleE (rul g r) = 0) → firstE g = 0
  | [],_ => rfl
  | r :: g,h => by
    have h0:ruleE r = 0:=h 0 (by simp);rw [firstE,if_neg (by rw [h0];simp)];exact firstE_zero g fun k hk => h (k + 1) (by simp;omega)
theorem firstE_at:∀ (g:List Rule) (k:Nat),k < g.length → (∀ r,r < k → ruleE (rul g r) = 0) → ruleE (rul g k) ≠ 0 → firstE g = ruleE (rul g k)
  | [],k,hk,_,_ => by simp at hk
  | r :: g,0,_,_,h => by
    have h:ruleE r ≠ 0:=h;rw [firstE,if_pos h];rfl
  | r :: g,k + 1,hk,ha,h => by
    have h0:ruleE r = 0:=ha 0 (by omega);rw [firstE,if_neg (by rw [h0];simp)];exact firstE_at g k (by simpa using hk) (fun q hq => ha (q + 1) (by omega)) h
structure Good (g:List Rule):Prop where
  len:g.length ≤ 200
  ok:∀ r,r < g.length → RuleOk (rul g r)
  ranked:∃ ρ,Ranked g ρ
def VCode (g:List Rule) (c:Int):Prop :=
  (200 < g.length ∧ c = 5) ∨ (g.length ≤ 200 ∧ firstE g ≠ 0 ∧ c = firstE g) ∨ (g.length ≤ 200 ∧ firstE g = 0 ∧ Cyc g ∧ c = 92) ∨ (Good g ∧ ¬ Cyc g ∧ firstE g = 0 ∧ c = 0)
theorem VCode.good {g:List Rule} {c:Int} (h:VCode g c):c = 0 ↔ Good g:=by
  constructor
  · rintro rfl;rcases h with ⟨_,h⟩ | ⟨_,h1,h2⟩ | ⟨_,_,_,h⟩ | ⟨h,_⟩
    · cases h
    · exact absurd h2.symm h1
    · cases h
    · exact h
  · intro hg;rcases h with ⟨h,_⟩ | ⟨_,h1,_⟩ | ⟨_,_,⟨s,hs⟩,_⟩ | ⟨_,_,_,h⟩
    · have:=hg.len;omega
    · exact absurd (firstE_zero g hg.ok) h1
    · obtain ⟨ρ,hR⟩:=hg.ranked;refine absurd ⟨s,hs⟩ (no_cyc (ρ:=ρ) fun s t he => ?_);obtain ⟨r,hr,hl,hu⟩:=mem_tgts.1 he;obtain ⟨x,hx1,hx2,rfl⟩:=unit_some hu;have:=hR.dec r hr x hx1 hx2;rwa [hl] at this
    · exact h
theorem VCode.uniq {g:List Rule} {c d:Int} (h:VCode g c) (k:VCode g d):c = d:=by
  by_cases hg:Good g
  · rw [h.good.2 hg,k.good.2 hg]
  · rcases h with ⟨h1,rfl⟩ | ⟨h1,h2,rfl⟩ | ⟨h1,h2,h3,rfl⟩ | ⟨h,_⟩
    · rcases k with ⟨_,rfl⟩ | ⟨k1,_⟩ | ⟨k1,_⟩ | ⟨k,_⟩
      · rfl
      · omega
      · omega
      · exact absurd k hg
    · rcases k with ⟨k1,_⟩ | ⟨_,_,rfl⟩ | ⟨_,k2,_⟩ | ⟨k,_⟩
      · omega
      · rfl
      · exact absurd k2 h2
      · exact absurd k hg
    · rcases k with ⟨k1,_⟩ | ⟨_,k2,_⟩ | ⟨_,_,_,rfl⟩ | ⟨k,_⟩
      · omega
      · exact absurd h2 k2
      · rfl
      · exact absurd k hg
    · exact absurd h hg
def KCode (g:List Rule) (n:Nat) (c:Int):Prop:=∃ v,VCode g v ∧ c = if v ≠ 0 then v else if 40 < n then 5 else 0
theorem KCode.uniq {g:List Rule} {n:Nat} {c d:Int} (h:KCode g n c) (k:KCode g n d):c = d:=by
  obtain ⟨v,h1,rfl⟩:=h;obtain ⟨u,k1,rfl⟩:=k;rw [h1.uniq k1]
theorem KCode.good {g:List Rule} {n:Nat} {c:Int} (h:KCode g n c):c = 0 ↔ Good g ∧ n ≤ 40:=by
  obtain ⟨v,h1,rfl⟩:=h;by_cases hv:v = 0
  · subst hv;rw [if_neg (by simp)];have:=h1.good.1 rfl;by_cases hn:40 < n
    · rw [if_pos hn];simp;omega
    · rw [if_neg hn];simp;exact ⟨this,by omega⟩
  · rw [if_pos hv];exact ⟨fun h => absurd h hv,fun h => absurd (h1.good.2 h.1) hv⟩
end Gr
namespace Go.Proofs.Ytdbfiflmeiidjaa
open Go Go.RowKit
def ValidPost (g:List Gr.Rule) (w:World) (e:Ending) (w':World):Prop:=Below w.heap.size w w' ∧ ∃ c:Int,e = .returned (.int .i64 c) ∧ Gr.VCode g c
set_option maxHeartbeats 1000000 in
theorem Valid_any (g:List Gr.Rule) (A:Option Addr) (n cp:Nat) (w:World) (hl:g.length = n) (hn:n ≤ 4611686018427387904) (hg:Kt.Rules w w.heap.size A g) :
    Calls Try.prog 32 #[.slice A n cp] w (ValidPost g w):=by
  have HL:=Lib.hid hl;clear hl;by_cases hlong:200 < n
  · have HV:Hid (Gr.VCode g 5):=Lib.hid (.inl ⟨by have:=HL.out;omega,rfl⟩);go_enter Try.func32,Try.ntmps32;go_wp2;go_ret;exact ⟨Below.refl _ _,5,rfl,HV.out⟩
  · go_enter Try.func32,Try.ntmps32;go_wp2_with fail;go_loopw [11] (fun i wr => ∃ k:Nat,k ≤ n ∧ i = .int .i64 k ∧ Hid (∀ r,r < k → Gr.ruleE (Gr.rul g r) = 0) ∧ Below w.heap.size w wr) (fun i _ => n - (intOf i).toNat)
    case atStart => exact ⟨0,Nat.zero_le _,rfl,Lib.hid (fun r hr => by omega),Below.refl _ _⟩
    case round =>
      obtain ⟨k,hk,rfl,hz,hbel⟩:=hrel;have hgs:=hbel.size;by_cases hlt:k < n
      · obtain ⟨b,o,rfl,hb,hc⟩:=(hg.below hbel) (by have:=HL.out;omega);obtain ⟨c1,A',c',c2,hlr,hit⟩:=hc k (by have:=HL.out;omega);obtain ⟨ru,hru⟩:∃ ru,Hid (Gr.rul g k = ru):=⟨_,Lib.hid rfl⟩;obtain ⟨s,l⟩:=ru;rw [hru.out] at c1 c2 hlr hit;obtain ⟨m,hm⟩:∃ m,Hid (l.length = m):=⟨_,Lib.hid rfl⟩;replace c2:wr.cell? ⟨b,o + k * 2 + 1,none⟩ = some (.slice A' l.length c'):=c2;replace hit:Kt.Items wr w.heap.size A' l:=hit;replace hlr:l.length ≤ 4611686018427387904:=hlr;rw [hm.out] at c2 hlr;replace c1:wr.cell? ⟨b,o + k * 2,none⟩ = some (.int .i64 s):=c1;have hbel2:Below w.heap.size w (wr.alloc (.cells #[.int .i64 s,.slice A' m c'] 29)):=hbel.alloc hgs _;have HC:=Lib.hid (checked_any s A' m c' l (wr.alloc (.cells #[.int .i64 s,.slice A' m c'] 29)) hm.out hlr ((hit.more hgs).alloc (Nat.le_refl _) _ |>.more (by simp)));clear hc hit;go_wp2_with fail;refine HC.out.mono ?_;rintro e w1 ⟨rfl,hb1⟩;have hb2:Below w.heap.size w w1:=hbel2.trans (hb1.mono (by simp;omega));have HE:Hid (Gr.ruleE (Gr.rul g k) = Gr.ruleE ⟨s,l⟩):=Lib.hid (by rw [hru.out]);clear HC hb1 hbel2 hbel;generalize Gr.ruleE ⟨s,l⟩ = ec at HE ⊢;by_cases he:ec = 0
        · subst he;have HN:Hid (∀ r,r < k + 1 → Gr.ruleE (Gr.rul g r) = 0):=Lib.hid (fun r hr => by
            by_cases e:r = k
            · rw [e];exact HE.out
            · exact hz.out r (by omega))
          go_wp2;go_roundw
          case rel => exact ⟨k + 1,by omega,by go_num,HN,hb2⟩
          case measure => simp [intOf];omega
        · have heb:(ec != 0) = true:=by simp [he]
          have HV:Hid (Gr.VCode g ec):=Lib.hid (.inr (.inl (by
            have h1:=Gr.firstE_at g k (by have:=HL.out;omega) hz.out (by rw [HE.out];exact he);rw [HE.out] at h1;exact ⟨by have:=HL.out;omega,by rw [h1];exact he,h1.symm⟩)))
          clear he;go_wp2;go_ret;exact ⟨hb2,ec,rfl,HV.out⟩
      · obtain rfl:k = n:=by omega
        rename World => wo
        have HO:Hid (∀ r,r < g.length → Gr.RuleOk (Gr.rul g r)):=Lib.hid (fun r hr => hz.out r (by have:=HL.out;omega));have HC:=Lib.hid (cyclic_any g A k cp wo HL.out (by omega) ((hg.below hbel).more hgs) HO.out);have HF:Hid (Gr.firstE g = 0):=Lib.hid (Gr.firstE_zero g HO.out);clear hz;go_wp2_with fail;refine HC.out.mono ?_;rintro e w1 ⟨hb1,b,rfl,hT,hFa⟩;have hb2:Below w.heap.size w w1:=hbel.trans (hb1.mono hgs);cases b
        · obtain ⟨ρ,hle,hρ⟩:=hFa rfl;have HV:Hid (Gr.VCode g 0):=Lib.hid (.inr (.inr (.inr ⟨⟨by have:=HL.out;omega,HO.out,ρ,Gr.ranked_of hle hρ⟩,Gr.no_cyc hρ,HF.out,rfl⟩)));clear hT hFa hρ hle;go_wp2;go_ret;exact ⟨hb2,0,rfl,HV.out⟩
        · have HV:Hid (Gr.VCode g 92):=Lib.hid (.inr (.inr (.inl ⟨by have:=HL.out;omega,HF.out,hT rfl,rfl⟩)));clear hT hFa;go_wp2;go_ret;exact ⟨hb2,92,rfl,HV.out⟩
def CheckedPost (g:List Gr.Rule) (nt:Nat) (w:World) (e:Ending) (w':World):Prop:=Below w.heap.size w w' ∧ ∃ c:Int,e = .returned (.int .i64 c) ∧ Gr.KCode g nt c
theorem checked2_any (g:List Gr.Rule) (A:Option Addr) (n cp:Nat) (B:Option Addr) (nt ct:Nat) (w:World) (hl:g.length = n) (hn:n ≤ 4611686018427387904) (hnt:nt ≤ 4611686018427387904) (hg:Kt.Rules w w.heap.size A g) :
    Calls Try.prog 19 #[.slice A n cp,.slice B nt ct] w (CheckedPost g nt w):=by
  have HC:=Lib.hid (Valid_any g A n cp w hl hn hg);clear hl hg;go_enter Try.func19,Try.ntmps19;go_wp2_with fail;refine HC.out.mono ?_;rintro e w1 ⟨hb,v,rfl,hv⟩;have HV:=Lib.hid hv;clear hv HC;by_cases he:v = 0
  · subst he;by_cases h40:40 < nt
    · have HK:Hid (Gr.KCode g nt 5):=Lib.hid ⟨0,HV.out,by rw [if_neg (by simp),if_pos h40]⟩;go_wp2;go_ret;exact ⟨hb,5,rfl,HK.out⟩
    · have HK:Hid (Gr.KCode g nt 0):=Lib.hid ⟨0,HV.out,by rw [if_neg (by simp),if_neg h40]⟩;go_wp2;go_ret;exact ⟨hb,0,rfl,HK.out⟩
  · have heb:(v != 0) = true:=by simp [he]
    have HK:Hid (Gr.KCode g nt v):=Lib.hid ⟨v,HV.out,by rw [if_pos he]⟩;clear he;go_wp2;go_ret;exact ⟨hb,v,rfl,HK.out⟩
end Go.Proofs.Ytdbfiflmeiidjaa
end
