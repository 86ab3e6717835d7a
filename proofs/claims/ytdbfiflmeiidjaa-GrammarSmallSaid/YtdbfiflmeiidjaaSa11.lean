/- Joined: GrW. -/
import Derived.Test.YtdbfiflmeiidjaaSa10
import Derived.Test.YtdbfiflmeiidjaaSa02
section
/- symbol and rest: in how many ways symbols and endings derive. -/
namespace Go.Proofs.Ytdbfiflmeiidjaa
open Go Go.RowKit
structure ChG (X:ChX) (ρ:Int → Nat):Prop where
  R:Gr.Ranked X.g ρ
  len:X.g.length ≤ 200
  ok:∀ r,r < X.g.length → Gr.RuleOk (Gr.rul X.g r)
  tkl:X.tk.length ≤ 40
  fit:Gr.Fit X.g X.tk.length
def SPost (X:ChX) (N:Nat) (M:Nat → Prop) (W:World) (x:Nat) (e:Ending) (W':World):Prop :=
  Ch0 X W W' ∧ Memo X N M W' ∧ ∃ v,e = .returned v ∧ Kt.NumM W' (up X M) v x
def SymOk (X:ChX) (N s i j:Nat):Prop:=∀ (M:Nat → Prop) (W:World),Cht X W → Memo X N M W → (∀ k,M k → k < W.heap.size) →
  Calls Try.prog 21 #[.pointer (some ⟨X.bc,0,none⟩),.int .i64 (s:Int),.int .i64 (i:Int),.int .i64 (j:Int)] W (SPost X N M W (Gr.cnt X.g (hitf X.tk) N (s:Int) i j))
def RestOk (X:ChX) (N n:Nat) (l:List Gr.Item) (i j:Nat):Prop:=∀ (M:Nat → Prop) (W:World),Cht X W → Memo X N M W → (∀ k,M k → k < W.heap.size) →
  Calls Try.prog 40 #[.pointer (some ⟨X.bc,0,none⟩),.int .i64 (n:Int),.int .i64 (i:Int),.int .i64 (j:Int)] W (SPost X N M W (Gr.ways X.g (hitf X.tk) N l i j))
theorem zeroLimbs (w:World):(zeroValue 33).run Try.prog w = .ok (.slice none 0 0) w:=by kernel_rfl
variable {X:ChX} {ρ:Int → Nat} {N:Nat}
theorem up_lt {M:Nat → Prop} {W:World} (hM:Memo X N M W) (hlt:∀ k,M k → k < W.heap.size):∀ k,up X M k → k < W.heap.size:=by
  obtain ⟨es1,c1,e1,_⟩:=hM.s1.ex;obtain ⟨es2,c2,e2,_⟩:=hM.s2.ex;have l1:X.b1 < W.heap.size:=(Array.getElem?_eq_some_iff.1 e1).1;have l2:X.b2 < W.heap.size:=(Array.getElem?_eq_some_iff.1 e2).1;rintro k (h | h | h)
  · exact hlt k h
  · omega
  · omega
theorem look_mem {W:World} {b:Nat} {G:Nat → Nat → Nat → Value → Prop} (h:MemE X W b G) (s i j:Nat) (hs:s ≤ 100000) (hi:i ≤ 100000) (hj:j ≤ 100000) :
    (∃ lit,keyOf Try.prog 106 (spanVal s i j) = some lit) ∧
    ((Instr.lookup 99 (.map (some b)) (spanVal s i j) true).run Try.prog W = .ok (.tuple #[.slice none 0 0,.bool false]) W ∨
     ∃ v,G s i j v ∧ (Instr.lookup 99 (.map (some b)) (spanVal s i j) true).run Try.prog W = .ok (.tuple #[v,.bool true]) W):=by
  obtain ⟨es,c,hmap,hes⟩:=h.ex;obtain ⟨lit,hlit⟩:=key_span (s:Int) (i:Int) (j:Int) (wf64 _ (by omega) (by omega)) (wf64 _ (by omega) (by omega)) (wf64 _ (by omega) (by omega));refine ⟨⟨lit,hlit⟩,?_⟩;have hkeys:∀ e ∈ es.toList,∃ l,keyOf Try.prog 106 e.key = some l:=fun e he => by
    obtain ⟨_,_,_,_,h9,_⟩:=hes e he;exact h9
  rcases Kt.run_look_key (w:=W) lawSpan Try.underlying99 hmap hkeys hlit (zeroLimbs _) with h0 | ⟨e,he,hek,h0⟩
  · exact .inl h0
  · obtain ⟨s',i',j',a1,_,a3⟩:=hes e he;obtain ⟨rfl,rfl,rfl⟩:=spanVal_inj (hek.symm.trans a1);exact .inr ⟨e.val,a3,h0⟩
theorem put_mem {W:World} {b:Nat} {G:Nat → Nat → Nat → Value → Prop} (h:MemE X W b G) (s i j:Nat) (v:Value) (hG:G s i j v) (hs:s ≤ 100000) (hi:i ≤ 100000) (hj:j ≤ 100000) :
    ∃ es' c',(Instr.mapUpdate 99 (.map (some b)) (spanVal s i j) v).run Try.prog W = .ok () (W.putObj b (.map es' c')) ∧
      ∀ e ∈ es'.toList,∃ s i j,e.key = spanVal s i j ∧ (∃ lit,keyOf Try.prog 106 e.key = some lit) ∧ G s i j e.val:=by
  obtain ⟨es,c,hmap,hes⟩:=h.ex;obtain ⟨lit,hlit⟩:=key_span (s:Int) (i:Int) (j:Int) (wf64 _ (by omega) (by omega)) (wf64 _ (by omega) (by omega)) (wf64 _ (by omega) (by omega));have hkeys:∀ e ∈ es.toList,∃ l,keyOf Try.prog 106 e.key = some l:=fun e he => by
    obtain ⟨_,_,_,_,h9,_⟩:=hes e he;exact h9
  obtain ⟨es',c',h1,h2⟩:=Kt.run_put_key (w:=W) (v:=v) lawSpan Try.underlying99 hmap hkeys hlit;refine ⟨es',c',h1,fun e he => ?_⟩;rcases h2 e he with h3 | ⟨h3,h4⟩
  · exact hes e h3
  · exact ⟨s,i,j,h3,by rw [h3];exact ⟨lit,hlit⟩,by rw [h4];exact hG⟩
theorem Ch.drew {b1 b2:Nat} {M:Nat → Prop} {W W':World} (h:Kt.Ch b1 b2 M W W'):Kt.Ch b1 b2 M W W'.drew:=⟨⟨h.ext.os,h.ext.tape,h.ext.output,h.ext.size⟩,h.same⟩
theorem ch0_put (W:World) (b:Nat) (o:Obj) (hb:b = X.b1 ∨ b = X.b2):Ch0 X W (W.putObj b o) :=
  ⟨⟨rfl,rfl,rfl,by simp⟩,fun k _ _ h1 h2 => World.putObj_heap_other (fun e => by rcases hb with h | h;exact h1 (e.trans h);exact h2 (e.trans h))⟩
theorem Memo.drew {M:Nat → Prop} {W:World} (h:Memo X N M W):Memo X N M W.drew:=h.keep (Nat.le_refl _) (fun _ _ _ => rfl)
def sylSlot:Nat → Nat:=fun j => match j with | 0 => 19 | 1 => 20 | 2 => 21 | 3 => 22 | 4 => 23 | 5 => 24 | 6 => 18 | 7 => 25 | 8 => 26 | 9 => 10 | 10 => 11 | _ => 999
def sylS:List Nat:=[10,11,18,19,20,21,22,23,24,25,26]
def sylP (a0:Act) (W:World) (bc mb:Nat) (ky vv:Value) (bb:Bool) (Fin:Act → World → Prop):Kt.RqP :=
  ⟨11,11,sylSlot,sylS,fun j => match j with | 0 => some (.pointer (some ⟨bc,0,none⟩)) | 1 => some (.pointer (some ⟨bc,0,none⟩)) | 2 => some (.pointer (some ⟨bc,67,none⟩)) | 3 => some (.map (some mb)) | 4 => some (ky) | 5 => some (.tuple #[vv,.bool bb]) | 6 => some (.tuple #[vv,.bool bb]) | 7 => some (vv) | 8 => some (.bool bb) | 9 => some (vv) | 10 => some (.bool bb) | _ => none,a0,W,Fin⟩
theorem syl_ok {a0:Act} {W:World} {bc mb:Nat} {ky vv:Value} {bb:Bool} {Fin:Act → World → Prop} {listed:Array Bool} {act:Act} {w:World} (_:Kt.RqI (sylP a0 W bc mb ky vv bb Fin) listed act w) (h:27 ≤ a0.tmps.size):Kt.RqOk (sylP a0 W bc mb ky vv bb Fin) :=
  ⟨fun i j hi hj him hjm => (by decide:∀ i,i < 11 → ∀ j,j < 11 → i ≠ 11 → j ≠ 11 → sylSlot i = sylSlot j → i = j) i hi j hj him hjm,(by decide:∀ j,j < 11 → j ≠ 11 → sylSlot j ∈ sylS),fun j hj hjm => Nat.lt_of_lt_of_le ((by decide:∀ j,j < 11 → j ≠ 11 → sylSlot j < 27) j hj hjm) h,rfl⟩
def syuSlot:Nat → Nat:=fun j => match j with | 0 => 57 | 1 => 58 | 2 => 59 | 3 => 60 | 4 => 61 | 5 => 62 | _ => 999
def syuS:List Nat:=[57,58,59,60,61,62]
def syuP (a0:Act) (W:World) (bc mb:Nat) (ky vv:Value) (Fin:Act → World → Prop):Kt.RqP :=
  ⟨7,6,syuSlot,syuS,fun j => match j with | 0 => some (.pointer (some ⟨bc,0,none⟩)) | 1 => some (.pointer (some ⟨bc,0,none⟩)) | 2 => some (.pointer (some ⟨bc,67,none⟩)) | 3 => some (.map (some mb)) | 4 => some (ky) | 5 => some (vv) | _ => none,a0,W,Fin⟩
theorem syu_ok {a0:Act} {W:World} {bc mb:Nat} {ky vv:Value} {Fin:Act → World → Prop} {listed:Array Bool} {act:Act} {w:World} (_:Kt.RqI (syuP a0 W bc mb ky vv Fin) listed act w) (h:63 ≤ a0.tmps.size):Kt.RqOk (syuP a0 W bc mb ky vv Fin) :=
  ⟨fun i j hi hj him hjm => (by decide:∀ i,i < 7 → ∀ j,j < 7 → i ≠ 6 → j ≠ 6 → syuSlot i = syuSlot j → i = j) i hi j hj him hjm,(by decide:∀ j,j < 7 → j ≠ 6 → syuSlot j ∈ syuS),fun j hj hjm => Nat.lt_of_lt_of_le ((by decide:∀ j,j < 7 → j ≠ 6 → syuSlot j < 63) j hj hjm) h,rfl⟩
set_option maxRecDepth 100000 in
set_option maxHeartbeats 2000000 in
theorem symbol_step (hX:ChG X ρ) (s i j:Nat) (hs:s < 64) (hij:i ≤ j) (hj:j ≤ X.tk.length) (hN:j - i ≤ N)
    (IH:∀ r,r ∈ Gr.rulesOf X.g (s:Int) → RestOk X N (X.nb r) (Gr.rul X.g r).right i j):SymOk X N s i j:=by
  intro M W hC hM hlt;have HX:=Lib.hid hX;have HIH:=Lib.hid IH;have hj30:j ≤ 40:=by have:=hX.tkl;omega
  clear hX IH;have h67:=hC.c67;go_enter Try.func21,Try.ntmps21;go_upto_region 2 with fail;obtain ⟨W1,hW1⟩:∃ W1,W.alloc (.cells #[.int .i64 (s:Int),.int .i64 (i:Int),.int .i64 (j:Int)] 106) = W1:=⟨_,rfl⟩;have hB1:Below W.heap.size W W1:=by rw [← hW1];exact (Below.refl _ _).alloc (Nat.le_refl _) _
  have hsb:Kt.Blk W1 W.heap.size 106 #[.int .i64 (s:Int),.int .i64 (i:Int),.int .i64 (j:Int)]:=by rw [← hW1];exact Kt.Blk.new _ _ _
  have hch1:Ch0 X W W1:=Ch0.of_below hB1;have hC1:=hC.on hch1;have hM1:=hM.below hB1;have hlt1:∀ k,M k → k < W1.heap.size:=fun k hk => Nat.lt_of_lt_of_le (hlt k hk) hB1.size
  have h67:=hC1.c67;have k0:W1.cell? ⟨W.heap.size,0,none⟩ = some (.int .i64 (s:Int)):=hsb.cell 0;have k1:W1.cell? ⟨W.heap.size,1,none⟩ = some (.int .i64 (i:Int)):=hsb.cell 1;have k2:W1.cell? ⟨W.heap.size,2,none⟩ = some (.int .i64 (j:Int)):=hsb.cell 2;rw [hW1];have hnew:∀ b,b = W.heap.size → b ≠ X.b1 ∧ b ≠ X.b2:=by
    obtain ⟨es1,c1,e1,_⟩:=hM.s1.ex;obtain ⟨es2,c2,e2,_⟩:=hM.s2.ex;have l1:X.b1 < W.heap.size:=(Array.getElem?_eq_some_iff.1 e1).1;have l2:X.b2 < W.heap.size:=(Array.getElem?_eq_some_iff.1 e2).1;intro b hb;omega
  have hne1:=fun b hb => (hnew b hb).1
  have hne2:=fun b hb => (hnew b hb).2
  clear hC hM hlt hW1 hnew;obtain ⟨⟨lit,hlit⟩,hlook⟩:=look_mem (W:=W1.drew) (X:=X) (b:=X.b1) (G:=fun s i j v => Kt.NumM W1 (up X M) v (Gr.cnt X.g (hitf X.tk) N (s:Int) i j)) ⟨hM1.s1.ex⟩ s i j (by omega) (by omega) (by omega);rcases hlook with hlook | ⟨v,hv,hlook⟩
  · have hL:=hC1.rows s hs;obtain ⟨A,c,r1,r2⟩:=hL;obtain ⟨L,hLL⟩:∃ L,Hid ((Gr.rulesOf X.g (s:Int)).length = L):=⟨_,Lib.hid rfl⟩;rw [hLL.out] at r1;unfold spanVal at hlook;have HM1:=Lib.hid hM1;have hL200:L ≤ 200:=by
      have h1:(Gr.rulesOf X.g (s:Int)).length ≤ X.g.length:=Nat.le_trans (List.length_filter_le _ _) (by simp);have h2:=hLL.out;have h3:=HX.out.len;omega
    refine Kt.region_inv (Kt.RqI (sylP _ W1 X.bc X.b1 (.agg #[.int .i64 (s:Int),.int .i64 (i:Int),.int .i64 (j:Int)]) (.slice none 0 0) false (fun _ _ => True))) (by kernel_rfl) ?hg Kt.RqI.start ?hstep ?hdone
    case hg =>
      intro q o ho;rcases q with _ | _ | _ | _ | _ | _ | _ | _ | _ | _ | _ | q
      all_goals first | (cases Option.some.inj ho;rfl) | (exfalso;simp at ho)
    case hstep =>
      intro listed act w2 q o hI ho hn hpre;have ok:=syl_ok hI (Nat.le_of_ble_eq_true rfl);rcases q with _ | _ | _ | _ | _ | _ | _ | _ | _ | _ | _ | q
      · cases Option.some.inj ho;refine Kt.op_move rfl ?_;rw [show act.eval (.tmp 0) = .pointer (some ⟨X.bc,0,none⟩) from hI.frame.val_out (s:=0) (show 0 ∉ sylS by decide)];exact hI.pure_step ok (Nat.le_of_ble_eq_true rfl) hn rfl rfl
      · cases Option.some.inj ho;have e0:act.tmps[19]?.getD undef = .pointer (some ⟨X.bc,0,none⟩):=(Kt.val_get act 19).symm.trans (hI.pure 0 _ (Nat.le_of_ble_eq_true rfl) rfl (hpre ⟨0,.data⟩ (by simp) rfl));have hk:=hI.pure_step ok (Nat.le_of_ble_eq_true rfl) hn (j:=1) (s:=20) (v:=.pointer (some ⟨X.bc,0,none⟩)) rfl rfl;obtain rfl:w2 = W1.drew:=hI.at (j:=1) (Nat.le_of_ble_eq_true rfl) hn;refine Kt.op_opq hk ?_;clear hk;intro KK hkk;unfold Oper.wp;go_simp;exact hkk
      · cases Option.some.inj ho;have e1:act.tmps[20]?.getD undef = .pointer (some ⟨X.bc,0,none⟩):=(Kt.val_get act 20).symm.trans (hI.pure 1 _ (Nat.le_of_ble_eq_true rfl) rfl (hpre ⟨1,.data⟩ (by simp) rfl));have hk:=hI.pure_step ok (Nat.le_of_ble_eq_true rfl) hn (j:=2) (s:=21) (v:=.pointer (some ⟨X.bc,67,none⟩)) rfl rfl;obtain rfl:w2 = W1.drew:=hI.at (j:=2) (Nat.le_of_ble_eq_true rfl) hn;refine Kt.op_opq hk ?_;clear hk;intro KK hkk;unfold Oper.wp;go_simp;exact hkk
      · cases Option.some.inj ho;have e2:act.tmps[21]?.getD undef = .pointer (some ⟨X.bc,67,none⟩):=(Kt.val_get act 21).symm.trans (hI.pure 2 _ (Nat.le_of_ble_eq_true rfl) rfl (hpre ⟨2,.data⟩ (by simp) rfl));have hk:=hI.pure_step ok (Nat.le_of_ble_eq_true rfl) hn (j:=3) (s:=22) (v:=.map (some X.b1)) rfl rfl;obtain rfl:w2 = W1.drew:=hI.at (j:=3) (Nat.le_of_ble_eq_true rfl) hn;refine Kt.op_opq hk ?_;clear hk;intro KK hkk;unfold Oper.wp;go_simp;exact hkk
      · cases Option.some.inj ho;have f9:act.tmps[9]?.getD undef = .pointer (some ⟨W.heap.size,0,none⟩):=(Kt.val_get act 9).symm.trans (hI.frame.val_out (s:=9) (show 9 ∉ sylS by decide));have hk:=hI.pure_step ok (Nat.le_of_ble_eq_true rfl) hn (j:=4) (s:=23) (v:=(.agg #[.int .i64 (s:Int),.int .i64 (i:Int),.int .i64 (j:Int)])) rfl rfl;obtain rfl:w2 = W1.drew:=hI.at (j:=4) (Nat.le_of_ble_eq_true rfl) hn;refine Kt.op_opq hk ?_;clear hk;intro KK hkk;unfold Oper.wp;go_simp;exact hkk
      · cases Option.some.inj ho;have e3:act.tmps[22]?.getD undef = .map (some X.b1):=(Kt.val_get act 22).symm.trans (hI.pure 3 _ (Nat.le_of_ble_eq_true rfl) rfl (hpre ⟨3,.data⟩ (by simp) rfl));have e4:act.tmps[23]?.getD undef = (.agg #[.int .i64 (s:Int),.int .i64 (i:Int),.int .i64 (j:Int)]):=(Kt.val_get act 23).symm.trans (hI.pure 4 _ (Nat.le_of_ble_eq_true rfl) rfl (hpre ⟨4,.data⟩ (by simp) rfl));have hk:=hI.pure_step ok (Nat.le_of_ble_eq_true rfl) hn (j:=5) (s:=24) (v:=.tuple #[(.slice none 0 0),.bool false]) rfl rfl;obtain rfl:w2 = W1.drew:=hI.at (j:=5) (Nat.le_of_ble_eq_true rfl) hn;refine Kt.op_opq hk ?_;clear hk;intro KK hkk;unfold Oper.wp;go_simp;exact hkk
      · cases Option.some.inj ho;have e5:act.tmps[24]?.getD undef = .tuple #[(.slice none 0 0),.bool false]:=(Kt.val_get act 24).symm.trans (hI.pure 5 _ (Nat.le_of_ble_eq_true rfl) rfl (hpre ⟨5,.data⟩ (by simp) rfl));have hk:=hI.pure_step ok (Nat.le_of_ble_eq_true rfl) hn (j:=6) (s:=18) (v:=.tuple #[(.slice none 0 0),.bool false]) rfl rfl;obtain rfl:w2 = W1.drew:=hI.at (j:=6) (Nat.le_of_ble_eq_true rfl) hn;refine Kt.op_opq hk ?_;clear hk;intro KK hkk;unfold Oper.wp;go_simp;exact hkk
      · cases Option.some.inj ho;have e6:act.tmps[18]?.getD undef = .tuple #[(.slice none 0 0),.bool false]:=(Kt.val_get act 18).symm.trans (hI.pure 6 _ (Nat.le_of_ble_eq_true rfl) rfl (hpre ⟨6,.data⟩ (by simp) rfl));have hk:=hI.pure_step ok (Nat.le_of_ble_eq_true rfl) hn (j:=7) (s:=25) (v:=(.slice none 0 0)) rfl rfl;obtain rfl:w2 = W1.drew:=hI.at (j:=7) (Nat.le_of_ble_eq_true rfl) hn;refine Kt.op_opq hk ?_;clear hk;intro KK hkk;unfold Oper.wp;go_simp;exact hkk
      · cases Option.some.inj ho;have e6:act.tmps[18]?.getD undef = .tuple #[(.slice none 0 0),.bool false]:=(Kt.val_get act 18).symm.trans (hI.pure 6 _ (Nat.le_of_ble_eq_true rfl) rfl (hpre ⟨6,.data⟩ (by simp) rfl));have hk:=hI.pure_step ok (Nat.le_of_ble_eq_true rfl) hn (j:=8) (s:=26) (v:=.bool false) rfl rfl;obtain rfl:w2 = W1.drew:=hI.at (j:=8) (Nat.le_of_ble_eq_true rfl) hn;refine Kt.op_opq hk ?_;clear hk;intro KK hkk;unfold Oper.wp;go_simp;exact hkk
      · cases Option.some.inj ho;have e7:act.tmps[25]?.getD undef = (.slice none 0 0):=(Kt.val_get act 25).symm.trans (hI.pure 7 _ (Nat.le_of_ble_eq_true rfl) rfl (hpre ⟨7,.data⟩ (by simp) rfl));have hk:=hI.pure_step ok (Nat.le_of_ble_eq_true rfl) hn (j:=9) (s:=10) (v:=(.slice none 0 0)) rfl rfl;obtain rfl:w2 = W1.drew:=hI.at (j:=9) (Nat.le_of_ble_eq_true rfl) hn;refine Kt.op_opq hk ?_;clear hk;intro KK hkk;unfold Oper.wp;go_simp;exact hkk
      · cases Option.some.inj ho;have e8:act.tmps[26]?.getD undef = .bool false:=(Kt.val_get act 26).symm.trans (hI.pure 8 _ (Nat.le_of_ble_eq_true rfl) rfl (hpre ⟨8,.data⟩ (by simp) rfl));have hk:=hI.pure_step ok (Nat.le_of_ble_eq_true rfl) hn (j:=10) (s:=11) (v:=.bool false) rfl rfl;obtain rfl:w2 = W1.drew:=hI.at (j:=10) (Nat.le_of_ble_eq_true rfl) hn;refine Kt.op_opq hk ?_;clear hk;intro KK hkk;unfold Oper.wp;go_simp;exact hkk
      · exfalso;simp at ho
    case hdone =>
      intro listed act w2 hI hr;have hup:=Kt.all_up (fun q o ho => by
        rcases q with _ | _ | _ | _ | _ | _ | _ | _ | _ | _ | _ | q
        all_goals first | (cases Option.some.inj ho;decide) | (exfalso;simp at ho)) hI.size hr
      have hv10:Kt.val act 10 = .slice none 0 0:=hI.pure 9 _ (Nat.le_of_ble_eq_true rfl) rfl (hup 9 (by decide));have hv11:Kt.val act 11 = .bool false:=hI.pure 10 _ (Nat.le_of_ble_eq_true rfl) rfl (hup 10 (by decide));obtain rfl:w2 = W1.drew:=hI.world (Kt.listed_out hI.size);rw [hI.frame.out];simp only [sylP,sylS,Kt.sets];generalize Kt.val act 10 = v10 at hv10 ⊢;generalize Kt.val act 11 = v11 at hv11 ⊢;generalize Kt.val act 18 = v18;generalize Kt.val act 19 = v19;generalize Kt.val act 20 = v20;generalize Kt.val act 21 = v21;generalize Kt.val act 22 = v22;generalize Kt.val act 23 = v23;generalize Kt.val act 24 = v24;generalize Kt.val act 25 = v25;generalize Kt.val act 26 = v26;simp only [List.setIfInBounds_toArray,List.set_cons_zero,List.set_cons_succ];subst hv10 hv11;clear hI hr hup;have hs64:1 + s < 69:=by omega
      go_wp2_with fail;go_loopw [10,36] (fun s10 s36 wr => ∃ q:Nat,q ≤ L ∧ s36 = .int .i64 (q:Int) ∧ Hid (Kt.NumM wr (up X M) s10 (Gr.byRules X.g (hitf X.tk) N (s:Int) i j q) ∧ Memo X N M wr ∧ Ch0 X W1 wr)) (fun _ s36 _ => L - (intOf s36).toNat)
      case atStart => exact ⟨0,Nat.zero_le _,rfl,Lib.hid ⟨Kt.NumM.zero _ _,HM1.out.drew,Ch.drew (Kt.Ch.refl W1)⟩⟩
      case round =>
        obtain ⟨q,hq,rfl,hst⟩:=hrel;obtain ⟨hnum,hmem,hch⟩:=hst.out;have hCr:=hC1.on hch;have hltr:∀ k,M k → k < wr.heap.size:=fun k hk => Nat.lt_of_lt_of_le (hlt1 k hk) hch.ext.size
        by_cases hlq:q < L
        · obtain ⟨b,off,rfl,hkb,hcell⟩:=r2 (by rw [List.length_map,hLL.out];omega);obtain ⟨r,hr⟩:∃ r,Hid ((Gr.rulesOf X.g (s:Int)).getD q 0 = r):=⟨_,Lib.hid rfl⟩;have hrm:r ∈ Gr.rulesOf X.g (s:Int):=by
            rw [← hr.out,List.getD_eq_getElem?_getD,List.getElem?_eq_getElem (by rw [hLL.out];exact hlq)];exact List.getElem_mem _
          have hrg:=(Gr.mem_rulesOf.1 hrm).1;have cq:wr.cell? ⟨b,off + q,none⟩ = some (.int .i64 (r:Int)):=by
            have h1:=hcell q (by rw [List.length_map,hLL.out];exact hlq);have h2:Ls.nth ((Gr.rulesOf X.g (s:Int)).map Int.ofNat) q = (r:Int):=by
              unfold Ls.nth;rw [List.getD_eq_getElem?_getD,List.getElem?_map,List.getElem?_eq_getElem (by rw [hLL.out];exact hlq),← hr.out,List.getD_eq_getElem?_getD,List.getElem?_eq_getElem (by rw [hLL.out];exact hlq)];rfl
            rw [h2] at h1;exact (World.cell?_of_block (a:=⟨b,off + q,none⟩) (hch.same b (hC1.lt b hkb) (fun e => e) (hC1.ne1 b hkb) (hC1.ne2 b hkb))).trans h1
          obtain ⟨A2,c2,zs,g1,g2,g3,g4⟩:=hCr.c65;obtain ⟨b2,off2,rfl,hkb2,hcell2⟩:=g3 (by omega);have cr:=hcell2 r (by omega);rw [g4 r hrg] at cr;obtain ⟨G,hG⟩:∃ G,Hid (X.g.length = G):=⟨_,Lib.hid rfl⟩;have hG2:r < G ∧ G ≤ 200:=by have:=hG.out;have:=HX.out.len;omega
          obtain ⟨hrG,hG200⟩:=hG2;rw [hG.out] at g1;have HR:=Lib.hid (HIH.out r hrm M wr hCr hmem hltr);have HNUM:=Lib.hid hnum;clear hnum hmem hcell hcell2 g2 g3 g4 hrm hrg;go_wp2_with fail;refine HR.out.mono ?_;rintro e w3 ⟨hch3,hmem3,vr,rfl,hvr⟩;have hr2:=hr.out;have hcnt:=NumM.ch0 HNUM.out hch3;have hsum:=Gr.byRules_succ X.g (hitf X.tk) N (s:Int) i j q (by rw [hLL.out];exact hlq);rw [hr2] at hsum;have hle:=fun k => Gr.byRules_le HX.out.R (hitf X.tk) N (s:Int) i j k hN
          have hbig:∀ x,x ≤ Gr.cnt X.g (hitf X.tk) N (s:Int) i j → (Nt.limbs x).length ≤ 1024:=fun x hx => Gr.limbs_fit fun K hK => Nat.lt_of_le_of_lt hx (Gr.cnt_fit HX.out.R (by have:=HX.out.len;omega) _ N (s:Int) i j HX.out.fit (by omega) hN hK)
          have hq1:=hle (q + 1);have HADD:=Lib.hid (add_num hcnt.num hvr.num (hbig _ (hle q)) (hbig _ (by omega)));have HFIT:=Lib.hid (hbig _ hq1);have HS:=Lib.hid hsum;have HC3:=Lib.hid (Kt.Ch.trans hch hch3 (fun _ e => .inl e));have HM3:=Lib.hid hmem3;have hup3:=Lib.hid (up_lt hmem3 (fun k hk => Nat.lt_of_lt_of_le (hltr k hk) hch3.ext.size));clear hsum hq1 hle hbig hcnt hch3 hmem3 HNUM HR hr2;go_wp2_with fail;refine HADD.out.mono ?_;rintro e w4 ⟨hgot,hb4⟩;rcases hgot with ⟨_,v4,rfl,hv4⟩ | ⟨hlong,_⟩
          · have HN4:Hid (Kt.NumM w4 (up X M) v4 (Gr.byRules X.g (hitf X.tk) N (s:Int) i j (q + 1)) ∧ Memo X N M w4 ∧ Ch0 X W1 w4):=Lib.hid ⟨by rw [HS.out];exact Kt.NumM.of_num hv4 hup3.out,HM3.out.below hb4,Kt.Ch.trans HC3.out (Ch0.of_below hb4) (fun _ e => .inl e)⟩;clear hv4 hb4;go_wp2_with fail;go_roundw
            case rel => exact ⟨q + 1,by omega,by go_num,HN4⟩
            case measure => simp [intOf];omega
          · exfalso;have:=HFIT.out;rw [HS.out] at this;omega
        · obtain rfl:q = L:=by omega
          have hall:Kt.NumM wr (up X M) u10 (Gr.cnt X.g (hitf X.tk) N (s:Int) i j):=by
            have h1:=Gr.byRules_all HX.out.R (hitf X.tk) N (s:Int) i j hN;rw [hLL.out] at h1;rw [← h1];exact hnum
          obtain ⟨es',c',hput,hes'⟩:=put_mem (W:=wr.drew) (X:=X) (b:=X.b1) (G:=fun s i j v => Kt.NumM wr (up X M) v (Gr.cnt X.g (hitf X.tk) N (s:Int) i j)) ⟨hmem.s1.ex⟩ s i j u10 hall (by omega) (by omega) (by omega);have HM9:Hid (Memo X N M (wr.drew.putObj X.b1 (.map es' c'))):=Lib.hid ((Memo.drew hmem).put1 hC1.b12 hes');have hc9:Ch0 X wr (wr.drew.putObj X.b1 (.map es' c')):=Kt.Ch.trans (Ch.drew (Kt.Ch.refl wr)) (ch0_put wr.drew X.b1 _ (.inl rfl)) (fun _ e => .inl e);have HC9:Hid (Ch0 X W (wr.drew.putObj X.b1 (.map es' c'))):=Lib.hid (Kt.Ch.trans (Kt.Ch.trans hch1 hch (fun _ e => .inl e)) hc9 (fun _ e => .inl e));have HN9:Hid (Kt.NumM (wr.drew.putObj X.b1 (.map es' c')) (up X M) u10 (Gr.cnt X.g (hitf X.tk) N (s:Int) i j)):=Lib.hid (NumM.ch0 hall hc9);have h67r:=hCr.c67;have kk:∀ o v,W1.cell? ⟨W.heap.size,o,none⟩ = some v → wr.cell? ⟨W.heap.size,o,none⟩ = some v:=fun o v h => (World.cell?_of_block (a:=⟨W.heap.size,o,none⟩) (hch.same W.heap.size hsb.lt (fun e => e) (hne1 W.heap.size rfl) (hne2 W.heap.size rfl))).trans h
          have k0r:=kk 0 _ k0;have k1r:=kk 1 _ k1;have k2r:=kk 2 _ k2;clear hnum hmem hall hes' hc9 kk hltr hCr;unfold spanVal at hput;go_upto_region 10 with fail;refine Kt.region_inv (Kt.RqI (syuP _ wr X.bc X.b1 (.agg #[.int .i64 (s:Int),.int .i64 (i:Int),.int .i64 (j:Int)]) u10 (fun _ wx => wx = wr.drew.putObj X.b1 (.map es' c')))) (by kernel_rfl) ?hg2 Kt.RqI.start ?hstep2 ?hdone2
          case hg2 =>
            intro q o ho;rcases q with _ | _ | _ | _ | _ | _ | _ | q
            all_goals first | (cases Option.some.inj ho;rfl) | (exfalso;simp at ho)
          case hstep2 =>
            intro listed act w2 q o hI ho hn hpre;have ok:=syu_ok hI (Nat.le_of_ble_eq_true rfl);rcases q with _ | _ | _ | _ | _ | _ | _ | q
            · cases Option.some.inj ho;refine Kt.op_move rfl ?_;rw [show act.eval (.tmp 0) = .pointer (some ⟨X.bc,0,none⟩) from hI.frame.val_out (s:=0) (show 0 ∉ syuS by decide)];exact hI.pure_step ok (Nat.le_of_ble_eq_true rfl) hn rfl rfl
            · cases Option.some.inj ho;have e0:act.tmps[57]?.getD undef = .pointer (some ⟨X.bc,0,none⟩):=(Kt.val_get act 57).symm.trans (hI.pure 0 _ (Nat.le_of_ble_eq_true rfl) rfl (hpre ⟨0,.data⟩ (by simp) rfl));have hk:=hI.pure_step ok (Nat.le_of_ble_eq_true rfl) hn (j:=1) (s:=58) (v:=.pointer (some ⟨X.bc,0,none⟩)) rfl rfl;obtain rfl:w2 = wr.drew:=hI.at (j:=1) (Nat.le_of_ble_eq_true rfl) hn;refine Kt.op_opq hk ?_;clear hk;intro KK hkk;unfold Oper.wp;go_simp;exact hkk
            · cases Option.some.inj ho;have e1:act.tmps[58]?.getD undef = .pointer (some ⟨X.bc,0,none⟩):=(Kt.val_get act 58).symm.trans (hI.pure 1 _ (Nat.le_of_ble_eq_true rfl) rfl (hpre ⟨1,.data⟩ (by simp) rfl));have hk:=hI.pure_step ok (Nat.le_of_ble_eq_true rfl) hn (j:=2) (s:=59) (v:=.pointer (some ⟨X.bc,67,none⟩)) rfl rfl;obtain rfl:w2 = wr.drew:=hI.at (j:=2) (Nat.le_of_ble_eq_true rfl) hn;refine Kt.op_opq hk ?_;clear hk;intro KK hkk;unfold Oper.wp;go_simp;exact hkk
            · cases Option.some.inj ho;have e2:act.tmps[59]?.getD undef = .pointer (some ⟨X.bc,67,none⟩):=(Kt.val_get act 59).symm.trans (hI.pure 2 _ (Nat.le_of_ble_eq_true rfl) rfl (hpre ⟨2,.data⟩ (by simp) rfl));have hk:=hI.pure_step ok (Nat.le_of_ble_eq_true rfl) hn (j:=3) (s:=60) (v:=.map (some X.b1)) rfl rfl;obtain rfl:w2 = wr.drew:=hI.at (j:=3) (Nat.le_of_ble_eq_true rfl) hn;refine Kt.op_opq hk ?_;clear hk;intro KK hkk;unfold Oper.wp;go_simp;exact hkk
            · cases Option.some.inj ho;have f9:act.tmps[9]?.getD undef = .pointer (some ⟨W.heap.size,0,none⟩):=(Kt.val_get act 9).symm.trans (hI.frame.val_out (s:=9) (show 9 ∉ syuS by decide));have hk:=hI.pure_step ok (Nat.le_of_ble_eq_true rfl) hn (j:=4) (s:=61) (v:=(.agg #[.int .i64 (s:Int),.int .i64 (i:Int),.int .i64 (j:Int)])) rfl rfl;obtain rfl:w2 = wr.drew:=hI.at (j:=4) (Nat.le_of_ble_eq_true rfl) hn;refine Kt.op_opq hk ?_;clear hk;intro KK hkk;unfold Oper.wp;go_simp;exact hkk
            · cases Option.some.inj ho;refine Kt.op_move rfl ?_;rw [show act.eval (.tmp 10) = u10 from hI.frame.val_out (s:=10) (show 10 ∉ syuS by decide)];exact hI.pure_step ok (Nat.le_of_ble_eq_true rfl) hn rfl rfl
            · cases Option.some.inj ho;have hall:∀ i,i < 7 → i ≠ 6 → listed.getD i false = true:=fun i hi him => by rcases i with _ | _ | _ | _ | _ | _ | _ | i;exact hpre ⟨0,.phase⟩ (by simp) rfl;exact hpre ⟨1,.phase⟩ (by simp) rfl;exact hpre ⟨2,.phase⟩ (by simp) rfl;exact hpre ⟨3,.phase⟩ (by simp) rfl;exact hpre ⟨4,.phase⟩ (by simp) rfl;exact hpre ⟨5,.phase⟩ (by simp) rfl;exact absurd rfl him;omega
              have e3:act.tmps[60]?.getD undef = .map (some X.b1):=(Kt.val_get act 60).symm.trans (hI.pure 3 _ (Nat.le_of_ble_eq_true rfl) rfl (hall 3 (by decide) (by decide)));have e4:act.tmps[61]?.getD undef = (.agg #[.int .i64 (s:Int),.int .i64 (i:Int),.int .i64 (j:Int)]):=(Kt.val_get act 61).symm.trans (hI.pure 4 _ (Nat.le_of_ble_eq_true rfl) rfl (hall 4 (by decide) (by decide)));have e5:act.tmps[62]?.getD undef = u10:=(Kt.val_get act 62).symm.trans (hI.pure 5 _ (Nat.le_of_ble_eq_true rfl) rfl (hall 5 (by decide) (by decide)));have hk:=hI.last_step ok (j:=6) (w':=wr.drew.putObj X.b1 (.map es' c')) rfl (Nat.le_of_ble_eq_true rfl) hall rfl;obtain rfl:w2 = wr.drew:=hI.at (j:=6) (Nat.le_of_ble_eq_true rfl) hn;refine Kt.op_opq0 hk ?_;clear hk;intro KK hkk;unfold Oper.wp;go_simp;exact hkk
            · exfalso;simp at ho
          case hdone2 =>
            intro listed act w2 hI hr;have hup:=Kt.all_up (fun q o ho => by
              rcases q with _ | _ | _ | _ | _ | _ | _ | q
              all_goals first | (cases Option.some.inj ho;decide) | (exfalso;simp at ho)) hI.size hr
            obtain rfl:w2 = wr.drew.putObj X.b1 (.map es' c'):=(hI.last (hup 6 (by decide))).1;rw [hI.frame.out];simp only [syuP,syuS,Kt.sets];generalize Kt.val act 57 = v57;generalize Kt.val act 58 = v58;generalize Kt.val act 59 = v59;generalize Kt.val act 60 = v60;generalize Kt.val act 61 = v61;generalize Kt.val act 62 = v62;simp only [List.setIfInBounds_toArray,List.set_cons_zero,List.set_cons_succ];clear hI hr hup;go_wp2_with fail;go_ret;exact ⟨HC9.out,HM9.out,_,rfl,HN9.out⟩
  · have HV:=Lib.hid hv;have HM1:=Lib.hid hM1;unfold spanVal at hlook;clear hv hC1;refine Kt.region_inv (Kt.RqI (sylP _ W1 X.bc X.b1 (.agg #[.int .i64 (s:Int),.int .i64 (i:Int),.int .i64 (j:Int)]) v true (fun _ _ => True))) (by kernel_rfl) ?hg Kt.RqI.start ?hstep ?hdone
    case hg =>
      intro q o ho;rcases q with _ | _ | _ | _ | _ | _ | _ | _ | _ | _ | _ | q
      all_goals first | (cases Option.some.inj ho;rfl) | (exfalso;simp at ho)
    case hstep =>
      intro listed act w2 q o hI ho hn hpre;have ok:=syl_ok hI (Nat.le_of_ble_eq_true rfl);rcases q with _ | _ | _ | _ | _ | _ | _ | _ | _ | _ | _ | q
      · cases Option.some.inj ho;refine Kt.op_move rfl ?_;rw [show act.eval (.tmp 0) = .pointer (some ⟨X.bc,0,none⟩) from hI.frame.val_out (s:=0) (show 0 ∉ sylS by decide)];exact hI.pure_step ok (Nat.le_of_ble_eq_true rfl) hn rfl rfl
      · cases Option.some.inj ho;have e0:act.tmps[19]?.getD undef = .pointer (some ⟨X.bc,0,none⟩):=(Kt.val_get act 19).symm.trans (hI.pure 0 _ (Nat.le_of_ble_eq_true rfl) rfl (hpre ⟨0,.data⟩ (by simp) rfl));have hk:=hI.pure_step ok (Nat.le_of_ble_eq_true rfl) hn (j:=1) (s:=20) (v:=.pointer (some ⟨X.bc,0,none⟩)) rfl rfl;obtain rfl:w2 = W1.drew:=hI.at (j:=1) (Nat.le_of_ble_eq_true rfl) hn;refine Kt.op_opq hk ?_;clear hk;intro KK hkk;unfold Oper.wp;go_simp;exact hkk
      · cases Option.some.inj ho;have e1:act.tmps[20]?.getD undef = .pointer (some ⟨X.bc,0,none⟩):=(Kt.val_get act 20).symm.trans (hI.pure 1 _ (Nat.le_of_ble_eq_true rfl) rfl (hpre ⟨1,.data⟩ (by simp) rfl));have hk:=hI.pure_step ok (Nat.le_of_ble_eq_true rfl) hn (j:=2) (s:=21) (v:=.pointer (some ⟨X.bc,67,none⟩)) rfl rfl;obtain rfl:w2 = W1.drew:=hI.at (j:=2) (Nat.le_of_ble_eq_true rfl) hn;refine Kt.op_opq hk ?_;clear hk;intro KK hkk;unfold Oper.wp;go_simp;exact hkk
      · cases Option.some.inj ho;have e2:act.tmps[21]?.getD undef = .pointer (some ⟨X.bc,67,none⟩):=(Kt.val_get act 21).symm.trans (hI.pure 2 _ (Nat.le_of_ble_eq_true rfl) rfl (hpre ⟨2,.data⟩ (by simp) rfl));have hk:=hI.pure_step ok (Nat.le_of_ble_eq_true rfl) hn (j:=3) (s:=22) (v:=.map (some X.b1)) rfl rfl;obtain rfl:w2 = W1.drew:=hI.at (j:=3) (Nat.le_of_ble_eq_true rfl) hn;refine Kt.op_opq hk ?_;clear hk;intro KK hkk;unfold Oper.wp;go_simp;exact hkk
      · cases Option.some.inj ho;have f9:act.tmps[9]?.getD undef = .pointer (some ⟨W.heap.size,0,none⟩):=(Kt.val_get act 9).symm.trans (hI.frame.val_out (s:=9) (show 9 ∉ sylS by decide));have hk:=hI.pure_step ok (Nat.le_of_ble_eq_true rfl) hn (j:=4) (s:=23) (v:=(.agg #[.int .i64 (s:Int),.int .i64 (i:Int),.int .i64 (j:Int)])) rfl rfl;obtain rfl:w2 = W1.drew:=hI.at (j:=4) (Nat.le_of_ble_eq_true rfl) hn;refine Kt.op_opq hk ?_;clear hk;intro KK hkk;unfold Oper.wp;go_simp;exact hkk
      · cases Option.some.inj ho;have e3:act.tmps[22]?.getD undef = .map (some X.b1):=(Kt.val_get act 22).symm.trans (hI.pure 3 _ (Nat.le_of_ble_eq_true rfl) rfl (hpre ⟨3,.data⟩ (by simp) rfl));have e4:act.tmps[23]?.getD undef = (.agg #[.int .i64 (s:Int),.int .i64 (i:Int),.int .i64 (j:Int)]):=(Kt.val_get act 23).symm.trans (hI.pure 4 _ (Nat.le_of_ble_eq_true rfl) rfl (hpre ⟨4,.data⟩ (by simp) rfl));have hk:=hI.pure_step ok (Nat.le_of_ble_eq_true rfl) hn (j:=5) (s:=24) (v:=.tuple #[v,.bool true]) rfl rfl;obtain rfl:w2 = W1.drew:=hI.at (j:=5) (Nat.le_of_ble_eq_true rfl) hn;refine Kt.op_opq hk ?_;clear hk;intro KK hkk;unfold Oper.wp;go_simp;exact hkk
      · cases Option.some.inj ho;have e5:act.tmps[24]?.getD undef = .tuple #[v,.bool true]:=(Kt.val_get act 24).symm.trans (hI.pure 5 _ (Nat.le_of_ble_eq_true rfl) rfl (hpre ⟨5,.data⟩ (by simp) rfl));have hk:=hI.pure_step ok (Nat.le_of_ble_eq_true rfl) hn (j:=6) (s:=18) (v:=.tuple #[v,.bool true]) rfl rfl;obtain rfl:w2 = W1.drew:=hI.at (j:=6) (Nat.le_of_ble_eq_true rfl) hn;refine Kt.op_opq hk ?_;clear hk;intro KK hkk;unfold Oper.wp;go_simp;exact hkk
      · cases Option.some.inj ho;have e6:act.tmps[18]?.getD undef = .tuple #[v,.bool true]:=(Kt.val_get act 18).symm.trans (hI.pure 6 _ (Nat.le_of_ble_eq_true rfl) rfl (hpre ⟨6,.data⟩ (by simp) rfl));have hk:=hI.pure_step ok (Nat.le_of_ble_eq_true rfl) hn (j:=7) (s:=25) (v:=v) rfl rfl;obtain rfl:w2 = W1.drew:=hI.at (j:=7) (Nat.le_of_ble_eq_true rfl) hn;refine Kt.op_opq hk ?_;clear hk;intro KK hkk;unfold Oper.wp;go_simp;exact hkk
      · cases Option.some.inj ho;have e6:act.tmps[18]?.getD undef = .tuple #[v,.bool true]:=(Kt.val_get act 18).symm.trans (hI.pure 6 _ (Nat.le_of_ble_eq_true rfl) rfl (hpre ⟨6,.data⟩ (by simp) rfl));have hk:=hI.pure_step ok (Nat.le_of_ble_eq_true rfl) hn (j:=8) (s:=26) (v:=.bool true) rfl rfl;obtain rfl:w2 = W1.drew:=hI.at (j:=8) (Nat.le_of_ble_eq_true rfl) hn;refine Kt.op_opq hk ?_;clear hk;intro KK hkk;unfold Oper.wp;go_simp;exact hkk
      · cases Option.some.inj ho;have e7:act.tmps[25]?.getD undef = v:=(Kt.val_get act 25).symm.trans (hI.pure 7 _ (Nat.le_of_ble_eq_true rfl) rfl (hpre ⟨7,.data⟩ (by simp) rfl));have hk:=hI.pure_step ok (Nat.le_of_ble_eq_true rfl) hn (j:=9) (s:=10) (v:=v) rfl rfl;obtain rfl:w2 = W1.drew:=hI.at (j:=9) (Nat.le_of_ble_eq_true rfl) hn;refine Kt.op_opq hk ?_;clear hk;intro KK hkk;unfold Oper.wp;go_simp;exact hkk
      · cases Option.some.inj ho;have e8:act.tmps[26]?.getD undef = .bool true:=(Kt.val_get act 26).symm.trans (hI.pure 8 _ (Nat.le_of_ble_eq_true rfl) rfl (hpre ⟨8,.data⟩ (by simp) rfl));have hk:=hI.pure_step ok (Nat.le_of_ble_eq_true rfl) hn (j:=10) (s:=11) (v:=.bool true) rfl rfl;obtain rfl:w2 = W1.drew:=hI.at (j:=10) (Nat.le_of_ble_eq_true rfl) hn;refine Kt.op_opq hk ?_;clear hk;intro KK hkk;unfold Oper.wp;go_simp;exact hkk
      · exfalso;simp at ho
    case hdone =>
      intro listed act w2 hI hr;have hup:=Kt.all_up (fun q o ho => by
        rcases q with _ | _ | _ | _ | _ | _ | _ | _ | _ | _ | _ | q
        all_goals first | (cases Option.some.inj ho;decide) | (exfalso;simp at ho)) hI.size hr
      have hv10:Kt.val act 10 = v:=hI.pure 9 _ (Nat.le_of_ble_eq_true rfl) rfl (hup 9 (by decide));have hv11:Kt.val act 11 = .bool true:=hI.pure 10 _ (Nat.le_of_ble_eq_true rfl) rfl (hup 10 (by decide));obtain rfl:w2 = W1.drew:=hI.world (Kt.listed_out hI.size);rw [hI.frame.out];simp only [sylP,sylS,Kt.sets];generalize Kt.val act 10 = v10 at hv10 ⊢;generalize Kt.val act 11 = v11 at hv11 ⊢;generalize Kt.val act 18 = v18;generalize Kt.val act 19 = v19;generalize Kt.val act 20 = v20;generalize Kt.val act 21 = v21;generalize Kt.val act 22 = v22;generalize Kt.val act 23 = v23;generalize Kt.val act 24 = v24;generalize Kt.val act 25 = v25;generalize Kt.val act 26 = v26;simp only [List.setIfInBounds_toArray,List.set_cons_zero,List.set_cons_succ];subst hv10 hv11;clear hI hr hup;go_wp2;go_ret;exact ⟨Ch.drew hch1,HM1.out.drew,_,rfl,HV.out⟩
end Go.Proofs.Ytdbfiflmeiidjaa
end
