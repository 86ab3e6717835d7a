/- Joined: GrY, GrZ. -/
import Derived.Test.YtdbfiflmeiidjaaSa12
section
/- rest, where an ending begins with a symbol and has more than one item. -/
namespace Gr
theorem Ends.uniq {E:List End} {n:Nat} {l l':List Item} (h:Ends E n l) (h':Ends E n l'):l = l':=by
  induction h generalizing l' with
  | nil =>
    cases h' with
    | nil => rfl
    | cons h1 _ _ _ => omega
  | cons h1 h2 h3 h4 ih =>
    cases h' with
    | nil => omega
    | cons k1 k2 k3 k4 =>
      rw [h3] at k3;injection k3 with e1 e2 _;subst e1 e2;rw [ih k4]
end Gr
namespace Go.Proofs.Ytdbfiflmeiidjaa
open Go Go.RowKit
variable {X:ChX} {ρ:Int → Nat} {N:Nat}
def relSlot:Nat → Nat:=fun j => match j with | 0 => 79 | 1 => 80 | 2 => 81 | 3 => 82 | 4 => 83 | 5 => 84 | 6 => 78 | 7 => 85 | 8 => 86 | 9 => 11 | 10 => 12 | _ => 999
def relS:List Nat:=[11,12,78,79,80,81,82,83,84,85,86]
def relP (a0:Act) (W:World) (bc mb:Nat) (ky vv:Value) (bb:Bool) (Fin:Act → World → Prop):Kt.RqP :=
  ⟨11,11,relSlot,relS,fun j => match j with | 0 => some (.pointer (some ⟨bc,0,none⟩)) | 1 => some (.pointer (some ⟨bc,0,none⟩)) | 2 => some (.pointer (some ⟨bc,68,none⟩)) | 3 => some (.map (some mb)) | 4 => some (ky) | 5 => some (.tuple #[vv,.bool bb]) | 6 => some (.tuple #[vv,.bool bb]) | 7 => some (vv) | 8 => some (.bool bb) | 9 => some (vv) | 10 => some (.bool bb) | _ => none,a0,W,Fin⟩
theorem rel_ok {a0:Act} {W:World} {bc mb:Nat} {ky vv:Value} {bb:Bool} {Fin:Act → World → Prop} {listed:Array Bool} {act:Act} {w:World} (_:Kt.RqI (relP a0 W bc mb ky vv bb Fin) listed act w) (h:87 ≤ a0.tmps.size):Kt.RqOk (relP a0 W bc mb ky vv bb Fin) :=
  ⟨fun i j hi hj him hjm => (by decide:∀ i,i < 11 → ∀ j,j < 11 → i ≠ 11 → j ≠ 11 → relSlot i = relSlot j → i = j) i hi j hj him hjm,(by decide:∀ j,j < 11 → j ≠ 11 → relSlot j ∈ relS),fun j hj hjm => Nat.lt_of_lt_of_le ((by decide:∀ j,j < 11 → j ≠ 11 → relSlot j < 87) j hj hjm) h,rfl⟩
def reuSlot:Nat → Nat:=fun j => match j with | 0 => 127 | 1 => 128 | 2 => 129 | 3 => 130 | 4 => 131 | 5 => 132 | _ => 999
def reuS:List Nat:=[127,128,129,130,131,132]
def reuP (a0:Act) (W:World) (bc mb:Nat) (ky vv:Value) (Fin:Act → World → Prop):Kt.RqP :=
  ⟨7,6,reuSlot,reuS,fun j => match j with | 0 => some (.pointer (some ⟨bc,0,none⟩)) | 1 => some (.pointer (some ⟨bc,0,none⟩)) | 2 => some (.pointer (some ⟨bc,68,none⟩)) | 3 => some (.map (some mb)) | 4 => some (ky) | 5 => some (vv) | _ => none,a0,W,Fin⟩
theorem reu_ok {a0:Act} {W:World} {bc mb:Nat} {ky vv:Value} {Fin:Act → World → Prop} {listed:Array Bool} {act:Act} {w:World} (_:Kt.RqI (reuP a0 W bc mb ky vv Fin) listed act w) (h:133 ≤ a0.tmps.size):Kt.RqOk (reuP a0 W bc mb ky vv Fin) :=
  ⟨fun i j hi hj him hjm => (by decide:∀ i,i < 7 → ∀ j,j < 7 → i ≠ 6 → j ≠ 6 → reuSlot i = reuSlot j → i = j) i hi j hj him hjm,(by decide:∀ j,j < 7 → j ≠ 6 → reuSlot j ∈ reuS),fun j hj hjm => Nat.lt_of_lt_of_le ((by decide:∀ j,j < 7 → j ≠ 6 → reuSlot j < 133) j hj hjm) h,rfl⟩
set_option maxRecDepth 100000 in
set_option maxHeartbeats 2000000 in
theorem rest_many (hX:ChG X ρ) (n i j m K:Nat) (cx sx:Int) (hn:n < X.E.length) (hen:Gr.en X.E n = ⟨⟨cx,sx⟩,m,K⟩) (hij:i ≤ j) (hj:j ≤ X.tk.length) (l:List Gr.Item) (hl:l.length + 1 = K) (hK:2 ≤ K ∧ K ≤ 8) (hs:i + K ≤ j) (hcx:cx = 0) (sn:Nat) (hsn:sx = (sn:Int)) (hN:j - i ≤ N) (hE:Gr.Ends X.E n (⟨cx,sx⟩ :: l)) (hn5:n ≤ 100000)
    (IH1:∀ q,i < q → q < j → RestOk X N m l q j) (IH2:∀ q,i < q → q < j → SymOk X N sn i q):RestOk X N n (⟨cx,sx⟩ :: l) i j:=by
  have HIH1:=Lib.hid IH1;have HIH2:=Lib.hid IH2;have hl2:=Lib.hid hl;have hE2:=Lib.hid hE;subst hcx hsn;clear IH1 IH2 hl hE;intro M W hC hM hlt;have hK':=Lib.hid hK;clear hK;have HX:=Lib.hid hX;have hj30:j ≤ 40:=by have:=hX.tkl;omega
  obtain ⟨ge,cc,d0,hkg,dc⟩:=hC.c66;obtain ⟨d1,d2,d3,d4⟩:=dc n hn;rw [hen] at d1 d2 d3 d4;replace d1:W.cell? ⟨ge,n * 4,none⟩ = some (.int .u16 0):=d1;replace d2:W.cell? ⟨ge,n * 4 + 1,none⟩ = some (.int .i64 (sn:Int)):=d2;replace d3:W.cell? ⟨ge,n * 4 + 2,none⟩ = some (.int .i64 (m:Int)):=d3;replace d4:W.cell? ⟨ge,n * 4 + 3,none⟩ = some (.int .i64 (K:Int)):=d4;obtain ⟨EL,hEL⟩:∃ EL,Hid (X.E.length = EL):=⟨_,Lib.hid rfl⟩;rw [hEL.out] at d0 hn;clear hX dc hen;go_enter Try.func40,Try.ntmps40;go_upto_region 2 with fail;obtain ⟨W1,hW1⟩:∃ W1,W.alloc (.cells #[.int .u16 0,.int .i64 (sn:Int),.int .i64 (m:Int),.int .i64 (K:Int)] 97) = W1:=⟨_,rfl⟩;have hB1:Below W.heap.size W W1:=by rw [← hW1];exact (Below.refl _ _).alloc (Nat.le_refl _) _
  have hsb:Kt.Blk W1 W.heap.size 97 #[.int .u16 0,.int .i64 (sn:Int),.int .i64 (m:Int),.int .i64 (K:Int)]:=by rw [← hW1];exact Kt.Blk.new _ _ _
  have hch1:Ch0 X W W1:=Ch0.of_below hB1;have hC1:=hC.on hch1;have hM1:=hM.below hB1;have hlt1:∀ k,M k → k < W1.heap.size:=fun k hk => Nat.lt_of_lt_of_le (hlt k hk) hB1.size
  have hnew:=new_ne hM;have e0:W1.cell? ⟨W.heap.size,0,none⟩ = some (.int .u16 0):=hsb.cell 0;have e1:W1.cell? ⟨W.heap.size,1,none⟩ = some (.int .i64 (sn:Int)):=hsb.cell 1;have e2:W1.cell? ⟨W.heap.size,2,none⟩ = some (.int .i64 (m:Int)):=hsb.cell 2;have e3:W1.cell? ⟨W.heap.size,3,none⟩ = some (.int .i64 (K:Int)):=hsb.cell 3;rw [hW1];clear hC hM hlt hW1 d0 d1 d2 d3 d4 hkg;have hK:=hK'.out;obtain ⟨hK1,hK2⟩:=hK;have hKb0:((K:Int) == 0) = false:=by simp;omega
  have hKb1:((K:Int) == 1) = false:=by simp;omega
  have hjk:decide ((j:Int) - i < K) = false:=by simp;omega
  go_upto_region 15 with fail;obtain ⟨W2,hW2⟩:∃ W2,W1.alloc (.cells #[.int .i64 (n:Int),.int .i64 (i:Int),.int .i64 (j:Int)] 106) = W2:=⟨_,rfl⟩;have hB2:Below W1.heap.size W1 W2:=by rw [← hW2];exact (Below.refl _ _).alloc (Nat.le_refl _) _
  have hkb:Kt.Blk W2 W1.heap.size 106 #[.int .i64 (n:Int),.int .i64 (i:Int),.int .i64 (j:Int)]:=by rw [← hW2];exact Kt.Blk.new _ _ _
  have hsb2:=hsb.on hB2;have hch2:Ch0 X W W2:=Kt.Ch.trans hch1 (Ch0.of_below hB2) (fun _ e => .inl e);have hC2:=hC1.on (Ch0.of_below hB2);have hM2:=hM1.below hB2;have hlt2:∀ k,M k → k < W2.heap.size:=fun k hk => Nat.lt_of_lt_of_le (hlt1 k hk) hB2.size
  have k0:W2.cell? ⟨W1.heap.size,0,none⟩ = some (.int .i64 (n:Int)):=hkb.cell 0;have k1:W2.cell? ⟨W1.heap.size,1,none⟩ = some (.int .i64 (i:Int)):=hkb.cell 1;have k2:W2.cell? ⟨W1.heap.size,2,none⟩ = some (.int .i64 (j:Int)):=hkb.cell 2;have h68:=hC2.c68;have hw1s:W.heap.size < W1.heap.size:=hsb.lt;rw [hW2];obtain ⟨_,hlook⟩:=look_mem (W:=W2.drew) (X:=X) (b:=X.b2) (G:=fun n i j v => ∃ l,Gr.Ends X.E n l ∧ Kt.NumM W2 (up X M) v (Gr.ways X.g (hitf X.tk) N l i j)) ⟨hM2.s2.ex⟩ n i j (by omega) (by omega) (by omega);have HM2:=Lib.hid hM2;clear hM1 hC1 hlt1 hW2 hsb e0 e1 e2 e3;rcases hlook with hlook | ⟨v,hv,hlook⟩
  · unfold spanVal at hlook;refine Kt.region_inv (Kt.RqI (relP _ W2 X.bc X.b2 (.agg #[.int .i64 (n:Int),.int .i64 (i:Int),.int .i64 (j:Int)]) (.slice none 0 0) false (fun _ _ => True))) (by kernel_rfl) ?hg Kt.RqI.start ?hstep ?hdone
    case hg =>
      intro q o ho;rcases q with _ | _ | _ | _ | _ | _ | _ | _ | _ | _ | _ | q
      all_goals first | (cases Option.some.inj ho;rfl) | (exfalso;simp at ho)
    case hstep =>
      intro listed act w2 q o hI ho hn hpre;have ok:=rel_ok hI (Nat.le_of_ble_eq_true rfl);rcases q with _ | _ | _ | _ | _ | _ | _ | _ | _ | _ | _ | q
      · cases Option.some.inj ho;refine Kt.op_move rfl ?_;rw [show act.eval (.tmp 0) = .pointer (some ⟨X.bc,0,none⟩) from hI.frame.val_out (s:=0) (show 0 ∉ relS by decide)];exact hI.pure_step ok (Nat.le_of_ble_eq_true rfl) hn rfl rfl
      · cases Option.some.inj ho;have e0:act.tmps[79]?.getD undef = .pointer (some ⟨X.bc,0,none⟩):=(Kt.val_get act 79).symm.trans (hI.pure 0 _ (Nat.le_of_ble_eq_true rfl) rfl (hpre ⟨0,.data⟩ (by simp) rfl));have hk:=hI.pure_step ok (Nat.le_of_ble_eq_true rfl) hn (j:=1) (s:=80) (v:=.pointer (some ⟨X.bc,0,none⟩)) rfl rfl;obtain rfl:w2 = W2.drew:=hI.at (j:=1) (Nat.le_of_ble_eq_true rfl) hn;refine Kt.op_opq hk ?_;clear hk;intro KK hkk;unfold Oper.wp;go_simp;exact hkk
      · cases Option.some.inj ho;have e1:act.tmps[80]?.getD undef = .pointer (some ⟨X.bc,0,none⟩):=(Kt.val_get act 80).symm.trans (hI.pure 1 _ (Nat.le_of_ble_eq_true rfl) rfl (hpre ⟨1,.data⟩ (by simp) rfl));have hk:=hI.pure_step ok (Nat.le_of_ble_eq_true rfl) hn (j:=2) (s:=81) (v:=.pointer (some ⟨X.bc,68,none⟩)) rfl rfl;obtain rfl:w2 = W2.drew:=hI.at (j:=2) (Nat.le_of_ble_eq_true rfl) hn;refine Kt.op_opq hk ?_;clear hk;intro KK hkk;unfold Oper.wp;go_simp;exact hkk
      · cases Option.some.inj ho;have e2:act.tmps[81]?.getD undef = .pointer (some ⟨X.bc,68,none⟩):=(Kt.val_get act 81).symm.trans (hI.pure 2 _ (Nat.le_of_ble_eq_true rfl) rfl (hpre ⟨2,.data⟩ (by simp) rfl));have hk:=hI.pure_step ok (Nat.le_of_ble_eq_true rfl) hn (j:=3) (s:=82) (v:=.map (some X.b2)) rfl rfl;obtain rfl:w2 = W2.drew:=hI.at (j:=3) (Nat.le_of_ble_eq_true rfl) hn;refine Kt.op_opq hk ?_;clear hk;intro KK hkk;unfold Oper.wp;go_simp;exact hkk
      · cases Option.some.inj ho;have f10:act.tmps[10]?.getD undef = .pointer (some ⟨W1.heap.size,0,none⟩):=(Kt.val_get act 10).symm.trans (hI.frame.val_out (s:=10) (show 10 ∉ relS by decide));have hk:=hI.pure_step ok (Nat.le_of_ble_eq_true rfl) hn (j:=4) (s:=83) (v:=(.agg #[.int .i64 (n:Int),.int .i64 (i:Int),.int .i64 (j:Int)])) rfl rfl;obtain rfl:w2 = W2.drew:=hI.at (j:=4) (Nat.le_of_ble_eq_true rfl) hn;refine Kt.op_opq hk ?_;clear hk;intro KK hkk;unfold Oper.wp;go_simp;exact hkk
      · cases Option.some.inj ho;have e3:act.tmps[82]?.getD undef = .map (some X.b2):=(Kt.val_get act 82).symm.trans (hI.pure 3 _ (Nat.le_of_ble_eq_true rfl) rfl (hpre ⟨3,.data⟩ (by simp) rfl));have e4:act.tmps[83]?.getD undef = (.agg #[.int .i64 (n:Int),.int .i64 (i:Int),.int .i64 (j:Int)]):=(Kt.val_get act 83).symm.trans (hI.pure 4 _ (Nat.le_of_ble_eq_true rfl) rfl (hpre ⟨4,.data⟩ (by simp) rfl));have hk:=hI.pure_step ok (Nat.le_of_ble_eq_true rfl) hn (j:=5) (s:=84) (v:=.tuple #[(.slice none 0 0),.bool false]) rfl rfl;obtain rfl:w2 = W2.drew:=hI.at (j:=5) (Nat.le_of_ble_eq_true rfl) hn;refine Kt.op_opq hk ?_;clear hk;intro KK hkk;unfold Oper.wp;go_simp;exact hkk
      · cases Option.some.inj ho;have e5:act.tmps[84]?.getD undef = .tuple #[(.slice none 0 0),.bool false]:=(Kt.val_get act 84).symm.trans (hI.pure 5 _ (Nat.le_of_ble_eq_true rfl) rfl (hpre ⟨5,.data⟩ (by simp) rfl));have hk:=hI.pure_step ok (Nat.le_of_ble_eq_true rfl) hn (j:=6) (s:=78) (v:=.tuple #[(.slice none 0 0),.bool false]) rfl rfl;obtain rfl:w2 = W2.drew:=hI.at (j:=6) (Nat.le_of_ble_eq_true rfl) hn;refine Kt.op_opq hk ?_;clear hk;intro KK hkk;unfold Oper.wp;go_simp;exact hkk
      · cases Option.some.inj ho;have e6:act.tmps[78]?.getD undef = .tuple #[(.slice none 0 0),.bool false]:=(Kt.val_get act 78).symm.trans (hI.pure 6 _ (Nat.le_of_ble_eq_true rfl) rfl (hpre ⟨6,.data⟩ (by simp) rfl));have hk:=hI.pure_step ok (Nat.le_of_ble_eq_true rfl) hn (j:=7) (s:=85) (v:=(.slice none 0 0)) rfl rfl;obtain rfl:w2 = W2.drew:=hI.at (j:=7) (Nat.le_of_ble_eq_true rfl) hn;refine Kt.op_opq hk ?_;clear hk;intro KK hkk;unfold Oper.wp;go_simp;exact hkk
      · cases Option.some.inj ho;have e6:act.tmps[78]?.getD undef = .tuple #[(.slice none 0 0),.bool false]:=(Kt.val_get act 78).symm.trans (hI.pure 6 _ (Nat.le_of_ble_eq_true rfl) rfl (hpre ⟨6,.data⟩ (by simp) rfl));have hk:=hI.pure_step ok (Nat.le_of_ble_eq_true rfl) hn (j:=8) (s:=86) (v:=.bool false) rfl rfl;obtain rfl:w2 = W2.drew:=hI.at (j:=8) (Nat.le_of_ble_eq_true rfl) hn;refine Kt.op_opq hk ?_;clear hk;intro KK hkk;unfold Oper.wp;go_simp;exact hkk
      · cases Option.some.inj ho;have e7:act.tmps[85]?.getD undef = (.slice none 0 0):=(Kt.val_get act 85).symm.trans (hI.pure 7 _ (Nat.le_of_ble_eq_true rfl) rfl (hpre ⟨7,.data⟩ (by simp) rfl));have hk:=hI.pure_step ok (Nat.le_of_ble_eq_true rfl) hn (j:=9) (s:=11) (v:=(.slice none 0 0)) rfl rfl;obtain rfl:w2 = W2.drew:=hI.at (j:=9) (Nat.le_of_ble_eq_true rfl) hn;refine Kt.op_opq hk ?_;clear hk;intro KK hkk;unfold Oper.wp;go_simp;exact hkk
      · cases Option.some.inj ho;have e8:act.tmps[86]?.getD undef = .bool false:=(Kt.val_get act 86).symm.trans (hI.pure 8 _ (Nat.le_of_ble_eq_true rfl) rfl (hpre ⟨8,.data⟩ (by simp) rfl));have hk:=hI.pure_step ok (Nat.le_of_ble_eq_true rfl) hn (j:=10) (s:=12) (v:=.bool false) rfl rfl;obtain rfl:w2 = W2.drew:=hI.at (j:=10) (Nat.le_of_ble_eq_true rfl) hn;refine Kt.op_opq hk ?_;clear hk;intro KK hkk;unfold Oper.wp;go_simp;exact hkk
      · exfalso;simp at ho
    case hdone =>
      intro listed act w2 hI hr;have hup:=Kt.all_up (fun q o ho => by
        rcases q with _ | _ | _ | _ | _ | _ | _ | _ | _ | _ | _ | q
        all_goals first | (cases Option.some.inj ho;decide) | (exfalso;simp at ho)) hI.size hr
      have hv11:Kt.val act 11 = .slice none 0 0:=hI.pure 9 _ (Nat.le_of_ble_eq_true rfl) rfl (hup 9 (by decide));have hv12:Kt.val act 12 = .bool false:=hI.pure 10 _ (Nat.le_of_ble_eq_true rfl) rfl (hup 10 (by decide));obtain rfl:w2 = W2.drew:=hI.world (Kt.listed_out hI.size);rw [hI.frame.out];simp only [relP,relS,Kt.sets];generalize Kt.val act 11 = v11 at hv11 ⊢;generalize Kt.val act 12 = v12 at hv12 ⊢;generalize Kt.val act 78 = v78;generalize Kt.val act 79 = v79;generalize Kt.val act 80 = v80;generalize Kt.val act 81 = v81;generalize Kt.val act 82 = v82;generalize Kt.val act 83 = v83;generalize Kt.val act 84 = v84;generalize Kt.val act 85 = v85;generalize Kt.val act 86 = v86;simp only [List.setIfInBounds_toArray,List.set_cons_zero,List.set_cons_succ];subst hv11 hv12;clear hI hr hup hlook k0 k1 k2;have f0:W2.cell? ⟨W.heap.size,0,none⟩ = some (.int .u16 0):=hsb2.cell 0;have f1:W2.cell? ⟨W.heap.size,1,none⟩ = some (.int .i64 (sn:Int)):=hsb2.cell 1;have f2:W2.cell? ⟨W.heap.size,2,none⟩ = some (.int .i64 (m:Int)):=hsb2.cell 2;have f3:W2.cell? ⟨W.heap.size,3,none⟩ = some (.int .i64 (K:Int)):=hsb2.cell 3;obtain ⟨Q,hQ⟩:∃ Q,Hid (j - i - l.length = Q):=⟨_,Lib.hid rfl⟩;have hQ2:i + K + Q = j + 1:=by have:=hQ.out;have:=hl2.out;omega
      obtain ⟨x0,hx0⟩:∃ x0,Hid (x0 = (⟨0,(sn:Int)⟩:Gr.Item)):=⟨_,Lib.hid rfl⟩;have hls:=Gr.len_sym_to (hitf X.tk) (Gr.D X.g (hitf X.tk) N) (x:=x0) l (i:=i) (j:=j) (k:=Q) (by rw [hx0.out]) (by have:=hl2.out;omega);have HWAYS:Hid (Gr.ways X.g (hitf X.tk) N (⟨0,(sn:Int)⟩ :: l) i j = Gr.upto (hitf X.tk) (Gr.D X.g (hitf X.tk) N) x0 l i j Q):=Lib.hid (by rw [← hls,hx0.out];rfl);have HLE:Hid (∀ q,q ≤ Q → Gr.upto (hitf X.tk) (Gr.D X.g (hitf X.tk) N) x0 l i j q ≤ Gr.upto (hitf X.tk) (Gr.D X.g (hitf X.tk) N) x0 l i j Q):=Lib.hid (fun q hq => by
        obtain ⟨d,rfl⟩:∃ d,Q = q + d:=⟨Q - q,by omega⟩;exact Gr.upto_le _ _ _ _ _ _ _ d)
      have HBIG:Hid (∀ x,x ≤ Gr.upto (hitf X.tk) (Gr.D X.g (hitf X.tk) N) x0 l i j Q → (Nt.limbs x).length ≤ 1024):=Lib.hid (fun x hx => Gr.limbs_fit fun KK hKK => Nat.lt_of_le_of_lt (by rw [← HWAYS.out] at hx;exact hx) (Gr.ways_fit HX.out.R (by have:=HX.out.len;omega) _ N _ i j HX.out.fit (by omega) hN hKK));have HSUC:Hid (∀ q,Gr.upto (hitf X.tk) (Gr.D X.g (hitf X.tk) N) x0 l i j (q + 1) = Gr.upto (hitf X.tk) (Gr.D X.g (hitf X.tk) N) x0 l i j q + Gr.cnt X.g (hitf X.tk) N (sn:Int) i (i + 1 + q) * Gr.ways X.g (hitf X.tk) N l (i + 1 + q) j):=Lib.hid (fun q => by rw [Gr.upto_succ,hx0.out];rfl);clear hls;obtain ⟨U,hU⟩:∃ U:Nat → Nat,U = Gr.upto (hitf X.tk) (Gr.D X.g (hitf X.tk) N) x0 l i j:=⟨_,rfl⟩;rw [← hU] at HWAYS HLE HBIG HSUC;have hU0:U 0 = 0:=by rw [hU];rfl
      have HU0:=Lib.hid hU0;clear hU hU0;go_wp2_with fail;go_loopw [11,13] (fun s11 s13 wr => ∃ q:Nat,q ≤ Q ∧ s13 = .int .i64 ((i + 1 + q:Nat):Int) ∧ Hid (Kt.NumM wr (up X M) s11 (U q) ∧ Memo X N M wr ∧ Ch0 X W2 wr)) (fun _ s13 _ => j + 1 - (intOf s13).toNat)
      case atStart => exact ⟨0,Nat.zero_le _,by go_num,Lib.hid ⟨by rw [HU0.out];exact Kt.NumM.zero _ _,Memo.drew HM2.out,Ch.drew (Kt.Ch.refl W2)⟩⟩
      case round =>
        obtain ⟨q,hq,rfl,hst⟩:=hrel;obtain ⟨hnum,hmem,hch⟩:=hst.out;have hCr:=hC2.on hch;have hltr:∀ k,M k → k < wr.heap.size:=fun k hk => Nat.lt_of_lt_of_le (hlt2 k hk) hch.ext.size
        obtain ⟨p,hp⟩:∃ p,Hid (i + 1 + q = p):=⟨_,Lib.hid rfl⟩;have hp2:i + 1 + q = p:=hp.out;rw [hp2];have kk:∀ b o v,W.heap.size ≤ b → b < W2.heap.size → W2.cell? ⟨b,o,none⟩ = some v → wr.cell? ⟨b,o,none⟩ = some v:=fun b o v h1 h2 h => (World.cell?_of_block (a:=⟨b,o,none⟩) (hch.same b h2 (fun e => e) (hnew b h1).1 (hnew b h1).2)).trans h
        have hw2s:W1.heap.size < W2.heap.size:=hkb.lt;have f0r:=kk _ 0 _ (Nat.le_refl _) (by omega) f0;have f1r:=kk _ 1 _ (Nat.le_refl _) (by omega) f1;have f2r:=kk _ 2 _ (Nat.le_refl _) (by omega) f2;have f3r:=kk _ 3 _ (Nat.le_refl _) (by omega) f3;by_cases hlq:q < Q
        · have hp3:p < j:=by omega
          have hp4:i < p:=by omega
          have hp5:p + K ≤ j + 1:=by omega
          clear hp2;have HR:=Lib.hid (HIH1.out p hp4 hp3 M wr hCr hmem hltr);have HNUM:=Lib.hid hnum;clear hnum hmem kk;go_wp2_with fail;refine HR.out.mono ?_;rintro e w3 ⟨hch3,hmem3,vb,rfl,hvb⟩;obtain ⟨wz,hwz⟩:∃ wz,Hid (Gr.ways X.g (hitf X.tk) N l p j = wz):=⟨_,Lib.hid rfl⟩;rw [hwz.out] at hvb;have hsq:=HSUC.out q;rw [hp.out,hwz.out] at hsq;have HSQ:=Lib.hid hsq;have hNUM3:=NumM.ch0 HNUM.out hch3;have hC3:=hCr.on hch3;have hlt3:∀ k,M k → k < w3.heap.size:=fun k hk => Nat.lt_of_lt_of_le (hltr k hk) hch3.ext.size
          have HC3:=Lib.hid (Kt.Ch.trans hch hch3 (fun _ e => .inl e));have kk3:∀ o v,wr.cell? ⟨W.heap.size,o,none⟩ = some v → w3.cell? ⟨W.heap.size,o,none⟩ = some v:=fun o v h => (World.cell?_of_block (a:=⟨W.heap.size,o,none⟩) (hch3.same W.heap.size (by have:=hch.ext.size;omega) (fun e => e) (hnew _ (Nat.le_refl _)).1 (hnew _ (Nat.le_refl _)).2)).trans h
          have g0:=kk3 0 _ f0r;have g1:=kk3 1 _ f1r;clear hsq kk3 f0r f1r f2r f3r HR;by_cases hz:wz = 0
          · have HN3:Hid (Kt.NumM w3 (up X M) u11 (U (q + 1)) ∧ Memo X N M w3 ∧ Ch0 X W2 w3):=Lib.hid ⟨by rw [HSQ.out,hz,Nat.mul_zero,Nat.add_zero];exact hNUM3,hmem3,HC3.out⟩;obtain ⟨Ab,cb,rfl,_⟩:=hvb;have hlz:(Nt.limbs wz).length = 0:=(Nt.len_zero_iff _).2 hz;rw [hlz];clear hNUM3 hmem3 hz;go_wp2_with fail;go_roundw
            case rel => exact ⟨q + 1,by omega,by have:=hp.out;go_num,HN3⟩
            case measure => simp [intOf];omega
          · have hlz:(Nt.limbs wz).length ≠ 0:=fun e => hz ((Nt.len_zero_iff _).1 e)
            have hvb2:=hvb;obtain ⟨Ab,cb,rfl,_⟩:=hvb2;obtain ⟨LB,hLB⟩:∃ LB,Hid ((Nt.limbs wz).length = LB):=⟨_,Lib.hid rfl⟩;rw [hLB.out] at hvb hlz ⊢;have hlzb:((LB:Int) == 0) = false:=by simp;omega
            have HS:=Lib.hid (HIH2.out p hp4 hp3 M w3 hC3 hmem3 hlt3);have HVB:=Lib.hid hvb;have HNUM3:=Lib.hid hNUM3;clear hvb hNUM3 hmem3 hz hlz;go_wp2_with fail;refine HS.out.mono ?_;rintro e w4 ⟨hch4,hmem4,vs,rfl,hvs⟩;have hq1:=HLE.out (q + 1) (by omega);rw [HSQ.out] at hq1;obtain ⟨cs,hcs⟩:∃ cs,Hid (Gr.cnt X.g (hitf X.tk) N (sn:Int) i p = cs):=⟨_,Lib.hid rfl⟩;rw [hcs.out] at hvs hq1;have hfs:(Nt.limbs cs).length ≤ 1024:=Gr.limbs_fit fun KK hKK => by rw [← hcs.out];exact Gr.cnt_fit HX.out.R (by have:=HX.out.len;omega) _ N _ i p HX.out.fit (by omega) (by omega) hKK
            have hfz:(Nt.limbs wz).length ≤ 1024:=Gr.limbs_fit fun KK hKK => by rw [← hwz.out];exact Gr.ways_fit HX.out.R (by have:=HX.out.len;omega) _ N _ p j HX.out.fit (by omega) (by omega) hKK
            have hvb4:=NumM.ch0 HVB.out hch4;have HMUL:=Lib.hid (mul_num hvs.num hvb4.num hfs hfz);have HC4:=Lib.hid (Kt.Ch.trans HC3.out hch4 (fun _ e => .inl e));have HM4:=Lib.hid hmem4;have HU4:=Lib.hid (up_lt hmem4 (fun k hk => Nat.lt_of_lt_of_le (hlt3 k hk) hch4.ext.size));have HN4:=Lib.hid (NumM.ch0 HNUM3.out hch4);have HB1:=Lib.hid (HBIG.out _ (show cs * wz ≤ U Q by omega));have HB2:=Lib.hid (HBIG.out _ (show U q ≤ U Q by omega));have HB3:=Lib.hid (HBIG.out _ hq1);clear hvb4 hvs hch4 hmem4 hfs hfz hq1 HS;go_wp2_with fail;refine HMUL.out.mono ?_;rintro e w5 ⟨hgot,hb5⟩;rcases hgot with ⟨_,vm,rfl,hvm⟩ | ⟨hlong,_⟩
            · have hn5:=HN4.out.keep (w':=w5) hb5.size (fun k hk _ => hb5.block k hk);have HADD:=Lib.hid (add_num hn5.num hvm HB2.out HB1.out);have HM5:=Lib.hid (HM4.out.below hb5);have HC5:=Lib.hid (Kt.Ch.trans HC4.out (Ch0.of_below hb5) (fun _ e => .inl e));have HU5:=Lib.hid (fun k hk => Nat.lt_of_lt_of_le (HU4.out k hk) hb5.size);clear hn5 hvm hb5;go_wp2_with fail;refine HADD.out.mono ?_;rintro e w6 ⟨hgot,hb6⟩;rcases hgot with ⟨_,va,rfl,hva⟩ | ⟨hlong,_⟩
              · have HN6:Hid (Kt.NumM w6 (up X M) va (U (q + 1)) ∧ Memo X N M w6 ∧ Ch0 X W2 w6):=Lib.hid ⟨by rw [HSQ.out,hcs.out];exact Kt.NumM.of_num hva HU5.out,HM5.out.below hb6,Kt.Ch.trans HC5.out (Ch0.of_below hb6) (fun _ e => .inl e)⟩;clear hva hb6;go_wp2_with fail;go_roundw
                case rel => exact ⟨q + 1,by omega,by have:=hp.out;go_num,HN6⟩
                case measure => simp [intOf];omega
              · exfalso;have:=HB3.out;omega
            · exfalso;have:=HB1.out;omega
        · obtain rfl:q = Q:=by omega
          rw [← HWAYS.out] at hnum;obtain ⟨es',c',hput,hes'⟩:=put_mem (W:=wr.drew) (X:=X) (b:=X.b2) (G:=fun n i j v => ∃ l,Gr.Ends X.E n l ∧ Kt.NumM wr (up X M) v (Gr.ways X.g (hitf X.tk) N l i j)) ⟨hmem.s2.ex⟩ n i j u11 ⟨_,hE2.out,hnum⟩ (by omega) (by omega) (by omega);have HM9:Hid (Memo X N M (wr.drew.putObj X.b2 (.map es' c'))):=Lib.hid ((Memo.drew hmem).put2 hC2.b12 hes');have hc9:Ch0 X wr (wr.drew.putObj X.b2 (.map es' c')):=Kt.Ch.trans (Ch.drew (Kt.Ch.refl wr)) (ch0_put wr.drew X.b2 _ (.inr rfl)) (fun _ e => .inl e);have HC9:Hid (Ch0 X W (wr.drew.putObj X.b2 (.map es' c'))):=Lib.hid (Kt.Ch.trans (Kt.Ch.trans hch2 hch (fun _ e => .inl e)) hc9 (fun _ e => .inl e));have HN9:Hid (Kt.NumM (wr.drew.putObj X.b2 (.map es' c')) (up X M) u11 (Gr.ways X.g (hitf X.tk) N (⟨0,(sn:Int)⟩ :: l) i j)):=Lib.hid (NumM.ch0 hnum hc9);have h68r:=hCr.c68;have hws:W.heap.size ≤ W1.heap.size:=by omega
          have k0r:=kk _ 0 _ hws hw2s (hkb.cell 0:W2.cell? ⟨W1.heap.size,0,none⟩ = some (.int .i64 (n:Int)));have k1r:=kk _ 1 _ hws hw2s (hkb.cell 1:W2.cell? ⟨W1.heap.size,1,none⟩ = some (.int .i64 (i:Int)));have k2r:=kk _ 2 _ hws hw2s (hkb.cell 2:W2.cell? ⟨W1.heap.size,2,none⟩ = some (.int .i64 (j:Int)));clear hnum hmem hes' hc9 kk hltr hCr;unfold spanVal at hput;go_upto_region 25 with fail;refine Kt.region_inv (Kt.RqI (reuP _ wr X.bc X.b2 (.agg #[.int .i64 (n:Int),.int .i64 (i:Int),.int .i64 (j:Int)]) u11 (fun _ wx => wx = wr.drew.putObj X.b2 (.map es' c')))) (by kernel_rfl) ?hg2 Kt.RqI.start ?hstep2 ?hdone2
          case hg2 =>
            intro q o ho;rcases q with _ | _ | _ | _ | _ | _ | _ | q
            all_goals first | (cases Option.some.inj ho;rfl) | (exfalso;simp at ho)
          case hstep2 =>
            intro listed act w2 q o hI ho hn hpre;have ok:=reu_ok hI (Nat.le_of_ble_eq_true rfl);rcases q with _ | _ | _ | _ | _ | _ | _ | q
            · cases Option.some.inj ho;refine Kt.op_move rfl ?_;rw [show act.eval (.tmp 0) = .pointer (some ⟨X.bc,0,none⟩) from hI.frame.val_out (s:=0) (show 0 ∉ reuS by decide)];exact hI.pure_step ok (Nat.le_of_ble_eq_true rfl) hn rfl rfl
            · cases Option.some.inj ho;have e0:act.tmps[127]?.getD undef = .pointer (some ⟨X.bc,0,none⟩):=(Kt.val_get act 127).symm.trans (hI.pure 0 _ (Nat.le_of_ble_eq_true rfl) rfl (hpre ⟨0,.data⟩ (by simp) rfl));have hk:=hI.pure_step ok (Nat.le_of_ble_eq_true rfl) hn (j:=1) (s:=128) (v:=.pointer (some ⟨X.bc,0,none⟩)) rfl rfl;obtain rfl:w2 = wr.drew:=hI.at (j:=1) (Nat.le_of_ble_eq_true rfl) hn;refine Kt.op_opq hk ?_;clear hk;intro KK hkk;unfold Oper.wp;go_simp;exact hkk
            · cases Option.some.inj ho;have e1:act.tmps[128]?.getD undef = .pointer (some ⟨X.bc,0,none⟩):=(Kt.val_get act 128).symm.trans (hI.pure 1 _ (Nat.le_of_ble_eq_true rfl) rfl (hpre ⟨1,.data⟩ (by simp) rfl));have hk:=hI.pure_step ok (Nat.le_of_ble_eq_true rfl) hn (j:=2) (s:=129) (v:=.pointer (some ⟨X.bc,68,none⟩)) rfl rfl;obtain rfl:w2 = wr.drew:=hI.at (j:=2) (Nat.le_of_ble_eq_true rfl) hn;refine Kt.op_opq hk ?_;clear hk;intro KK hkk;unfold Oper.wp;go_simp;exact hkk
            · cases Option.some.inj ho;have e2:act.tmps[129]?.getD undef = .pointer (some ⟨X.bc,68,none⟩):=(Kt.val_get act 129).symm.trans (hI.pure 2 _ (Nat.le_of_ble_eq_true rfl) rfl (hpre ⟨2,.data⟩ (by simp) rfl));have hk:=hI.pure_step ok (Nat.le_of_ble_eq_true rfl) hn (j:=3) (s:=130) (v:=.map (some X.b2)) rfl rfl;obtain rfl:w2 = wr.drew:=hI.at (j:=3) (Nat.le_of_ble_eq_true rfl) hn;refine Kt.op_opq hk ?_;clear hk;intro KK hkk;unfold Oper.wp;go_simp;exact hkk
            · cases Option.some.inj ho;have f10:act.tmps[10]?.getD undef = .pointer (some ⟨W1.heap.size,0,none⟩):=(Kt.val_get act 10).symm.trans (hI.frame.val_out (s:=10) (show 10 ∉ reuS by decide));have hk:=hI.pure_step ok (Nat.le_of_ble_eq_true rfl) hn (j:=4) (s:=131) (v:=(.agg #[.int .i64 (n:Int),.int .i64 (i:Int),.int .i64 (j:Int)])) rfl rfl;obtain rfl:w2 = wr.drew:=hI.at (j:=4) (Nat.le_of_ble_eq_true rfl) hn;refine Kt.op_opq hk ?_;clear hk;intro KK hkk;unfold Oper.wp;go_simp;exact hkk
            · cases Option.some.inj ho;refine Kt.op_move rfl ?_;rw [show act.eval (.tmp 11) = u11 from hI.frame.val_out (s:=11) (show 11 ∉ reuS by decide)];exact hI.pure_step ok (Nat.le_of_ble_eq_true rfl) hn rfl rfl
            · cases Option.some.inj ho;have hall:∀ i,i < 7 → i ≠ 6 → listed.getD i false = true:=fun i hi him => by rcases i with _ | _ | _ | _ | _ | _ | _ | i;exact hpre ⟨0,.phase⟩ (by simp) rfl;exact hpre ⟨1,.phase⟩ (by simp) rfl;exact hpre ⟨2,.phase⟩ (by simp) rfl;exact hpre ⟨3,.phase⟩ (by simp) rfl;exact hpre ⟨4,.phase⟩ (by simp) rfl;exact hpre ⟨5,.phase⟩ (by simp) rfl;exact absurd rfl him;omega
              have e3:act.tmps[130]?.getD undef = .map (some X.b2):=(Kt.val_get act 130).symm.trans (hI.pure 3 _ (Nat.le_of_ble_eq_true rfl) rfl (hall 3 (by decide) (by decide)));have e4:act.tmps[131]?.getD undef = (.agg #[.int .i64 (n:Int),.int .i64 (i:Int),.int .i64 (j:Int)]):=(Kt.val_get act 131).symm.trans (hI.pure 4 _ (Nat.le_of_ble_eq_true rfl) rfl (hall 4 (by decide) (by decide)));have e5:act.tmps[132]?.getD undef = u11:=(Kt.val_get act 132).symm.trans (hI.pure 5 _ (Nat.le_of_ble_eq_true rfl) rfl (hall 5 (by decide) (by decide)));have hk:=hI.last_step ok (j:=6) (w':=wr.drew.putObj X.b2 (.map es' c')) rfl (Nat.le_of_ble_eq_true rfl) hall rfl;obtain rfl:w2 = wr.drew:=hI.at (j:=6) (Nat.le_of_ble_eq_true rfl) hn;refine Kt.op_opq0 hk ?_;clear hk;intro KK hkk;unfold Oper.wp;go_simp;exact hkk
            · exfalso;simp at ho
          case hdone2 =>
            intro listed act w2 hI hr;have hup:=Kt.all_up (fun q o ho => by
              rcases q with _ | _ | _ | _ | _ | _ | _ | q
              all_goals first | (cases Option.some.inj ho;decide) | (exfalso;simp at ho)) hI.size hr
            obtain rfl:w2 = wr.drew.putObj X.b2 (.map es' c'):=(hI.last (hup 6 (by decide))).1;rw [hI.frame.out];simp only [reuP,reuS,Kt.sets];generalize Kt.val act 127 = v127;generalize Kt.val act 128 = v128;generalize Kt.val act 129 = v129;generalize Kt.val act 130 = v130;generalize Kt.val act 131 = v131;generalize Kt.val act 132 = v132;simp only [List.setIfInBounds_toArray,List.set_cons_zero,List.set_cons_succ];clear hI hr hup;go_wp2_with fail;go_ret;exact ⟨HC9.out,HM9.out,_,rfl,HN9.out⟩
  · obtain ⟨l0,he0,hv⟩:=hv;have HV:Hid (Kt.NumM W2 (up X M) v (Gr.ways X.g (hitf X.tk) N (⟨0,(sn:Int)⟩ :: l) i j)):=Lib.hid (by rw [hE2.out.uniq he0];exact hv);clear hv he0;unfold spanVal at hlook;refine Kt.region_inv (Kt.RqI (relP _ W2 X.bc X.b2 (.agg #[.int .i64 (n:Int),.int .i64 (i:Int),.int .i64 (j:Int)]) v true (fun _ _ => True))) (by kernel_rfl) ?hg Kt.RqI.start ?hstep ?hdone
    case hg =>
      intro q o ho;rcases q with _ | _ | _ | _ | _ | _ | _ | _ | _ | _ | _ | q
      all_goals first | (cases Option.some.inj ho;rfl) | (exfalso;simp at ho)
    case hstep =>
      intro listed act w2 q o hI ho hn hpre;have ok:=rel_ok hI (Nat.le_of_ble_eq_true rfl);rcases q with _ | _ | _ | _ | _ | _ | _ | _ | _ | _ | _ | q
      · cases Option.some.inj ho;refine Kt.op_move rfl ?_;rw [show act.eval (.tmp 0) = .pointer (some ⟨X.bc,0,none⟩) from hI.frame.val_out (s:=0) (show 0 ∉ relS by decide)];exact hI.pure_step ok (Nat.le_of_ble_eq_true rfl) hn rfl rfl
      · cases Option.some.inj ho;have e0:act.tmps[79]?.getD undef = .pointer (some ⟨X.bc,0,none⟩):=(Kt.val_get act 79).symm.trans (hI.pure 0 _ (Nat.le_of_ble_eq_true rfl) rfl (hpre ⟨0,.data⟩ (by simp) rfl));have hk:=hI.pure_step ok (Nat.le_of_ble_eq_true rfl) hn (j:=1) (s:=80) (v:=.pointer (some ⟨X.bc,0,none⟩)) rfl rfl;obtain rfl:w2 = W2.drew:=hI.at (j:=1) (Nat.le_of_ble_eq_true rfl) hn;refine Kt.op_opq hk ?_;clear hk;intro KK hkk;unfold Oper.wp;go_simp;exact hkk
      · cases Option.some.inj ho;have e1:act.tmps[80]?.getD undef = .pointer (some ⟨X.bc,0,none⟩):=(Kt.val_get act 80).symm.trans (hI.pure 1 _ (Nat.le_of_ble_eq_true rfl) rfl (hpre ⟨1,.data⟩ (by simp) rfl));have hk:=hI.pure_step ok (Nat.le_of_ble_eq_true rfl) hn (j:=2) (s:=81) (v:=.pointer (some ⟨X.bc,68,none⟩)) rfl rfl;obtain rfl:w2 = W2.drew:=hI.at (j:=2) (Nat.le_of_ble_eq_true rfl) hn;refine Kt.op_opq hk ?_;clear hk;intro KK hkk;unfold Oper.wp;go_simp;exact hkk
      · cases Option.some.inj ho;have e2:act.tmps[81]?.getD undef = .pointer (some ⟨X.bc,68,none⟩):=(Kt.val_get act 81).symm.trans (hI.pure 2 _ (Nat.le_of_ble_eq_true rfl) rfl (hpre ⟨2,.data⟩ (by simp) rfl));have hk:=hI.pure_step ok (Nat.le_of_ble_eq_true rfl) hn (j:=3) (s:=82) (v:=.map (some X.b2)) rfl rfl;obtain rfl:w2 = W2.drew:=hI.at (j:=3) (Nat.le_of_ble_eq_true rfl) hn;refine Kt.op_opq hk ?_;clear hk;intro KK hkk;unfold Oper.wp;go_simp;exact hkk
      · cases Option.some.inj ho;have f10:act.tmps[10]?.getD undef = .pointer (some ⟨W1.heap.size,0,none⟩):=(Kt.val_get act 10).symm.trans (hI.frame.val_out (s:=10) (show 10 ∉ relS by decide));have hk:=hI.pure_step ok (Nat.le_of_ble_eq_true rfl) hn (j:=4) (s:=83) (v:=(.agg #[.int .i64 (n:Int),.int .i64 (i:Int),.int .i64 (j:Int)])) rfl rfl;obtain rfl:w2 = W2.drew:=hI.at (j:=4) (Nat.le_of_ble_eq_true rfl) hn;refine Kt.op_opq hk ?_;clear hk;intro KK hkk;unfold Oper.wp;go_simp;exact hkk
      · cases Option.some.inj ho;have e3:act.tmps[82]?.getD undef = .map (some X.b2):=(Kt.val_get act 82).symm.trans (hI.pure 3 _ (Nat.le_of_ble_eq_true rfl) rfl (hpre ⟨3,.data⟩ (by simp) rfl));have e4:act.tmps[83]?.getD undef = (.agg #[.int .i64 (n:Int),.int .i64 (i:Int),.int .i64 (j:Int)]):=(Kt.val_get act 83).symm.trans (hI.pure 4 _ (Nat.le_of_ble_eq_true rfl) rfl (hpre ⟨4,.data⟩ (by simp) rfl));have hk:=hI.pure_step ok (Nat.le_of_ble_eq_true rfl) hn (j:=5) (s:=84) (v:=.tuple #[v,.bool true]) rfl rfl;obtain rfl:w2 = W2.drew:=hI.at (j:=5) (Nat.le_of_ble_eq_true rfl) hn;refine Kt.op_opq hk ?_;clear hk;intro KK hkk;unfold Oper.wp;go_simp;exact hkk
      · cases Option.some.inj ho;have e5:act.tmps[84]?.getD undef = .tuple #[v,.bool true]:=(Kt.val_get act 84).symm.trans (hI.pure 5 _ (Nat.le_of_ble_eq_true rfl) rfl (hpre ⟨5,.data⟩ (by simp) rfl));have hk:=hI.pure_step ok (Nat.le_of_ble_eq_true rfl) hn (j:=6) (s:=78) (v:=.tuple #[v,.bool true]) rfl rfl;obtain rfl:w2 = W2.drew:=hI.at (j:=6) (Nat.le_of_ble_eq_true rfl) hn;refine Kt.op_opq hk ?_;clear hk;intro KK hkk;unfold Oper.wp;go_simp;exact hkk
      · cases Option.some.inj ho;have e6:act.tmps[78]?.getD undef = .tuple #[v,.bool true]:=(Kt.val_get act 78).symm.trans (hI.pure 6 _ (Nat.le_of_ble_eq_true rfl) rfl (hpre ⟨6,.data⟩ (by simp) rfl));have hk:=hI.pure_step ok (Nat.le_of_ble_eq_true rfl) hn (j:=7) (s:=85) (v:=v) rfl rfl;obtain rfl:w2 = W2.drew:=hI.at (j:=7) (Nat.le_of_ble_eq_true rfl) hn;refine Kt.op_opq hk ?_;clear hk;intro KK hkk;unfold Oper.wp;go_simp;exact hkk
      · cases Option.some.inj ho;have e6:act.tmps[78]?.getD undef = .tuple #[v,.bool true]:=(Kt.val_get act 78).symm.trans (hI.pure 6 _ (Nat.le_of_ble_eq_true rfl) rfl (hpre ⟨6,.data⟩ (by simp) rfl));have hk:=hI.pure_step ok (Nat.le_of_ble_eq_true rfl) hn (j:=8) (s:=86) (v:=.bool true) rfl rfl;obtain rfl:w2 = W2.drew:=hI.at (j:=8) (Nat.le_of_ble_eq_true rfl) hn;refine Kt.op_opq hk ?_;clear hk;intro KK hkk;unfold Oper.wp;go_simp;exact hkk
      · cases Option.some.inj ho;have e7:act.tmps[85]?.getD undef = v:=(Kt.val_get act 85).symm.trans (hI.pure 7 _ (Nat.le_of_ble_eq_true rfl) rfl (hpre ⟨7,.data⟩ (by simp) rfl));have hk:=hI.pure_step ok (Nat.le_of_ble_eq_true rfl) hn (j:=9) (s:=11) (v:=v) rfl rfl;obtain rfl:w2 = W2.drew:=hI.at (j:=9) (Nat.le_of_ble_eq_true rfl) hn;refine Kt.op_opq hk ?_;clear hk;intro KK hkk;unfold Oper.wp;go_simp;exact hkk
      · cases Option.some.inj ho;have e8:act.tmps[86]?.getD undef = .bool true:=(Kt.val_get act 86).symm.trans (hI.pure 8 _ (Nat.le_of_ble_eq_true rfl) rfl (hpre ⟨8,.data⟩ (by simp) rfl));have hk:=hI.pure_step ok (Nat.le_of_ble_eq_true rfl) hn (j:=10) (s:=12) (v:=.bool true) rfl rfl;obtain rfl:w2 = W2.drew:=hI.at (j:=10) (Nat.le_of_ble_eq_true rfl) hn;refine Kt.op_opq hk ?_;clear hk;intro KK hkk;unfold Oper.wp;go_simp;exact hkk
      · exfalso;simp at ho
    case hdone =>
      intro listed act w2 hI hr;have hup:=Kt.all_up (fun q o ho => by
        rcases q with _ | _ | _ | _ | _ | _ | _ | _ | _ | _ | _ | q
        all_goals first | (cases Option.some.inj ho;decide) | (exfalso;simp at ho)) hI.size hr
      have hv11:Kt.val act 11 = v:=hI.pure 9 _ (Nat.le_of_ble_eq_true rfl) rfl (hup 9 (by decide));have hv12:Kt.val act 12 = .bool true:=hI.pure 10 _ (Nat.le_of_ble_eq_true rfl) rfl (hup 10 (by decide));obtain rfl:w2 = W2.drew:=hI.world (Kt.listed_out hI.size);rw [hI.frame.out];simp only [relP,relS,Kt.sets];generalize Kt.val act 11 = v11 at hv11 ⊢;generalize Kt.val act 12 = v12 at hv12 ⊢;generalize Kt.val act 78 = v78;generalize Kt.val act 79 = v79;generalize Kt.val act 80 = v80;generalize Kt.val act 81 = v81;generalize Kt.val act 82 = v82;generalize Kt.val act 83 = v83;generalize Kt.val act 84 = v84;generalize Kt.val act 85 = v85;generalize Kt.val act 86 = v86;simp only [List.setIfInBounds_toArray,List.set_cons_zero,List.set_cons_succ];subst hv11 hv12;clear hI hr hup;go_wp2;go_ret;exact ⟨Ch.drew hch2,Memo.drew HM2.out,_,rfl,HV.out⟩
end Go.Proofs.Ytdbfiflmeiidjaa
end
section
/- Count and Recognise. -/
namespace Go.Proofs.Ytdbfiflmeiidjaa
open Go Go.RowKit
structure ChE (X:ChX):Prop where
  eok:Gr.EndsOk X.E
  elen:X.E.length ≤ 100000
  nbE:∀ r,r < X.g.length → Gr.Ends X.E (X.nb r) (Gr.rul X.g r).right
def rk (ρ:Int → Nat):List Gr.Item → Nat
  | [x] => if x.cls = 0 then 2 * ρ x.sym + 2 else 0
  | _ => 0
variable {X:ChX} {ρ:Int → Nat} {N:Nat}
theorem rk_le (hR:∀ s,ρ s ≤ 63) (l:List Gr.Item):rk ρ l ≤ 128:=by
  unfold rk;split
  · split
    · rename_i x _;have:=hR x.sym;omega
    · omega
  · omega
theorem all_ok (hX:ChG X ρ) (hE:ChE X):∀ f:Nat,
    (∀ s i j:Nat,s < 64 → i ≤ j → j ≤ X.tk.length → j - i ≤ N → (j - i) * 130 + 2 * ρ (s:Int) + 1 ≤ f → SymOk X N s i j) ∧
    (∀ (n:Nat) (l:List Gr.Item) (i j:Nat),Gr.Ends X.E n l → (∀ x ∈ l,0 ≤ x.sym ∧ x.sym < 64) → l.length ≤ 8 → i ≤ j → j ≤ X.tk.length → j - i ≤ N → (j - i) * 130 + rk ρ l ≤ f → RestOk X N n l i j):=by
  intro f
  induction f with
  | zero =>
    refine ⟨fun s i j _ _ _ _ h => by omega,fun n l i j hn hl h8 hij hj hN h => ?_⟩;cases hn with
    | nil =>
      have h0:=hE.eok.zero;have hp:=hE.eok.pos;exact rest_one1 hX 0 i j 0 0 0 0 hp h0 hj rfl (by omega)
    | cons h1 h2 h3 h4 =>
      rename_i m x l';obtain ⟨cx,sx⟩:=x;exact rest_short hX n i j m (l'.length + 1) cx sx h2 h3 hij hj _ rfl (by simpa using h8) (by omega)
  | succ f ih =>
    obtain ⟨ih1,ih2⟩:=ih;refine ⟨fun s i j hs hij hj hN h => ?_,fun n l i j hn hl h8 hij hj hN h => ?_⟩
    · refine symbol_step hX s i j hs hij hj hN fun r hr => ?_
      obtain ⟨hr1,hr2⟩:=Gr.mem_rulesOf.1 hr;obtain ⟨_,_,hr5,hr6⟩:=(hX.ok r hr1).parts;refine ih2 _ _ i j (hE.nbE r hr1) (fun x hx => (hr6 x hx).1) hr5 hij hj hN ?_;have hk:rk ρ (Gr.rul X.g r).right ≤ 2 * ρ (s:Int):=by
        unfold rk;split
        · rename_i x hx;split
          · rename_i hc;have:=hX.R.dec r hr1 x hx hc;rw [hr2] at this;omega
          · omega
        · omega
      omega
    · cases hn with
      | nil =>
        have h0:=hE.eok.zero;have hp:=hE.eok.pos;by_cases hlt:i < j
        · exact rest_nil hX 0 i j 0 0 0 0 hp h0 hj rfl hlt
        · exact rest_one1 hX 0 i j 0 0 0 0 hp h0 hj rfl (by omega)
      | cons h1 h2 h3 h4 =>
        rename_i m x l';obtain ⟨cx,sx⟩:=x;have h8':l'.length + 1 ≤ 8:=by simpa using h8
        have hn5:n ≤ 100000:=by have:=hE.elen;omega
        obtain ⟨hx0,hx1⟩:=hl ⟨cx,sx⟩ (by simp);have hl':∀ x ∈ l',0 ≤ x.sym ∧ x.sym < 64:=fun x hx => hl x (by simp [hx])
        by_cases hsh:j < i + (l'.length + 1)
        · exact rest_short hX n i j m (l'.length + 1) cx sx h2 h3 hij hj _ rfl h8' hsh
        · have hkl:=rk_le hX.R.le l';by_cases hc:cx = 0
          · obtain ⟨sn,hsn⟩:∃ sn:Nat,sx = (sn:Int):=⟨sx.toNat,by simp only at hx0;omega⟩;have hsn64:sn < 64:=by simp only at hx1;omega
            by_cases hl0:l' = []
            · subst hl0;have hrk:rk ρ [(⟨cx,sx⟩:Gr.Item)] = 2 * ρ sx + 2:=by
                unfold rk;simp only [hc,if_true]
              rw [hrk] at h;refine rest_single hX n i j m 1 cx sx h2 h3 hj rfl (by simp at hsh;omega) hc sn hsn ?_;exact ih1 sn i j hsn64 hij hj hN (by rw [← hsn];omega)
            · have hp:0 < l'.length:=List.length_pos_iff.2 hl0;refine rest_many hX n i j m (l'.length + 1) cx sx h2 h3 hij hj l' rfl ⟨by omega,h8'⟩ (by omega) hc sn hsn hN (.cons h1 h2 h3 h4) hn5 (fun q hq1 hq2 => ?_) (fun q hq1 hq2 => ?_)
              · exact ih2 m l' q j h4 hl' (by omega) (by omega) hj (by omega) (by omega)
              · have:=hX.R.le (sn:Int);exact ih1 sn i q hsn64 (by omega) (by omega) (by omega) (by omega)
          · refine rest_class hX n i j m (l'.length + 1) cx sx h2 h3 hij hj l' rfl h8' (by omega) hc fun _ => ?_
            exact ih2 m l' (i + 1) j h4 hl' (by omega) (by omega) hj (by omega) (by omega)
theorem symbol_any (hX:ChG X ρ) (hE:ChE X) (s i j:Nat) (hs:s < 64) (hij:i ≤ j) (hj:j ≤ X.tk.length) (hN:j - i ≤ N):SymOk X N s i j:=(all_ok hX hE _).1 s i j hs hij hj hN (Nat.le_refl _)
theorem rest_any (hX:ChG X ρ) (hE:ChE X) (n:Nat) (l:List Gr.Item) (i j:Nat) (hn:Gr.Ends X.E n l) (hl:∀ x ∈ l,0 ≤ x.sym ∧ x.sym < 64) (h8:l.length ≤ 8) (hij:i ≤ j) (hj:j ≤ X.tk.length) (hN:j - i ≤ N):RestOk X N n l i j:=(all_ok hX hE _).2 n l i j hn hl h8 hij hj hN (Nat.le_refl _)
end Go.Proofs.Ytdbfiflmeiidjaa
end
