/- Joined: GrJ, GrM. -/
import Derived.Test.YtdbfiflmeiidjaaSa14
import Derived.Test.YtdbfiflmeiidjaaSa17
section
/- parts: its iterator, where an ending has no items, or begins with a class. -/
namespace Go.Proofs.Ytdbfiflmeiidjaa
open Go Go.RowKit Go.Shelf
attribute [local go_sem] Oper.semAt_some Oper.semAt_none Kt.wd_round Kt.wd_depth Kt.wd_fn
variable {X:ChX} {ρ:Int → Nat} {N:Nat}
set_option maxRecDepth 100000 in
set_option maxHeartbeats 2000000 in
theorem parts_nil (i:Nat) (hE0:Gr.en X.E 0 = Gr.e0):PartsIt X N 0 [] i i:=by
  intro H W0 hC0 hPB hH l n J Jx M W hMlt hKn hsz hInv hJst hJxst hround hJ0;have hbox:∀ q o v,q < 4 → W0.cell? ⟨H + q,o,none⟩ = some v → W.cell? ⟨H + q,o,none⟩ = some v:=fun q o v hq h => (World.cell?_of_block (a:=⟨H + q,o,none⟩) (hKn (H + q) (.inr ⟨by omega,by omega⟩)).2).trans h
  obtain ⟨_,_,_,_,_,_,t6⟩:=hPB;rw [hE0] at t6;replace t6:W.cell? ⟨H + 3,3,none⟩ = some (.int .i64 0):=hbox 3 3 _ (by omega) t6;have hH3:=hH 3 (by omega);have hnew:=new_ne hInv;obtain ⟨W1,hW1⟩:∃ W1,W.alloc (.cells #[.func (.yield l) #[] #[]] 136) = W1:=⟨_,rfl⟩;have hB1:Below W.heap.size W W1:=by rw [← hW1];exact (Below.refl _ _).alloc (Nat.le_refl _) _
  have hch1:Ch0 X W W1:=Ch0.of_below hB1;have hst1:Kt.St W.heap.size X.b1 X.b2 M W W1:=⟨hch1.ext,fun k hk _ h1 h2 => hch1.same k hk (fun e => e) h1 h2⟩;have hxs:Gr.parts (hitf X.tk) (Gr.D X.g (hitf X.tk) N) [] i i = [[]]:=by rw [Gr.parts,if_pos rfl]
  rw [hxs] at hround ⊢;have hM1:=hInv.below hB1;obtain ⟨fn,tm,asg,bdy,hyy,hRr⟩:=hround [] [] (.slice none 0 0) M W1 (hJst _ _ _ _ hJ0 hst1) hM1 (fun k hk => Nat.lt_of_lt_of_le (hMlt k hk) hB1.size) (by simp) (Kt.LV.nil _ _);have HRr:=Lib.hid hRr;have t6':W1.cell? ⟨H + 3,3,none⟩ = some (.int .i64 0):=(hB1.cell (p:=⟨H + 3,3,none⟩) (by show H + 3 < _;omega)).trans t6;have hyb:W1.cell? ⟨W.heap.size,0,none⟩ = some (.func (.yield l) #[] #[]):=by rw [← hW1];exact (Kt.Blk.new W 136 #[.func (.yield l) #[] #[]]).cell 0
  have hHl:H + 3 < W.heap.size:=by omega
  clear hround hJst hJxst hKn hbox hRr hxs;refine callsIn_of_wp Try.func61 rfl trivial ?_ rfl;simp only [Try.ntmps61,List.size_toArray,List.length_cons,List.length_nil,Nat.reduceAdd,Nat.reduceSub,Array.replicate_succ,Array.replicate_zero,List.push_toArray,List.append_toArray,List.nil_append,List.cons_append]
  gi_wp2_with fail
  refine (Kt.round_any HRr.out).mono ?_;rintro e W' ⟨M2,hm2,hc2,hs2,hend⟩;obtain ⟨b,rfl,hG⟩:∃ b,e = .returned (.bool b) ∧ Hid (J [[]] M2 W' ∨ ∃ pre,pre <+: [[]] ∧ Jx pre M2 W'):=by
    rcases hend with ⟨rfl,h⟩ | ⟨rfl,h⟩
    · exact ⟨true,rfl,Lib.hid (.inl h)⟩
    · exact ⟨false,rfl,Lib.hid (.inr ⟨_,List.prefix_refl _,h⟩)⟩
  have HM2:=Lib.hid hm2;have HC2:Hid (Kt.Ch X.b1 X.b2 M W W'):=Lib.hid (Kt.Ch.trans (hch1.more (fun _ e => e.elim)) hc2 (fun _ e => .inl e));have HS2:Hid (Kt.Sub M W M2 W'):=Lib.hid ⟨fun k hk => by
    rcases hs2.old k hk with e | e
    · exact .inl e
    · have:=hB1.size;exact .inr (by omega),hs2.lt⟩
  clear hm2 hc2 hs2 hend
  gi_wp2_with fail
  refine bodyPost_ret (results_none rfl _ _ _) rfl ?_;exact ⟨M2,⟨_,rfl⟩,HM2.out,HC2.out,HS2.out,hG.out⟩
def pclSlot:Nat → Nat:=fun jj => match jj with | 0 => 18 | 1 => 19 | 2 => 20 | 3 => 21 | 4 => 22 | 5 => 23 | 6 => 24 | 7 => 25 | 8 => 26 | _ => 999
def pclS:List Nat:=[18,19,20,21,22,23,24,25,26]
def pclPre:Nat → Bool:=fun jj => match jj with | 0 => true | 1 => true | 2 => true | 3 => true | 4 => true | 5 => true | _ => false
def pclPost:Nat → Bool:=fun _ => false
def pclPo:Nat → Value → Option Value:=fun _ _ => none
def pclP (a0:Act) (W:World) (bc H m i j l:Nat) (R:Value → World → Prop):Kt.RcP :=
  ⟨9,6,pclSlot,pclS,fun jj => match jj with | 0 => some (.pointer (some ⟨bc,0,none⟩)) | 1 => some (.pointer (some ⟨H + 3,2,none⟩)) | 2 => some (.int .i64 (m:Int)) | 3 => some (.int .i64 (i:Int)) | 4 => some (.int .i64 ((i:Int) + 1)) | 5 => some (.int .i64 (j:Int)) | 7 => some (.func (.yield l) #[] #[]) | _ => none,pclPre,pclPost,pclPo,a0,W,R,fun jj => match jj with | 2 => [1] | 4 => [3] | 6 => [0,2,4,5] | _ => []⟩
theorem pcl_ok {a0:Act} {W:World} {bc H m i j l:Nat} {R:Value → World → Prop} {listed:Array Bool} {act:Act} {w:World} (_:Kt.RcI (pclP a0 W bc H m i j l R) listed act w) (h:27 ≤ a0.tmps.size):Kt.RcOk (pclP a0 W bc H m i j l R):=by
  refine ⟨fun i j hi hj => (by decide:∀ i,i < 9 → ∀ j,j < 9 → pclSlot i = pclSlot j → i = j) i hi j hj,(by decide:∀ j,j < 9 → pclSlot j ∈ pclS),fun j hj => Nat.lt_of_lt_of_le ((by decide:∀ j,j < 9 → pclSlot j < 27) j hj) h,Nat.le_of_ble_eq_true rfl,rfl,fun _ => rfl,rfl,rfl,fun j hj => ?_,fun j r u hu => ?_⟩
  · rcases j with _ | _ | _ | _ | _ | _ | _ | _ | _ | j
    all_goals first | exact ⟨rfl,rfl⟩ | (exfalso;exact absurd (show false = true from hj) (by decide))
  · rcases j with _ | _ | _ | _ | _ | _ | _ | _ | _ | j
    all_goals first | rfl | (exfalso;exact absurd (show (none:Option Value) = some u from hu) (by simp))
structure LastI (p:Kt.RcP) (z:Nat) (Fin:Act → World → Prop) (listed:Array Bool) (act:Act) (w:World):Prop where
  size:listed.size = p.N
  fr:Kt.Fr p.S p.a0 act
  a:listed.getD z false = false → Kt.RcI p listed act w
  b:listed.getD z false = true → Fin act w ∧ ∀ j,j < p.N → listed.getD j false = true
theorem LastI.start {p:Kt.RcP} {z:Nat} {Fin:Act → World → Prop}:LastI p z Fin (Array.replicate p.N false) p.a0 p.W.drew :=
  ⟨by simp,Kt.Fr.refl _ _,fun _ => Kt.RcI.start,fun hq => by
    exfalso;by_cases hj:z < p.N
    · simp [hj] at hq
    · simp [hj] at hq⟩
theorem LastI.open_ {p:Kt.RcP} {z:Nat} {Fin:Act → World → Prop} {listed:Array Bool} {act:Act} {w:World} (h:LastI p z Fin listed act w) {j:Nat} (hj:j < p.N) (hn:listed.getD j true = false):listed.getD z false = false:=by
  cases hq:listed.getD z false with
  | false => rfl
  | true =>
    have:=(h.b hq).2 j hj;rw [Kt.getD_no hn] at this;cases this
theorem LastI.wrap {p:Kt.RcP} {z j:Nat} {Fin:Act → World → Prop} {listed:Array Bool} (hz:listed.getD z false = false) (hj:j ≠ z):∀ act w,Kt.RcI p (listed.setIfInBounds j true) act w → LastI p z Fin (listed.setIfInBounds j true) act w:=fun _ _ h =>
  ⟨h.size,h.frame,fun _ => h,fun hq => by rw [Kt.getD_setL hj,hz] at hq;cases hq⟩
theorem LastI.fin {p:Kt.RcP} {z:Nat} {Fin:Act → World → Prop} {listed:Array Bool} {act:Act} {w:World} (hs:listed.size = p.N) (hfr:Kt.Fr p.S p.a0 act) (hz:z < p.N) (hall:∀ j,j < p.N → j ≠ z → listed.getD j false = true) (hF:Fin act w):LastI p z Fin (listed.setIfInBounds z true) act w:=by
  have h1:(listed.setIfInBounds z true).getD z false = true:=Kt.getD_same (by rw [hs];exact hz);refine ⟨by simp [hs],hfr,fun hq => ?_,fun _ => ⟨hF,fun j hj => ?_⟩⟩
  · rw [h1] at hq;cases hq
  · by_cases e:j = z
    · rw [e];exact h1
    · rw [Kt.getD_setL (fun e2 => e e2.symm)];exact hall j hj e
set_option maxRecDepth 100000 in
set_option maxHeartbeats 2000000 in
theorem parts_class (n i j m K:Nat) (cx sx:Int) (l':List Gr.Item) (hn:m < X.E.length) (hen:Gr.en X.E n = ⟨⟨cx,sx⟩,m,K⟩) (hK:1 ≤ K ∧ K ≤ 8) (hj30:j ≤ 40) (hij:i < j) (hcx:cx ≠ 0) (hhit:hitf X.tk i cx = true)
    (IH:PartsIt X N m l' (i + 1) j):PartsIt X N n (⟨cx,sx⟩ :: l') i j:=by
  intro H W0 hC0 hPB hH l nn J Jx M W hMlt hKn hsz hInv hJst hJxst hround hJ0;have hbox:∀ q o v,q < 4 → W0.cell? ⟨H + q,o,none⟩ = some v → W.cell? ⟨H + q,o,none⟩ = some v:=fun q o v hq h => (World.cell?_of_block (a:=⟨H + q,o,none⟩) (hKn (H + q) (.inr ⟨by omega,by omega⟩)).2).trans h
  obtain ⟨t0,t1,t2,t3,t4,t5,t6⟩:=hPB;rw [hen] at t3 t4 t5 t6;have hCW:Cht X W:=hC0.keep hsz fun k hk => (hKn k (.inl hk)).2
  have hnew:=new_ne hInv;obtain ⟨W1,hW1⟩:∃ W1,W.alloc (.cells #[.func (.yield l) #[] #[]] 136) = W1:=⟨_,rfl⟩;have hB1:Below W.heap.size W W1:=by rw [← hW1];exact (Below.refl _ _).alloc (Nat.le_refl _) _
  have hch1:Ch0 X W W1:=Ch0.of_below hB1;have hst1:Kt.St W.heap.size X.b1 X.b2 M W W1:=⟨hch1.ext,fun k hk _ h1 h2 => hch1.same k hk (fun e => e) h1 h2⟩;have hlow:∀ q o v,q < 4 → W.cell? ⟨H + q,o,none⟩ = some v → W1.cell? ⟨H + q,o,none⟩ = some v:=fun q o v hq h => (hB1.cell (p:=⟨H + q,o,none⟩) (by have:=hH q hq;show H + q < _;omega)).trans h
  have c0:W1.cell? ⟨H,0,none⟩ = some (.pointer (some ⟨X.bc,0,none⟩)):=hlow 0 0 _ (by omega) (hbox 0 0 _ (by omega) t0);have c1:W1.cell? ⟨H + 1,0,none⟩ = some (.int .i64 (i:Int)):=hlow 1 0 _ (by omega) (hbox 1 0 _ (by omega) t1);have c2:W1.cell? ⟨H + 2,0,none⟩ = some (.int .i64 (j:Int)):=hlow 2 0 _ (by omega) (hbox 2 0 _ (by omega) t2);have c3:W1.cell? ⟨H + 3,0,none⟩ = some (.int .u16 cx):=hlow 3 0 _ (by omega) (hbox 3 0 _ (by omega) t3);have c5:W1.cell? ⟨H + 3,2,none⟩ = some (.int .i64 (m:Int)):=hlow 3 2 _ (by omega) (hbox 3 2 _ (by omega) t5);have c6:W1.cell? ⟨H + 3,3,none⟩ = some (.int .i64 (K:Int)):=hlow 3 3 _ (by omega) (hbox 3 3 _ (by omega) t6);have hyb:W1.cell? ⟨W.heap.size,0,none⟩ = some (.func (.yield l) #[] #[]):=by rw [← hW1];exact (Kt.Blk.new W 136 #[.func (.yield l) #[] #[]]).cell 0
  have hs1:Hid (W1.heap.size = W.heap.size + 1):=Lib.hid (by rw [← hW1];simp);have hxs:Gr.parts (hitf X.tk) (Gr.D X.g (hitf X.tk) N) (⟨cx,sx⟩ :: l') i j = Gr.parts (hitf X.tk) (Gr.D X.g (hitf X.tk) N) l' (i + 1) j:=Gr.len_hit _ _ hcx hij hhit;rw [hxs] at hround ⊢;have hC1:Cht X W1:=hCW.on hch1;have HMK:=Lib.hid (parts_mk X m (i + 1) j W1.drew (hC1.on (Ch.drew (Kt.Ch.refl W1))) hn);have hKb0:((K:Int) == 0) = false:=by simp;omega
  have hcb:(cx != 0) = true:=by simp [hcx]
  have HR:=Lib.hid hround;have HJ:=Lib.hid hJst;have HJX:=Lib.hid hJxst;have HKN:=Lib.hid hKn;clear hround hJst hJxst hKn hbox hxs hlow;refine callsIn_of_wp Try.func61 rfl trivial ?_ rfl;simp only [Try.ntmps61,List.size_toArray,List.length_cons,List.length_nil,Nat.reduceAdd,Nat.reduceSub,Array.replicate_succ,Array.replicate_zero,List.push_toArray,List.append_toArray,List.nil_append,List.cons_append]
  gi_wp2_with fail
  refine Kt.region_invIn (LastI (pclP _ W1 X.bc H m i j l (fun v w4 => v = .func (.func 61) #[] #[.pointer (some ⟨W1.heap.size + 3,0,none⟩),.pointer (some ⟨W1.heap.size,0,none⟩),.pointer (some ⟨W1.heap.size + 1,0,none⟩),.pointer (some ⟨W1.heap.size + 2,0,none⟩)] ∧ Below W1.heap.size W1.drew w4 ∧ PBox X m (i + 1) j W1.heap.size w4 ∧ w4.heap.size = W1.heap.size + 4)) 8
    (fun _ w' => ∃ M',Memo X N M' w' ∧ Kt.Ch X.b1 X.b2 M W w' ∧ Kt.Sub M W M' w' ∧ (J (Gr.parts (hitf X.tk) (Gr.D X.g (hitf X.tk) N) l' (i + 1) j) M' w' ∨ ∃ pre,pre <+: Gr.parts (hitf X.tk) (Gr.D X.g (hitf X.tk) N) l' (i + 1) j ∧ Jx pre M' w'))) (by kernel_rfl) ?hg LastI.start ?hstep ?hdone
  case hg =>
    intro q o ho;rcases q with _ | _ | _ | _ | _ | _ | _ | _ | _ | q
    all_goals first | (cases Option.some.inj ho;rfl) | (exfalso;simp at ho)
  case hstep =>
    intro listed act w2 q o hL ho hn hpre;rcases q with _ | _ | _ | _ | _ | _ | _ | _ | _ | q
    · cases Option.some.inj ho;have hz:=hL.open_ (j:=0) (Nat.le_of_ble_eq_true rfl) hn;have hI:=hL.a hz;have ok:=pcl_ok hI (Nat.le_of_ble_eq_true rfl);refine Oper.wpIn_mono (LastI.wrap hz (show 0 ≠ 8 by decide)) ?_;show Oper.wpIn _ _ _ _ _ _ (fun a' w' => Kt.RcI _ (listed.setIfInBounds 0 true) a' w') _;refine Kt.opIn_of_op (fun c => by simp) ?_;have f2:act.tmps[2]?.getD undef = .pointer (some ⟨H,0,none⟩):=(Kt.val_get act 2).symm.trans (hI.frame.val_out (s:=2) (show 2 ∉ pclS by decide));have hk:=hI.pure_step ok (fun _ hi => (List.not_mem_nil hi).elim) (Nat.le_of_ble_eq_true rfl) hn (j:=0) (s:=18) (v:=.pointer (some ⟨X.bc,0,none⟩)) rfl rfl;obtain rfl:w2 = W1.drew:=hI.before (j:=0) rfl hn;refine Kt.op_opq hk ?_;clear hk;intro KK hkk;unfold Oper.wp;go_simp;exact hkk
    · cases Option.some.inj ho;have hz:=hL.open_ (j:=1) (Nat.le_of_ble_eq_true rfl) hn;have hI:=hL.a hz;have ok:=pcl_ok hI (Nat.le_of_ble_eq_true rfl);refine Oper.wpIn_mono (LastI.wrap hz (show 1 ≠ 8 by decide)) ?_;show Oper.wpIn _ _ _ _ _ _ (fun a' w' => Kt.RcI _ (listed.setIfInBounds 1 true) a' w') _;refine Kt.opIn_of_op (fun c => by simp) ?_;have f1:act.tmps[1]?.getD undef = .pointer (some ⟨H + 3,0,none⟩):=(Kt.val_get act 1).symm.trans (hI.frame.val_out (s:=1) (show 1 ∉ pclS by decide));have hk:=hI.pure_step ok (fun _ hi => (List.not_mem_nil hi).elim) (Nat.le_of_ble_eq_true rfl) hn (j:=1) (s:=19) (v:=.pointer (some ⟨H + 3,2,none⟩)) rfl rfl;obtain rfl:w2 = W1.drew:=hI.before (j:=1) rfl hn;refine Kt.op_opq hk ?_;clear hk;intro KK hkk;unfold Oper.wp;go_simp;exact hkk
    · cases Option.some.inj ho;have hz:=hL.open_ (j:=2) (Nat.le_of_ble_eq_true rfl) hn;have hI:=hL.a hz;have ok:=pcl_ok hI (Nat.le_of_ble_eq_true rfl);refine Oper.wpIn_mono (LastI.wrap hz (show 2 ≠ 8 by decide)) ?_;show Oper.wpIn _ _ _ _ _ _ (fun a' w' => Kt.RcI _ (listed.setIfInBounds 2 true) a' w') _;refine Kt.opIn_of_op (fun c => by simp) ?_;have e1:act.tmps[19]?.getD undef = .pointer (some ⟨H + 3,2,none⟩):=(Kt.val_get act 19).symm.trans (hI.pure 1 _ (Nat.le_of_ble_eq_true rfl) rfl (hpre ⟨1,.data⟩ (by simp) rfl));have hk:=hI.pure_step ok (fun i hi => by have hi:=(show i ∈ ([1]:List Nat) from hi);simp only [List.mem_cons,List.not_mem_nil,or_false] at hi;rcases hi with rfl <;> first | exact hpre ⟨1,.data⟩ (by simp) rfl) (Nat.le_of_ble_eq_true rfl) hn (j:=2) (s:=20) (v:=.int .i64 (m:Int)) rfl rfl;obtain rfl:w2 = W1.drew:=hI.before (j:=2) rfl hn;refine Kt.op_opq hk ?_;clear hk;intro KK hkk;unfold Oper.wp;go_simp;exact hkk
    · cases Option.some.inj ho;have hz:=hL.open_ (j:=3) (Nat.le_of_ble_eq_true rfl) hn;have hI:=hL.a hz;have ok:=pcl_ok hI (Nat.le_of_ble_eq_true rfl);refine Oper.wpIn_mono (LastI.wrap hz (show 3 ≠ 8 by decide)) ?_;show Oper.wpIn _ _ _ _ _ _ (fun a' w' => Kt.RcI _ (listed.setIfInBounds 3 true) a' w') _;refine Kt.opIn_of_op (fun c => by simp) ?_;have f3:act.tmps[3]?.getD undef = .pointer (some ⟨H + 1,0,none⟩):=(Kt.val_get act 3).symm.trans (hI.frame.val_out (s:=3) (show 3 ∉ pclS by decide));have hk:=hI.pure_step ok (fun _ hi => (List.not_mem_nil hi).elim) (Nat.le_of_ble_eq_true rfl) hn (j:=3) (s:=21) (v:=.int .i64 (i:Int)) rfl rfl;obtain rfl:w2 = W1.drew:=hI.before (j:=3) rfl hn;refine Kt.op_opq hk ?_;clear hk;intro KK hkk;unfold Oper.wp;go_simp;exact hkk
    · cases Option.some.inj ho;have hz:=hL.open_ (j:=4) (Nat.le_of_ble_eq_true rfl) hn;have hI:=hL.a hz;have ok:=pcl_ok hI (Nat.le_of_ble_eq_true rfl);refine Oper.wpIn_mono (LastI.wrap hz (show 4 ≠ 8 by decide)) ?_;show Oper.wpIn _ _ _ _ _ _ (fun a' w' => Kt.RcI _ (listed.setIfInBounds 4 true) a' w') _;refine Kt.opIn_of_op (fun c => by simp) ?_;have e3:act.tmps[21]?.getD undef = .int .i64 (i:Int):=(Kt.val_get act 21).symm.trans (hI.pure 3 _ (Nat.le_of_ble_eq_true rfl) rfl (hpre ⟨3,.data⟩ (by simp) rfl));have hk:=hI.pure_step ok (fun i hi => by have hi:=(show i ∈ ([3]:List Nat) from hi);simp only [List.mem_cons,List.not_mem_nil,or_false] at hi;rcases hi with rfl <;> first | exact hpre ⟨3,.data⟩ (by simp) rfl) (Nat.le_of_ble_eq_true rfl) hn (j:=4) (s:=22) (v:=.int .i64 ((i:Int) + 1)) rfl rfl;obtain rfl:w2 = W1.drew:=hI.before (j:=4) rfl hn;have hwrap:IntKind.i64.wrap ((i:Int) + 1) = (i:Int) + 1:=IntWalk.i64_in _ (by omega);refine Kt.op_opq hk ?_;clear hk;intro KK hkk;unfold Oper.wp;go_simp;exact hkk
    · cases Option.some.inj ho;have hz:=hL.open_ (j:=5) (Nat.le_of_ble_eq_true rfl) hn;have hI:=hL.a hz;have ok:=pcl_ok hI (Nat.le_of_ble_eq_true rfl);refine Oper.wpIn_mono (LastI.wrap hz (show 5 ≠ 8 by decide)) ?_;show Oper.wpIn _ _ _ _ _ _ (fun a' w' => Kt.RcI _ (listed.setIfInBounds 5 true) a' w') _;refine Kt.opIn_of_op (fun c => by simp) ?_;have f4:act.tmps[4]?.getD undef = .pointer (some ⟨H + 2,0,none⟩):=(Kt.val_get act 4).symm.trans (hI.frame.val_out (s:=4) (show 4 ∉ pclS by decide));have hk:=hI.pure_step ok (fun _ hi => (List.not_mem_nil hi).elim) (Nat.le_of_ble_eq_true rfl) hn (j:=5) (s:=23) (v:=.int .i64 (j:Int)) rfl rfl;obtain rfl:w2 = W1.drew:=hI.before (j:=5) rfl hn;refine Kt.op_opq hk ?_;clear hk;intro KK hkk;unfold Oper.wp;go_simp;exact hkk
    · cases Option.some.inj ho;have hz:=hL.open_ (j:=6) (Nat.le_of_ble_eq_true rfl) hn;have hI:=hL.a hz;have ok:=pcl_ok hI (Nat.le_of_ble_eq_true rfl);refine Oper.wpIn_mono (LastI.wrap hz (show 6 ≠ 8 by decide)) ?_;show Oper.wpIn _ _ _ _ _ _ (fun a' w' => Kt.RcI _ (listed.setIfInBounds 6 true) a' w') _;refine Kt.opIn_of_op (fun c => by simp) ?_;have e0:act.tmps[18]?.getD undef = .pointer (some ⟨X.bc,0,none⟩):=(Kt.val_get act 18).symm.trans (hI.pure 0 _ (Nat.le_of_ble_eq_true rfl) rfl (hpre ⟨0,.data⟩ (by simp) rfl));have e2:act.tmps[20]?.getD undef = .int .i64 (m:Int):=(Kt.val_get act 20).symm.trans (hI.pure 2 _ (Nat.le_of_ble_eq_true rfl) rfl (hpre ⟨2,.data⟩ (by simp) rfl));have e4:act.tmps[22]?.getD undef = .int .i64 ((i:Int) + 1):=(Kt.val_get act 22).symm.trans (hI.pure 4 _ (Nat.le_of_ble_eq_true rfl) rfl (hpre ⟨4,.data⟩ (by simp) rfl));have e5:act.tmps[23]?.getD undef = .int .i64 (j:Int):=(Kt.val_get act 23).symm.trans (hI.pure 5 _ (Nat.le_of_ble_eq_true rfl) rfl (hpre ⟨5,.data⟩ (by simp) rfl));obtain rfl:w2 = W1.drew:=hI.world (Kt.getD_no hn);have hcs:=fun r w3 hR => hI.call_step (r:=r) (w':=w3) (s:=24) ok (j:=6) (fun i hi => by have hi:=(show i ∈ ([0,2,4,5]:List Nat) from hi);simp only [List.mem_cons,List.not_mem_nil,or_false] at hi;rcases hi with rfl | rfl | rfl | rfl <;> first | exact hpre ⟨0,.data⟩ (by simp) rfl | exact hpre ⟨2,.data⟩ (by simp) rfl | exact hpre ⟨4,.data⟩ (by simp) rfl | exact hpre ⟨5,.data⟩ (by simp) rfl) rfl hn rfl (fun i hi => by rcases i with _ | _ | _ | _ | _ | _ | _ | _ | _ | i;exact hpre ⟨0,.data⟩ (by simp) rfl;exact hI.cl 2 1 (hpre ⟨2,.data⟩ (by simp) rfl) (show 1 ∈ ([1]:List Nat) by simp);exact hpre ⟨2,.data⟩ (by simp) rfl;exact hI.cl 4 3 (hpre ⟨4,.data⟩ (by simp) rfl) (show 3 ∈ ([3]:List Nat) by simp);exact hpre ⟨4,.data⟩ (by simp) rfl;exact hpre ⟨5,.data⟩ (by simp) rfl;exact absurd (show false = true from hi) (by decide);exact absurd (show false = true from hi) (by decide);exact absurd (show false = true from hi) (by decide);exact absurd (show false = true from hi) (by decide)) hR
      revert hcs
      generalize hGG:(fun a' w' => Kt.RcI _ (listed.setIfInBounds 6 true) a' w') = GG;intro hcs;replace hcs:∀ r w3,_ → GG (act.put (some 24) r) w3:=fun r w3 hR => by rw [← hGG];exact hcs r w3 hR
      clear hGG;unfold Oper.wp;go_simp;refine HMK.out.mono ?_;rintro e w3 ⟨rfl,hb3,hp3,hs3⟩;exact hcs _ w3 ⟨rfl,hb3,hp3,hs3⟩
    · cases Option.some.inj ho;have hz:=hL.open_ (j:=7) (Nat.le_of_ble_eq_true rfl) hn;have hI:=hL.a hz;have ok:=pcl_ok hI (Nat.le_of_ble_eq_true rfl);refine Oper.wpIn_mono (LastI.wrap hz (show 7 ≠ 8 by decide)) ?_;show Oper.wpIn _ _ _ _ _ _ (fun a' w' => Kt.RcI _ (listed.setIfInBounds 7 true) a' w') _;refine Kt.opIn_of_op (fun c => by simp) ?_;have f5:act.tmps[5]?.getD undef = .pointer (some ⟨W.heap.size,0,none⟩):=(Kt.val_get act 5).symm.trans (hI.frame.val_out (s:=5) (show 5 ∉ pclS by decide));have hk:=hI.pure_step ok (fun _ hi => (List.not_mem_nil hi).elim) (Nat.le_of_ble_eq_true rfl) hn (j:=7) (s:=25) (v:=.func (.yield l) #[] #[]) rfl rfl;have hyw:w2.cell? ⟨W.heap.size,0,none⟩ = some (.func (.yield l) #[] #[]):=by
        cases hq:listed.getD 6 false with
        | false => rw [hI.world hq];exact hyb
        | true =>
          obtain ⟨_,⟨_,hb9,_⟩,_⟩:=hI.res hq;exact (hb9.cell (p:=⟨W.heap.size,0,none⟩) (by have:=hs1.out;show W.heap.size < _;omega)).trans hyb
      refine Kt.op_opq hk ?_;clear hk;intro KK hkk;unfold Oper.wp;go_simp;exact hkk
    · cases Option.some.inj ho;have hz:=hL.open_ (j:=8) (Nat.le_of_ble_eq_true rfl) hn;have hI:=hL.a hz;have h6:=hpre ⟨6,.data⟩ (by simp) rfl;have h7:=hpre ⟨7,.data⟩ (by simp) rfl;obtain ⟨rv,⟨hrv,hb4,hpb,hs4⟩,hv24,_⟩:=hI.res h6;have hclm:=hI.clm h6;subst hrv;have e24:act.tmps[24]?.getD undef = _:=(Kt.val_get act 24).symm.trans hv24;have e25:act.tmps[25]?.getD undef = .func (.yield l) #[] #[]:=(Kt.val_get act 25).symm.trans (hI.pure 7 _ (Nat.le_of_ble_eq_true rfl) rfl h7);have hall:∀ q,q < 9 → q ≠ 8 → listed.getD q false = true:=by
        intro q hq hq8;rcases q with _ | _ | _ | _ | _ | _ | _ | _ | _ | q
        all_goals first | exact h6 | exact h7 | exact hclm _ rfl | omega
      have hb4w:Below W1.heap.size W1 w2:=⟨hb4.os,hb4.tape,hb4.output,hb4.size,hb4.block⟩;have hch4:Ch0 X W1 w2:=Ch0.of_below hb4w;have hch14:Ch0 X W w2:=Kt.Ch.trans hch1 hch4 (fun _ e => .inl e);have hst4:Kt.St W.heap.size X.b1 X.b2 M W w2:=⟨hch14.ext,fun q hq _ h1 h2 => hch14.same q hq (fun e => e) h1 h2⟩;have hwsz:=hch14.ext.size;have hC4:Cht X w2:=hC1.on hch4;have hM4:Memo X N M w2:=(hInv.below hB1).below hb4w;have h1w:=hs1.out;have HITR:=IH W1.heap.size w2 hC4 hpb (fun q hq => ⟨(hnew _ (by omega)).1,(hnew _ (by omega)).2,by omega⟩) l (nn - 1) J Jx M w2 (fun q hq => Nat.lt_of_lt_of_le (hMlt q hq) hwsz) (fun q hq => ⟨by
        rcases hq with hq | hq
        · exact (HKN.out q (.inl hq)).1
        · intro e;have:=hMlt q e;omega,rfl⟩) (Nat.le_refl _) hM4 (fun pre M1 Wx Wy h1 h2 => HJ.out _ _ _ _ h1 (h2.less hwsz (fun _ e => e))) (fun pre M1 Wx Wy h1 h2 => HJX.out _ _ _ _ h1 (h2.less hwsz (fun _ e => e))) HR.out (HJ.out _ _ _ _ hJ0 hst4)
      refine Kt.op_callv (ro:=none) rfl e24 e25 (enters_of Try.func61 (by kernel_rfl) rfl) HITR ?_;rintro e w5 ⟨M2,⟨u,rfl⟩,hm2,hc2,hs2,hend⟩;refine ⟨u,rfl,LastI.fin hL.size (Kt.Fr.put hL.fr (s:=26) (show 26 ∈ pclS by decide) u) (Nat.le_of_ble_eq_true rfl) hall ⟨M2,hm2,Kt.Ch.trans (hch14.more (fun _ e => e.elim)) hc2 (fun _ e => .inl e),⟨fun q hq => ?_,hs2.lt⟩,hend⟩⟩;rcases hs2.old q hq with e | e
      · exact .inl e
      · exact .inr (by omega)
    · exfalso;simp at ho
  case hdone =>
    intro listed act w2 hL hr;have hI:LastI _ 8 _ listed act w2:=hL;have hup:=Kt.all_up (fun q o ho => by
      rcases q with _ | _ | _ | _ | _ | _ | _ | _ | _ | q
      all_goals first | (cases Option.some.inj ho;decide) | (exfalso;simp at ho)) hL.size hr
    obtain ⟨M2,hm2,hc2,hs2,hend⟩:=(hL.b (hup 8 (by decide))).1;rw [hL.fr.out];simp only [pclP,pclS,Kt.sets];generalize Kt.val act 18 = v18;generalize Kt.val act 19 = v19;generalize Kt.val act 20 = v20;generalize Kt.val act 21 = v21;generalize Kt.val act 22 = v22;generalize Kt.val act 23 = v23;generalize Kt.val act 24 = v24;generalize Kt.val act 25 = v25;generalize Kt.val act 26 = v26;simp only [List.setIfInBounds_toArray,List.set_cons_zero,List.set_cons_succ];have HM2:=Lib.hid hm2;have HE2:=Lib.hid hend;clear hI hup hL hr hm2 hend
    gi_wp2_with fail
    refine bodyPost_ret (results_none rfl _ _ _) rfl ?_;exact ⟨M2,⟨_,rfl⟩,HM2.out,hc2,hs2,HE2.out⟩
end Go.Proofs.Ytdbfiflmeiidjaa
end
section
/- All iterators of trees and of parts. -/
namespace Go.Proofs.Ytdbfiflmeiidjaa
open Go Go.RowKit
variable {X:ChX} {ρ:Int → Nat} {N:Nat}
theorem all_it (hX:ChG X ρ) (hE:ChE X):∀ f:Nat,
    (∀ s i j:Nat,s < 64 → i ≤ j → j ≤ X.tk.length → j - i ≤ N → (j - i) * 130 + 2 * ρ (s:Int) + 1 ≤ f → TreesIt X N s i j) ∧
    (∀ (n:Nat) (l:List Gr.Item) (i j:Nat),Gr.Ends X.E n l → (∀ x ∈ l,0 ≤ x.sym ∧ x.sym < 64) → l.length ≤ 8 → i ≤ j → j ≤ X.tk.length → j - i ≤ N → 0 < Gr.ways X.g (hitf X.tk) N l i j → (j - i) * 130 + rk ρ l ≤ f → PartsIt X N n l i j):=by
  intro f
  induction f with
  | zero =>
    refine ⟨fun s i j _ _ _ _ h => by omega,fun n l i j hn hl h8 hij hj hN hw h => ?_⟩;cases hn with
    | nil =>
      obtain rfl:i = j:=by omega
      exact parts_nil i hE.eok.zero
    | cons h1 h2 h3 h4 =>
      rw [ways_short _ i j (by simp;omega)] at hw;omega
  | succ f ih =>
    obtain ⟨ih1,ih2⟩:=ih;refine ⟨fun s i j hs hij hj hN h => ?_,fun n l i j hn hl h8 hij hj hN hw h => ?_⟩
    · refine trees_step hX hE s i j hs hij hj hN fun r hr hw => ?_
      obtain ⟨hr1,hr2⟩:=Gr.mem_rulesOf.1 hr;obtain ⟨_,_,hr5,hr6⟩:=(hX.ok r hr1).parts;refine ih2 _ _ i j (hE.nbE r hr1) (fun x hx => (hr6 x hx).1) hr5 hij hj hN hw ?_;have hk:rk ρ (Gr.rul X.g r).right ≤ 2 * ρ (s:Int):=by
        unfold rk;split
        · rename_i x hx;split
          · rename_i hc;have:=hX.R.dec r hr1 x hx hc;rw [hr2] at this;omega
          · omega
        · omega
      omega
    · cases hn with
      | nil =>
        have hij2:i = j:=by
          rcases Nat.lt_or_ge i j with hlt | hge
          · exfalso;unfold Gr.ways at hw;rw [Gr.len_nil,if_neg (by omega)] at hw;omega
          · omega
        subst hij2;exact parts_nil i hE.eok.zero
      | cons h1 h2 h3 h4 =>
        rename_i m x l';obtain ⟨cx,sx⟩:=x;have h8':l'.length + 1 ≤ 8:=by simpa using h8
        have hm5:m < X.E.length:=h4.lt hE.eok;obtain ⟨hx0,hx1⟩:=hl ⟨cx,sx⟩ (by simp);have hl':∀ x ∈ l',0 ≤ x.sym ∧ x.sym < 64:=fun x hx => hl x (by simp [hx])
        have hlen:i + (l'.length + 1) ≤ j:=by
          rcases Nat.lt_or_ge j (i + (l'.length + 1)) with hlt | hge
          · rw [ways_short _ i j (by simpa using hlt)] at hw;omega
          · exact hge
        have hkl:=rk_le hX.R.le l';have hj30:j ≤ 40:=by have:=hX.tkl;omega
        by_cases hc:cx = 0
        · subst hc;obtain ⟨sn,rfl⟩:∃ sn:Nat,sx = (sn:Int):=⟨sx.toNat,by simp only at hx0;omega⟩;have hsn64:sn < 64:=by simp only at hx1;omega
          refine parts_sym hX hE n i j m (l'.length + 1) sn l' hm5 h3 rfl h8' hj hlen hN h4 hl' (fun p hp1 hp2 => ?_) (fun p hp1 hp2 hw2 => ?_)
          · refine ih1 sn i p hsn64 (by omega) (by omega) (by omega) ?_;by_cases hl0:l' = []
            · subst hl0;have hrk:rk ρ [(⟨0,(sn:Int)⟩:Gr.Item)] = 2 * ρ (sn:Int) + 2:=by
                unfold rk;simp
              rw [hrk] at h;have:(p - i) * 130 ≤ (j - i) * 130:=Nat.mul_le_mul_right _ (by simp at hp2;omega);omega
            · have hp:0 < l'.length:=List.length_pos_iff.2 hl0;have:=hX.R.le (sn:Int);have:(p - i + 1) * 130 ≤ (j - i) * 130:=Nat.mul_le_mul_right _ (by omega);omega
          · refine ih2 m l' p j h4 hl' (by omega) (by omega) hj (by omega) hw2 ?_;have:(j - p + 1) * 130 ≤ (j - i) * 130:=Nat.mul_le_mul_right _ (by omega);omega
        · have hhit:hitf X.tk i cx = true:=by
            cases hh:hitf X.tk i cx with
            | true => rfl
            | false =>
              exfalso;unfold Gr.ways at hw;rw [Gr.len_miss (hitf X.tk) _ (x:=⟨cx,sx⟩) hc hh] at hw;simp at hw
          have hwe:Gr.ways X.g (hitf X.tk) N (⟨cx,sx⟩ :: l') i j = Gr.ways X.g (hitf X.tk) N l' (i + 1) j:=by
            unfold Gr.ways;rw [Gr.len_hit (hitf X.tk) _ (x:=⟨cx,sx⟩) hc (by omega) hhit]
          rw [hwe] at hw;refine parts_class n i j m (l'.length + 1) cx sx l' hm5 h3 ⟨by omega,h8'⟩ hj30 (by omega) hc hhit ?_;refine ih2 m l' (i + 1) j h4 hl' (by omega) (by omega) hj (by omega) hw ?_;have:(j - (i + 1) + 1) * 130 ≤ (j - i) * 130:=Nat.mul_le_mul_right _ (by omega);omega
theorem trees_any (hX:ChG X ρ) (hE:ChE X) (s i j:Nat) (hs:s < 64) (hij:i ≤ j) (hj:j ≤ X.tk.length) (hN:j - i ≤ N):TreesIt X N s i j:=(all_it hX hE _).1 s i j hs hij hj hN (Nat.le_refl _)
end Go.Proofs.Ytdbfiflmeiidjaa
end
