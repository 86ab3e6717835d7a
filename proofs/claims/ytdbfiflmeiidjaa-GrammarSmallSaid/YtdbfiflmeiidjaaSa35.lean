/- Joined: DeA, VlA, ApK, LiA, LiR, LiD. -/
import Derived.Test.YtdbfiflmeiidjaaSa32
import Derived.Test.YtdbfiflmeiidjaaSa34
import Derived.Test.YtdbfiflmeiidjaaSa28
import Derived.Test.YtdbfiflmeiidjaaSa02
import Derived.Deep.AppendLies
import Derived.BigFrame
import Derived.Test.YtdbfiflmeiidjaaSa19
section
/- derives answers true: the program and the reference derive the same. -/
namespace Go.Proofs.Ytdbfiflmeiidjaa
open Go Go.RowKit
theorem derivs_small {g:List Gr.Rule} {tk:List Int} (hG:Gr.Good g):∀ t ∈ derivs g tk,Kt.Small t:=Gr.T_small (fun r hr => (hG.ok r hr).parts.2.2.1) _ _ _ _ _
theorem counts_len {g:List Gr.Rule} {tk:List Int} {nt:Nat} {c:Int} (hnt:tk.length = nt) (hk:Gr.Fit g nt ∨ 40 < nt) (hK:Gr.KCode g nt c):(Nt.limbs (if c = 0 then counts g tk else 0)).length ≤ 1024:=by
  by_cases h:c = 0
  · rw [if_pos h];obtain ⟨hG,h40⟩:=hK.good.1 h;obtain ⟨ρ,hR⟩:=hG.ranked;subst hnt;exact Gr.limbs_fit fun N hN => Gr.cnt_fit hR (by have:=hG.len;omega) (hitf tk) tk.length 0 0 tk.length (hk.resolve_right (by omega)) (by omega) (by omega) hN
  · rw [if_neg h,(Nt.len_zero_iff 0).2 rfl];omega
set_option maxRecDepth 100000 in
set_option maxHeartbeats 4000000 in
theorem derive_law (g:List Gr.Rule) (tk:List Int) (A:Option Addr) (n cp:Nat) (T:Option Addr) (nt ct:Nat) (w:World) (hl:g.length = n) (hn:n ≤ 1000) (hnt:tk.length = nt) (hnt2:nt ≤ 1000) (hk:Gr.Fit g nt ∨ 40 < nt)
    (h12:∀ r,r < g.length → (Gr.rul g r).right.length ≤ 1000) (hW:WfR g) (hg:Kt.Rules w w.heap.size A g) (ht:Kt.Ints w w.heap.size .u16 T tk) (most:Int) :
    Calls Try.prog 4 #[.slice A n cp,.slice T nt ct,.int .i64 most] w fun e w' => e = .returned (.bool true) ∧ Below w.heap.size w w':=by
  have HC:=Lib.hid (Count_any g tk A n cp T nt ct w hl (by omega) hnt (by omega) hk hW hg ht);have HO:=Lib.hid (fun (w1:World) (hb:Below w.heap.size w w1) => other_any g A n cp w1 hl hn h12 (hg.on hb));have HRC:=Lib.hid (fun (w1:World) (hb:Below w.heap.size w w1) (A2:Option Addr) (c2:Nat) (hg2:Kt.Rules w1 w1.heap.size A2 g) (c0:Int) (hK:Gr.KCode g nt c0) => refCount_any g tk A2 n c2 T nt ct w1 hl (by omega) hnt hk hW hg2 (ht.on hb) hK);have HRE:=Lib.hid (fun (w1:World) (hb:Below w.heap.size w w1) => Recognise_any g tk A n cp T nt ct w1 hl (by omega) hnt (by omega) hk hW (hg.on hb) (ht.on hb));have HTR:=Lib.hid (fun (w1:World) (hb:Below w.heap.size w w1) (c0:Int) (hK:Gr.KCode g nt c0) => Trees_all g tk A n cp T nt ct w1 hl (by omega) hnt (by omega) hk hW (hg.on hb) (ht.on hb) hK most);have HRT:=Lib.hid (fun (w1:World) (hb:Below w.heap.size w w1) (A2:Option Addr) (c2:Nat) (hg2:Kt.Rules w1 w1.heap.size A2 g) (hcp:Caps w1 A2 g) (c0:Int) (hK:Gr.KCode g nt c0) => refTrees_any g tk A2 n c2 T nt ct w1 hl (by omega) hnt hk hW hg2 hcp (ht.on hb) hK most);have HLEN:=Lib.hid (fun (c:Int) (hK:Gr.KCode g nt c) => counts_len hnt hk hK);have HNT:=Lib.hid hnt;clear hl hnt hk h12 hW hg ht;go_enter Try.func4,Try.ntmps4;go_wp2_with fail;refine HC.out.mono ?_;rintro e w1 ⟨hb1,v1,c,rfl,hK,hv1⟩;rw [HNT.out] at hK;have hx1:=HLEN.out c hK;have HK:=Lib.hid hK;obtain ⟨x,hx⟩:∃ x,Hid ((if c = 0 then counts g tk else 0) = x):=⟨_,Lib.hid rfl⟩;rw [hx.out] at hv1 hx1;have HV1:=Lib.hid hv1;have HX1:=Lib.hid hx1;have HB1:=Lib.hid hb1;clear hv1 hK hx1 HC HLEN;go_wp2_with fail;refine (HO.out w1 hb1).mono ?_;rintro e w2 ⟨hb2,A2,c2,rfl,hR2,_⟩;have hb2':Below w.heap.size w w2:=hb1.trans (hb2.mono hb1.size);have HR2:=Lib.hid hR2;have HV2:=Lib.hid (HV1.out.on hb2);clear hR2;go_wp2_with fail;refine (HRC.out w2 hb2' A2 c2 HR2.out c HK.out).mono ?_;rintro e w3 ⟨hb3,v2,rfl,hv2⟩;rw [hx.out] at hv2;have hb3':Below w.heap.size w w3:=hb2'.trans (hb3.mono hb2'.size);have HV3:=Lib.hid (HV2.out.on hb3);have HU3:=Lib.hid hv2;clear hv2 HR2 HV2 HV1;go_wp2_with fail;refine (HRE.out w3 hb3').mono ?_;rintro e w4 ⟨hb4,b,d,rfl,hKd,hbd⟩;rw [HNT.out] at hKd;obtain rfl:c = d:=HK.out.uniq hKd;have hb4':Below w.heap.size w w4:=hb3'.trans (hb4.mono hb3'.size);have HV4:=Lib.hid (HV3.out.on hb4);have HU4:=Lib.hid (HU3.out.on hb4);have HSN:=Lib.hid (same_num HV4.out HU4.out (by have:=HX1.out;omega));have hxx:decide (x = x) = true:=by simp
  obtain ⟨Au,cu,hvu,_⟩:=num_ok HU4.out;obtain ⟨LN,hLN⟩:∃ LN,Hid ((Nt.limbs x).length = LN):=⟨_,Lib.hid rfl⟩;rw [hLN.out] at hvu;subst hvu;have dLN:decide (0 < LN) = b:=by
    rw [hbd];have h1:=Nt.len_zero_iff x;rw [hLN.out] at h1;have h2:=hx.out;by_cases he:c = 0
    · rw [if_pos he] at h2;rw [h2];by_cases h0:LN = 0
      · have:=h1.1 h0;simp [h0,this]
      · have h3:x ≠ 0:=fun e => h0 (h1.2 e)
        rw [decide_eq_true (show 0 < LN by omega),decide_eq_true ⟨he,Nat.pos_of_ne_zero h3⟩]
    · rw [if_neg he] at h2;have h0:=h1.2 h2.symm;simp [h0,he]
  have hcc:(c != c) = false:=by simp
  have hbb:(b != b) = false:=by simp
  clear hKd hbd HV3 HU3 hxx HV4 HU4;go_wp2_with fail;refine HSN.out.mono ?_;rintro e w5 ⟨rfl,hb5⟩;have hb5':Below w.heap.size w w5:=hb4'.trans (hb5.mono hb4'.size);rw [show decide True = true from rfl];clear HSN;go_wp2_with fail;refine (HTR.out w5 hb5' c HK.out).mono ?_;rintro e w6 ⟨hb6,v6,rfl,hv6⟩;have hb6':Below w.heap.size w w6:=hb5'.trans (hb6.mono hb5'.size);have HSM:Hid (∀ t ∈ (if most2 c most = 0 then (derivs g tk).take most.toNat else []),Kt.Small t):=Lib.hid (by
    by_cases h:most2 c most = 0
    · rw [if_pos h];intro t ht;have hc0:c = 0:=by
        unfold most2 at h;by_cases he:c ≠ 0
        · rw [if_pos he] at h;exact absurd h he
        · omega
      exact derivs_small (HK.out.good.1 hc0).1 t (List.mem_of_mem_take ht)
    · rw [if_neg h];intro t ht;cases ht)
  have hL2:(if most2 c most = 0 then (derivs g tk).take most.toNat else []).length ≤ 200:=by
    by_cases h:most2 c most = 0
    · rw [if_pos h,List.length_take];unfold most2 at h;by_cases he:c ≠ 0
      · rw [if_pos he] at h;exact absurd h he
      · rw [if_neg he] at h;by_cases hm:most < 0 ∨ 200 < most
        · rw [if_pos hm] at h;cases h
        · omega
    · rw [if_neg h];exact Nat.zero_le _
  obtain ⟨L,hL⟩:∃ L,Hid ((if most2 c most = 0 then (derivs g tk).take most.toNat else []) = L):=⟨_,Lib.hid rfl⟩;obtain ⟨m2,hm2⟩:∃ m2,Hid (most2 c most = m2):=⟨_,Lib.hid rfl⟩;rw [hL.out] at hv6 HSM hL2;rw [hm2.out];have HV6:=Lib.hid hv6;clear hv6 hx;go_wp2_with fail;refine (HO.out w6 hb6').mono ?_;rintro e w7 ⟨hb7,A7,c7,rfl,hR7,hC7⟩;have hb7':Below w.heap.size w w7:=hb6'.trans (hb7.mono hb6'.size);have HR7:=Lib.hid hR7;have HC7:=Lib.hid hC7;have HV7:=Lib.hid (HV6.out.below hb7);clear hR7 hC7 HV6;go_wp2_with fail;refine (HRT.out w7 hb7' A7 c7 HR7.out HC7.out c HK.out).mono ?_;rintro e w8 ⟨hb8,u8,rfl,hu8⟩;rw [hL.out] at hu8;rw [hm2.out];have hb8':Below w.heap.size w w8:=hb7'.trans (hb8.mono hb7'.size);have hv8:=HV7.out.below hb8;obtain ⟨A5,c5,rfl⟩:=hv8.shape;obtain ⟨A6,c6,rfl⟩:=hu8.shape;obtain ⟨ll,hll⟩:∃ ll,Hid (L.length = ll):=⟨_,Lib.hid rfl⟩;rw [hll.out] at hv8 hu8 hL2 ⊢;have HV8:=Lib.hid hv8;have HU8:=Lib.hid hu8;have hmm:(m2 != m2) = false:=by simp
  have hln:((ll:Int) != ll) = false:=by simp
  clear hv8 hu8 HR7 HC7 HV7 HRT HTR HO HRE HRC HB1 HX1;go_wp2_with fail;go_loopw [15] (fun s wr => ∃ q:Nat,q ≤ ll ∧ s = .int .i64 q ∧ Below w8.heap.size w8 wr) (fun s _ => ll - (intOf s).toNat)
  case atStart => exact ⟨0,Nat.zero_le _,rfl,Below.refl _ _⟩
  case round =>
    obtain ⟨q,hq,rfl,hbl⟩:=hrel;rename World => wl
    have hbl':Below w.heap.size w wl:=hb8'.trans (hbl.mono hb8'.size);by_cases hlt:q < ll
    · have dq:decide ((q:Int) < ll) = true:=by simp;omega
      have hql:q < L.length:=by rw [hll.out];exact hlt
      have HVL:=Lib.hid (HV8.out.below hbl);have HUL:=Lib.hid (HU8.out.below hbl);obtain ⟨bs,os,x0,x1,x2,x3,rfl,hbs,_,hcell,hte⟩:=HVL.out.at2 hql;obtain ⟨bt,ot,y0,y1,y2,y3,rfl,hbt,_,hcelt,htu⟩:=HUL.out.at2 hql;have hft:=HSM.out (L.getD q Kt.noTr) (by
        rw [List.getD_eq_getElem?_getD,List.getElem?_eq_getElem hql];exact List.getElem_mem _)
      obtain ⟨tt,htt⟩:∃ tt,Hid (L.getD q Kt.noTr = tt):=⟨_,Lib.hid rfl⟩;rw [htt.out] at hte htu hft;obtain ⟨a0,a1,a2,At,nt4,ct4,hve⟩:=tv_form hte;injection hve with hve;injection hve with hve;simp only [List.cons.injEq,and_true] at hve;obtain ⟨rfl,rfl,rfl,rfl⟩:=hve;obtain ⟨b0,b1,b2,Bt,nt5,ct5,hvf⟩:=tv_form htu;injection hvf with hvf;injection hvf with hvf;simp only [List.cons.injEq,and_true] at hvf;obtain ⟨rfl,rfl,rfl,rfl⟩:=hvf;have z0:wl.cell? ⟨bs,os + q * 4,none⟩ = some (.int .i64 a0):=hcell 0 (by omega);have z1:wl.cell? ⟨bs,os + q * 4 + 1,none⟩ = some (.int .i64 a1):=hcell 1 (by omega);have z2:wl.cell? ⟨bs,os + q * 4 + 2,none⟩ = some (.int .i64 a2):=hcell 2 (by omega);have z3:wl.cell? ⟨bs,os + q * 4 + 3,none⟩ = some (.slice At nt4 ct4):=hcell 3 (by omega);have y0:wl.cell? ⟨bt,ot + q * 4,none⟩ = some (.int .i64 b0):=hcelt 0 (by omega);have y1:wl.cell? ⟨bt,ot + q * 4 + 1,none⟩ = some (.int .i64 b1):=hcelt 1 (by omega);have y2:wl.cell? ⟨bt,ot + q * 4 + 2,none⟩ = some (.int .i64 b2):=hcelt 2 (by omega);have y3:wl.cell? ⟨bt,ot + q * 4 + 3,none⟩ = some (.slice Bt nt5 ct5):=hcelt 3 (by omega);have HTE:=Lib.hid hte;have HCALL:=Lib.hid (rtree_any tt _ _ wl.drew hft (htu.keep (W':=wl.drew) fun _ _ _ => rfl));have hbsw:bs < wl.heap.size:=hbs;clear hcell hcelt hte htu hft HVL HUL;go_upto_region 13 with fail
      go_region_law (first
        | (refine law_fn (.call { callee:=.value (.func 18),args:=#[.tmp 94],argTypes:=#[60] }) rfl rfl 95 (fun w v w3 => Below wl.heap.size wl w3 ∧ ∃ d0 d1 d2 A5 n5 c5,v = .agg #[.int .i64 d0,.int .i64 d1,.int .i64 d2,.slice A5 n5 c5] ∧ Hid (Kt.TV w3 (fun k => k < wl.heap.size) tt v)) ?_ ?_
           · intro KK hkk;unfold Oper.wp;go_simp;refine HCALL.out.mono ?_;rintro e w9 ⟨hb9,v',rfl,ht9⟩;obtain ⟨d0,d1,d2,A5,n5,c5,he⟩:=tv_form ht9;exact hkk _ _ ⟨(Below.refl wl.heap.size wl).drew.trans hb9,d0,d1,d2,A5,n5,c5,he,Lib.hid ht9⟩
           rintro _ w9 ⟨hb9,d0,d1,d2,A8,n8,c8,rfl,HT9⟩;have z09:w9.cell? ⟨bs,os + q * 4,none⟩ = some (.int .i64 a0):=(hb9.cell (p:=⟨bs,os + q * 4,none⟩) hbsw).trans z0;have z19:w9.cell? ⟨bs,os + q * 4 + 1,none⟩ = some (.int .i64 a1):=(hb9.cell (p:=⟨bs,os + q * 4 + 1,none⟩) hbsw).trans z1;have z29:w9.cell? ⟨bs,os + q * 4 + 2,none⟩ = some (.int .i64 a2):=(hb9.cell (p:=⟨bs,os + q * 4 + 2,none⟩) hbsw).trans z2;have z39:w9.cell? ⟨bs,os + q * 4 + 3,none⟩ = some (.slice At nt4 ct4):=(hb9.cell (p:=⟨bs,os + q * 4 + 3,none⟩) hbsw).trans z3)
        | (refine law_fn (.call { callee:=.value (.func 17),args:=#[.tmp 90,.tmp 95],argTypes:=#[57,57] }) rfl rfl 96 (fun w v w3 => v = .bool true ∧ Below wl.heap.size wl w3) ?_ ?_
           · intro KK hkk;unfold Oper.wp;go_simp;refine (same_any tt _ _ _ _ w9 (HTE.out.keep (W':=w9) fun p hp _ => hb9.block p hp) HT9.out).mono ?_;rintro e w10 ⟨rfl,hb10⟩;exact hkk _ _ ⟨rfl,hb9.trans (hb10.mono hb9.size)⟩
           rintro _ w10 ⟨rfl,hb10⟩))
      all_goals
        have hbz:Below w8.heap.size w8 w10:=hbl.trans (hb10.mono hbl.size);clear z0 z1 z2 z3 y0 y1 y2 y3 HT9 hb9;go_wp2_with fail;go_roundw
        case rel => exact ⟨q + 1,by omega,by go_num,hbz⟩
        case measure => simp [intOf];omega
    · obtain rfl:q = ll:=by omega
      go_wp2_with fail;go_ret;exact ⟨rfl,hbl'⟩
end Go.Proofs.Ytdbfiflmeiidjaa
end
section
/- valid answers true: the program and the reference say the same of a grammar. -/
namespace Go.Proofs.Ytdbfiflmeiidjaa
open Go Go.RowKit
set_option maxHeartbeats 1000000 in
theorem valid_any (g:List Gr.Rule) (A:Option Addr) (n cp:Nat) (w:World) (hl:g.length = n) (hn:n ≤ 1000) (h12:∀ r,r < g.length → (Gr.rul g r).right.length ≤ 1000) (hW:WfR g) (hg:Kt.Rules w w.heap.size A g) :
    Calls Try.prog 27 #[.slice A n cp] w fun e w' => e = .returned (.bool true) ∧ Below w.heap.size w w':=by
  have HV:=Lib.hid (Valid_any g A n cp w hl (by omega) hg);have HL:=Lib.hid hl;have HW:=Lib.hid hW;have HG:=Lib.hid hg;have H12:=Lib.hid h12;clear hl hW hg h12;go_enter Try.func27,Try.ntmps27;go_wp2_with fail;refine HV.out.mono ?_;rintro e w3 ⟨hb3,c,rfl,hc⟩;have HC:=Lib.hid hc;clear hc HV;go_wp2_with fail;refine (other_any g A n cp w3 HL.out (by omega) H12.out (HG.out.on hb3)).mono ?_;rintro e w4 ⟨hb4,A4,c4,rfl,hR4,_⟩;have hb4':Below w.heap.size w w4:=hb3.trans (hb4.mono hb3.size);have HR4:=Lib.hid hR4;clear hR4;go_wp2_with fail;refine (refValid_any g A4 n c4 w4 HL.out (by omega) HW.out HR4.out).mono ?_;rintro e w5 ⟨hb5,d,rfl,hd⟩;have hb5':Below w.heap.size w w5:=hb4'.trans (hb5.mono hb4'.size);obtain rfl:c = d:=HC.out.ref.uniq hd;have hcc:(c == c) = true:=by simp
  clear hd;go_wp2_with fail;go_ret;exact ⟨rfl,hb5'⟩
end Go.Proofs.Ytdbfiflmeiidjaa
end
section
/- append onto a row of the call's own, behind which the old row still holds what it held. -/
namespace Kt
open Go
section
variable {P:Program} (w:World)
theorem run_append_keeps (t ty:TypeId) (base:Nat) (e:TypeId) (i:TypeInfo) (z:Value) (size bytes:Nat) (ht:P.underlying t = some (.slice e)) (hi:P.info? e = some i) (hz:i.zero = some z)
    (hsize:i.size = size) (hby:i.bytes = bytes) (hzs:z.cells.size = size) (hsz:0 < size)
    (v:Value) (n:Nat) (xs:List Value) (hown:w.ownsRow base e size v n xs)
    (ad:Addr) (m c:Nat) (news:List Value) (hl:news.length = m * size) (hnews:∀ j u,news[j]? = some u → w.cell? (ad.add j) = some u) (h1:∀ u ∈ news,u.oneCell' = true)
    (hm:0 < m) (h63:n + m ≤ maxLen) (hbytes:(n + m) * bytes ≤ 140737488355328) (hbase:base ≤ w.heap.size) (H:Nat) (hH:w.heap.size = H) :
    ∃ g cap w',(Builtin.append_ #[t,t] ty #[v,.slice (some ad) m c]).run P w = .ok (.slice (some ⟨g,0,none⟩) (n + m) cap) w' ∧
      w'.ownsRow base e size (.slice (some ⟨g,0,none⟩) (n + m) cap) (n + m) (xs ++ news) ∧ w.grownBy w' v.ownBlock ∧ (v.ownBlock = some g ∨ g = H) ∧ g < w'.heap.size ∧ w'.ownsRow base e size v n xs:=by
  obtain ⟨g,cap,w',hr,h2,h3,h4,h5⟩:=run_append_lies (P:=P) w t ty base e i z size bytes ht hi hz hsize hby hzs hsz v n xs hown ad m c news hl hnews h1 hm h63 hbytes hbase H hH;refine ⟨g,cap,w',hr,h2,h3,h4,h5,?_⟩;subst hsize;rcases hown.2 with ⟨rfl,rfl⟩ | ⟨g0,cap0,cur,rfl,hbg,hg,hnc,hcm,hcs,htake⟩
  · exact ⟨hown.1,.inl ⟨rfl,rfl⟩⟩
  · have hsmall:n + m ≤ 9223372036854775807:=by simp only [maxLen] at h63;omega
    by_cases hroom:n + m ≤ cap0
    · have hfit:n * i.size + news.length ≤ cur.size:=by rw [hl,hcs,← Nat.add_mul];exact Nat.mul_le_mul_right _ hroom
      have hr2:=run_append_room (P:=P) w t ty e i ht hi g0 n cap0 cur hg ad m c news hl hnews h1 hroom hfit;rw [hr] at hr2;injection hr2 with _ hw;subst hw;refine ⟨hown.1,.inr ⟨g0,cap0,_,rfl,hbg,setRow_heap w g0 cur _ e _ hg,hnc,hcm,?_,?_⟩⟩
      · simp only [List.size_toArray,List.length_append,List.length_take,List.length_drop,Array.length_toList];omega
      · rw [htake,List.append_assoc,← hown.1];exact List.take_left
    · have holds:∀ j u,xs[j]? = some u → w.cell? ((⟨g0,0,none⟩:Addr).add j) = some u:=hown.cells (g:=g0) rfl;have hr2:=run_append_grow (P:=P) w t ty e i z ht hi hz ⟨g0,0,none⟩ n cap0 xs hown.1 holds ad m c news hl hnews (by omega) (by omega) (growslice_fits (by omega) (by rw [hby];exact hbytes));rw [hr] at hr2;injection hr2 with _ hw;subst hw;exact hown.kept (row:=none) ⟨rfl,rfl,rfl,by simp,fun k hk h => (World.grownBy_alloc w.drew _ none).block k hk h⟩ (by simp [Value.ownBlock])
theorem wp_append_keeps {o:Oper} {a:Act} {K:Act → World → Prop} {Q:Exit → Act → World → Prop} (s x:Operand) (t:TypeId)
    (ho:o.op = .call { callee:=.builtin .append,args:=#[s,x],argTypes:=#[t,t] })
    (base:Nat) (e:TypeId) (i:TypeInfo) (z:Value) (size bytes:Nat) (ht:P.underlying t = some (.slice e)) (hi:P.info? e = some i) (hz:i.zero = some z)
    (hsize:i.size = size) (hby:i.bytes = bytes) (hzs:z.cells.size = size) (hsz:0 < size)
    (v:Value) (n:Nat) (xs:List Value) (hs:a.eval s = v) (hown:w.ownsRow base e size v n xs)
    (ad:Addr) (m c:Nat) (news:List Value) (hx:a.eval x = .slice (some ad) m c) (hl:news.length = m * size) (hnews:∀ j u,news[j]? = some u → w.cell? (ad.add j) = some u) (h1:∀ u ∈ news,u.oneCell' = true)
    (hm:0 < m) (h63:n + m ≤ maxLen) (hbytes:(n + m) * bytes ≤ 140737488355328) (hbase:base ≤ w.heap.size) (H:Nat) (hH:w.heap.size = H)
    (h:∀ g cap w',w'.ownsRow base e size (.slice (some ⟨g,0,none⟩) (n + m) cap) (n + m) (xs ++ news) → w.grownBy w' v.ownBlock → (v.ownBlock = some g ∨ g = H) → g < w'.heap.size → w'.ownsRow base e size v n xs → K (a.put o.dst (.slice (some ⟨g,0,none⟩) (n + m) cap)) w'):o.wp P a w K Q:=by
  obtain ⟨g,cap,w',hr,h2,h3,h4,h5,h6⟩:=run_append_keeps (P:=P) w t o.type base e i z size bytes ht hi hz hsize hby hzs hsz v n xs hown ad m c news hl hnews h1 hm h63 hbytes hbase H hH;unfold Oper.wp execOp;simp only [ho,resolve,invoke,builtin,Sem.run_bind,Sem.run_pure,Result.andThen_ok,List.map_toArray,List.map_cons,List.map_nil,hs,hx,hr];exact h g cap w' h2 h3 h4 h5 h6
theorem wpList_append_keeps {ops:Array Oper} {rest:List Oper} {o:Oper} {a:Act} {Q:Exit → Act → World → Prop} (hw:Region.wanted o (yielded ops a.tmps) = true) (s x:Operand) (t:TypeId)
    (ho:o.op = .call { callee:=.builtin .append,args:=#[s,x],argTypes:=#[t,t] })
    (base:Nat) (e:TypeId) (i:TypeInfo) (z:Value) (size bytes:Nat) (ht:P.underlying t = some (.slice e)) (hi:P.info? e = some i) (hz:i.zero = some z)
    (hsize:i.size = size) (hby:i.bytes = bytes) (hzs:z.cells.size = size) (hsz:0 < size)
    (v:Value) (n:Nat) (xs:List Value) (hs:a.eval s = v) (hown:w.ownsRow base e size v n xs)
    (ad:Addr) (m c:Nat) (news:List Value) (hx:a.eval x = .slice (some ad) m c) (hl:news.length = m * size) (hnews:∀ j u,news[j]? = some u → w.cell? (ad.add j) = some u) (h1:∀ u ∈ news,u.oneCell' = true)
    (hm:0 < m) (h63:n + m ≤ maxLen) (hbytes:(n + m) * bytes ≤ 140737488355328) (hbase:base ≤ w.heap.size) (H:Nat) (hH:w.heap.size = H)
    (h:∀ g cap w',w'.ownsRow base e size (.slice (some ⟨g,0,none⟩) (n + m) cap) (n + m) (xs ++ news) → w.grownBy w' v.ownBlock → (v.ownBlock = some g ∨ g = H) → g < w'.heap.size → w'.ownsRow base e size v n xs → wpList P ops Q rest (a.put o.dst (.slice (some ⟨g,0,none⟩) (n + m) cap)) w'):wpList P ops Q (o :: rest) a w :=
  BigFrame.wpList_want hw fun _ hK => wp_append_keeps w s x t ho base e i z size bytes ht hi hz hsize hby hzs hsz v n xs hs hown ad m c news hx hl hnews h1 hm h63 hbytes hbase H hH fun g cap w' h2 h3 h4 h5 h6 => hK _ _ (h g cap w' h2 h3 h4 h5 h6)
end
end Kt
end
section
/- What the limits' walk needs: rules made by the closure, rules of literals, a row of rules that grows, Right of no tree. -/
namespace Kt
open Go Go.RowKit
variable {w w':World} {B b:Nat} {A:Option Addr} {k c:Nat} {l:List Gr.Item} {ln cls sym:Int}
theorem Items.empty (w:World) (B:Nat) (A:Option Addr):Items w B A []:=fun h => by simp at h
theorem Items.one (hb:b < B) (h0:w.cell? ⟨b,0,none⟩ = some (.int .u16 cls)) (h1:w.cell? ⟨b,1,none⟩ = some (.int .i64 sym)):Items w B (some ⟨b,0,none⟩) [⟨cls,sym⟩]:=fun _ => ⟨b,0,rfl,hb,fun k hk => by
  have hk2:k < 1:=hk
  match k,hk2 with
  | 0,_ => exact ⟨h0,h1⟩⟩
theorem Rules.one (hb:b < B) (h0:w.cell? ⟨b,0,none⟩ = some (.int .i64 ln)) (h1:w.cell? ⟨b,1,none⟩ = some (.slice A k c)) (hk:l.length = k) (h63:k ≤ 1000) (hi:Items w B A l):Rules w B (some ⟨b,0,none⟩) [⟨ln,l⟩]:=fun _ => ⟨b,0,rfl,hb,fun r hr => by
  have hr2:r < 1:=hr;subst hk
  match r,hr2 with
  | 0,_ => exact ⟨h0,A,c,h1,Nat.le_trans h63 (by decide),hi⟩⟩
theorem Rules.two {A2:Option Addr} {k2 c2:Nat} {l2:List Gr.Item} {ln2:Int} (hb:b < B) (h0:w.cell? ⟨b,0,none⟩ = some (.int .i64 ln)) (h1:w.cell? ⟨b,1,none⟩ = some (.slice A k c)) (h2:w.cell? ⟨b,2,none⟩ = some (.int .i64 ln2)) (h3:w.cell? ⟨b,3,none⟩ = some (.slice A2 k2 c2))
    (hk:l.length = k) (h63:k ≤ 1000) (hi:Items w B A l) (hk2:l2.length = k2) (h632:k2 ≤ 1000) (hi2:Items w B A2 l2):Rules w B (some ⟨b,0,none⟩) [⟨ln,l⟩,⟨ln2,l2⟩]:=fun _ => ⟨b,0,rfl,hb,fun r hr => by
  have hr2:r < 2:=hr;subst hk hk2
  match r,hr2 with
  | 0,_ => exact ⟨h0,A,c,h1,Nat.le_trans h63 (by decide),hi⟩
  | 1,_ => exact ⟨h2,A2,c2,h3,Nat.le_trans h632 (by decide),hi2⟩⟩
theorem Rules.tail {A:Option Addr} {x:Gr.Rule} {g:List Gr.Rule} (h:Rules w B A (x :: g)):∃ b o,A = some ⟨b,o,none⟩ ∧ b < B ∧ Rules w B (some ⟨b,o + 2,none⟩) g:=by
  obtain ⟨b,o,e,hb,hc⟩:=h (by simp);refine ⟨b,o,e,hb,fun _ => ⟨b,o + 2,rfl,hb,fun r hr => ?_⟩⟩;have:=hc (r + 1) (by simpa using hr);rw [show o + (r + 1) * 2 = o + 2 + r * 2 from by omega] at this;exact this
theorem Items.far (h:Items w B A l) {q:Option Nat} (hA:0 < l.length → ∀ b o m,A = some ⟨b,o,m⟩ → q ≠ some b) (hk:∀ b,b < B → q ≠ some b → w'.heap[b]? = w.heap[b]?):Items w' B A l:=fun hn => by
  obtain ⟨b,o,e,hb,hc⟩:=h hn;have:=hk b hb (hA hn b o none e);exact ⟨b,o,e,hb,fun k hkl => ⟨(World.cell?_of_block (a:=⟨b,o + k * 2,none⟩) this).trans (hc k hkl).1,(World.cell?_of_block (a:=⟨b,o + k * 2 + 1,none⟩) this).trans (hc k hkl).2⟩⟩
end Kt
namespace Go.Proofs.Ytdbfiflmeiidjaa
open Go Go.RowKit
theorem rule_any (n:Int) (A:Option Addr) (k c:Nat) (w:World):Calls Try.prog 26 #[.int .i64 n,.slice A k c] w fun e w' => e = .returned (.agg #[.int .i64 n,.slice A k c]) ∧ Below w.heap.size w w':=by
  go_enter Try.func26,Try.ntmps26;go_wp2_with fail;exact bodyPost_ret (results_cell_row rfl _ _ w.heap.size 29 _ (0,0) _ rfl (Kt.Blk.new w _ _) Try.underlying29 rfl (by kernel_rfl)) rfl ⟨rfl,(Below.refl _ _).alloc (Nat.le_refl _) _⟩
theorem wfr_one {ln:Int} {l:List Gr.Item} (h:∀ x ∈ l,0 ≤ x.cls ∧ x.cls ≤ 65535):WfR [⟨ln,l⟩]:=fun r hr => by
  have hr2:r < 1:=hr
  match r,hr2 with
  | 0,_ => exact h
theorem wfr_two {ln ln2:Int} {l l2:List Gr.Item} (h:∀ x ∈ l,0 ≤ x.cls ∧ x.cls ≤ 65535) (h2:∀ x ∈ l2,0 ≤ x.cls ∧ x.cls ≤ 65535):WfR [⟨ln,l⟩,⟨ln2,l2⟩]:=fun r hr => by
  have hr2:r < 2:=hr
  match r,hr2 with
  | 0,_ => exact h
  | 1,_ => exact h2
theorem one_wf {cls sym:Int} (hc:0 ≤ cls ∧ cls ≤ 65535):∀ x ∈ ([⟨cls,sym⟩]:List Gr.Item),0 ≤ x.cls ∧ x.cls ≤ 65535:=fun x hx => by
  obtain rfl:x = ⟨cls,sym⟩:=by simpa using hx
  exact hc
theorem valid1 {w0 w5:World} {cls sym ln:Int} (hc:0 ≤ cls ∧ cls ≤ 65535) (hb:Below (w0.alloc (.cells #[.int .u16 cls,.int .i64 sym] 24)).heap.size (w0.alloc (.cells #[.int .u16 cls,.int .i64 sym] 24)) w5) :
    Calls Try.prog 27 #[.slice (some ⟨w5.heap.size,0,none⟩) 1 1] (w5.alloc (.cells #[.int .i64 ln,.slice (some ⟨w0.heap.size,0,none⟩) 1 1] 29)) fun e w' => e = .returned (.bool true) ∧ Below w0.heap.size w0 w':=by
  have k0:Kt.Blk (w0.alloc (.cells #[.int .u16 cls,.int .i64 sym] 24)) w0.heap.size 24 #[.int .u16 cls,.int .i64 sym]:=Kt.Blk.new _ _ _;have hs0:(w0.alloc (.cells #[.int .u16 cls,.int .i64 sym] 24)).heap.size = w0.heap.size + 1:=by simp
  have hs5:=hb.size;have k5:=(k0.below hb (by omega)).alloc (.cells #[.int .i64 ln,.slice (some ⟨w0.heap.size,0,none⟩) 1 1] 29);have k6:Kt.Blk (w5.alloc (.cells #[.int .i64 ln,.slice (some ⟨w0.heap.size,0,none⟩) 1 1] 29)) w5.heap.size 29 #[.int .i64 ln,.slice (some ⟨w0.heap.size,0,none⟩) 1 1]:=Kt.Blk.new _ _ _;have hs6:(w5.alloc (.cells #[.int .i64 ln,.slice (some ⟨w0.heap.size,0,none⟩) 1 1] 29)).heap.size = w5.heap.size + 1:=by simp
  have hb6:Below w0.heap.size w0 (w5.alloc (.cells #[.int .i64 ln,.slice (some ⟨w0.heap.size,0,none⟩) 1 1] 29)):=(((Below.refl _ _).alloc (Nat.le_refl _) _).trans (hb.mono (by omega))).alloc (by omega) _;refine (valid_any [⟨ln,[⟨cls,sym⟩]⟩] _ 1 1 _ rfl (by omega) (fun r hr => ?_) (wfr_one (one_wf hc)) (Kt.Rules.one (by omega) (k6.cell 0) (k6.cell 1) rfl (by omega) (Kt.Items.one (by omega) (k5.cell 0) (k5.cell 1)))).mono ?_
  · have hr2:r < 1:=hr
    match r,hr2 with
    | 0,_ => exact Nat.le_of_ble_eq_true rfl
  · rintro e w' ⟨rfl,h⟩;exact ⟨rfl,hb6.trans (h.mono (by omega))⟩
theorem valid00 {w5:World} {l1 l2:Int} :
    Calls Try.prog 27 #[.slice (some ⟨w5.heap.size,0,none⟩) 2 2] (w5.alloc (.cells #[.int .i64 l1,.slice none 0 0,.int .i64 l2,.slice none 0 0] 29)) fun e w' => e = .returned (.bool true) ∧ Below w5.heap.size w5 w':=by
  have k6:Kt.Blk (w5.alloc (.cells #[.int .i64 l1,.slice none 0 0,.int .i64 l2,.slice none 0 0] 29)) w5.heap.size 29 #[.int .i64 l1,.slice none 0 0,.int .i64 l2,.slice none 0 0]:=Kt.Blk.new _ _ _;have hs6:(w5.alloc (.cells #[.int .i64 l1,.slice none 0 0,.int .i64 l2,.slice none 0 0] 29)).heap.size = w5.heap.size + 1:=by simp
  refine (valid_any [⟨l1,[]⟩,⟨l2,[]⟩] _ 2 2 _ rfl (by omega) (fun r hr => ?_) (wfr_two (by simp) (by simp)) (Kt.Rules.two (by omega) (k6.cell 0) (k6.cell 1) (k6.cell 2) (k6.cell 3) rfl (by omega) (Kt.Items.empty _ _ _) rfl (by omega) (Kt.Items.empty _ _ _))).mono ?_
  · have hr2:r < 2:=hr
    match r,hr2 with
    | 0,_ => exact Nat.zero_le _
    | 1,_ => exact Nat.zero_le _
  · rintro e w' ⟨rfl,h⟩;exact ⟨rfl,((Below.refl _ _).alloc (Nat.le_refl _) _).trans (h.mono (by omega))⟩
structure AR (w:World) (base:Nat) (v:Value) (g:List Gr.Rule) (V:Nat → Value):Prop where
  own:w.ownsRow base 29 2 v g.length (flatV V g)
  its:∀ r,r < g.length → ∃ A c,V r = .slice A (Gr.rul g r).right.length c ∧ (Gr.rul g r).right.length ≤ 1000 ∧ Kt.Items w w.heap.size A (Gr.rul g r).right ∧ (0 < (Gr.rul g r).right.length → ∀ b o m,A = some ⟨b,o,m⟩ → v.ownBlock ≠ some b)
variable {w w2:World} {base:Nat} {v:Value} {g:List Gr.Rule} {V:Nat → Value}
theorem AR.nil (w:World) (base:Nat) (V:Nat → Value):AR w base (.slice none 0 0) [] V:=⟨World.ownsRow_nil _ _ _ _,fun r hr => by simp at hr⟩
theorem AR.below (h:AR w base v g V) (hb:Below w.heap.size w w2):AR w2 base v g V:=⟨Kt.ownsRow_keep h.own fun k hk => hb.block k (h.own.lt k hk).2,fun r hr => by
  obtain ⟨A,c,h1,h2,h3,h4⟩:=h.its r hr;exact ⟨A,c,h1,h2,h3.on hb,h4⟩⟩
theorem AR.shape (h:AR w base v g V):∃ A c,v = .slice A g.length c:=by
  rcases h.own.2 with ⟨rfl,h0⟩ | ⟨gb,cap,cur,rfl,_⟩
  · exact ⟨none,0,by rw [h0]⟩
  · exact ⟨_,cap,rfl⟩
theorem AR.rules {A:Option Addr} {n c:Nat} (h:AR w base (.slice A n c) g V):Kt.Rules w w.heap.size A g:=by
  rcases h.own.2 with ⟨e,h0⟩ | ⟨gb,cap,cur,e,hb,hcur,_⟩
  · exact fun hp => by omega
  · injection e with e1 e2 e3;subst e1;refine fun _ => ⟨gb,0,rfl,(h.own.lt gb rfl).2,fun r hr => ?_⟩
    have c0:=h.own.cells rfl (r * 2) _ (by have:=flatV_get V g r 0 hr (by omega);rw [Nat.add_zero] at this;rw [this];rfl);have c1:=h.own.cells rfl (r * 2 + 1) _ (by rw [flatV_get V g r 1 hr (by omega)];rfl);rw [Addr.add_lit] at c0 c1;obtain ⟨A',c',e,h63,hi,_⟩:=h.its r hr;rw [e] at c1;exact ⟨by simpa using c0,A',c',by simpa [Nat.add_assoc] using c1,Nat.le_trans h63 (by decide),hi⟩
theorem AR.len12 (h:AR w base v g V):∀ r,r < g.length → (Gr.rul g r).right.length ≤ 1000:=fun r hr => by
  obtain ⟨_,_,_,h63,_⟩:=h.its r hr;exact h63
theorem AR.grown (h:AR w base v g V) (hgr:w.grownBy w2 v.ownBlock) (hown:w2.ownsRow base 29 2 v g.length (flatV V g)):AR w2 base v g V:=⟨hown,fun r hr => by
  obtain ⟨A,c,h1,h2,h3,h4⟩:=h.its r hr;exact ⟨A,c,h1,h2,(h3.far h4 fun b hb hne => hgr.block b hb (Ne.symm hne)).more hgr.size,h4⟩⟩
theorem last_rul (g:List Gr.Rule) (x:Gr.Rule):Gr.rul (g ++ [x]) g.length = x:=by
  unfold Gr.rul;rw [List.getD_eq_getElem?_getD,List.getElem?_append_right (Nat.le_refl _)];simp
theorem flatV_snoc (V:Nat → Value) (u:Value) (g:List Gr.Rule) (x:Gr.Rule):flatV V g ++ [.int .i64 x.left,u] = flatV (fun r => if r = g.length then u else V r) (g ++ [x]):=by
  have h:=flatV_succ V u (g ++ [x]) g.length (by simp);rw [last_rul,List.take_left,List.take_of_length_le (by simp)] at h;exact h
theorem AR.snoc {x:Gr.Rule} {A:Option Addr} {c gg cap:Nat} (h:AR w base v g V) (hown:w2.ownsRow base 29 2 (.slice (some ⟨gg,0,none⟩) (g.length + 1) cap) (g.length + 1) (flatV V g ++ [.int .i64 x.left,.slice A x.right.length c]))
    (hgr:w.grownBy w2 v.ownBlock) (hat:v.ownBlock = some gg ∨ gg = w.heap.size) (hit:Kt.Items w w.heap.size A x.right) (hA:0 < x.right.length → ∀ b o m,A = some ⟨b,o,m⟩ → v.ownBlock ≠ some b) (hx:x.right.length ≤ 1000) :
    AR w2 base (.slice (some ⟨gg,0,none⟩) (g.length + 1) cap) (g ++ [x]) (fun r => if r = g.length then .slice A x.right.length c else V r):=by
  have hne:∀ {l:List Gr.Item} {A:Option Addr},Kt.Items w w.heap.size A l → (0 < l.length → ∀ b o m,A = some ⟨b,o,m⟩ → v.ownBlock ≠ some b) → (0 < l.length → ∀ b o m,A = some ⟨b,o,m⟩ → (Value.slice (some ⟨gg,0,none⟩) (g.length + 1) cap).ownBlock ≠ some b):=fun hi hn h0 b o m e e2 => by
    have e3:gg = b:=by simpa [Value.ownBlock] using e2
    subst e3;obtain ⟨b',o',e',hb',_⟩:=hi h0;rw [e] at e';injection e' with e';injection e' with e4 _ _;subst e4;rcases hat with h1 | h1
    · exact hn h0 gg o m e h1
    · omega
  refine ⟨?_,fun r hr => ?_⟩
  · rw [List.length_append,List.length_singleton,← flatV_snoc];exact hown
  · rw [List.length_append,List.length_singleton] at hr;by_cases e:r < g.length
    · obtain ⟨A2,c2,h1,h2,h3,h4⟩:=h.its r e;rw [Gr.snoc_rul g x e,if_neg (by omega)];exact ⟨A2,c2,h1,h2,(h3.far h4 fun b hb hne => hgr.block b hb (Ne.symm hne)).more hgr.size,hne h3 h4⟩
    · obtain rfl:r = g.length:=by omega
      rw [last_rul,if_pos rfl];exact ⟨A,c,rfl,hx,(hit.far hA fun b hb hne => hgr.block b hb (Ne.symm hne)).more hgr.size,hne hit hA⟩
theorem AR.of_og {G C:Nat → Nat} (h:OG w base v g G C) (h8:∀ r,r < g.length → (Gr.rul g r).right.length ≤ 1000):AR w base v g (fun r => .slice (some ⟨G r,0,none⟩) (Gr.rul g r).right.length (C r)):=⟨h.own,fun r hr => ⟨_,_,rfl,h8 r hr,fun _ => ⟨G r,0,rfl,((h.its r hr).lt (G r) rfl).2,fun k hk => by
  obtain ⟨e0,e1⟩:=flatI_get _ k hk;have d0:=(h.its r hr).cells rfl (k * 2) _ e0;have d1:=(h.its r hr).cells rfl (k * 2 + 1) _ e1;rw [Addr.add_lit] at d0 d1;exact ⟨by simpa using d0,by simpa [Nat.add_assoc] using d1⟩⟩,fun _ b o m e => by
    injection e with e;injection e with e _ _;subst e;exact h.ne r hr⟩⟩
end Go.Proofs.Ytdbfiflmeiidjaa
end
section
/- Right says no to the empty tree. -/
namespace Go.Proofs.Ytdbfiflmeiidjaa
open Go Go.RowKit
set_option maxRecDepth 10000 in
set_option maxHeartbeats 2000000 in
theorem isTree_no (A T:Option Addr) (c ct nt:Nat) (w:World) (hg:Kt.Rules w w.heap.size A Gr.twoG) (h0:0 < nt) :
    Calls Try.prog 43 #[.slice A 2 c,.slice T nt ct,.agg #[.int .i64 0,.int .i64 0,.int .i64 0,.slice none 0 0],.int .i64 0,.int .i64 0,.int .i64 (nt:Int)] w fun e w' => e = .returned (.bool false) ∧ Below w.heap.size w w':=by
  obtain ⟨b,o,rfl,hb,hc⟩:=hg (by decide);obtain ⟨h1,_⟩:=hc 0 (by decide);replace h1:w.cell? ⟨b,o,none⟩ = some (.int .i64 0):=h1;have k1:=(World.cell?_alloc_lt w (.cells #[.int .i64 0,.int .i64 0,.int .i64 0,.slice none 0 0] 57) ⟨b,o,none⟩ hb).trans h1;have dn:((0:Int) != (nt:Int)) = true:=by simp;omega
  clear hc;go_enter Try.func43,Try.ntmps43;go_wp2_with fail;go_ret;exact ⟨rfl,(Below.refl _ _).alloc (Nat.le_refl _) _⟩
set_option maxRecDepth 10000 in
set_option maxHeartbeats 2000000 in
theorem Right_no (tk:List Int) (A T:Option Addr) (c ct nt:Nat) (w:World) (hnt:tk.length = nt) (hnt2:nt ≤ 1000) (h0:0 < nt) (hg:Kt.Rules w w.heap.size A Gr.twoG) :
    Calls Try.prog 29 #[.slice A 2 c,.slice T nt ct,.agg #[.int .i64 0,.int .i64 0,.int .i64 0,.slice none 0 0]] w fun e w' => e = .returned (.bool false) ∧ Below w.heap.size w w':=by
  obtain ⟨w0,hw0⟩:∃ w0,w.alloc (.cells #[.int .i64 0,.int .i64 0,.int .i64 0,.slice none 0 0] 57) = w0:=⟨_,rfl⟩;have hb0:Below w.heap.size w w0:=by rw [← hw0];exact (Below.refl _ _).alloc (Nat.le_refl _) _
  have hmo:Kt.Blk w0 w.heap.size 57 #[.int .i64 0,.int .i64 0,.int .i64 0,.slice none 0 0]:=by rw [← hw0];exact Kt.Blk.new _ _ _
  have HC:=Lib.hid (checked2_any Gr.twoG A 2 c T nt ct w0 rfl (by omega) (by omega) (hg.on hb0));have HI:=Lib.hid (fun (w1:World) (hb:Below w.heap.size w w1) => isTree_no A T c ct nt w1 (hg.on hb) h0);have HB0:=Lib.hid hb0;have HMO:=Lib.hid hmo;clear hg hnt hb0 hmo;go_enter Try.func29,Try.ntmps29;go_wp2_with fail;refine HC.out.mono ?_;rintro e w1 ⟨hb,d,rfl,_⟩;have hb1:Below w.heap.size w w1:=HB0.out.trans (hb.mono HB0.out.size);have hk:=HMO.out.on hb;have k0:w1.cell? ⟨w.heap.size,0,none⟩ = some (.int .i64 0):=hk.cell 0;have k1:w1.cell? ⟨w.heap.size,1,none⟩ = some (.int .i64 0):=hk.cell 1;have k2:w1.cell? ⟨w.heap.size,2,none⟩ = some (.int .i64 0):=hk.cell 2;have k3:w1.cell? ⟨w.heap.size,3,none⟩ = some (.slice none 0 0):=hk.cell 3;clear hw0 hk;by_cases hd:d = 0
  · subst hd;go_wp2_with fail;refine (HI.out w1 hb1).mono ?_;rintro e w2 ⟨rfl,hb2⟩;have hb3:=hb1.trans (hb2.mono hb1.size);go_wp2_with fail;go_ret;exact ⟨rfl,hb3⟩
  · have dd:(d == 0) = false:=by simp [hd]
    clear hd;go_wp2_with fail;go_ret;exact ⟨rfl,hb1⟩
end Go.Proofs.Ytdbfiflmeiidjaa
end
section
/- Results of the limits' regions: items, rules, grammars, tokens, wherever they lie. -/
namespace Kt
open Go Go.RowKit
def ItV (w:World) (k:Nat) (l:List Gr.Item) (u:Value):Prop:=∃ A c,u = .slice A k c ∧ l.length = k ∧ Items w w.heap.size A l
def RuV (w:World) (ln:Int) (k:Nat) (l:List Gr.Item) (u:Value):Prop:=∃ A c,u = .agg #[.int .i64 ln,.slice A k c] ∧ l.length = k ∧ Items w w.heap.size A l
def RsV (w:World) (k:Nat) (g:List Gr.Rule) (u:Value):Prop:=∃ A c,u = .slice A k c ∧ g.length = k ∧ Rules w w.heap.size A g
def TkV (w:World) (k:Nat) (z:List Int) (u:Value):Prop:=∃ A c,u = .slice A k c ∧ z.length = k ∧ Ints w w.heap.size .u16 A z
variable {W w w':World} {k:Nat} {l:List Gr.Item} {g:List Gr.Rule} {z:List Int} {u:Value} {ln:Int}
theorem kp_below (h:Kp (fun _ => False) w w'):Below w.heap.size w w':=h.to_below (Nat.le_refl _) (fun _ _ h => h)
theorem ItV.kp (h:ItV w k l u) (hk:Kp (fun _ => False) w w'):ItV w' k l u:=by
  obtain ⟨A,c,e,hl,hi⟩:=h;exact ⟨A,c,e,hl,hi.on (kp_below hk)⟩
theorem RuV.kp (h:RuV w ln k l u) (hk:Kp (fun _ => False) w w'):RuV w' ln k l u:=by
  obtain ⟨A,c,e,hl,hi⟩:=h;exact ⟨A,c,e,hl,hi.on (kp_below hk)⟩
theorem RsV.kp (h:RsV w k g u) (hk:Kp (fun _ => False) w w'):RsV w' k g u:=by
  obtain ⟨A,c,e,hl,hi⟩:=h;exact ⟨A,c,e,hl,hi.on (kp_below hk)⟩
theorem TkV.kp (h:TkV w k z u) (hk:Kp (fun _ => False) w w'):TkV w' k z u:=by
  obtain ⟨A,c,e,hl,hi⟩:=h;exact ⟨A,c,e,hl,hi.on (kp_below hk)⟩
def TwV (w:World) (u:Value):Prop:=∃ A,u = .slice A 2 2 ∧ Rules w w.heap.size A Gr.twoG
theorem TwV.kp (h:TwV w u) (hk:Kp (fun _ => False) w w'):TwV w' u:=by
  obtain ⟨A,e,hi⟩:=h;exact ⟨A,e,hi.on (kp_below hk)⟩
theorem ItV.one (w:World) (T:TypeId) (cls sym:Int):ItV (w.alloc (.cells #[.int .u16 cls,.int .i64 sym] T)) 1 [⟨cls,sym⟩] (.slice (some ⟨w.heap.size,0,none⟩) 1 1):=by
  have k:=Blk.new w T #[.int .u16 cls,.int .i64 sym];exact ⟨_,_,rfl,rfl,Items.one k.lt (k.cell 0) (k.cell 1)⟩
theorem RsV.one {A:Option Addr} {c:Nat} (T:TypeId) (hl:l.length = k) (hk:k ≤ 1000) (hi:Items w w.heap.size A l):RsV (w.alloc (.cells #[.int .i64 ln,.slice A k c] T)) 1 [⟨ln,l⟩] (.slice (some ⟨w.heap.size,0,none⟩) 1 1):=by
  have hb:=Blk.new w T #[.int .i64 ln,.slice A k c];exact ⟨_,_,rfl,rfl,Rules.one hb.lt (hb.cell 0) (hb.cell 1) hl hk (hi.on ((Below.refl _ _).alloc (Nat.le_refl _) _))⟩
theorem RsV.two {A A2:Option Addr} {c k2 c2:Nat} {ln2:Int} {l2:List Gr.Item} (T:TypeId) (hl:l.length = k) (hk:k ≤ 1000) (hi:Items w w.heap.size A l) (hl2:l2.length = k2) (hk2:k2 ≤ 1000) (hi2:Items w w.heap.size A2 l2) :
    RsV (w.alloc (.cells #[.int .i64 ln,.slice A k c,.int .i64 ln2,.slice A2 k2 c2] T)) 2 [⟨ln,l⟩,⟨ln2,l2⟩] (.slice (some ⟨w.heap.size,0,none⟩) 2 2):=by
  have hb:=Blk.new w T #[.int .i64 ln,.slice A k c,.int .i64 ln2,.slice A2 k2 c2];have h:=(Below.refl w.heap.size w).alloc (Nat.le_refl _) (.cells #[.int .i64 ln,.slice A k c,.int .i64 ln2,.slice A2 k2 c2] T);exact ⟨_,_,rfl,rfl,Rules.two hb.lt (hb.cell 0) (hb.cell 1) (hb.cell 2) (hb.cell 3) hl hk (hi.on h) hl2 hk2 (hi2.on h)⟩
end Kt
namespace Go.Proofs.Ytdbfiflmeiidjaa
open Go Go.RowKit
def zit (n:Nat):Array Value:=madeCells #[.int .u16 0,.int .i64 0] (n * 2)
theorem run_make_items (n:Nat) (hn:n ≤ 1000) (W:World):(Instr.makeSlice 26 (.int .i64 (n:Int)) (.int .i64 (n:Int))).run Try.prog W = .ok (.slice (some ⟨W.heap.size,0,none⟩) n n) (W.alloc (.cells (zit n) 24)):=by
  obtain ⟨i0,hi0,hz0,hz1,hz2⟩:=info_parts Try.infoItem;have hr:=run_make (P:=Try.prog) W 26 24 i0 _ Try.underlying26 hi0 hz0 .i64 .i64 n n (by omega) (by omega) (by rw [hz2];omega) (by omega);simp only [Int.toNat_natCast,hz1] at hr;exact hr
theorem zit_items (w:World) (n:Nat):Kt.ItV (w.alloc (.cells (zit n) 24)) n (List.replicate n ⟨0,0⟩) (.slice (some ⟨w.heap.size,0,none⟩) n n):=by
  have k:=Kt.Blk.new w 24 (zit n);refine ⟨_,_,rfl,by simp,fun _ => ⟨w.heap.size,0,rfl,k.lt,fun q hq => ?_⟩⟩;have hq2:q < n:=by simpa using hq
  have e:Gr.itm (List.replicate n ⟨0,0⟩) q = ⟨0,0⟩:=by
    unfold Gr.itm;rw [List.getD_eq_getElem?_getD,List.getElem?_replicate,if_pos hq2];rfl
  rw [e];have g:∀ i,i < n * 2 → (zit n)[i]? = some ((#[Value.int .u16 0,Value.int .i64 0]:Array Value)[i % 2]!):=fun i hi => by
    unfold zit madeCells;simp [hi]
  constructor
  · rw [k.cell,Nat.zero_add,g _ (by omega),show q * 2 % 2 = 0 from by omega];rfl
  · rw [k.cell,Nat.zero_add,g _ (by omega),show (q * 2 + 1) % 2 = 1 from by omega];rfl
theorem zr_one (n:Nat):∀ x ∈ List.replicate n (⟨0,0⟩:Gr.Item),0 ≤ x.cls ∧ x.cls ≤ 65535:=fun x hx => by
  obtain rfl:=(List.mem_replicate.1 hx).2;decide
theorem zr_wf1 (n:Nat) (ln:Int):WfR [⟨ln,List.replicate n ⟨0,0⟩⟩]:=wfr_one (zr_one n)
theorem zr_wf2 (n:Nat) {ln ln2:Int}:WfR [⟨ln,[⟨1,0⟩]⟩,⟨ln2,List.replicate n ⟨0,0⟩⟩]:=wfr_two (one_wf (by decide)) (zr_one n)
theorem zr_len1 {n:Nat} {ln:Int} (h:n ≤ 1000):∀ r,r < [(⟨ln,List.replicate n ⟨0,0⟩⟩:Gr.Rule)].length → (Gr.rul [⟨ln,List.replicate n ⟨0,0⟩⟩] r).right.length ≤ 1000:=fun r hr => by
  have hr2:r < 1:=hr
  match r,hr2 with
  | 0,_ => show (List.replicate n _).length ≤ 1000;rw [List.length_replicate];exact h
theorem zr_len2 {n:Nat} {ln ln2:Int} (h:n ≤ 1000):∀ r,r < [(⟨ln,[⟨1,0⟩]⟩:Gr.Rule),⟨ln2,List.replicate n ⟨0,0⟩⟩].length → (Gr.rul [⟨ln,[⟨1,0⟩]⟩,⟨ln2,List.replicate n ⟨0,0⟩⟩] r).right.length ≤ 1000:=fun r hr => by
  have hr2:r < 2:=hr
  match r,hr2 with
  | 0,_ => show (1:Nat) ≤ 1000;omega
  | 1,_ => show (List.replicate n _).length ≤ 1000;rw [List.length_replicate];exact h
theorem two_len:∀ r,r < Gr.twoG.length → (Gr.rul Gr.twoG r).right.length ≤ 1000:=fun r hr => by
  have hr2:r < 2:=hr
  match r,hr2 with
  | 0,_ => exact Nat.le_of_ble_eq_true rfl
  | 1,_ => exact Nat.le_of_ble_eq_true rfl
theorem last_len:∀ r,r < [(⟨0,[⟨1,0⟩]⟩:Gr.Rule)].length → (Gr.rul [⟨0,[⟨1,0⟩]⟩] r).right.length ≤ 1000:=fun r hr => by
  have hr2:r < 1:=hr
  match r,hr2 with
  | 0,_ => exact Nat.le_of_ble_eq_true rfl
end Go.Proofs.Ytdbfiflmeiidjaa
end
