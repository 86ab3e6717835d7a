/- Joined: RfC, Frame, FrG. -/
import Derived.Test.YtdbfiflmeiidjaaSa25
import Derived.Test.YtdbfiflmeiidjaaSa05
import Derived.Test.YtdbfiflmeiidjaaSa07
import Derived.Test.YtdbfiflmeiidjaaSa01
import Derived.ProofKit
import Derived.OpenShut
import Derived.ChangeSame
import Derived.SizedLaws
import Derived.LaidLaws
import Derived.LaidMore
import Derived.Lib.LaidTab
import Derived.Deep.SlicePairs
section
/- The reference: what is wrong with a grammar: the walk. -/
namespace Gr
def RCode (g:List Rule) (c:Int):Prop :=
  (200 < g.length ∧ c = 5) ∨ (g.length ≤ 200 ∧ firstE g ≠ 0 ∧ c = firstE g) ∨ (g.length ≤ 200 ∧ firstE g = 0 ∧ Cyc g ∧ c = 92) ∨ (g.length ≤ 200 ∧ firstE g = 0 ∧ ¬ Cyc g ∧ c = 0)
theorem VCode.ref {g:List Rule} {c:Int} (h:VCode g c):RCode g c:=by
  rcases h with h | h | h | ⟨h1,h2,h3,h4⟩
  · exact .inl h
  · exact .inr (.inl h)
  · exact .inr (.inr (.inl h))
  · exact .inr (.inr (.inr ⟨h1.len,h3,h2,h4⟩))
theorem RCode.uniq {g:List Rule} {c d:Int} (h:RCode g c) (k:RCode g d):c = d:=by
  rcases h with ⟨h1,rfl⟩ | ⟨h1,h2,rfl⟩ | ⟨h1,h2,h3,rfl⟩ | ⟨h1,h2,h3,rfl⟩ <;> rcases k with ⟨k1,rfl⟩ | ⟨k1,k2,rfl⟩ | ⟨k1,k2,k3,rfl⟩ | ⟨k1,k2,k3,rfl⟩
  all_goals first | rfl | omega | (exact absurd h2 k2) | (exact absurd k2 h2) | (exact absurd h3 k3) | (exact absurd k3 h3)
theorem ruleE_left {s:Int} {l:List Item} (h:symOk s = false):ruleE ⟨s,l⟩ = 90:=by unfold ruleE;rw [if_pos h]
theorem ruleE_len {s:Int} {l:List Item} (h:symOk s = true) (h2:l.length = 0 ∨ 8 < l.length):ruleE ⟨s,l⟩ = 91:=by unfold ruleE;rw [if_neg (by simp [h]),if_pos h2]
theorem ruleE_items {s:Int} {l:List Item} (h:symOk s = true) (h2:¬ (l.length = 0 ∨ 8 < l.length)):ruleE ⟨s,l⟩ = if l.all itemOk then 0 else 90:=by
  unfold ruleE;rw [if_neg (by simp [h]),if_neg h2];show (if l.all itemOk = false then (90:Int) else 0) = _;cases l.all itemOk <;> rfl
end Gr
namespace Go.Proofs.Ytdbfiflmeiidjaa
open Go Go.RowKit
def RefValidPost (g:List Gr.Rule) (w:World) (e:Ending) (w':World):Prop:=Below w.heap.size w w' ∧ ∃ c:Int,e = .returned (.int .i64 c) ∧ Gr.RCode g c
set_option maxRecDepth 100000 in
set_option maxHeartbeats 2000000 in
theorem refValid_any (g:List Gr.Rule) (A:Option Addr) (n cp:Nat) (w:World) (hl:g.length = n) (hn:n ≤ 4611686018427387904) (hW:WfR g) (hg:Kt.Rules w w.heap.size A g) :
    Calls Try.prog 42 #[.slice A n cp] w (RefValidPost g w):=by
  have HL:=Lib.hid hl;have HW:=Lib.hid hW;have HG:=Lib.hid hg;clear hl hW hg;by_cases hlong:200 < n
  · have d0:decide ((n:Int) > 200) = true:=by simp;omega
    have HV:Hid (Gr.RCode g 5):=Lib.hid (.inl ⟨by have:=HL.out;omega,rfl⟩);go_enter Try.func42,Try.ntmps42;go_wp2_with fail;go_ret;exact ⟨Below.refl _ _,5,rfl,HV.out⟩
  · have d0:decide ((n:Int) > 200) = false:=by simp;omega
    go_enter Try.func42,Try.ntmps42;go_wp2_with fail;go_loopw [3] (fun s wr => ∃ k:Nat,k ≤ n ∧ s = .int .i64 k ∧ Hid (∀ r,r < k → Gr.ruleE (Gr.rul g r) = 0) ∧ Below w.heap.size w wr) (fun s _ => n - (intOf s).toNat)
    case atStart => exact ⟨0,Nat.zero_le _,rfl,Lib.hid (fun r hr => by omega),Below.refl _ _⟩
    case round =>
      obtain ⟨k,hk,rfl,hz,hbel⟩:=hrel;rename World => wo
      have hso:=hbel.size;by_cases hlt:k < n
      · have dkn:decide ((k:Int) < n) = true:=by simp;omega
        have hkg:k < g.length:=by rw [HL.out];exact hlt
        obtain ⟨bA,oA,rfl,hbA,hcA⟩:=(HG.out.on hbel) (by rw [HL.out];omega);obtain ⟨cl,A',c',cr,hlr,hit⟩:=hcA k hkg;obtain ⟨ru,hru⟩:∃ ru,Hid (Gr.rul g k = ru):=⟨_,Lib.hid rfl⟩;have hwf:=HW.out k hkg;obtain ⟨lf,l⟩:=ru;rw [hru.out] at cl cr hlr hit hwf;obtain ⟨m,hm⟩:∃ m,Hid (l.length = m):=⟨_,Lib.hid rfl⟩;replace cl:wo.cell? ⟨bA,oA + k * 2,none⟩ = some (.int .i64 lf):=cl;replace cr:wo.cell? ⟨bA,oA + k * 2 + 1,none⟩ = some (.slice A' l.length c'):=cr;replace hit:Kt.Items wo wo.heap.size A' l:=hit;replace hlr:l.length ≤ 4611686018427387904:=hlr;replace hwf:∀ x ∈ l,0 ≤ x.cls ∧ x.cls ≤ 65535:=hwf;rw [hm.out] at cr hlr;have HWF:=Lib.hid hwf;have HERR:Hid (Gr.ruleE ⟨lf,l⟩ ≠ 0 → Gr.RCode g (Gr.ruleE ⟨lf,l⟩)):=Lib.hid (fun h => .inr (.inl (by
          have h1:=Gr.firstE_at g k hkg hz.out (by rw [hru.out];exact h);rw [hru.out] at h1;exact ⟨by have:=HL.out;omega,by rw [h1];exact h,h1.symm⟩)))
        clear hcA hwf;go_wp2_with fail;refine (refSymbol_any lf wo).mono ?_;rintro e w2 ⟨rfl,rfl⟩;obtain ⟨so,hso2⟩:∃ b,Hid (Gr.symOk lf = b):=⟨_,Lib.hid rfl⟩;rw [hso2.out];cases so with
        | false =>
          have HE:Hid (Gr.RCode g 90):=Lib.hid (by
            have h:=Gr.ruleE_left (l:=l) hso2.out;have:=HERR.out (by rw [h];decide);rwa [h] at this)
          clear hit hz;go_wp2_with fail;go_ret;exact ⟨hbel,90,rfl,HE.out⟩
        | true =>
          by_cases hm0:m = 0
          · have dm:decide ((m:Int) < 1) = true:=by simp [hm0]
            have HE:Hid (Gr.RCode g 91):=Lib.hid (by
              have h:=Gr.ruleE_len (l:=l) hso2.out (.inl (by rw [hm.out];exact hm0));have:=HERR.out (by rw [h];decide);rwa [h] at this)
            clear hit hz hm0;go_wp2_with fail;go_ret;exact ⟨hbel,91,rfl,HE.out⟩
          · have dm:decide ((m:Int) < 1) = false:=by simp;omega
            by_cases hm8:8 < m
            · have dm8:decide ((m:Int) > 8) = true:=by simp;omega
              have HE:Hid (Gr.RCode g 91):=Lib.hid (by
                have h:=Gr.ruleE_len (l:=l) hso2.out (.inr (by rw [hm.out];exact hm8));have:=HERR.out (by rw [h];decide);rwa [h] at this)
              clear hit hz;go_wp2_with fail;go_ret;exact ⟨hbel,91,rfl,HE.out⟩
            · have dm8:decide ((m:Int) > 8) = false:=by simp;omega
              have HEI:Hid (Gr.ruleE ⟨lf,l⟩ = if l.all Gr.itemOk then 0 else 90):=Lib.hid (Gr.ruleE_items hso2.out (by rw [hm.out];omega));have HE90:Hid (l.all Gr.itemOk = false → Gr.RCode g 90):=Lib.hid (fun h => by
                have h2:=HEI.out;rw [h] at h2;have h3:Gr.ruleE ⟨lf,l⟩ = 90:=h2;have:=HERR.out (by rw [h3];decide);rwa [h3] at this)
              obtain ⟨bI,oI,rfl,hbI,hcI⟩:=hit (by rw [hm.out];omega);have HCI:=Lib.hid hcI;clear hcI;go_wp2_with fail;go_loopw [4] (fun s wr => ∃ q:Nat,q ≤ m ∧ s = .int .i64 q ∧ Hid ((l.take q).all Gr.itemOk = true) ∧ Below wo.heap.size wo wr) (fun s _ => m - (intOf s).toNat)
              case atStart => exact ⟨0,Nat.zero_le _,rfl,Lib.hid rfl,Below.refl _ _⟩
              case round =>
                obtain ⟨q,hq,rfl,hall,hbl⟩:=hrel;have hsl:=hbl.size;have hbw:Below w.heap.size w wr:=hbel.trans (hbl.mono hso);have cl2:wr.cell? ⟨bA,oA + k * 2,none⟩ = some (.int .i64 lf):=(hbl.cell (p:=⟨bA,oA + k * 2,none⟩) hbA).trans cl;have cr2:wr.cell? ⟨bA,oA + k * 2 + 1,none⟩ = some (.slice (some ⟨bI,oI,none⟩) m c'):=(hbl.cell (p:=⟨bA,oA + k * 2 + 1,none⟩) hbA).trans cr;by_cases hqm:q < m
                · have hql:q < l.length:=by rw [hm.out];exact hqm
                  obtain ⟨i0,i1⟩:=HCI.out q hql;have hx:=HWF.out (Gr.itm l q) (by unfold Gr.itm;rw [List.getD_eq_getElem?_getD,List.getElem?_eq_getElem hql];exact List.getElem_mem _);have HTS:=Lib.hid (Gr.take_succ l q hql);obtain ⟨it,hitm⟩:∃ it,Hid (Gr.itm l q = it):=⟨_,Lib.hid rfl⟩;obtain ⟨xc,xs⟩:=it;rw [hitm.out] at i0 i1 hx HTS;have j0:wr.cell? ⟨bI,oI + q * 2,none⟩ = some (.int .u16 xc):=(hbl.cell (p:=⟨bI,oI + q * 2,none⟩) hbI).trans i0;have j1:wr.cell? ⟨bI,oI + q * 2 + 1,none⟩ = some (.int .i64 xs):=(hbl.cell (p:=⟨bI,oI + q * 2 + 1,none⟩) hbI).trans i1;have hx0:0 ≤ xc:=hx.1;have HSUC:Hid ((l.take (q + 1)).all Gr.itemOk = Gr.itemOk ⟨xc,xs⟩):=Lib.hid (by rw [HTS.out,List.all_append,hall.out];simp);have HBAD:Hid (Gr.itemOk ⟨xc,xs⟩ = false → Gr.RCode g 90):=Lib.hid (fun h => HE90.out (Gr.all_false l (q + 1) (by rw [HSUC.out];exact h)));obtain ⟨w3,hw3⟩:∃ w3,wr.alloc (.cells #[.int .u16 xc,.int .i64 xs] 89) = w3:=⟨_,rfl⟩;have k3:Kt.Blk w3 wr.heap.size 89 #[.int .u16 xc,.int .i64 xs]:=by rw [← hw3];exact Kt.Blk.new wr _ _
                  have hb3:Below wo.heap.size wo w3:=by rw [← hw3];exact hbl.alloc hsl _
                  have hbw3:Below w.heap.size w w3:=hbel.trans (hb3.mono hso);have y0:w3.cell? ⟨wr.heap.size,0,none⟩ = some (.int .u16 xc):=k3.cell 0;have y1:w3.cell? ⟨wr.heap.size,1,none⟩ = some (.int .i64 xs):=k3.cell 1;clear i0 i1 hx k3 HTS;go_wp2_with fail;refine (refSymbol_any xs w3).mono ?_;rintro e w4 ⟨rfl,rfl⟩;obtain ⟨sx,hsx⟩:∃ b,Hid (Gr.symOk xs = b):=⟨_,Lib.hid rfl⟩;rw [hsx.out];cases sx with
                  | false =>
                    have HE:=Lib.hid (HBAD.out (by unfold Gr.itemOk;rw [hsx.out];rfl));go_wp2_with fail;go_ret;exact ⟨hbw3,90,rfl,HE.out⟩
                  | true =>
                    have hxs:0 ≤ xs:=(of_decide_eq_true hsx.out).1;by_cases hc0:xc = 0
                    · have dc:decide (xc > 0) = false:=by simp [hc0]
                      have HN:Hid ((l.take (q + 1)).all Gr.itemOk = true):=Lib.hid (by rw [HSUC.out];unfold Gr.itemOk;rw [hsx.out];simp [hc0]);clear hc0;go_wp2_with fail;go_roundw
                      case rel => exact ⟨q + 1,by omega,by go_num,HN,hb3⟩
                      case measure => simp [intOf];omega
                    · have dc:decide (xc > 0) = true:=by simp;omega
                      by_cases hs0:xs = 0
                      · have ds:decide (xs > 0) = false:=by simp [hs0]
                        have HN:Hid ((l.take (q + 1)).all Gr.itemOk = true):=Lib.hid (by rw [HSUC.out];unfold Gr.itemOk;rw [hsx.out];simp [hs0]);clear hc0 hs0;go_wp2_with fail;go_roundw
                        case rel => exact ⟨q + 1,by omega,by go_num,HN,hb3⟩
                        case measure => simp [intOf];omega
                      · have ds:decide (xs > 0) = true:=by simp;omega
                        have HE:=Lib.hid (HBAD.out (by unfold Gr.itemOk;rw [hsx.out];simp [hc0,hs0]));clear hc0 hs0;go_wp2_with fail;go_ret;exact ⟨hbw3,90,rfl,HE.out⟩
                · obtain rfl:q = m:=by omega
                  have HN:Hid (∀ r,r < k + 1 → Gr.ruleE (Gr.rul g r) = 0):=Lib.hid (fun r hr => by
                    by_cases e:r = k
                    · subst e;rw [hru.out,HEI.out];have:=hall.out;rw [List.take_of_length_le (by rw [hm.out];exact Nat.le_refl _)] at this;rw [this];rfl
                    · exact hz.out r (by omega))
                  clear hall;go_wp2_with fail;go_roundw
                  case rel => exact ⟨k + 1,by omega,by go_num,HN,hbw⟩
                  case measure => simp [intOf];omega
      · obtain rfl:k = n:=by omega
        have HO:Hid (∀ r,r < g.length → Gr.RuleOk (Gr.rul g r)):=Lib.hid (fun r hr => hz.out r (by rw [← HL.out];exact hr));have HF:Hid (Gr.firstE g = 0):=Lib.hid (Gr.firstE_zero g HO.out);clear hz;go_wp2_with fail;refine (refCyclic_any g A k cp wo HL.out (by omega) (HG.out.on hbel) HO.out).mono ?_;rintro e w2 ⟨hb2,b,rfl,hT,hFa⟩;have hbw2:Below w.heap.size w w2:=hbel.trans (hb2.mono hso);cases b with
        | true =>
          have HV:Hid (Gr.RCode g 92):=Lib.hid (.inr (.inr (.inl ⟨by have:=HL.out;omega,HF.out,hT rfl,rfl⟩)));clear hT hFa;go_wp2_with fail;go_ret;exact ⟨hbw2,92,rfl,HV.out⟩
        | false =>
          have HV:Hid (Gr.RCode g 0):=Lib.hid (.inr (.inr (.inr ⟨by have:=HL.out;omega,HF.out,hFa rfl,rfl⟩)));clear hT hFa;go_wp2_with fail;go_ret;exact ⟨hbw2,0,rfl,HV.out⟩
end Go.Proofs.Ytdbfiflmeiidjaa
end
section
/- The frame of a law's row, over any program: a call that answers true and leaves old memory alone meets the law's specification. -/
namespace Kt
open Go Go.ChangeShapes Go.WideShapes Go.ChangeAt Go.RowKit Go.WideMaps Go.WideElems
section
variable {H:Type} {enc:TypeId × Value → H} {P:Program}
theorem trodAll_below (hl:laidOutB P = true) {W W':World} (hb:Below W.heap.size W W') {sp:Nat → Bool} :
    ∀ {ts:List TypeId} {vs:List Value} {ds:List (DataW H)} {ps:List MemPlace},(ts.all fun t => P.readableRec t && decide (t < P.types.size)) = true →
      DataW.TrodAll enc P W 0 (fun _ => true) true ts vs ds ps → (∀ x ∈ ps,x.block < W.heap.size) → (∀ x ∈ ps,sp x.block = true) → DataW.TrodAll enc P W' 0 sp true ts vs ds ps
  | [],vs,ds,ps,_,h,_,_ => by
    obtain ⟨rfl,rfl,rfl⟩:=trodAll_nil h;exact trodAll_mk0
  | t :: ts,vs,ds,ps,hts,h,hlt,hsp => by
    simp only [List.all_cons,Bool.and_eq_true,decide_eq_true_eq] at hts;obtain ⟨v0,vs0,d0,ds0,p0,q0,rfl,rfl,rfl,h0,r0⟩:=trodAll_cons h;refine trodAll_cons_mk ?_ (trodAll_below hl hb (by simpa using hts.2) r0 (fun x hx => hlt x (by simp [hx])) (fun x hx => hsp x (by simp [hx])));exact WideElems.Trod_stays hl hts.1.1 hts.1.2 h0 (fun x hx => hb.same (hlt x (by simp [hx]))) (fun x hx => hsp x (by simp [hx]))
theorem post_of_below {f:Func} {s:ChangeSpec} {apart fresh handsOn again:Bool} {W W':World} {args:Array Value} {v:Value} {ds gs:List (DataW H)} {before pa pv:List MemPlace}
    (hW:DataW.Whole enc P f.params.toList s.vars apart W args.toList ds gs before)
    (hres:∀ (b:Nat) (sp:Nat → Bool) (hd:Bool),DataW.TrodAll enc P W' b sp hd f.resultTypes.toList (v.resultList f.resultTypes.size) (s.fn H (ds ++ gs)).results [])
    (hargs:∀ sp:Nat → Bool,(∀ p ∈ before,sp p.block = true) → DataW.TrodAll enc P W' 0 sp true f.params.toList args.toList (s.fn H (ds ++ gs)).args pa)
    (hvars:∀ sp:Nat → Bool,(∀ p ∈ before,sp p.block = true) → DataW.TrodVars enc P W' sp s.vars (s.fn H (ds ++ gs)).vars pv)
    (hps:before = pa ++ pv) (hb:Below W.heap.size W W')
    (hok:∀ (j:Nat) (t:TypeId) (r:Value),f.resultTypes[j]? = some t → (v.resultList f.resultTypes.size)[j]? = some r → Value.okWide P W' .any 0 t r) :
    s.post enc P f apart fresh handsOn again W args v W':=by
  have hlt:∀ p ∈ before,p.block < W.heap.size:=fun p hp => hW.lt p hp
  have hold:∀ p ∈ before,(fun b => decide (b < W.heap.size)) p.block = true:=fun p hp => by simpa using hlt p hp
  refine ⟨ds,gs,before,[],pa,pv,hW,hres _ _ _,hargs _ hold,hvars _ hold,World.keptBut_mono (fun p hp => ⟨hp,?_⟩) (hb.frame (· ∈ before)),fun _ => ?_⟩
  · rw [hps,List.mem_append] at hp;exact Or.inr hp
  · obtain ⟨_,_,_,_,_,hz,hn⟩:=hW;refine ⟨hok,_,_,([] ++ pa) ++ pv,⟨[] ++ pa,pv,trodAll_append (hargs _ (fun _ _ => rfl)) (hres _ _ _),hvars _ (fun _ _ => rfl),rfl,?_,?_⟩,?_⟩
    · intro b off hp;have hin:MemPlace.cell b off ∈ before:=by rw [hps];simpa using hp
      rw [hb.frozen (hlt _ hin)];exact hz b off hin
    · intro ha;have:=hn ha;rw [hps] at this;simpa using this
    · intro p hp _;rw [hps];simpa using hp
theorem law_post {f:Func} {s:ChangeSpec} {apart fresh handsOn again:Bool} {W W':World} {args:Array Value} {ds:List (DataW H)} {p:List MemPlace} {tb:TypeId}
    (hl:laidOutB P = true) (hts:(f.params.toList.all fun t => P.readableRec t && decide (t < P.types.size)) = true) (htb:P.underlying tb = some .bool) (hres:f.resultTypes = #[tb]) (hvs:s.vars = [])
    (hW:DataW.Whole enc P f.params.toList s.vars apart W args.toList ds [] p) (hA:DataW.TrodAll enc P W 0 (fun _ => true) true f.params.toList args.toList ds p)
    (hs:s.fn H (ds ++ []) = { results:=[.lit (.bool true)],args:=ds }) (hb:Below W.heap.size W W') :
    s.post enc P f apart fresh handsOn again W args (.bool true) W':=by
  have hlt:∀ x ∈ p,x.block < W.heap.size:=fun x hx => hW.lt x hx
  refine post_of_below (pa:=p) (pv:=[]) hW ?_ ?_ ?_ (by simp) hb ?_
  · intro b sp hd;rw [hs,hres];exact trodAll_mk1 (shut_bool htb true)
  · intro sp hsp;rw [hs];exact trodAll_below hl hb hts hA hlt hsp
  · intro sp _;rw [hs,hvs];rfl
  · exact ok_one hres rfl (okWide_bool_mk htb true)
end
end Kt
end
section
/- Grammars that came in: what is read of them. -/
namespace Go.Proofs.Ytdbfiflmeiidjaa
open Go Go.RowKit Go.ChangeShapes Go.WideShapes
section
variable {H:Type} {enc:TypeId × Value → H}
end
end Go.Proofs.Ytdbfiflmeiidjaa
end
