/- Joined: AwA, AwB, AwC, AwM. -/
import Derived.Test.YtdbfiflmeiidjaaSa21
section
/- The chapter's example: its grammar, its tokens, its trees. -/
namespace Gr
def twoG:List Rule:=[⟨0,[⟨0,0⟩,⟨0,0⟩]⟩,⟨0,[⟨1,0⟩]⟩]
def leafT (a:Nat):Tr:=.node 1 a (a + 1) []
end Gr
namespace Go.Proofs.Ytdbfiflmeiidjaa
open Go Go.RowKit
theorem twos_any (w:World):Calls Try.prog 6 #[] w fun e w' => ∃ A,e = .returned (.slice A 2 2) ∧ Kt.Rules w' w'.heap.size A Gr.twoG ∧ Below w.heap.size w w':=by
  go_enter Try.func6,Try.ntmps6;go_wp2;go_ret;obtain ⟨w1,hw1⟩:∃ w1,w.alloc (.cells #[.int .u16 0,.int .i64 0,.int .u16 0,.int .i64 0] 24) = w1:=⟨_,rfl⟩;obtain ⟨w2,hw2⟩:∃ w2,w1.alloc (.cells #[.int .u16 1,.int .i64 0] 24) = w2:=⟨_,rfl⟩;obtain ⟨w3,hw3⟩:∃ w3,w2.alloc (.cells #[.int .i64 0,.slice (some ⟨w.heap.size,0,none⟩) 2 2,.int .i64 0,.slice (some ⟨w.heap.size + 1,0,none⟩) 1 1] 29) = w3:=⟨_,rfl⟩;have k1:Kt.Blk w1 w.heap.size 24 #[.int .u16 0,.int .i64 0,.int .u16 0,.int .i64 0]:=by rw [← hw1];exact Kt.Blk.new _ _ _
  have s1:w1.heap.size = w.heap.size + 1:=by rw [← hw1];simp
  have k2:Kt.Blk w2 (w.heap.size + 1) 24 #[.int .u16 1,.int .i64 0]:=by rw [← hw2];exact Kt.Blk.new' _ _ _ _ s1.symm
  have k12:Kt.Blk w2 w.heap.size 24 #[.int .u16 0,.int .i64 0,.int .u16 0,.int .i64 0]:=by rw [← hw2];exact k1.alloc _
  have s2:w2.heap.size = w.heap.size + 2:=by rw [← hw2];simp [s1]
  have k3:Kt.Blk w3 (w.heap.size + 2) 29 #[.int .i64 0,.slice (some ⟨w.heap.size,0,none⟩) 2 2,.int .i64 0,.slice (some ⟨w.heap.size + 1,0,none⟩) 1 1]:=by rw [← hw3];exact Kt.Blk.new' _ _ _ _ s2.symm
  have k13:Kt.Blk w3 w.heap.size 24 #[.int .u16 0,.int .i64 0,.int .u16 0,.int .i64 0]:=by rw [← hw3];exact k12.alloc _
  have k23:Kt.Blk w3 (w.heap.size + 1) 24 #[.int .u16 1,.int .i64 0]:=by rw [← hw3];exact k2.alloc _
  have s3:w3.heap.size = w.heap.size + 3:=by rw [← hw3];simp [s2]
  have hb:Below w.heap.size w w3:=by
    rw [← hw3,← hw2,← hw1];exact (((Below.refl _ _).alloc (Nat.le_refl _) _).alloc (by simp) _).alloc (by simp;omega) _
  rw [hw1,hw2,hw3];refine ⟨_,rfl,fun _ => ⟨w.heap.size + 2,0,rfl,by omega,fun r hr => ?_⟩,hb⟩;have hr2:r < 2:=hr
  match r,hr2 with
  | 0,_ => exact ⟨k3.cell 0,_,2,k3.cell 1,by decide,fun _ => ⟨w.heap.size,0,rfl,by omega,fun k hk => by
      have hk2:k < 2:=hk
      match k,hk2 with
      | 0,_ => exact ⟨k13.cell 0,k13.cell 1⟩
      | 1,_ => exact ⟨k13.cell 2,k13.cell 3⟩⟩⟩
  | 1,_ => exact ⟨k3.cell 2,_,1,k3.cell 3,by decide,fun _ => ⟨w.heap.size + 1,0,rfl,by omega,fun k hk => by
      have hk2:k < 1:=hk
      match k,hk2 with
      | 0,_ => exact ⟨k23.cell 0,k23.cell 1⟩⟩⟩
theorem Try.infoU16:(Try.prog.info? 22).map (fun i => (i.zero,i.size,i.bytes)) = some (some (.int .u16 0),1,2):=by kernel_rfl
theorem ones_any (n:Nat) (w:World) (hn:n ≤ 1000):Calls Try.prog 7 #[.int .i64 (n:Int)] w fun e w' => ∃ A c,e = .returned (.slice A n c) ∧ Kt.Ints w' w'.heap.size .u16 A (List.replicate n 1) ∧ Below w.heap.size w w':=by
  obtain ⟨i0,hi0,hz0,hz1,hz2⟩:=info_parts Try.infoU16;go_enter Try.func7,Try.ntmps7;go_wp2;go_loopw [3,4] (fun o i wr => ∃ k:Nat,k ≤ n ∧ i = .int .i64 k ∧ Kt.Own wr w.heap.size 22 .u16 o (List.replicate k 1) ∧ Below w.heap.size w wr) (fun _ i _ => n - (intOf i).toNat)
  case atStart => exact ⟨0,Nat.zero_le _,rfl,Kt.Own.nil _ _ _ _,Below.refl _ _⟩
  case round =>
    obtain ⟨k,hk,rfl,hown,hbel⟩:=hrel;by_cases hlt:k < n
    · go_wp2_with (at_builtin;refine wpList_append_own _ rfl (.tmp 10) (.tmp 11) 30 rfl w.heap.size 22 i0 (.int .u16 0) 1 2 Try.underlying30 hi0 hz0 hz1 hz2 rfl (by decide) _ (List.replicate k (1:Int)).length ((List.replicate k (1:Int)).map (Value.int .u16)) rfl (hown.alloc _) ⟨wr.heap.size,0,none⟩ 1 1 [.int .u16 1] rfl rfl (Kt.cell_one _ _ _) (ints_oneCell .u16 [1]) (by unfold maxLen;simp;omega) (by simp;omega) (by have:=hbel.size;simp;omega) ?_);intro v' w3 hown3 hgrow _;have hown4:Kt.Own w3 w.heap.size 22 .u16 v' (List.replicate (k + 1) 1):=by
        have h:=Kt.Own.snoc (zs:=List.replicate k (1:Int)) (x:=1) (by simpa using hown3);rw [← List.replicate_succ'] at h;exact h
      have hbel3:Below w.heap.size w w3:=(hbel.alloc hbel.size _).grown hgrow (by have:=hbel.size;simp;omega) (fun g hg => Kt.own_block_ne hown _ hg);clear hown3 hgrow;go_wp2_with fail;go_roundw
      case rel => exact ⟨k + 1,by omega,by go_num,hown4,hbel3⟩
      case measure => simp [intOf];omega
    · obtain rfl:k = n:=by omega
      obtain ⟨B,c,he,hc,hi⟩:=hown.shape;rw [List.length_replicate] at he hc;go_wp2;go_ret;subst he;exact ⟨B,c,rfl,hi,hbel⟩
end Go.Proofs.Ytdbfiflmeiidjaa
end
section
/- The chapter's example: trees made by its closures; whether trees are the same. -/
namespace Go.Proofs.Ytdbfiflmeiidjaa
open Go Go.RowKit
theorem leaf_any (a:Nat) (ha:a ≤ 1000) (w:World):Calls Try.prog 30 #[.int .i64 (a:Int)] w fun e w' => ∃ v,e = .returned v ∧ Kt.TV w' (fun _ => False) (Gr.leafT a) v ∧ Below w.heap.size w w':=by
  go_enter Try.func30,Try.ntmps30;go_wp2_with fail;refine bodyPost_ret (results_cell_row rfl _ _ w.heap.size 57 _ (0,0) _ rfl (Kt.Blk.new w _ _) Try.underlying57 rfl (by kernel_rfl)) rfl ⟨_,rfl,?_,(Below.refl _ _).alloc (Nat.le_refl _) _⟩;exact Kt.TV.of_list (Kt.LV.nil _ _) 1 a (a + 1)
theorem two_any (ra ia ja rb ib jb:Nat) (la lb:List Gr.Tr) (va vb:Value) (w:World) (ha:Kt.TV w (fun _ => False) (.node ra ia ja la) va) (hb:Kt.TV w (fun _ => False) (.node rb ib jb lb) vb) :
    Calls Try.prog 31 #[va,vb] w fun e w' => ∃ v,e = .returned v ∧ Kt.TV w' (fun _ => False) (.node 0 ia jb [.node ra ia ja la,.node rb ib jb lb]) v ∧ Below w.heap.size w w':=by
  obtain ⟨sa,rfl,Aa,ca,ba,oa,vsa,rfl,_⟩:=ha.parts;obtain ⟨sb,rfl,Ab,cb,bb,ob,vsb,rfl,_⟩:=hb.parts;have HA:=Lib.hid ha;have HB:=Lib.hid hb;clear ha hb;go_enter Try.func31,Try.ntmps31;go_wp2_with fail;obtain ⟨w1,hw1⟩:∃ w1,w.alloc (.cells #[.int .i64 (ra:Int),.int .i64 (ia:Int),.int .i64 (ja:Int),.slice Aa la.length ca] 57) = w1:=⟨_,rfl⟩;obtain ⟨w2,hw2⟩:∃ w2,w1.alloc (.cells #[.int .i64 (rb:Int),.int .i64 (ib:Int),.int .i64 (jb:Int),.slice Ab lb.length cb] 57) = w2:=⟨_,rfl⟩;obtain ⟨w3,hw3⟩:∃ w3,w2.alloc (.cells #[.int .i64 0,.int .i64 (ia:Int),.int .i64 (jb:Int),.slice (some ⟨w.heap.size + 1 + 1 + 1,0,none⟩) 2 2] 57) = w3:=⟨_,rfl⟩;obtain ⟨w4,hw4⟩:∃ w4,w3.alloc (.cells #[.int .i64 (ra:Int),.int .i64 (ia:Int),.int .i64 (ja:Int),.slice Aa la.length ca,.int .i64 (rb:Int),.int .i64 (ib:Int),.int .i64 (jb:Int),.slice Ab lb.length cb] 57) = w4:=⟨_,rfl⟩;rw [hw1,hw2,hw3,hw4];have s1:w1.heap.size = w.heap.size + 1:=by rw [← hw1];simp
  have s2:w2.heap.size = w.heap.size + 1 + 1:=by rw [← hw2];simp [s1]
  have s3:w3.heap.size = w.heap.size + 1 + 1 + 1:=by rw [← hw3];simp [s2]
  have b4:Below w.heap.size w w4:=by
    rw [← hw4,← hw3,← hw2,← hw1];exact ((((Below.refl _ _).alloc (Nat.le_refl _) _).alloc (by simp) _).alloc (by simp;omega) _).alloc (by simp;omega) _
  have k3:Kt.Blk w4 (w.heap.size + 1 + 1) 57 #[.int .i64 0,.int .i64 (ia:Int),.int .i64 (jb:Int),.slice (some ⟨w.heap.size + 1 + 1 + 1,0,none⟩) 2 2]:=by rw [← hw4,← hw3];exact (Kt.Blk.new' _ _ _ _ s2.symm).alloc _
  have k4:Kt.Blk w4 (w.heap.size + 1 + 1 + 1) 57 #[.int .i64 (ra:Int),.int .i64 (ia:Int),.int .i64 (ja:Int),.slice Aa la.length ca,.int .i64 (rb:Int),.int .i64 (ib:Int),.int .i64 (jb:Int),.slice Ab lb.length cb]:=by rw [← hw4];exact Kt.Blk.new' _ _ _ _ s3.symm
  refine bodyPost_ret (results_cell_row rfl _ _ (w.heap.size + 1 + 1) 57 _ (0,0) _ rfl k3 Try.underlying57 rfl (by kernel_rfl)) rfl ⟨_,rfl,?_,b4⟩;refine Kt.TV.of_list (l:=[.node ra ia ja la,.node rb ib jb lb]) ⟨_,2,w.heap.size + 1 + 1 + 1,0,fun k => if k = 0 then .agg #[.int .i64 (ra:Int),.int .i64 (ia:Int),.int .i64 (ja:Int),.slice Aa la.length ca] else .agg #[.int .i64 (rb:Int),.int .i64 (ib:Int),.int .i64 (jb:Int),.slice Ab lb.length cb],rfl,fun _ => ⟨rfl,fun e => e,k4.lt⟩,Nat.le_refl _,by simp,fun k hk q hq => ?_,fun k hk => ?_⟩ 0 ia jb
  · have hk2:k < 2:=hk
    match k,hk2,q,hq with
    | 0,_,0,_ => exact k4.cell 0
    | 0,_,1,_ => exact k4.cell 1
    | 0,_,2,_ => exact k4.cell 2
    | 0,_,3,_ => exact k4.cell 3
    | 1,_,0,_ => exact k4.cell 4
    | 1,_,1,_ => exact k4.cell 5
    | 1,_,2,_ => exact k4.cell 6
    | 1,_,3,_ => exact k4.cell 7
  · have hk2:k < 2:=hk
    match k,hk2 with
    | 0,_ => exact HA.out.keep fun k hk _ => b4.block k hk
    | 1,_ => exact HB.out.keep fun k hk _ => b4.block k hk
end Go.Proofs.Ytdbfiflmeiidjaa
end
section
/- Same, of two trees that are the same. -/
namespace Go.Proofs.Ytdbfiflmeiidjaa
open Go Go.RowKit
def samSlot:Nat → Nat:=fun j => match j with | 0 => 41 | 1 => 42 | 2 => 43 | 3 => 44 | 4 => 45 | 5 => 46 | 6 => 47 | 7 => 48 | 8 => 49 | 9 => 50 | 10 => 51 | 11 => 52 | _ => 999999
def samS:List Nat:=[41,42,43,44,45,46,47,48,49,50,51,52]
set_option linter.unusedVariables false in
def samR (pa pb b1 o1 ca b2 o2 cb n k:Nat) (d0 d1 d2:Int) (Ad:Option Addr) (nd cd:Nat) (e0 e1 e2:Int) (Ae:Option Addr) (ne ce:Nat):Nat → Value → World → Prop:=fun j u w => match j with | 0 => u = (.pointer (some ⟨pa,3,none⟩)) | 1 => u = (.slice (some ⟨b1,o1,none⟩) n ca) | 2 => u = (.int .i64 (k:Int)) | 3 => u = (.pointer (some ⟨b1,o1 + k * 4,none⟩)) | 4 => u = (.agg #[.int .i64 d0,.int .i64 d1,.int .i64 d2,.slice Ad nd cd]) | 5 => u = (.pointer (some ⟨pb,3,none⟩)) | 6 => u = (.slice (some ⟨b2,o2,none⟩) n cb) | 7 => u = (.int .i64 (k:Int)) | 8 => u = (.pointer (some ⟨b2,o2 + k * 4,none⟩)) | 9 => u = (.agg #[.int .i64 e0,.int .i64 e1,.int .i64 e2,.slice Ae ne ce]) | 10 => u = (.bool true) | 11 => u = (.bool false) | _ => True
def samP (a0:Act) (W:World) (pa pb b1 o1 ca b2 o2 cb n k:Nat) (d0 d1 d2:Int) (Ad:Option Addr) (nd cd:Nat) (e0 e1 e2:Int) (Ae:Option Addr) (ne ce:Nat):Kt.RxP:=⟨12,samSlot,samS,a0,W,fun _ => False,samR pa pb b1 o1 ca b2 o2 cb n k d0 d1 d2 Ad nd cd e0 e1 e2 Ae ne ce,fun _ _ _ => True⟩
theorem sam_ok {a0:Act} {W:World} {pa pb b1 o1 ca b2 o2 cb n k:Nat} {d0 d1 d2:Int} {Ad:Option Addr} {nd cd:Nat} {e0 e1 e2:Int} {Ae:Option Addr} {ne ce:Nat} {listed:Array Bool} {act:Act} {w:World} (_:Kt.RxI (samP a0 W pa pb b1 o1 ca b2 o2 cb n k d0 d1 d2 Ad nd cd e0 e1 e2 Ae ne ce) listed act w):Kt.RxOk (samP a0 W pa pb b1 o1 ca b2 o2 cb n k d0 d1 d2 Ad nd cd e0 e1 e2 Ae ne ce):=by
  refine ⟨fun i hi j hj => (by decide:∀ i,i < 12 → ∀ j,j < 12 → samSlot i = samSlot j → i = j) i hi j hj,fun j u w w' h hk => ?_⟩;rcases j with _ | _ | _ | _ | _ | _ | _ | _ | _ | _ | _ | _ | j
  · exact h
  · exact h
  · exact h
  · exact h
  · exact h
  · exact h
  · exact h
  · exact h
  · exact h
  · exact h
  · exact h
  · exact h
  · exact h
def SamePost (w:World) (e:Ending) (w':World):Prop:=e = .returned (.bool true) ∧ Below w.heap.size w w'
set_option maxRecDepth 10000 in
set_option maxHeartbeats 2000000 in
theorem same_step (t:Gr.Tr) (IH:∀ t',Kt.tsz t' < Kt.tsz t → ∀ (M M':Nat → Prop) (v v':Value) (w:World),Kt.TV w M t' v → Kt.TV w M' t' v' → Calls Try.prog 17 #[v,v'] w (SamePost w))
    (M M':Nat → Prop) (v v':Value) (w:World) (hT:Kt.TV w M t v) (hT':Kt.TV w M' t v'):Calls Try.prog 17 #[v,v'] w (SamePost w):=by
  obtain ⟨r,i,j,l⟩:=t;obtain ⟨s,rfl,A,ca,b1,o1,vs,rfl,hA,_,h63,hc,ht⟩:=hT.parts;obtain ⟨s',rfl,A',cb,b2,o2,vs',rfl,hA',_,_,hc',ht'⟩:=hT'.parts;have HI:=Lib.hid IH;have HT1:=Lib.hid ht;have HT2:=Lib.hid ht';have HA:=Lib.hid hA;have HA':=Lib.hid hA';have HC:=Lib.hid hc;have HC':=Lib.hid hc';obtain ⟨n,HN⟩:∃ n,Hid (l.length = n):=⟨_,Lib.hid rfl⟩;clear IH ht ht' hA hA' hc hc' hT hT';rw [HN.out] at h63 ⊢;obtain ⟨w1,hw1⟩:∃ w1,(w.alloc (.cells #[.int .i64 (r:Int),.int .i64 (i:Int),.int .i64 (j:Int),.slice A n ca] 57)).alloc (.cells #[.int .i64 (r:Int),.int .i64 (i:Int),.int .i64 (j:Int),.slice A' n cb] 57) = w1:=⟨_,rfl⟩;have hs1:w1.heap.size = w.heap.size + 2:=by rw [← hw1];simp
  have hb1:Below w.heap.size w w1:=by rw [← hw1];exact ((Below.refl _ _).alloc (Nat.le_refl _) _).alloc (by simp) _
  have k1:Kt.Blk w1 w.heap.size 57 #[.int .i64 (r:Int),.int .i64 (i:Int),.int .i64 (j:Int),.slice A n ca]:=by rw [← hw1];exact (Kt.Blk.new w _ _).alloc _
  have k2:Kt.Blk w1 (w.heap.size + 1) 57 #[.int .i64 (r:Int),.int .i64 (i:Int),.int .i64 (j:Int),.slice A' n cb]:=by rw [← hw1];exact Kt.Blk.new' _ _ _ _ (by simp)
  have K1:=Lib.hid k1;have K2:=Lib.hid k2;have x10:w1.cell? ⟨w.heap.size,0,none⟩ = some (.int .i64 (r:Int)):=k1.cell 0;have x11:w1.cell? ⟨w.heap.size,1,none⟩ = some (.int .i64 (i:Int)):=k1.cell 1;have x12:w1.cell? ⟨w.heap.size,2,none⟩ = some (.int .i64 (j:Int)):=k1.cell 2;have x13:w1.cell? ⟨w.heap.size,3,none⟩ = some (.slice A n ca):=k1.cell 3;have x20:w1.cell? ⟨w.heap.size + 1,0,none⟩ = some (.int .i64 (r:Int)):=k2.cell 0;have x21:w1.cell? ⟨w.heap.size + 1,1,none⟩ = some (.int .i64 (i:Int)):=k2.cell 1;have x22:w1.cell? ⟨w.heap.size + 1,2,none⟩ = some (.int .i64 (j:Int)):=k2.cell 2;have x23:w1.cell? ⟨w.heap.size + 1,3,none⟩ = some (.slice A' n cb):=k2.cell 3;have hlt1:w.heap.size + 1 < w1.heap.size:=by omega
  have HB1:=Lib.hid hb1;clear hs1 k1 k2 hb1;go_enter Try.func17,Try.ntmps17;go_wp2_with fail;clear hw1 x10 x11 x12 x13 x20 x21 x22 x23;go_loopw [5] (fun s wr => ∃ k:Nat,k ≤ n ∧ s = .int .i64 k ∧ Below w1.heap.size w1 wr) (fun s _ => n - (intOf s).toNat)
  case atStart => exact ⟨0,Nat.zero_le _,rfl,Below.refl _ _⟩
  case round =>
    obtain ⟨k,hk,rfl,hbel⟩:=hrel;have hsr:=hbel.size;have hpa:wr.cell? ⟨w.heap.size,3,none⟩ = some (.slice A n ca):=(K1.out.below hbel (by omega)).cell 3;have hpb:wr.cell? ⟨w.heap.size + 1,3,none⟩ = some (.slice A' n cb):=(K2.out.below hbel (by omega)).cell 3;by_cases hlt:k < n
    · obtain ⟨rfl,_,hl1⟩:=HA.out (by rw [HN.out];omega);obtain ⟨rfl,_,hl2⟩:=HA'.out (by rw [HN.out];omega);have hb1r:Below w.heap.size w wr:=HB1.out.trans (hbel.mono (by omega));have hbs:=hb1r.size;obtain ⟨ve,hve⟩:∃ ve,ve = vs k:=⟨_,rfl⟩;obtain ⟨vf,hvf⟩:∃ vf,vf = vs' k:=⟨_,rfl⟩;have htk:Kt.TV wr M (l.getD k Kt.noTr) ve:=by
        rw [hve];exact (HT1.out k (by rw [HN.out];exact hlt)).keep fun q hq _ => hb1r.block q hq
      have htf:Kt.TV wr M' (l.getD k Kt.noTr) vf:=by
        rw [hvf];exact (HT2.out k (by rw [HN.out];exact hlt)).keep fun q hq _ => hb1r.block q hq
      obtain ⟨d0,d1,d2,Ad,nd,cd,rfl⟩:=tv_form htk;obtain ⟨e0,e1,e2,Ae,ne,ce,rfl⟩:=tv_form htf;have hcl:∀ q,q < 4 → wr.cell? ⟨b1,o1 + k * 4 + q,none⟩ = (#[Value.int .i64 d0,.int .i64 d1,.int .i64 d2,.slice Ad nd cd]:Array Value)[q]?:=fun q hq => by
        have:=HC.out k (by rw [HN.out];exact hlt) q hq;rw [← hve] at this;exact (hb1r.cell (p:=⟨b1,o1 + k * 4 + q,none⟩) hl1).trans this
      have hcm:∀ q,q < 4 → wr.cell? ⟨b2,o2 + k * 4 + q,none⟩ = (#[Value.int .i64 e0,.int .i64 e1,.int .i64 e2,.slice Ae ne ce]:Array Value)[q]?:=fun q hq => by
        have:=HC'.out k (by rw [HN.out];exact hlt) q hq;rw [← hvf] at this;exact (hb1r.cell (p:=⟨b2,o2 + k * 4 + q,none⟩) hl2).trans this
      have hb10:wr.cell? ⟨b1,o1 + k * 4,none⟩ = some (.int .i64 d0):=hcl 0 (by omega);have hb11:wr.cell? ⟨b1,o1 + k * 4 + 1,none⟩ = some (.int .i64 d1):=hcl 1 (by omega);have hb12:wr.cell? ⟨b1,o1 + k * 4 + 2,none⟩ = some (.int .i64 d2):=hcl 2 (by omega);have hb13:wr.cell? ⟨b1,o1 + k * 4 + 3,none⟩ = some (.slice Ad nd cd):=hcl 3 (by omega);have hb20:wr.cell? ⟨b2,o2 + k * 4,none⟩ = some (.int .i64 e0):=hcm 0 (by omega);have hb21:wr.cell? ⟨b2,o2 + k * 4 + 1,none⟩ = some (.int .i64 e1):=hcm 1 (by omega);have hb22:wr.cell? ⟨b2,o2 + k * 4 + 2,none⟩ = some (.int .i64 e2):=hcm 2 (by omega);have hb23:wr.cell? ⟨b2,o2 + k * 4 + 3,none⟩ = some (.slice Ae ne ce):=hcm 3 (by omega);have lb1:b1 < wr.heap.size:=by omega
      have lb2:b2 < wr.heap.size:=by omega
      have T1:=Lib.hid htk;have T2:=Lib.hid htf;clear hcl hcm hve hvf htk htf;go_wp2_with fail;have lpa:w.heap.size < wr.heap.size:=by omega
      have lpb:w.heap.size + 1 < wr.heap.size:=by omega
      refine Kt.region_inv (Kt.RxI (samP _ wr w.heap.size (w.heap.size + 1) b1 o1 ca b2 o2 cb n k d0 d1 d2 Ad nd cd e0 e1 e2 Ae ne ce)) (by kernel_rfl) ?hg (Kt.RxI.start trivial) ?hstep ?hdone
      case hg =>
        intro q o ho;rcases q with _ | _ | _ | _ | _ | _ | _ | _ | _ | _ | _ | _ | q
        all_goals first | (cases Option.some.inj ho;rfl) | (exfalso;simp at ho)
      case hstep =>
        intro listed act w2 q o hI ho hn hpre;have ok:=sam_ok hI;rcases q with _ | _ | _ | _ | _ | _ | _ | _ | _ | _ | _ | _ | q
        · cases Option.some.inj ho;have f2:act.tmps[2]?.getD undef = .pointer (some ⟨w.heap.size,0,none⟩):=(Kt.val_get act 2).symm.trans (hI.frame.val_out (s:=2) (Kt.qn rfl));have hk:=hI.put ok (j:=0) (s:=41) (v:=.pointer (some ⟨w.heap.size,3,none⟩)) (w':=w2) (Kt.qb rfl) rfl (Kt.qm rfl) (Kt.qb rfl) (Kt.Kp.refl _ _) rfl hI.st;refine Kt.op_opq hk ?_;clear hk;intro KK hkk;unfold Oper.wp;go_simp;exact hkk
        · cases Option.some.inj ho;have e0:act.tmps[41]?.getD undef = .pointer (some ⟨w.heap.size,3,none⟩):=hI.eq (j:=0) (Kt.qb rfl) rfl (fun _ _ h => h) (hpre ⟨0,.data⟩ (by simp) rfl);have c0:w2.cell? ⟨w.heap.size,3,none⟩ = some (.slice (some ⟨b1,o1,none⟩) n ca):=hI.cell lpa (fun h => h) hpa;have hk:=hI.put ok (j:=1) (s:=42) (v:=.slice (some ⟨b1,o1,none⟩) n ca) (w':=w2) (Kt.qb rfl) rfl (Kt.qm rfl) (Kt.qb rfl) (Kt.Kp.refl _ _) rfl hI.st;refine Kt.op_opq hk ?_;clear hk;intro KK hkk;unfold Oper.wp;go_simp;exact hkk
        · cases Option.some.inj ho;refine Kt.op_move rfl ?_;rw [show act.eval (.tmp 5) = .int .i64 (k:Int) from hI.frame.val_out (s:=5) (Kt.qn rfl)];exact hI.put ok (j:=2) (Kt.qb rfl) rfl (Kt.qm rfl) (Kt.qb rfl) (Kt.Kp.refl _ _) rfl hI.st
        · cases Option.some.inj ho;have e1:act.tmps[42]?.getD undef = .slice (some ⟨b1,o1,none⟩) n ca:=hI.eq (j:=1) (Kt.qb rfl) rfl (fun _ _ h => h) (hpre ⟨1,.data⟩ (by simp) rfl);have e2:act.tmps[43]?.getD undef = .int .i64 (k:Int):=hI.eq (j:=2) (Kt.qb rfl) rfl (fun _ _ h => h) (hpre ⟨2,.data⟩ (by simp) rfl);have hk:=hI.put ok (j:=3) (s:=44) (v:=.pointer (some ⟨b1,o1 + k * 4,none⟩)) (w':=w2) (Kt.qb rfl) rfl (Kt.qm rfl) (Kt.qb rfl) (Kt.Kp.refl _ _) rfl hI.st;refine Kt.op_opq hk ?_;clear hk;intro KK hkk;unfold Oper.wp;go_simp;exact hkk
        · cases Option.some.inj ho;have e3:act.tmps[44]?.getD undef = .pointer (some ⟨b1,o1 + k * 4,none⟩):=hI.eq (j:=3) (Kt.qb rfl) rfl (fun _ _ h => h) (hpre ⟨3,.data⟩ (by simp) rfl);have c0:w2.cell? ⟨b1,o1 + k * 4,none⟩ = some (.int .i64 d0):=hI.cell lb1 (fun h => h) hb10;have c1:w2.cell? ⟨b1,o1 + k * 4 + 1,none⟩ = some (.int .i64 d1):=hI.cell lb1 (fun h => h) hb11;have c2:w2.cell? ⟨b1,o1 + k * 4 + 2,none⟩ = some (.int .i64 d2):=hI.cell lb1 (fun h => h) hb12;have c3:w2.cell? ⟨b1,o1 + k * 4 + 3,none⟩ = some (.slice Ad nd cd):=hI.cell lb1 (fun h => h) hb13;have hk:=hI.put ok (j:=4) (s:=45) (v:=.agg #[.int .i64 d0,.int .i64 d1,.int .i64 d2,.slice Ad nd cd]) (w':=w2) (Kt.qb rfl) rfl (Kt.qm rfl) (Kt.qb rfl) (Kt.Kp.refl _ _) rfl hI.st;refine Kt.op_opq hk ?_;clear hk;intro KK hkk;unfold Oper.wp;go_simp;exact hkk
        · cases Option.some.inj ho;have f3:act.tmps[3]?.getD undef = .pointer (some ⟨(w.heap.size + 1),0,none⟩):=(Kt.val_get act 3).symm.trans (hI.frame.val_out (s:=3) (Kt.qn rfl));have hk:=hI.put ok (j:=5) (s:=46) (v:=.pointer (some ⟨(w.heap.size + 1),3,none⟩)) (w':=w2) (Kt.qb rfl) rfl (Kt.qm rfl) (Kt.qb rfl) (Kt.Kp.refl _ _) rfl hI.st;refine Kt.op_opq hk ?_;clear hk;intro KK hkk;unfold Oper.wp;go_simp;exact hkk
        · cases Option.some.inj ho;have e5:act.tmps[46]?.getD undef = .pointer (some ⟨(w.heap.size + 1),3,none⟩):=hI.eq (j:=5) (Kt.qb rfl) rfl (fun _ _ h => h) (hpre ⟨5,.data⟩ (by simp) rfl);have c0:w2.cell? ⟨(w.heap.size + 1),3,none⟩ = some (.slice (some ⟨b2,o2,none⟩) n cb):=hI.cell lpb (fun h => h) hpb;have hk:=hI.put ok (j:=6) (s:=47) (v:=.slice (some ⟨b2,o2,none⟩) n cb) (w':=w2) (Kt.qb rfl) rfl (Kt.qm rfl) (Kt.qb rfl) (Kt.Kp.refl _ _) rfl hI.st;refine Kt.op_opq hk ?_;clear hk;intro KK hkk;unfold Oper.wp;go_simp;exact hkk
        · cases Option.some.inj ho;refine Kt.op_move rfl ?_;rw [show act.eval (.tmp 5) = .int .i64 (k:Int) from hI.frame.val_out (s:=5) (Kt.qn rfl)];exact hI.put ok (j:=7) (Kt.qb rfl) rfl (Kt.qm rfl) (Kt.qb rfl) (Kt.Kp.refl _ _) rfl hI.st
        · cases Option.some.inj ho;have e6:act.tmps[47]?.getD undef = .slice (some ⟨b2,o2,none⟩) n cb:=hI.eq (j:=6) (Kt.qb rfl) rfl (fun _ _ h => h) (hpre ⟨6,.data⟩ (by simp) rfl);have e7:act.tmps[48]?.getD undef = .int .i64 (k:Int):=hI.eq (j:=7) (Kt.qb rfl) rfl (fun _ _ h => h) (hpre ⟨7,.data⟩ (by simp) rfl);have hk:=hI.put ok (j:=8) (s:=49) (v:=.pointer (some ⟨b2,o2 + k * 4,none⟩)) (w':=w2) (Kt.qb rfl) rfl (Kt.qm rfl) (Kt.qb rfl) (Kt.Kp.refl _ _) rfl hI.st;refine Kt.op_opq hk ?_;clear hk;intro KK hkk;unfold Oper.wp;go_simp;exact hkk
        · cases Option.some.inj ho;have e8:act.tmps[49]?.getD undef = .pointer (some ⟨b2,o2 + k * 4,none⟩):=hI.eq (j:=8) (Kt.qb rfl) rfl (fun _ _ h => h) (hpre ⟨8,.data⟩ (by simp) rfl);have c0:w2.cell? ⟨b2,o2 + k * 4,none⟩ = some (.int .i64 e0):=hI.cell lb2 (fun h => h) hb20;have c1:w2.cell? ⟨b2,o2 + k * 4 + 1,none⟩ = some (.int .i64 e1):=hI.cell lb2 (fun h => h) hb21;have c2:w2.cell? ⟨b2,o2 + k * 4 + 2,none⟩ = some (.int .i64 e2):=hI.cell lb2 (fun h => h) hb22;have c3:w2.cell? ⟨b2,o2 + k * 4 + 3,none⟩ = some (.slice Ae ne ce):=hI.cell lb2 (fun h => h) hb23;have hk:=hI.put ok (j:=9) (s:=50) (v:=.agg #[.int .i64 e0,.int .i64 e1,.int .i64 e2,.slice Ae ne ce]) (w':=w2) (Kt.qb rfl) rfl (Kt.qm rfl) (Kt.qb rfl) (Kt.Kp.refl _ _) rfl hI.st;refine Kt.op_opq hk ?_;clear hk;intro KK hkk;unfold Oper.wp;go_simp;exact hkk
        · cases Option.some.inj ho;have e4:act.tmps[45]?.getD undef = .agg #[.int .i64 d0,.int .i64 d1,.int .i64 d2,.slice Ad nd cd]:=hI.eq (j:=4) (Kt.qb rfl) rfl (fun _ _ h => h) (hpre ⟨4,.data⟩ (by simp) rfl);have e9:act.tmps[50]?.getD undef = .agg #[.int .i64 e0,.int .i64 e1,.int .i64 e2,.slice Ae ne ce]:=hI.eq (j:=9) (Kt.qb rfl) rfl (fun _ _ h => h) (hpre ⟨9,.data⟩ (by simp) rfl);have hbw:Below wr.heap.size wr w2:=hI.kept.to_below (Nat.le_refl _) (fun _ _ h => h);refine Kt.op_opc (s:=51) (fun v w3 => v = .bool true ∧ Below w2.heap.size w2 w3) ?_ ?_
          · intro KK hkk;unfold Oper.wp;go_simp;refine (HI.out _ (Kt.size_sub (by rw [HN.out];exact hlt) r i j) _ _ _ _ w2 (T1.out.keep fun q hq _ => hbw.block q hq) (T2.out.keep fun q hq _ => hbw.block q hq)).mono ?_;rintro e w3 ⟨rfl,hb3⟩;exact hkk _ _ ⟨rfl,hb3⟩
          rintro v3 w3 ⟨rfl,hb3⟩;exact hI.put ok (j:=10) (s:=51) (v:=.bool true) (w':=w3) (Kt.qb rfl) rfl (Kt.qm rfl) (Kt.qb rfl) (Kt.Kp.below _ hb3) rfl trivial
        · cases Option.some.inj ho;have e10:act.tmps[51]?.getD undef = .bool true:=hI.eq (j:=10) (Kt.qb rfl) rfl (fun _ _ h => h) (hpre ⟨10,.data⟩ (by simp) rfl);have hk:=hI.put ok (j:=11) (s:=52) (v:=.bool false) (w':=w2) (Kt.qb rfl) rfl (Kt.qm rfl) (Kt.qb rfl) (Kt.Kp.refl _ _) rfl hI.st;refine Kt.op_opq hk ?_;clear hk;intro KK hkk;unfold Oper.wp;go_simp;exact hkk
        · exfalso;simp at ho
      case hdone =>
        intro listed act w2 hI hr;have hup:=Kt.all_up (fun q o ho => by
          rcases q with _ | _ | _ | _ | _ | _ | _ | _ | _ | _ | _ | _ | q
          all_goals first | (cases Option.some.inj ho;decide) | (exfalso;simp at ho)) hI.size hr
        have z52:Kt.val act 52 = .bool false:=hI.res 11 (Kt.qb rfl) (hup 11 (Kt.qb rfl));have hst:=hI.st;have hkept:=hI.kept;rw [hI.frame.out];simp only [samP,samS,Kt.sets];generalize Kt.val act 41 = v41;generalize Kt.val act 42 = v42;generalize Kt.val act 43 = v43;generalize Kt.val act 44 = v44;generalize Kt.val act 45 = v45;generalize Kt.val act 46 = v46;generalize Kt.val act 47 = v47;generalize Kt.val act 48 = v48;generalize Kt.val act 49 = v49;generalize Kt.val act 50 = v50;generalize Kt.val act 51 = v51;generalize Kt.val act 52 = v52 at z52 ⊢;simp only [List.setIfInBounds_toArray,List.set_cons_zero,List.set_cons_succ];subst z52;clear hI hr hup;have hbz:Below w1.heap.size w1 w2:=hbel.trans ((hkept.to_below (Nat.le_refl _) (fun _ _ h => h)).mono hsr);go_wp2_with fail;go_roundw
        case rel => exact ⟨k + 1,by omega,by go_num,hbz⟩
        case measure => simp [intOf];omega
    · obtain rfl:k = n:=by omega
      go_wp2;go_ret;exact ⟨rfl,HB1.out.trans (hbel.mono (by omega))⟩
theorem same_any (t:Gr.Tr):∀ (M M':Nat → Prop) (v v':Value) (w:World),Kt.TV w M t v → Kt.TV w M' t v' → Calls Try.prog 17 #[v,v'] w (SamePost w):=by
  have key:∀ n (t:Gr.Tr),Kt.tsz t ≤ n → ∀ (M M':Nat → Prop) (v v':Value) (w:World),Kt.TV w M t v → Kt.TV w M' t v' → Calls Try.prog 17 #[v,v'] w (SamePost w):=by
    intro n
    induction n with
    | zero => exact fun t ht M M' v v' w hT hT' => same_step t (fun t' h => by omega) M M' v v' w hT hT'
    | succ n ih => exact fun t ht M M' v v' w hT hT' => same_step t (fun t' h => ih t' (by omega)) M M' v v' w hT hT'
  exact key _ t (Nat.le_refl _)
end Go.Proofs.Ytdbfiflmeiidjaa
end
section
/- The chapter's example: its derivations. -/
namespace Gr
theorem two_rules:rulesOf twoG 0 = [0,1]:=by decide
theorem two_rank:Ranked twoG (fun _ => 0):=⟨fun _ => Nat.zero_le _,fun r hr x hx hc => by
  have hr2:r < 2:=hr
  match r,hr2 with
  | 0,_ => exact absurd (congrArg List.length hx) (by show ¬ (2 = 1);decide)
  | 1,_ =>
    have:x = ⟨1,0⟩:=by injection hx with h;exact h.symm
    subst this;exact absurd hc (by decide)⟩
section
variable {hit:Nat → Int → Bool} {n:Nat}
theorem two_same (i:Nat):D twoG hit n 0 i i = []:=by
  rw [D_eq two_rank hit n 0 i i (by omega),two_rules];simp only [List.flatMap_cons,List.flatMap_nil];rw [parts_short hit _ (rul twoG 0).right i i (by show i < i + 2;omega),parts_short hit _ (rul twoG 1).right i i (by show i < i + 1;omega)];rfl
theorem two_parts (i j:Nat):parts hit (D twoG hit n) [⟨0,0⟩,⟨0,0⟩] i j = (List.range' (i + 1) (j - i)).flatMap fun m => (D twoG hit n 0 i m).flatMap fun a => (D twoG hit n 0 m j).map fun b => [a,b]:=by
  rw [parts,if_pos rfl];refine flatMap_same _ fun m hm => flatMap_same _ fun a _ => ?_
  rw [List.mem_range'_1] at hm;have h1:parts hit (D twoG hit n) [⟨0,0⟩] m j = (D twoG hit n 0 m j).map fun b => [b]:=by
    rw [parts,if_pos rfl];by_cases hlt:m < j
    · obtain ⟨k,rfl⟩:∃ k,j = m + 1 + k:=⟨j - m - 1,by omega⟩;rw [show m + 1 + k - m = k + 1 from by omega,List.range'_concat,List.flatMap_append];rw [List.flatMap_eq_nil_iff.2 fun q hq => ?_]
      · simp [parts,Nat.add_assoc];rw [← List.flatMap_singleton' (List.map _ _),List.flatMap_map]
      · rw [List.mem_range'_1] at hq;rw [List.flatMap_eq_nil_iff];intro b _;rw [parts,if_neg (by omega)];rfl
    · obtain rfl:m = j:=by omega
      rw [show m - m = 0 from by omega,two_same];rfl
  rw [h1,List.map_map];rfl
theorem two_eq (i j:Nat) (h:j - i ≤ n):D twoG hit n 0 i j =
    (((List.range' (i + 1) (j - i)).flatMap fun m => (D twoG hit n 0 i m).flatMap fun a => (D twoG hit n 0 m j).map fun b => [a,b]).map (Tr.node 0 i j)) ++ (if i < j ∧ hit i 1 = true then (if i + 1 = j then [Tr.node 1 i j []] else []) else []):=by
  rw [D_eq two_rank hit n 0 i j h,two_rules];simp only [List.flatMap_cons,List.flatMap_nil,List.append_nil];rw [show (rul twoG 0).right = [⟨0,0⟩,⟨0,0⟩] from rfl,show (rul twoG 1).right = [⟨1,0⟩] from rfl,two_parts];congr 1;rw [parts,if_neg (by decide)];split
  · rw [parts];split <;> rfl
  · rfl
theorem two_one (i:Nat) (h:1 ≤ n) (hh:hit i 1 = true):D twoG hit n 0 i (i + 1) = [leafT i]:=by
  rw [two_eq i (i + 1) (by omega),show i + 1 - i = 1 from by omega];simp only [List.range'_one,List.flatMap_singleton,two_same,List.map_nil,hh];simp [leafT]
end
theorem getD_l (l t:List Nat) {k:Nat} (h:k < l.length):(l ++ t).getD k 0 = l.getD k 0:=by simp [List.getElem?_append_left h]
theorem getD_r (l:List Nat) (x k:Nat) (h:l.length = k):(l ++ [x]).getD k 0 = x:=by subst h;simp
def catl:Nat → List Nat
  | 0 => [0]
  | d + 1 => catl d ++ [if d = 0 then 1 else ((List.range d).map fun k => (catl d).getD (k + 1) 0 * (catl d).getD (d - k) 0).sum]
theorem catl_len:∀ d,(catl d).length = d + 1
  | 0 => rfl
  | d + 1 => by rw [catl,List.length_append,catl_len d];rfl
theorem catl_up (k:Nat):∀ d,k ≤ d → (catl d).getD k 0 = (catl k).getD k 0:=by
  intro d
  induction d with
  | zero => intro h;obtain rfl:k = 0:=by omega
            rfl
  | succ d ih =>
    intro h;by_cases hk:k = d + 1
    · subst hk;rfl
    · rw [← ih (by omega),catl,getD_l _ _ (by rw [catl_len];omega)]
def cat (d:Nat):Nat:=(catl d).getD d 0
theorem cat_succ (d:Nat) (hd:0 < d):cat (d + 1) = ((List.range d).map fun k => cat (k + 1) * cat (d - k)).sum:=by
  unfold cat;rw [catl,if_neg (by omega),getD_r _ _ _ (catl_len d)];congr 1;refine List.map_congr_left fun k hk => ?_
  rw [List.mem_range] at hk;rw [catl_up (k + 1) d (by omega),catl_up (d - k) d (by omega)]
theorem two_cnt {hit:Nat → Int → Bool} {n:Nat} (hh:∀ i,i < n → hit i 1 = true):∀ d i,i + d ≤ n → cnt twoG hit n 0 i (i + d) = cat d:=by
  intro d
  induction d using Nat.strongRecOn with
  | _ d ih =>
    intro i hd;unfold cnt at ih ⊢;rcases Nat.eq_zero_or_pos d with e | hp
    · subst e;rw [Nat.add_zero,two_same];rfl
    · obtain ⟨d,rfl⟩:∃ e,d = e + 1:=⟨d - 1,by omega⟩;by_cases h0:d = 0
      · subst h0;rw [two_one i (by omega) (hh i (by omega))];rfl
      · rw [two_eq i (i + (d + 1)) (by omega),if_pos ⟨by omega,hh i (by omega)⟩,if_neg (by omega),List.append_nil,List.length_map,List.length_flatMap,cat_succ d (by omega),show i + (d + 1) - i = d + 1 from by omega,List.range'_concat,List.map_append,List.sum_append];rw [show i + 1 + 1 * d = i + (d + 1) from by omega];simp only [List.map_cons,List.map_nil,List.sum_cons,List.sum_nil,two_same,List.length_nil,Nat.add_zero,List.length_flatMap,List.length_map];rw [show (List.map (fun (_:Tr) => (0:Nat)) (D twoG hit n 0 i (i + (d + 1)))).sum = 0 from by rw [List.map_const',List.sum_replicate_nat,Nat.mul_zero],Nat.add_zero];rw [List.range'_eq_map_range,List.map_map];congr 1;refine List.map_congr_left fun k hk => ?_
        rw [List.mem_range] at hk;simp only [Function.comp,List.map_const',List.sum_replicate_nat];have h1:=ih (k + 1) (by omega) i (by omega);have h2:=ih (d - k) (by omega) (i + 1 + k) (by omega);rw [show i + (k + 1) = i + 1 + k from by omega] at h1;rw [show i + 1 + k + (d - k) = i + (d + 1) from by omega] at h2;rw [h1,h2]
theorem cat4:cat 4 = 5:=by decide
theorem cat20:cat 20 = 1767263190:=by
  have:(catl 20) = [0,1,1,2,5,14,42,132,429,1430,4862,16796,58786,208012,742900,2674440,9694845,35357670,129644790,477638700,1767263190]:=by rfl
  unfold cat;rw [this];rfl
def treeA:Tr:=.node 0 0 3 [leafT 0,.node 0 1 3 [leafT 1,leafT 2]]
def treeB:Tr:=.node 0 0 3 [.node 0 0 2 [leafT 0,leafT 1],leafT 2]
theorem two_three {hit:Nat → Int → Bool} (hh:∀ i,i < 3 → hit i 1 = true):D twoG hit 3 0 0 3 = [treeA,treeB]:=by
  have a0:=two_one (hit:=hit) (n:=3) 0 (by omega) (hh 0 (by omega));have a1:=two_one (hit:=hit) (n:=3) 1 (by omega) (hh 1 (by omega));have a2:=two_one (hit:=hit) (n:=3) 2 (by omega) (hh 2 (by omega));have b0:D twoG hit 3 0 0 2 = [.node 0 0 2 [leafT 0,leafT 1]]:=by
    rw [two_eq 0 2 (by omega)];simp [List.range'_succ,a0,a1,two_same]
  have b1:D twoG hit 3 0 1 3 = [.node 0 1 3 [leafT 1,leafT 2]]:=by
    rw [two_eq 1 3 (by omega)];simp [List.range'_succ,a1,a2,two_same]
  rw [two_eq 0 3 (by omega)];simp [List.range'_succ,a0,a2,b0,b1,two_same,treeA,treeB]
end Gr
end
