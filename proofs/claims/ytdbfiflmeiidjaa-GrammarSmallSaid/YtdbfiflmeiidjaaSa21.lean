/- Joined: TrA, ReA, ReB. -/
import Derived.Test.YtdbfiflmeiidjaaSa18
import Derived.Test.YtdbfiflmeiidjaaSa20
import Derived.Test.YtdbfiflmeiidjaaSa10
import Derived.Laws.EntriesVeiled
import Derived.Laws.OwnMore
section
/- Trees returns the first derivations. -/
namespace Gr
theorem parts_mem {α:Type} (hit:Nat → Int → Bool) (t:Int → Nat → Nat → List α):∀ (l:List Item) (i j:Nat),∀ y ∈ parts hit t l i j,∀ a ∈ y,∃ s i' j',a ∈ t s i' j':=by
  intro l
  induction l with
  | nil =>
    intro i j y hy a ha;rw [parts] at hy;split at hy
    · have:y = []:=by simpa using hy
      subst this;cases ha
    · cases hy
  | cons x l ih =>
    intro i j y hy a ha;rw [parts] at hy;split at hy
    · obtain ⟨m,_,hy⟩:=List.mem_flatMap.1 hy;obtain ⟨b,hb,hy⟩:=List.mem_flatMap.1 hy;obtain ⟨z,hz,rfl⟩:=List.mem_map.1 hy;rcases List.mem_cons.1 ha with rfl | ha
      · exact ⟨_,_,_,hb⟩
      · exact ih m j z hz a ha
    · split at hy
      · exact ih _ _ y hy a ha
      · cases hy
theorem T_small {g:List Rule} (h8:∀ r,r < g.length → (rul g r).right.length ≤ 8) (hit:Nat → Int → Bool):∀ (f:Nat) (s:Int) (i j:Nat),∀ t ∈ T g hit f s i j,Kt.Small t:=by
  intro f
  induction f with
  | zero => intro s i j t ht;cases ht
  | succ f ih =>
    intro s i j t ht;rw [T] at ht;obtain ⟨r,hr,ht⟩:=List.mem_flatMap.1 ht;obtain ⟨y,hy,rfl⟩:=List.mem_map.1 ht;refine .node r i j y (Nat.le_trans (Go.Proofs.Ytdbfiflmeiidjaa.parts_len _ _ _ _ _ y hy) (h8 r (mem_rulesOf.1 hr).1)) fun k hk => ?_
    have hm:y.getD k Kt.noTr ∈ y:=by
      rw [List.getD_eq_getElem?_getD,List.getElem?_eq_getElem hk];exact List.getElem_mem hk
    obtain ⟨s',i',j',h⟩:=parts_mem _ _ _ _ _ y hy _ hm;exact ih s' i' j' _ h
end Gr
namespace Go.Proofs.Ytdbfiflmeiidjaa
open Go Go.RowKit
theorem Trees_zero (g:List Gr.Rule) (tk:List Int) (A:Option Addr) (n cp:Nat) (T:Option Addr) (nt ct:Nat) (w:World) (hl:g.length = n) (hn:n ≤ 4611686018427387904) (hnt:tk.length = nt) (hnt2:nt ≤ 4611686018427387904)
    (hg:Kt.Rules w w.heap.size A g):Calls Try.prog 15 #[.slice A n cp,.slice T nt ct,.int .i64 0] w (TreesPost g tk 0 w):=by
  obtain ⟨w0,hw0⟩:∃ w0,w.alloc (.cells #[.int .i64 0] 3) = w0:=⟨_,rfl⟩;have hb0:Below w.heap.size w w0:=by rw [← hw0];exact (Below.refl _ _).alloc (Nat.le_refl _) _
  have hmost:Kt.Blk w0 w.heap.size 3 #[.int .i64 0]:=by rw [← hw0];exact Kt.Blk.new _ _ _
  have HC:=Lib.hid (checked2_any g A n cp T nt ct w0 hl hn hnt2 (hg.on hb0));have HMO:=Lib.hid hmost;have HT:=Lib.hid hnt;have HB0:=Lib.hid hb0;clear hl hnt hg hmost hb0;go_enter Try.func15,Try.ntmps15;go_wp2_with fail;refine HC.out.mono ?_;rintro e w1 ⟨hb,c,rfl,hc⟩;have HK:=Lib.hid hc;have hb1:Below w.heap.size w w1:=HB0.out.trans (hb.mono HB0.out.size);clear HC hc hw0;by_cases he:c = 0
  · subst he;have hm1c:w1.cell? ⟨w.heap.size,0,none⟩ = some (.int .i64 0):=(HMO.out.on hb).cell 0;have hlt1:w.heap.size < w1.heap.size:=(HMO.out.on hb).lt;have hb2:Below w.heap.size w (w1.alloc (.cells #[.slice none 0 0] 49)):=hb1.alloc (Nat.le_of_lt hlt1) _;go_wp2;go_ret2;exact ⟨hb2,_,0,rfl,by rw [HT.out];exact HK.out,by rw [if_pos rfl];exact Kt.LV.nil _ _⟩
  · have heb:(c != 0) = true:=by simp [he]
    have HE:=Lib.hid he;clear he;go_wp2;go_ret2;exact ⟨hb1,_,c,rfl,by rw [HT.out];exact HK.out,by rw [if_neg HE.out];exact Kt.LV.nil _ _⟩
theorem Trees_any (g:List Gr.Rule) (tk:List Int) (A:Option Addr) (n cp:Nat) (T:Option Addr) (nt ct:Nat) (w:World) (hl:g.length = n) (hn:n ≤ 4611686018427387904) (hnt:tk.length = nt) (hnt2:nt ≤ 4611686018427387904) (hk:Gr.Fit g nt ∨ 40 < nt)
    (hW:WfR g) (hg:Kt.Rules w w.heap.size A g) (ht:Kt.Ints w w.heap.size .u16 T tk) (most:Nat) (hm2:most ≤ 200) :
    Calls Try.prog 15 #[.slice A n cp,.slice T nt ct,.int .i64 (most:Int)] w (TreesPost g tk most w):=by
  rcases Nat.eq_zero_or_pos most with e | hm1
  · subst e;exact Trees_zero g tk A n cp T nt ct w hl hn hnt hnt2 hg
  · exact Trees_step g tk A n cp T nt ct w hl hn hnt hnt2 hk hW hg ht most hm1 hm2 (fun hG => Gr.T_small (fun r hr => (hG.ok r hr).parts.2.2.1) _ _ _ _ _) (fun X ρ hX hE hx => trees_any hX hE 0 0 nt (by omega) (by omega) (by omega) (by omega))
end Go.Proofs.Ytdbfiflmeiidjaa
end
section
/- Add of the reference: sums of naturals. -/
namespace Nt
theorem add_low {a b:List Int} {k:Nat} (ha:R a) (hb:Ok b) (hk:k < a.length):P k ≤ V a + V b:=by
  have h1:=R_low ha (fun e => by rw [e] at hk;simp at hk);have h2:=P_mono (show k ≤ a.length - 1 by omega);have h3:=V_nonneg hb;omega
theorem sum_right {l:List Int} {k:Nat} {t:Int} (ho:Ok l) (hl:l.length = k) (hv:V l = t) (hk:k = 0 ∨ P (k - 1) ≤ t):R l:=by
  refine ⟨ho,?_⟩;rcases Nat.eq_zero_or_pos k with e | e
  · left;exact List.eq_nil_of_length_eq_zero (by omega)
  · right;intro h0;have h1:=hk.resolve_left (by omega);have h2:=V_take l (k - 1) (by omega);rw [show k - 1 + 1 = k from by omega,V_take_all l k (by omega),← hl,h0,Int.mul_zero,Int.add_zero] at h2;have h3:=V_lt (ho.take (l.length - 1));rw [List.length_take,show min (l.length - 1) l.length = k - 1 from by omega,← h2] at h3;omega
theorem add_top {a b:List Int} {m:Nat} (ha:Ok a) (hb:Ok b) (h1:a.length ≤ m) (h2:b.length ≤ m):V a + V b < P (m + 1):=by
  have e1:=V_lt ha;have e2:=V_lt hb;have e3:=P_mono h1;have e4:=P_mono h2;have e5:=P_pos m;rw [P_succ];omega
end Nt
namespace Go.Proofs.Ytdbfiflmeiidjaa
open Go Go.RowKit
structure RS (a b l:List Int) (k:Nat) (c:Int):Prop where
  len:l.length = k
  ok:Nt.Ok l
  val:Nt.V l + Nt.P k * c = Nt.V (a.take k) + Nt.V (b.take k)
  c0:0 ≤ c
  c1:c ≤ 1
  low:k = 0 ∨ Nt.P (k - 1) ≤ Nt.V a + Nt.V b
theorem RS.start (a b:List Int):RS a b [] 0 0:=⟨rfl,Nt.Ok.nil,by simp [Nt.V],by omega,by omega,.inl rfl⟩
theorem RS.step {a b l:List Int} {k:Nat} {c x y t:Int} (h:RS a b l k c) (ha:Nt.Ok a) (hb:Nt.Ok b) (hx:Ls.nth a k = x) (hy:Ls.nth b k = y) (ht:t = x + y + c) (hlow:Nt.P k ≤ Nt.V a + Nt.V b):RS a b (l ++ [t % 4294967296]) (k + 1) (t / 4294967296):=by
  have bx:=ha.nth_any k;have by':=hb.nth_any k
  rw [hx] at bx;rw [hy] at by'
  have c0:=h.c0;have c1:=h.c1;refine ⟨by rw [List.length_append,h.len];rfl,h.ok.append (Nt.Ok.one (by omega) (by omega)),?_,by omega,by omega,.inr (by simpa using hlow)⟩;rw [Nt.V_add_step h.len h.val ht,Nt.V_take_nth,Nt.V_take_nth,hx,hy]
theorem RS.carry {a b l:List Int} {k:Nat} {c:Int} (h:RS a b l k c) (hc:0 < c) (ha:a.length ≤ k) (hb:b.length ≤ k):Nt.P k ≤ Nt.V a + Nt.V b:=by
  have hv:=h.val;have h1:=Nt.V_nonneg h.ok;rw [Nt.V_take_all a k ha,Nt.V_take_all b k hb] at hv;have hc1:c = 1:=by have:=h.c1;omega
  rw [hc1,Int.mul_one] at hv;omega
theorem RS.small {a b l:List Int} {m k:Nat} {c:Int} (h:RS a b l k c) (ha:Nt.Ok a) (hb:Nt.Ok b) (h1:a.length ≤ m) (h2:b.length ≤ m) (hk:m < k):c = 0:=by
  have hv:=h.val;have h3:=Nt.add_top ha hb h1 h2;rw [Nt.V_take_all a k (by omega),Nt.V_take_all b k (by omega)] at hv;have h4:=Nt.V_nonneg h.ok;have h5:=Nt.P_mono (show m + 1 ≤ k from hk);have c0:=h.c0;have c1:=h.c1;rcases (show c = 0 ∨ c = 1 by omega) with e | e
  · exact e
  · rw [e,Int.mul_one] at hv;omega
theorem RS.fin {a b l:List Int} {k:Nat} {x y:Nat} (h:RS a b l k 0) (hx:a = Nt.limbs x) (hy:b = Nt.limbs y) (ha:a.length ≤ k) (hb:b.length ≤ k):Nt.limbs (x + y) = l:=by
  have hv:=h.val;rw [Nt.V_take_all a k ha,Nt.V_take_all b k hb,Int.mul_zero,Int.add_zero] at hv;refine Nt.limbs_of (Nt.sum_right h.ok h.len hv h.low) ?_;rw [hv,hx,hy,Nt.V_limbs,Nt.V_limbs];omega
set_option maxRecDepth 10000 in
set_option maxHeartbeats 4000000 in
theorem radd_any (A B:Option Addr) (n m ca cb:Nat) (a b:List Int) (x y:Nat) (w:World) (hla:a.length = n) (hlb:b.length = m) (ha:Kt.Ints w w.heap.size .u32 A a) (hb:Kt.Ints w w.heap.size .u32 B b)
    (hn:n ≤ 5000) (hm:m ≤ 5000) (hx:a = Nt.limbs x) (hy:b = Nt.limbs y) :
    Calls Try.prog 47 #[.slice A n ca,.slice B m cb] w fun e w' => ∃ v,e = .returned v ∧ Kt.Num w' w.heap.size v (x + y) ∧ Below w.heap.size w w':=by
  have hoa:Nt.R a:=by rw [hx];exact Nt.limbs_R x
  have hob:Nt.R b:=by rw [hy];exact Nt.limbs_R y
  obtain ⟨i0,hi0,hz0,hz1,hz2⟩:=info_parts Try.infoU32;have HLA:=Lib.hid hla;have HLB:=Lib.hid hlb;have HX:=Lib.hid hx;have HY:=Lib.hid hy;have HOA:=Lib.hid hoa;have HOB:=Lib.hid hob;clear hla hlb hx hy hoa hob;go_enter Try.func47,Try.ntmps47;go_wp2_with fail;go_loopw [5,6,7] (fun o cv i wr => ∃ (k:Nat) (l:List Int) (c:Int),k ≤ max n m + 1 ∧ i = .int .i64 k ∧ cv = .int .u64 c ∧ Hid (RS a b l k c) ∧ 0 ≤ c ∧ c ≤ 1 ∧ Kt.Own wr w.heap.size 68 .u32 o l ∧ Below w.heap.size w wr) (fun _ _ i _ => max n m + 2 - (intOf i).toNat)
  case atStart => exact ⟨0,[],0,by omega,rfl,rfl,Lib.hid (RS.start a b),by omega,by omega,Kt.Own.nil _ _ _ _,Below.refl _ _⟩
  case round =>
    obtain ⟨k,l,c,hk,rfl,rfl,hrs,c0,c1,hown,hbel⟩:=hrel;have hbs:=hbel.size;have hll:l.length = k:=hrs.out.len;by_cases h1:k < n
    · by_cases h2:k < m
      · obtain ⟨ga,oa,rfl,hga,hca⟩:=ha (by have:=HLA.out;omega);have ca0:=(hbel.cell (p:=⟨ga,oa + k,none⟩) hga).trans (hca k (by have:=HLA.out;omega));obtain ⟨s,hs⟩:∃ s,Ls.nth a k = s:=⟨_,rfl⟩;have bs:=HOA.out.1.nth_any k;rw [hs] at ca0 bs;obtain ⟨s0,s1⟩:=bs;have hnx:=hs;clear hca hs;obtain ⟨gb,ob,rfl,hgb,hcb⟩:=hb (by have:=HLB.out;omega);have cb0:=(hbel.cell (p:=⟨gb,ob + k,none⟩) hgb).trans (hcb k (by have:=HLB.out;omega));obtain ⟨u,hu⟩:∃ u,Ls.nth b k = u:=⟨_,rfl⟩;have bu:=HOB.out.1.nth_any k;rw [hu] at cb0 bu;obtain ⟨u0,u1⟩:=bu;have hny:=hu;clear hcb hu;obtain ⟨t,ht⟩:∃ t,c + s + u = t:=⟨_,rfl⟩;obtain ⟨r,hr⟩:∃ r,t % 4294967296 = r:=⟨_,rfl⟩;obtain ⟨q,hq⟩:∃ q,t / 4294967296 = q:=⟨_,rfl⟩;have hrs2:Hid (RS a b (l ++ [r]) (k + 1) q):=Lib.hid (by rw [← hr,← hq];exact hrs.out.step HOA.out.1 HOB.out.1 hnx hny (by omega) (Nt.add_low HOA.out HOB.out.1 (by have:=HLA.out;omega)));have tm:t.tmod 4294967296 = r:=by rw [Int.tmod_eq_emod_of_nonneg (by omega),hr]
        have td:t.tdiv 4294967296 = q:=by rw [Int.tdiv_eq_ediv_of_nonneg (by omega),hq]
        have r0:0 ≤ r:=by omega
        have r1:r ≤ 4294967295:=by omega
        have q0:0 ≤ q:=by omega
        have q1:q ≤ 1:=by omega
        have HNX:=Lib.hid hnx;have HNY:=Lib.hid hny;clear hr hq hnx hny;go_wp2_with (at_builtin;refine wpList_append_own _ rfl (.tmp 46) (.tmp 50) 33 rfl w.heap.size 68 i0 (.int .u32 0) 1 4 Try.underlying33 hi0 hz0 hz1 hz2 rfl (by decide) _ l.length (l.map (Value.int .u32)) rfl (hown.alloc _) ⟨wr.heap.size,0,none⟩ 1 1 [.int .u32 r] rfl rfl (Kt.cell_one _ _ _) (ints_oneCell .u32 [r]) (by unfold maxLen;omega) (by omega) (by have:=hbel.size;simp;omega) ?_);intro v' w3 hown3 hgrow _;have hown4:Kt.Own w3 w.heap.size 68 .u32 v' (l ++ [r]):=Kt.Own.snoc (by rw [hll];simpa using hown3);have hbel3:Below w.heap.size w w3:=(hbel.alloc hbel.size _).grown hgrow (by have:=hbel.size;simp;omega) (fun g hg => Kt.own_block_ne hown _ hg);clear hown3 hgrow;go_wp2_with fail;go_roundw
        case rel => exact ⟨k + 1,l ++ [r],q,by omega,by go_num,rfl,hrs2,q0,q1,hown4,hbel3⟩
        case measure => simp [intOf];omega
      · obtain ⟨ga,oa,rfl,hga,hca⟩:=ha (by have:=HLA.out;omega);have ca0:=(hbel.cell (p:=⟨ga,oa + k,none⟩) hga).trans (hca k (by have:=HLA.out;omega));obtain ⟨s,hs⟩:∃ s,Ls.nth a k = s:=⟨_,rfl⟩;have bs:=HOA.out.1.nth_any k;rw [hs] at ca0 bs;obtain ⟨s0,s1⟩:=bs;have hnx:=hs;clear hca hs;have hny:Ls.nth b k = 0:=Nt.nth_out (by have:=HLB.out;omega);obtain ⟨t,ht⟩:∃ t,c + s = t:=⟨_,rfl⟩;obtain ⟨r,hr⟩:∃ r,t % 4294967296 = r:=⟨_,rfl⟩;obtain ⟨q,hq⟩:∃ q,t / 4294967296 = q:=⟨_,rfl⟩;have hrs2:Hid (RS a b (l ++ [r]) (k + 1) q):=Lib.hid (by rw [← hr,← hq];exact hrs.out.step HOA.out.1 HOB.out.1 hnx hny (by omega) (Nt.add_low HOA.out HOB.out.1 (by have:=HLA.out;omega)));have tm:t.tmod 4294967296 = r:=by rw [Int.tmod_eq_emod_of_nonneg (by omega),hr]
        have td:t.tdiv 4294967296 = q:=by rw [Int.tdiv_eq_ediv_of_nonneg (by omega),hq]
        have r0:0 ≤ r:=by omega
        have r1:r ≤ 4294967295:=by omega
        have q0:0 ≤ q:=by omega
        have q1:q ≤ 1:=by omega
        have HNX:=Lib.hid hnx;have HNY:=Lib.hid hny;clear hr hq hnx hny;go_wp2_with (at_builtin;refine wpList_append_own _ rfl (.tmp 46) (.tmp 50) 33 rfl w.heap.size 68 i0 (.int .u32 0) 1 4 Try.underlying33 hi0 hz0 hz1 hz2 rfl (by decide) _ l.length (l.map (Value.int .u32)) rfl (hown.alloc _) ⟨wr.heap.size,0,none⟩ 1 1 [.int .u32 r] rfl rfl (Kt.cell_one _ _ _) (ints_oneCell .u32 [r]) (by unfold maxLen;omega) (by omega) (by have:=hbel.size;simp;omega) ?_);intro v' w3 hown3 hgrow _;have hown4:Kt.Own w3 w.heap.size 68 .u32 v' (l ++ [r]):=Kt.Own.snoc (by rw [hll];simpa using hown3);have hbel3:Below w.heap.size w w3:=(hbel.alloc hbel.size _).grown hgrow (by have:=hbel.size;simp;omega) (fun g hg => Kt.own_block_ne hown _ hg);clear hown3 hgrow;go_wp2_with fail;go_roundw
        case rel => exact ⟨k + 1,l ++ [r],q,by omega,by go_num,rfl,hrs2,q0,q1,hown4,hbel3⟩
        case measure => simp [intOf];omega
    · by_cases h2:k < m
      · obtain ⟨gb,ob,rfl,hgb,hcb⟩:=hb (by have:=HLB.out;omega);have cb0:=(hbel.cell (p:=⟨gb,ob + k,none⟩) hgb).trans (hcb k (by have:=HLB.out;omega));obtain ⟨u,hu⟩:∃ u,Ls.nth b k = u:=⟨_,rfl⟩;have bu:=HOB.out.1.nth_any k;rw [hu] at cb0 bu;obtain ⟨u0,u1⟩:=bu;have hny:=hu;clear hcb hu;have hnx:Ls.nth a k = 0:=Nt.nth_out (by have:=HLA.out;omega);obtain ⟨t,ht⟩:∃ t,c + u = t:=⟨_,rfl⟩;obtain ⟨r,hr⟩:∃ r,t % 4294967296 = r:=⟨_,rfl⟩;obtain ⟨q,hq⟩:∃ q,t / 4294967296 = q:=⟨_,rfl⟩;have hrs2:Hid (RS a b (l ++ [r]) (k + 1) q):=Lib.hid (by rw [← hr,← hq];exact hrs.out.step HOA.out.1 HOB.out.1 hnx hny (by omega) (by have:=Nt.add_low HOB.out HOA.out.1 (k:=k) (by have:=HLB.out;omega);omega));have tm:t.tmod 4294967296 = r:=by rw [Int.tmod_eq_emod_of_nonneg (by omega),hr]
        have td:t.tdiv 4294967296 = q:=by rw [Int.tdiv_eq_ediv_of_nonneg (by omega),hq]
        have r0:0 ≤ r:=by omega
        have r1:r ≤ 4294967295:=by omega
        have q0:0 ≤ q:=by omega
        have q1:q ≤ 1:=by omega
        have HNX:=Lib.hid hnx;have HNY:=Lib.hid hny;clear hr hq hnx hny;go_wp2_with (at_builtin;refine wpList_append_own _ rfl (.tmp 46) (.tmp 50) 33 rfl w.heap.size 68 i0 (.int .u32 0) 1 4 Try.underlying33 hi0 hz0 hz1 hz2 rfl (by decide) _ l.length (l.map (Value.int .u32)) rfl (hown.alloc _) ⟨wr.heap.size,0,none⟩ 1 1 [.int .u32 r] rfl rfl (Kt.cell_one _ _ _) (ints_oneCell .u32 [r]) (by unfold maxLen;omega) (by omega) (by have:=hbel.size;simp;omega) ?_);intro v' w3 hown3 hgrow _;have hown4:Kt.Own w3 w.heap.size 68 .u32 v' (l ++ [r]):=Kt.Own.snoc (by rw [hll];simpa using hown3);have hbel3:Below w.heap.size w w3:=(hbel.alloc hbel.size _).grown hgrow (by have:=hbel.size;simp;omega) (fun g hg => Kt.own_block_ne hown _ hg);clear hown3 hgrow;go_wp2_with fail;go_roundw
        case rel => exact ⟨k + 1,l ++ [r],q,by omega,by go_num,rfl,hrs2,q0,q1,hown4,hbel3⟩
        case measure => simp [intOf];omega
      · by_cases h3:0 < c
        · have hnx:Ls.nth a k = 0:=Nt.nth_out (by have:=HLA.out;omega);have hny:Ls.nth b k = 0:=Nt.nth_out (by have:=HLB.out;omega);have hkm:k ≤ max n m:=by
            rcases Nat.lt_or_ge (max n m) k with h | h
            · have:=hrs.out.small HOA.out.1 HOB.out.1 (m:=max n m) (by rw [HLA.out];omega) (by rw [HLB.out];omega) h;omega
            · exact h
          obtain ⟨t,ht⟩:∃ t,c = t:=⟨_,rfl⟩;subst ht;obtain ⟨r,hr⟩:∃ r,c % 4294967296 = r:=⟨_,rfl⟩;obtain ⟨q,hq⟩:∃ q,c / 4294967296 = q:=⟨_,rfl⟩;have hrs2:Hid (RS a b (l ++ [r]) (k + 1) q):=Lib.hid (by rw [← hr,← hq];exact hrs.out.step HOA.out.1 HOB.out.1 hnx hny (by omega) (hrs.out.carry h3 (by rw [HLA.out];omega) (by rw [HLB.out];omega)));have tm:c.tmod 4294967296 = r:=by rw [Int.tmod_eq_emod_of_nonneg (by omega),hr]
          have td:c.tdiv 4294967296 = q:=by rw [Int.tdiv_eq_ediv_of_nonneg (by omega),hq]
          have r0:0 ≤ r:=by omega
          have r1:r ≤ 4294967295:=by omega
          have q0:0 ≤ q:=by omega
          have q1:q ≤ 1:=by omega
          have HNX:=Lib.hid hnx;have HNY:=Lib.hid hny;clear hr hq hnx hny;go_wp2_with (at_builtin;refine wpList_append_own _ rfl (.tmp 46) (.tmp 50) 33 rfl w.heap.size 68 i0 (.int .u32 0) 1 4 Try.underlying33 hi0 hz0 hz1 hz2 rfl (by decide) _ l.length (l.map (Value.int .u32)) rfl (hown.alloc _) ⟨wr.heap.size,0,none⟩ 1 1 [.int .u32 r] rfl rfl (Kt.cell_one _ _ _) (ints_oneCell .u32 [r]) (by unfold maxLen;omega) (by omega) (by have:=hbel.size;simp;omega) ?_);intro v' w3 hown3 hgrow _;have hown4:Kt.Own w3 w.heap.size 68 .u32 v' (l ++ [r]):=Kt.Own.snoc (by rw [hll];simpa using hown3);have hbel3:Below w.heap.size w w3:=(hbel.alloc hbel.size _).grown hgrow (by have:=hbel.size;simp;omega) (fun g hg => Kt.own_block_ne hown _ hg);clear hown3 hgrow;go_wp2_with fail;go_roundw
          case rel => exact ⟨k + 1,l ++ [r],q,by omega,by go_num,rfl,hrs2,q0,q1,hown4,hbel3⟩
          case measure => simp [intOf];omega
        · obtain rfl:c = 0:=by omega
          have hfin:=hrs.out.fin HX.out HY.out (by rw [HLA.out];omega) (by rw [HLB.out];omega);have hrow:=Kt.Row.of_own hown;rw [← hfin] at hrow;go_wp2_with fail;go_ret;exact ⟨_,rfl,hrow,hbel⟩
theorem radd_num {w:World} {u v:Value} {x y:Nat} (hx:Kt.Num w 0 u x) (hy:Kt.Num w 0 v y) (h1:(Nt.limbs x).length ≤ 5000) (h2:(Nt.limbs y).length ≤ 5000) :
    Calls Try.prog 47 #[u,v] w fun e w' => ∃ v,e = .returned v ∧ Kt.Num w' w.heap.size v (x + y) ∧ Below w.heap.size w w':=by
  obtain ⟨A,ca,rfl,_,_,ha⟩:=hx.ints;obtain ⟨B,cb,rfl,_,_,hb⟩:=hy.ints;exact radd_any A B _ _ ca cb _ _ x y w rfl rfl ha hb h1 h2 rfl rfl
end Go.Proofs.Ytdbfiflmeiidjaa
end
section
/- Mul of the reference: products of naturals. -/
namespace Nt
theorem rmul_step {l b:List Int} {k:Nat} {c x y t:Int} (hl:l.length = k) (h:V l + P k * c = x * V (b.take k)) (ht:t = c + x * y) (hy:Ls.nth b k = y) :
    V (l ++ [t % 4294967296]) + P (k + 1) * (t / 4294967296) = x * V (b.take (k + 1)):=by
  rw [V_snoc,hl,P_succ,V_take_nth,hy,Int.mul_add,← h];have e:P k * t = P k * (t % 4294967296) + 4294967296 * P k * (t / 4294967296):=by
    rw [Int.mul_comm 4294967296 (P k),Int.mul_assoc,← Int.mul_add];congr 1;omega
  have e2:P k * t = P k * c + x * (P k * y):=by rw [ht,Int.mul_add,Int.mul_left_comm x]
  omega
theorem rmul_row (i:Nat) (l:List Int):V (Ls.zeros i ++ l) = P i * V l:=by rw [V_append,V_zeros,Ls.zeros_len,Int.zero_add]
theorem rmul_sum {a:List Int} {i:Nat} {x y z:Int} (hx:Ls.nth a i = x) (hz:z = P i * (x * y)):V (a.take i) * y + z = V (a.take (i + 1)) * y:=by
  rw [V_take_nth,hx,Int.add_mul,hz,Int.mul_assoc]
theorem prod_len {x y n m:Nat} (hx:(limbs x).length ≤ n) (hy:(limbs y).length ≤ m):(limbs (x * y)).length ≤ n + m:=by
  rw [len_le_iff] at hx hy ⊢;rw [P_add];have h:(x * y:Int) < P n * P m:=by
    rcases Nat.eq_zero_or_pos x with e | e
    · subst e;rw [show ((0:Nat):Int) * (y:Int) = 0 from Int.zero_mul _];exact Int.mul_pos (P_pos _) (P_pos _)
    · exact Int.lt_of_le_of_lt (Int.mul_le_mul_of_nonneg_left (Int.le_of_lt hy) (by omega)) (Int.mul_lt_mul_of_pos_right hx (P_pos _))
  have e:((x * y:Nat):Int) = (x:Int) * (y:Int):=Int.natCast_mul x y;omega
end Nt
namespace Go.Proofs.Ytdbfiflmeiidjaa
open Go Go.RowKit
theorem num_le {a b n:Nat} (h:a ≤ b) (hb:(Nt.limbs b).length ≤ n):(Nt.limbs a).length ≤ n:=Nat.le_trans (Nt.len_mono h) hb
set_option maxRecDepth 10000 in
set_option maxHeartbeats 4000000 in
theorem rmul_any (A B:Option Addr) (n m ca cb:Nat) (a b:List Int) (x y:Nat) (w:World) (hla:a.length = n) (hlb:b.length = m) (ha:Kt.Ints w w.heap.size .u32 A a) (hb:Kt.Ints w w.heap.size .u32 B b)
    (hn:n ≤ 2000) (hm:m ≤ 2000) (hx:a = Nt.limbs x) (hy:b = Nt.limbs y) :
    Calls Try.prog 59 #[.slice A n ca,.slice B m cb] w fun e w' => ∃ v,e = .returned v ∧ Kt.Num w' w.heap.size v (x * y) ∧ Below w.heap.size w w':=by
  have hoa:Nt.R a:=by rw [hx];exact Nt.limbs_R x
  have hob:Nt.R b:=by rw [hy];exact Nt.limbs_R y
  have hvb:Nt.V b = (y:Int):=by rw [hy];exact Nt.V_limbs y
  have hva:Nt.V a = (x:Int):=by rw [hx];exact Nt.V_limbs x
  obtain ⟨i0,hi0,hz0,hz1,hz2⟩:=info_parts Try.infoU32;have hmk:∀ (q:Nat) (_:q ≤ 2000) (W:World),(Instr.makeSlice 33 (.int .i64 (q:Int)) (.int .i64 (q:Int))).run Try.prog W = .ok (.slice (some ⟨W.heap.size,0,none⟩) q q) (W.alloc (.cells (Kt.IArr .u32 (Ls.zeros q)) 68)):=fun q hq W => Kt.run_make_ints 33 68 i0 .u32 Try.underlying33 hi0 hz0 hz1 (by omega) q (by omega) W
  have HLA:=Lib.hid hla;have HLB:=Lib.hid hlb;have HVA:=Lib.hid hva;have HVB:=Lib.hid hvb;have HOA:=Lib.hid hoa;have HOB:=Lib.hid hob;have HXL:Hid ((Nt.limbs x).length = n):=Lib.hid (by rw [← hx];exact hla);have HYL:Hid ((Nt.limbs y).length = m):=Lib.hid (by rw [← hy];exact hlb);have HPR:Hid (∀ k,∃ z:Nat,Nt.V (a.take k) * y = (z:Int) ∧ z ≤ x * y):=Lib.hid (fun k => by
    have h0:=Nt.V_nonneg (hoa.1.take k);obtain ⟨q,hq⟩:=Int.eq_ofNat_of_zero_le h0;have hle:Nt.V (a.take k) ≤ Nt.V a:=by
      rcases Nat.lt_or_ge a.length k with h | h
      · rw [List.take_of_length_le (by omega)];exact Int.le_refl _
      · have:=Nt.V_split a k h;have h2:=Nt.V_nonneg (hoa.1.drop k);have h3:=Int.mul_nonneg (Int.le_of_lt (Nt.P_pos k)) h2;omega
    refine ⟨q * y,by rw [hq];exact (Int.natCast_mul q y).symm,Nat.mul_le_mul_right _ ?_⟩;rw [hq,hva] at hle;exact Int.ofNat_le.1 hle)
  have HXY:Hid ((Nt.limbs (x * y)).length ≤ 4000):=Lib.hid (Nat.le_trans (Nt.prod_len (Nat.le_of_eq HXL.out) (Nat.le_of_eq HYL.out)) (by omega));clear hla hlb hx hy hoa hob hva hvb;go_enter Try.func59,Try.ntmps59;go_wp2_with fail;go_loopw [5,6] (fun o i wr => ∃ (k z:Nat),k ≤ n ∧ i = .int .i64 k ∧ Hid (Nt.V (a.take k) * y = (z:Int)) ∧ Kt.Num wr w.heap.size o z ∧ Below w.heap.size w wr) (fun _ i _ => n - (intOf i).toNat)
  case atStart => exact ⟨0,0,Nat.zero_le _,rfl,Lib.hid (by simp [Nt.V]),Kt.Num.zero _ _,Below.refl _ _⟩
  case round =>
    obtain ⟨i,z,hi,rfl,hz,hout,hbel⟩:=hrel;have hbs:=hbel.size;by_cases hlt:i < n
    · obtain ⟨ga,oa,rfl,hga,hca⟩:=ha (by have:=HLA.out;omega);have hcell:=hca i (by have:=HLA.out;omega);obtain ⟨s,hs⟩:∃ s,Ls.nth a i = s:=⟨_,rfl⟩;have bs:=HOA.out.1.nth_any i;rw [hs] at hcell bs;obtain ⟨s0,s1⟩:=bs;have HS:=Lib.hid hs;have hmi:=hmk i (by omega);have HMK:=Lib.hid hmk;clear hca hs hmk;obtain ⟨wo,hwo⟩:∃ w1,w1 = wr:=⟨_,rfl⟩;subst hwo;have hown0:Kt.Own (wo.alloc (.cells (Kt.IArr .u32 (Ls.zeros i)) 68)) wo.heap.size 68 .u32 (.slice (some ⟨wo.heap.size,0,none⟩) i i) (Ls.zeros i ++ []):=by
        have h:=World.ownsRow_lit (base:=wo.heap.size) (e:=68) (size:=1) wo (Kt.IArr .u32 (Ls.zeros i)) i (Nat.le_refl _) (by unfold maxLen;omega) (by simp [Kt.IArr,Ls.zeros]);unfold Kt.Own;simpa [Kt.IArr,Ls.zeros] using h
      have hout0:=hout.alloc (.cells (Kt.IArr .u32 (Ls.zeros i)) 68);have hbel0:Below w.heap.size w (wo.alloc (.cells (Kt.IArr .u32 (Ls.zeros i)) 68)):=hbel.alloc hbs _;have hkp0:Below wo.heap.size wo (wo.alloc (.cells (Kt.IArr .u32 (Ls.zeros i)) 68)):=(Below.refl _ _).alloc (Nat.le_refl _) _;go_wp2_with fail;go_loopw [7,8,9] (fun o cv kv wr => ∃ (k:Nat) (l:List Int) (c:Int),k ≤ m + 1 ∧ kv = .int .i64 k ∧ cv = .int .u64 c ∧ Hid (l.length = k) ∧ Hid (Nt.Ok l) ∧ Hid (Nt.V l + Nt.P k * c = s * Nt.V (b.take k)) ∧ 0 ≤ c ∧ c ≤ 4294967295 ∧ (k ≤ m ∨ c = 0) ∧ Kt.Own wr wo.heap.size 68 .u32 o (Ls.zeros i ++ l) ∧ Below wo.heap.size wo wr) (fun _ _ kv _ => m + 2 - (intOf kv).toNat)
      case atStart => exact ⟨0,[],0,by omega,rfl,rfl,Lib.hid rfl,Lib.hid Nt.Ok.nil,Lib.hid (by simp [Nt.V]),by omega,by omega,.inl (by omega),hown0,hkp0⟩
      case round =>
        obtain ⟨k,l,c,hk,rfl,rfl,hll,hol,hv,c0,c1,hkc,hown,hkp⟩:=hrel;have hkps:=hkp.size;have hzl:(Ls.zeros i ++ l).length = i + k:=by rw [List.length_append,Ls.zeros_len,hll.out]
        by_cases h1:k < m
        · obtain ⟨gb,ob,rfl,hgb,hcb⟩:=hb (by have:=HLB.out;omega);have hcellb:=((hbel.trans (hkp.mono hbs)).cell (p:=⟨gb,ob + k,none⟩) hgb).trans (hcb k (by have:=HLB.out;omega));have hcella:=((hbel.trans (hkp.mono hbs)).cell (p:=⟨ga,oa + i,none⟩) hga).trans hcell;obtain ⟨u,hu⟩:∃ u,Ls.nth b k = u:=⟨_,rfl⟩;have bu:=HOB.out.1.nth_any k;rw [hu] at hcellb bu;obtain ⟨u0,u1⟩:=bu;obtain ⟨p0,p1⟩:=Nt.mul_bd s0 s1 u0 u1;have HU:=Lib.hid hu;obtain ⟨p,hp⟩:∃ p,s * u = p:=⟨_,rfl⟩;rw [hp] at p0 p1;obtain ⟨t,ht⟩:∃ t,c + p = t:=⟨_,rfl⟩;obtain ⟨r,hr⟩:∃ r,t % 4294967296 = r:=⟨_,rfl⟩;obtain ⟨q,hq⟩:∃ q,t / 4294967296 = q:=⟨_,rfl⟩;have HV2:Hid (Nt.V (l ++ [r]) + Nt.P (k + 1) * q = s * Nt.V (b.take (k + 1))):=Lib.hid (by rw [← hr,← hq];exact Nt.rmul_step hll.out hv.out (by rw [hp];exact ht.symm) HU.out);have tm:t.tmod 4294967296 = r:=by rw [Int.tmod_eq_emod_of_nonneg (by omega),hr]
          have td:t.tdiv 4294967296 = q:=by rw [Int.tdiv_eq_ediv_of_nonneg (by omega),hq]
          have r0:0 ≤ r:=by omega
          have r1:r ≤ 4294967295:=by omega
          have q0:0 ≤ q:=by omega
          have q1:q ≤ 4294967295:=by omega
          have t0:0 ≤ t:=by omega
          have t1:t ≤ 18446744073709551615:=by omega
          clear hr hq hu hcb;go_upto_region 11 with fail
          go_quiet (fail)
          go_wp2_with (at_builtin;refine wpList_append_own _ rfl (.tmp 45) (.tmp 49) 33 rfl wo.heap.size 68 i0 (.int .u32 0) 1 4 Try.underlying33 hi0 hz0 hz1 hz2 rfl (by decide) _ (Ls.zeros i ++ l).length ((Ls.zeros i ++ l).map (Value.int .u32)) rfl (Kt.Own.alloc hown.drew _) ⟨wr.heap.size,0,none⟩ 1 1 [.int .u32 r] rfl rfl (Kt.cell_one _ _ _) (ints_oneCell .u32 [r]) (by unfold maxLen;omega) (by omega) (by have:=hkp.size;simp;omega) ?_);intro v' w3 hown3 hgrow _;have hown4:Kt.Own w3 wo.heap.size 68 .u32 v' (Ls.zeros i ++ (l ++ [r])):=by
            rw [← List.append_assoc];exact Kt.Own.snoc (by rw [hzl];simpa using hown3)
          have hbel3:Below wo.heap.size wo w3:=((Kt.below_drewN hkp nq).alloc (by simpa using hkp.size) _).grown hgrow (by have:=hkp.size;simp;omega) (fun g hg => Kt.own_block_ne hown _ hg);clear hown3 hgrow;go_wp2_with fail;go_roundw
          case rel => exact ⟨k + 1,l ++ [r],q,by omega,by go_num,rfl,Lib.hid (by rw [List.length_append,hll.out];rfl),Lib.hid (hol.out.append (Nt.Ok.one r0 r1)),HV2,q0,q1,.inl (by omega),hown4,hbel3⟩
          case measure => simp [intOf];omega
        · by_cases h3:0 < c
          · have hny:Ls.nth b k = 0:=Nt.nth_out (by have:=HLB.out;omega);obtain ⟨r,hr⟩:∃ r,c % 4294967296 = r:=⟨_,rfl⟩;obtain ⟨q,hq⟩:∃ q,c / 4294967296 = q:=⟨_,rfl⟩;have HV2:Hid (Nt.V (l ++ [r]) + Nt.P (k + 1) * q = s * Nt.V (b.take (k + 1))):=Lib.hid (by rw [← hr,← hq];exact Nt.rmul_step hll.out hv.out (by rw [Int.mul_zero,Int.add_zero]) hny);have tm:c.tmod 4294967296 = r:=by rw [Int.tmod_eq_emod_of_nonneg (by omega),hr]
            have td:c.tdiv 4294967296 = q:=by rw [Int.tdiv_eq_ediv_of_nonneg (by omega),hq]
            have r0:0 ≤ r:=by omega
            have r1:r ≤ 4294967295:=by omega
            have q0:0 ≤ q:=by omega
            have q1:q ≤ 4294967295:=by omega
            have hq0:q = 0:=by omega
            have hkm:k ≤ m:=by omega
            have HQ0:=Lib.hid hq0;clear hr hq hny hq0 hkc;go_wp2_with (at_builtin;refine wpList_append_own _ rfl (.tmp 45) (.tmp 49) 33 rfl wo.heap.size 68 i0 (.int .u32 0) 1 4 Try.underlying33 hi0 hz0 hz1 hz2 rfl (by decide) _ (Ls.zeros i ++ l).length ((Ls.zeros i ++ l).map (Value.int .u32)) rfl (Kt.Own.alloc hown _) ⟨wr.heap.size,0,none⟩ 1 1 [.int .u32 r] rfl rfl (Kt.cell_one _ _ _) (ints_oneCell .u32 [r]) (by unfold maxLen;omega) (by omega) (by have:=hkp.size;simp;omega) ?_);intro v' w3 hown3 hgrow _;have hown4:Kt.Own w3 wo.heap.size 68 .u32 v' (Ls.zeros i ++ (l ++ [r])):=by
              rw [← List.append_assoc];exact Kt.Own.snoc (by rw [hzl];simpa using hown3)
            have hbel3:Below wo.heap.size wo w3:=(hkp.alloc (by simpa using hkp.size) _).grown hgrow (by have:=hkp.size;simp;omega) (fun g hg => Kt.own_block_ne hown _ hg);clear hown3 hgrow;go_wp2_with fail;go_roundw
            case rel => exact ⟨k + 1,l ++ [r],q,by omega,by go_num,rfl,Lib.hid (by rw [List.length_append,hll.out];rfl),Lib.hid (hol.out.append (Nt.Ok.one r0 r1)),HV2,q0,q1,.inr HQ0.out,hown4,hbel3⟩
            case measure => simp [intOf];omega
          · obtain rfl:c = 0:=by omega
            have hvl:Nt.V l = s * (y:Int):=by
              have h:=hv.out;rw [Int.mul_zero,Int.add_zero,Nt.V_take_all b k (by rw [HLB.out];omega),HVB.out] at h;exact h
            have hvr:Nt.V (Ls.zeros i ++ l) = Nt.P i * (s * (y:Int)):=by rw [Nt.rmul_row,hvl]
            obtain ⟨z2,hz2,hz2l⟩:=HPR.out (i + 1);obtain ⟨z1,hz1,hz1l⟩:=HPR.out i;have hz1e:z1 = z:=Int.ofNat.inj (hz1.symm.trans hz.out);subst hz1e;obtain ⟨zr,hzr⟩:∃ zr:Nat,Nt.V (Ls.zeros i ++ l) = (zr:Int):=Int.eq_ofNat_of_zero_le (Nt.V_nonneg ((Nt.Ok.zeros i).append hol.out));have hsum:z1 + zr = z2:=by
              have h:=Nt.rmul_sum (y:=(y:Int)) HS.out hvr;rw [hz1,hz2,hzr] at h;omega
            have HSUM:=Lib.hid hsum;have HZR:=Lib.hid hzr;have HOKR:Hid (Nt.Ok (Ls.zeros i ++ l)):=Lib.hid ((Nt.Ok.zeros i).append hol.out);have HZ2:Hid (Nt.V (a.take (i + 1)) * (y:Int) = (z2:Int)):=Lib.hid hz2;have hzrl:zr ≤ x * y:=by omega
            have hrow:=Kt.Row.of_own hown;obtain ⟨full,hfull⟩:∃ f,Ls.zeros i ++ l = f:=⟨_,rfl⟩;rw [hfull] at hrow hzl HZR HOKR;obtain ⟨Ar,cr,rfl,hcr,hnr,hrc⟩:=hrow;have HRC:=Lib.hid hrc;have HNR:=Lib.hid hnr;have hcr2:i + k ≤ cr:=by omega
            rw [hzl];clear hvl hvr hz2 hz1 hsum hzr hown hrc hnr hcr;have hbelr:Below w.heap.size w wr:=hbel.trans (hkp.mono hbs);have houtr:Kt.Num wr w.heap.size u5 z1:=hout.on hkp;go_wp2_with fail;obtain ⟨L,hL⟩:∃ L,i + k = L:=⟨_,rfl⟩;rw [hL] at hzl hcr2 ⊢;obtain ⟨wt,hwt⟩:∃ w1,w1 = wr:=⟨_,rfl⟩;subst hwt;go_loopw [7] (fun o wr => ∃ q:Nat,q ≤ L ∧ o = .slice Ar q cr ∧ Hid (Nt.V (full.take q) = Nt.V full) ∧ wt = wr) (fun o _ => match o with | .slice _ q _ => q | _ => 0)
            case atStart => exact ⟨L,Nat.le_refl _,rfl,Lib.hid (by rw [List.take_of_length_le (by omega)]),rfl⟩
            case round =>
              obtain ⟨q,hq,rfl,htk,rfl⟩:=hrel;have hfin:(q = 0 ∨ Ls.nth full (q - 1) ≠ 0) → Kt.Num wt 0 (.slice Ar q cr) zr ∧ (Nt.limbs zr).length ≤ 4000:=fun hz0 => by
                have e:=Nt.limbs_take HOKR.out HZR.out (show q ≤ full.length by omega) htk.out hz0;refine ⟨?_,num_le hzrl HXY.out⟩;unfold Kt.Num;rw [e];refine ⟨Ar,cr,by rw [List.length_take,Nat.min_eq_left (by omega)],by rw [List.length_take];omega,HNR.out,fun hp => ?_⟩;rw [List.length_take] at hp;obtain ⟨b0,e1,e2,e3,e4,e5⟩:=HRC.out (by omega);exact ⟨b0,e1,Nat.zero_le _,e3,fun j hj => by rw [List.length_take] at hj;rw [e4 j (by omega),Ls.nth_take _ _ _ (by omega)],e5⟩
              by_cases hq0:0 < q
              · obtain ⟨b0,rfl,e2,e3,e4,e5⟩:=HRC.out (by omega);have hcq:=e4 (q - 1) (by omega);have hqi:(q:Int) - 1 = ((q - 1:Nat):Int):=by omega
                obtain ⟨v,hv0⟩:∃ v,Ls.nth full (q - 1) = v:=⟨_,rfl⟩;rw [hv0] at hcq hfin;have HV0:=Lib.hid hv0;have HFIN:=Lib.hid hfin;clear e4 e5 hv0 hfin;by_cases hvz:v = 0
                · subst hvz;have htk2:Hid (Nt.V (full.take (q - 1)) = Nt.V full):=Lib.hid (Nt.V_take_pred (by omega) (by rw [show q - 1 + 1 = q from by omega];exact htk.out) HV0.out);go_wp2_with fail;go_roundw
                  case rel => exact ⟨q - 1,by omega,by first | rfl | (congr 1;omega),htk2,by trivial⟩
                  case measure => simp;omega
                · have hvb:(v == 0) = false:=by simp [hvz]
                  obtain ⟨hnum,hlen⟩:=HFIN.out (.inr hvz);have hno:(Nt.limbs z1).length ≤ 4000:=num_le hz1l HXY.out;have HNO:=Lib.hid hno;have HLN:=Lib.hid hlen;clear hno hlen;go_wp2_with fail;refine (radd_num (houtr.less (Nat.zero_le _)) hnum (by have:=HNO.out;omega) (by have:=HLN.out;omega)).mono ?_;rw [HSUM.out];rintro e w5 ⟨v5,rfl,hn5,hb5⟩;have hmk:=HMK.out;go_wp2_with fail;go_roundw
                  case rel => exact ⟨i + 1,z2,by omega,by go_num,HZ2,hn5.less hbelr.size,Kt.next hbelr hb5⟩
                  case measure => simp [intOf];omega
              · obtain rfl:q = 0:=by omega
                obtain ⟨hnum,hlen⟩:=hfin (.inl rfl);have hno:(Nt.limbs z1).length ≤ 4000:=num_le hz1l HXY.out;have HNO:=Lib.hid hno;have HLN:=Lib.hid hlen;clear hno hlen hfin;go_wp2_with fail;refine (radd_num (houtr.less (Nat.zero_le _)) hnum (by have:=HNO.out;omega) (by have:=HLN.out;omega)).mono ?_;rw [HSUM.out];rintro e w5 ⟨v5,rfl,hn5,hb5⟩;have hmk:=HMK.out;go_wp2_with fail;go_roundw
                case rel => exact ⟨i + 1,z2,by omega,by go_num,HZ2,hn5.less hbelr.size,Kt.next hbelr hb5⟩
                case measure => simp [intOf];omega
    · have HT:Hid (z = x * y):=Lib.hid (by
        have h1:=hz.out;rw [Nt.V_take_all a i (by rw [HLA.out];omega),HVA.out,← Int.natCast_mul] at h1;exact (Int.ofNat.inj h1).symm)
      go_wp2_with fail;go_ret;exact ⟨_,rfl,by rw [← HT.out];exact hout,hbel⟩
theorem rmul_num {w:World} {u v:Value} {x y:Nat} (hx:Kt.Num w 0 u x) (hy:Kt.Num w 0 v y) (h1:(Nt.limbs x).length ≤ 2000) (h2:(Nt.limbs y).length ≤ 2000) :
    Calls Try.prog 59 #[u,v] w fun e w' => ∃ v,e = .returned v ∧ Kt.Num w' w.heap.size v (x * y) ∧ Below w.heap.size w w':=by
  obtain ⟨A,ca,rfl,_,_,ha⟩:=hx.ints;obtain ⟨B,cb,rfl,_,_,hb⟩:=hy.ints;exact rmul_any A B _ _ ca cb _ _ x y w rfl rfl ha hb h1 h2 rfl rfl
end Go.Proofs.Ytdbfiflmeiidjaa
end
