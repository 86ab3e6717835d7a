/- Joined: ReC, ReM, RgG. -/
import Derived.Test.YtdbfiflmeiidjaaSa21
import Derived.Test.YtdbfiflmeiidjaaSa05
import Derived.Test.YtdbfiflmeiidjaaSa03
import Derived.Test.YtdbfiflmeiidjaaSa19
section
/- The reference's table: in how many ways symbols derive what lies between two positions; item. -/
namespace Go.Proofs.Ytdbfiflmeiidjaa
open Go Go.RowKit
theorem nm_alloc {w:World} {M:Nat → Prop} {v:Value} {x:Nat} (h:Kt.NumM w M v x) (o:Obj):Kt.NumM (w.alloc o) (fun k => M k ∨ k = w.heap.size) v x:=by
  obtain ⟨A,c,h1,h2,h3,h4⟩:=h;refine ⟨A,c,h1,h2,h3,fun hp => ?_⟩;obtain ⟨b,e,h5,h6,h7,h8⟩:=h4 hp;have hb:=Below.heap_alloc w o b h6;exact ⟨b,e,fun hm => by rcases hm with hm | hm;exact h5 hm;omega,by simp;omega,fun j hj => (World.cell?_of_block (a:=⟨b,j,none⟩) hb).trans (h7 j hj),fun j => (World.frozen?_of_block (a:=⟨b,j,none⟩) hb).trans (h8 j)⟩
theorem nm_set {w:World} {M:Nat → Prop} {v:Value} {x:Nat} (h:Kt.NumM w M v x) {p:Addr} (hp:M p.block) (u:Value):Kt.NumM (w.setCell p u) M v x :=
  h.keep (by simp) fun k _ hk => Below.heap_setCell w p u k fun e => hk (by rw [e];exact hp)
theorem nm_below {w w':World} {M:Nat → Prop} {v:Value} {x:Nat} (h:Kt.NumM w M v x) (hb:Below w.heap.size w w'):Kt.NumM w' M v x:=h.keep hb.size fun k hk _ => hb.block k hk
theorem nm_more {w:World} {M:Nat → Prop} {v:Value} {x:Nat} (h:Kt.NumM w M v x):Kt.NumM w (fun k => M k ∨ w.heap.size ≤ k) v x:=by
  obtain ⟨A,c,h1,h2,h3,h4⟩:=h;refine ⟨A,c,h1,h2,h3,fun hp => ?_⟩;obtain ⟨b,e,h5,h6,h7,h8⟩:=h4 hp;exact ⟨b,e,fun hm => by rcases hm with hm | hm;exact h5 hm;omega,h6,h7,h8⟩
structure TX where
  B:Nat
  tb:Nat
  O:Nat → Nat
  R:Nat → Nat → Nat
  g:List Gr.Rule
  tk:List Int
  A:Option Addr
  n:Nat
  cp:Nat
  T:Option Addr
  nt:Nat
  ct:Nat
structure Tbl (X:TX) (M:Nat → Prop) (F:Nat → Nat → Nat → Nat) (w:World):Prop where
  c0:w.cell? ⟨X.tb,0,none⟩ = some (.slice X.A X.n X.cp)
  c1:w.cell? ⟨X.tb,1,none⟩ = some (.slice X.T X.nt X.ct)
  tlt:X.tb < w.heap.size
  tM:¬ M X.tb
  out:∀ s,s < 64 → ∃ c,w.cell? ⟨X.tb,2 + s,none⟩ = some (.slice (some ⟨X.O s,0,none⟩) (X.nt + 1) c)
  olt:∀ s,s < 64 → X.O s < w.heap.size
  oM:∀ s,s < 64 → ¬ M (X.O s)
  row:∀ s i,s < 64 → i ≤ X.nt → w.cell? ⟨X.O s,i,none⟩ = some (.slice (some ⟨X.R s i,0,none⟩) (X.nt + 1) (X.nt + 1))
  rlt:∀ s i,s < 64 → i ≤ X.nt → X.R s i < w.heap.size
  rM:∀ s i,s < 64 → i ≤ X.nt → M (X.R s i)
  rfr:∀ s i j,s < 64 → i ≤ X.nt → w.frozen? ⟨X.R s i,j,none⟩ = false
  inj:∀ s i s' i',s < 64 → i ≤ X.nt → s' < 64 → i' ≤ X.nt → X.R s i = X.R s' i' → s = s' ∧ i = i'
  cell:∀ s i j,s < 64 → i ≤ X.nt → j ≤ X.nt → ∃ v,w.cell? ⟨X.R s i,j,none⟩ = some v ∧ Kt.NumM w M v (F s i j)
  MB:∀ k,M k → X.B ≤ k
  rules:Kt.Rules w X.B X.A X.g
  toks:Kt.Ints w X.B .u16 X.T X.tk
  gl:X.g.length = X.n
  tl:X.tk.length = X.nt
  BB:X.B ≤ w.heap.size
section
variable {X:TX} {M:Nat → Prop} {F:Nat → Nat → Nat → Nat} {w w':World}
theorem Tbl.keep (h:Tbl X M F w) (hs:w.heap.size ≤ w'.heap.size) (hk:∀ k,k < w.heap.size → ¬ M k → w'.heap[k]? = w.heap[k]?) (hr:∀ s i,s < 64 → i ≤ X.nt → w'.heap[X.R s i]? = w.heap[X.R s i]?):Tbl X M F w':=by
  have hB:∀ p:Addr,p.block < X.B → w'.cell? p = w.cell? p:=fun p hp => World.cell?_of_block (hk _ (Nat.lt_of_lt_of_le hp h.BB) fun hm => by have:=h.MB _ hm;omega)
  refine ⟨(World.cell?_of_block (hk _ h.tlt h.tM)).trans h.c0,(World.cell?_of_block (hk _ h.tlt h.tM)).trans h.c1,Nat.lt_of_lt_of_le h.tlt hs,h.tM,fun s hs' => ?_,fun s hs' => Nat.lt_of_lt_of_le (h.olt s hs') hs,h.oM,fun s i h1 h2 => (World.cell?_of_block (hk _ (h.olt s h1) (h.oM s h1))).trans (h.row s i h1 h2),fun s i h1 h2 => Nat.lt_of_lt_of_le (h.rlt s i h1 h2) hs,h.rM,fun s i j h1 h2 => (World.frozen?_of_block (hr s i h1 h2)).trans (h.rfr s i j h1 h2),h.inj,fun s i j h1 h2 h3 => ?_,h.MB,h.rules.keep hB,h.toks.keep hB,h.gl,h.tl,Nat.le_trans h.BB hs⟩
  · obtain ⟨c,hc⟩:=h.out s hs';exact ⟨c,(World.cell?_of_block (hk _ h.tlt h.tM)).trans hc⟩
  · obtain ⟨v,hv,hn⟩:=h.cell s i j h1 h2 h3;exact ⟨v,(World.cell?_of_block (hr s i h1 h2)).trans hv,hn.keep hs hk⟩
theorem Tbl.below (h:Tbl X M F w) (hb:Below w.heap.size w w'):Tbl X M F w':=h.keep hb.size (fun k hk _ => hb.block k hk) fun s i h1 h2 => hb.block _ (h.rlt s i h1 h2)
theorem Tbl.set (h:Tbl X M F w) {p:Addr} (hp:M p.block) (hne:∀ s i,s < 64 → i ≤ X.nt → X.R s i ≠ p.block) (u:Value):Tbl X M F (w.setCell p u) :=
  h.keep (by simp) (fun k _ hk => Below.heap_setCell w p u k fun e => hk (by rw [e];exact hp)) fun s i h1 h2 => Below.heap_setCell w p u _ fun e => hne s i h1 h2 e
theorem Tbl.more (h:Tbl X M F w):Tbl X (fun k => M k ∨ w.heap.size ≤ k) F w :=
  ⟨h.c0,h.c1,h.tlt,fun hm => (by rcases hm with hm | hm;exact h.tM hm;have:=h.tlt;omega),h.out,h.olt,fun s hs hm => (by rcases hm with hm | hm;exact h.oM s hs hm;have:=h.olt s hs;omega),h.row,h.rlt,fun s i h1 h2 => .inl (h.rM s i h1 h2),h.rfr,h.inj,fun s i j h1 h2 h3 => by
    obtain ⟨v,hv,hn⟩:=h.cell s i j h1 h2 h3;exact ⟨v,hv,nm_more hn⟩,fun k hm => (by rcases hm with hm | hm;exact h.MB k hm;have:=h.BB;omega),h.rules,h.toks,h.gl,h.tl,h.BB⟩
theorem Tbl.congr {F':Nat → Nat → Nat → Nat} (h:Tbl X M F w) (e:∀ s i j,s < 64 → i ≤ X.nt → j ≤ X.nt → F s i j = F' s i j):Tbl X M F' w :=
  ⟨h.c0,h.c1,h.tlt,h.tM,h.out,h.olt,h.oM,h.row,h.rlt,h.rM,h.rfr,h.inj,fun s i j h1 h2 h3 => by rw [← e s i j h1 h2 h3];exact h.cell s i j h1 h2 h3,h.MB,h.rules,h.toks,h.gl,h.tl,h.BB⟩
def upF (F:Nat → Nat → Nat → Nat) (s i j x:Nat):Nat → Nat → Nat → Nat:=fun s' i' j' => if s' = s ∧ i' = i ∧ j' = j then x else F s' i' j'
theorem Tbl.put (h:Tbl X M F w) {s i j x:Nat} {v:Value} (h1:s < 64) (h2:i ≤ X.nt) (h3:j ≤ X.nt) (hv:Kt.NumM w M v x):Tbl X M (upF F s i j x) (w.setCell ⟨X.R s i,j,none⟩ v):=by
  have hM:=h.rM s i h1 h2;have hk:∀ k,k < w.heap.size → ¬ M k → (w.setCell ⟨X.R s i,j,none⟩ v).heap[k]? = w.heap[k]?:=fun k _ hk => Below.heap_setCell w _ v k fun e => hk (by rw [e];exact hM)
  have hB:∀ p:Addr,p.block < X.B → (w.setCell ⟨X.R s i,j,none⟩ v).cell? p = w.cell? p:=fun p hp => World.cell?_of_block (hk _ (Nat.lt_of_lt_of_le hp h.BB) fun hm => by have:=h.MB _ hm;omega)
  refine ⟨(World.cell?_of_block (hk _ h.tlt h.tM)).trans h.c0,(World.cell?_of_block (hk _ h.tlt h.tM)).trans h.c1,by simpa using h.tlt,h.tM,fun s' hs' => ?_,fun s' hs' => (by simpa using h.olt s' hs'),h.oM,fun s' i' g1 g2 => (World.cell?_of_block (hk _ (h.olt s' g1) (h.oM s' g1))).trans (h.row s' i' g1 g2),fun s' i' g1 g2 => (by simpa using h.rlt s' i' g1 g2),h.rM,fun s' i' j' g1 g2 => (by rw [World.frozen?_setCell];exact h.rfr s' i' j' g1 g2),h.inj,fun s' i' j' g1 g2 g3 => ?_,h.MB,h.rules.keep hB,h.toks.keep hB,h.gl,h.tl,by simpa using h.BB⟩
  · obtain ⟨c,hc⟩:=h.out s' hs';exact ⟨c,(World.cell?_of_block (hk _ h.tlt h.tM)).trans hc⟩
  · obtain ⟨u,hu,hn⟩:=h.cell s' i' j' g1 g2 g3;unfold upF;by_cases e:s' = s ∧ i' = i ∧ j' = j
    · obtain ⟨rfl,rfl,rfl⟩:=e;rw [if_pos ⟨rfl,rfl,rfl⟩];exact ⟨v,World.cell?_setCell_same _ _ _ hu,nm_set hv hM _⟩
    · rw [if_neg e];refine ⟨u,?_,nm_set hn hM _⟩;rw [World.cell?_setCell_other _ _ _ _ (fun e2 => e (by
        injection e2 with e3 e4;obtain ⟨rfl,rfl⟩:=h.inj s' i' s i g1 g2 h1 h2 e3.symm;exact ⟨rfl,rfl,e4.symm⟩))]
      exact hu
end
def itemN (X:TX) (F:Nat → Nat → Nat → Nat) (x:Gr.Item) (i j:Nat):Nat:=if x.cls = 0 then F x.sym.toNat i j else if j = i + 1 ∧ hitf X.tk i x.cls = true then 1 else 0
def ResM (w:World) (M:Nat → Prop) (x:Nat) (e:Ending) (w':World):Prop:=∃ v,e = .returned v ∧ Kt.NumM w' M v x ∧ Below w.heap.size w w'
theorem one_limbs:Nt.limbs 1 = [1]:=by decide +kernel
set_option maxRecDepth 10000 in
set_option maxHeartbeats 4000000 in
theorem item_any {X:TX} {M:Nat → Prop} {F:Nat → Nat → Nat → Nat} {w:World} (hT:Tbl X M F w) (hM:∀ k,M k → k < w.heap.size) (x:Gr.Item) (hs:0 ≤ x.sym ∧ x.sym < 64) (hc:0 ≤ x.cls ∧ x.cls ≤ 65535) (i j:Nat) (hij:i < j) (hj:j ≤ X.nt) (hn:X.nt ≤ 1000) :
    Calls Try.prog 60 #[.pointer (some ⟨X.tb,0,none⟩),.agg #[.int .u16 x.cls,.int .i64 x.sym],.int .i64 (i:Int),.int .i64 (j:Int)] w (ResM w M (itemN X F x i j)):=by
  obtain ⟨cx,sx⟩:=x;obtain ⟨sa,sb⟩:0 ≤ sx ∧ sx < 64:=hs;obtain ⟨s,rfl⟩:∃ s:Nat,sx = (s:Int):=⟨sx.toNat,by omega⟩;have hs64:s < 64:=by omega
  obtain ⟨c0,c1⟩:0 ≤ cx ∧ cx ≤ 65535:=hc;obtain ⟨co,hco⟩:=hT.out s hs64;have hrow:=hT.row s i hs64 (by omega);obtain ⟨v,hv,hnv⟩:=hT.cell s i j hs64 (by omega) hj;have olt:=hT.olt s hs64;have rlt:=hT.rlt s i hs64 (by omega);have tlt:=hT.tlt;have tc1:=hT.c1;obtain ⟨w1,hw1⟩:∃ w1,w.alloc (.cells #[.int .u16 cx,.int .i64 (s:Int)] 89) = w1:=⟨_,rfl⟩;have hb1:Below w.heap.size w w1:=by rw [← hw1];exact (Below.refl _ _).alloc (Nat.le_refl _) _
  have k1:Kt.Blk w1 w.heap.size 89 #[.int .u16 cx,.int .i64 (s:Int)]:=by rw [← hw1];exact Kt.Blk.new w _ _
  have x0:=k1.cell 0;have x1:=k1.cell 1;replace x0:w1.cell? ⟨w.heap.size,0,none⟩ = some (.int .u16 cx):=x0;replace x1:w1.cell? ⟨w.heap.size,1,none⟩ = some (.int .i64 (s:Int)):=x1;have d0:=(hb1.cell (p:=⟨X.tb,2 + s,none⟩) tlt).trans hco;have d1:=(hb1.cell (p:=⟨X.O s,i,none⟩) olt).trans hrow;have d2:=(hb1.cell (p:=⟨X.R s i,j,none⟩) rlt).trans hv;have d3:=(hb1.cell (p:=⟨X.tb,1,none⟩) tlt).trans tc1;have HT:=Lib.hid hT;have HMM:=Lib.hid hM;have HNV:=Lib.hid hnv;clear hT hM hco hrow hv tc1 hnv k1;go_enter Try.func60,Try.ntmps60;by_cases hc0:cx = 0
  · subst hc0;go_upto_region 2 with fail
    go_quiet (fail)
    go_wp2_with fail;go_ret;exact ⟨v,rfl,by
      rw [show itemN X F ⟨0,(s:Int)⟩ i j = F s i j from by unfold itemN;rw [if_pos rfl,Int.toNat_natCast]];exact (nm_below HNV.out hb1).keep (Nat.le_refl _) (fun _ _ _ => rfl),Kt.below_drewN hb1 nq⟩
  · have hcb:(cx == 0) = false:=by simp [hc0]
    by_cases hji:j = i + 1
    · have hjd:((j:Int) == (i:Int) + 1) = true:=by simp [hji]
      obtain ⟨tb,tf,hTA,htb,htc⟩:=HT.out.toks (by rw [HT.out.tl];omega);have htk:=htc i (by rw [HT.out.tl];omega);have hBB:=HT.out.BB;obtain ⟨tv,htv⟩:∃ tv,Ls.nth X.tk i = tv:=⟨_,rfl⟩;rw [htv] at htk;have d4:=(hb1.cell (p:=⟨tb,tf + i,none⟩) (show tb < w.heap.size by omega)).trans htk;rw [hTA] at d3;have HTV:=Lib.hid htv;clear htc htk htv hTA d0 d1 d2;obtain ⟨z,hz⟩:∃ z,bits .and .u16 tv cx = z:=⟨_,rfl⟩;by_cases hzz:z = 0
      · have hh:Hid (itemN X F ⟨cx,(s:Int)⟩ i j = 0):=Lib.hid (by
          unfold itemN;rw [if_neg hc0,if_neg];rintro ⟨_,h⟩;unfold hitf at h;rw [HTV.out] at h;replace h:(!(bits .and .u16 tv cx == 0)) = true:=h;rw [hz,hzz] at h;simp at h)
        subst hzz;go_upto_region 3 with fail
        go_quiet (fail)
        go_wp2_with fail;go_ret;exact ⟨_,rfl,by rw [hh.out];exact Kt.NumM.zero _ _,Kt.below_drewN hb1 _⟩
      · have hzb:(z != 0) = true:=by simp [hzz]
        have hh:Hid (itemN X F ⟨cx,(s:Int)⟩ i j = 1):=Lib.hid (by
          unfold itemN;rw [if_neg hc0,if_pos];refine ⟨hji,?_⟩;unfold hitf;rw [HTV.out];show (!(bits .and .u16 tv cx == 0)) = true;rw [hz];simp [hzz])
        go_upto_region 3 with fail
        go_quiet (fail)
        go_wp2_with fail;go_ret;refine ⟨_,rfl,?_,(Kt.below_drewN hb1 _).alloc hb1.size _⟩;rw [hh.out];have hz1:=hb1.size;have hl1:(Nt.limbs 1).length = 1:=by rw [one_limbs];rfl
        have hnew:Kt.Num ((w1.drewN nq).alloc (.cells #[.int .u32 1] 68)) w1.heap.size (.slice (some ⟨w1.heap.size,0,none⟩) 1 1) 1:=by
          unfold Kt.Num;rw [one_limbs];exact Kt.Row.of_blk (T:=68) (ys:=[1]) (Kt.IBlk.new _ _ _ _) (Nat.le_refl _) 1 1 rfl rfl (Nat.le_refl _) (Nat.le_refl _)
        exact Kt.NumM.of_num hnew (fun k hk => by have:=HMM.out k hk;omega)
    · have hjd:((j:Int) == (i:Int) + 1) = false:=by
        simp only [beq_eq_false_iff_ne,ne_eq];omega
      have hh:Hid (itemN X F ⟨cx,(s:Int)⟩ i j = 0):=Lib.hid (by
        unfold itemN;rw [if_neg hc0,if_neg];rintro ⟨h,_⟩;exact hji h)
      clear d0 d1 d2;go_upto_region 3 with fail
      go_quiet (fail)
      go_wp2_with fail;go_ret;exact ⟨_,rfl,by rw [hh.out];exact Kt.NumM.zero _ _,Kt.below_drewN hb1 _⟩
end Go.Proofs.Ytdbfiflmeiidjaa
end
section
/- Sums, and in how many ways items derive, as the reference adds it up: plain mathematics. -/
namespace Gr
def su (n:Nat) (f:Nat → Nat):Nat:=((List.range n).map f).sum
theorem su_zero (f:Nat → Nat):su 0 f = 0:=rfl
theorem su_succ (n:Nat) (f:Nat → Nat):su (n + 1) f = su n f + f n:=by
  unfold su;rw [List.range_succ,List.map_append,List.sum_append];simp
theorem su_congr {n:Nat} {f h:Nat → Nat} (e:∀ a,a < n → f a = h a):su n f = su n h:=by
  induction n with
  | zero => rfl
  | succ n ih => rw [su_succ,su_succ,ih (fun a ha => e a (by omega)),e n (by omega)]
theorem su_none {n:Nat} {f:Nat → Nat} (e:∀ a,a < n → f a = 0):su n f = 0:=by
  induction n with
  | zero => rfl
  | succ n ih => rw [su_succ,ih (fun a ha => e a (by omega)),e n (by omega)]
theorem su_add (n:Nat) (f h:Nat → Nat):su n (fun a => f a + h a) = su n f + su n h:=by
  induction n with
  | zero => rfl
  | succ n ih => rw [su_succ,su_succ,su_succ,ih];omega
theorem su_mul (n c:Nat) (f:Nat → Nat):su n (fun a => c * f a) = c * su n f:=by
  induction n with
  | zero => rfl
  | succ n ih => rw [su_succ,su_succ,ih,Nat.mul_add]
theorem su_mul' (n c:Nat) (f:Nat → Nat):su n (fun a => f a * c) = su n f * c:=by
  induction n with
  | zero => simp [su_zero]
  | succ n ih => rw [su_succ,su_succ,ih,Nat.add_mul]
theorem su_swap (n m:Nat) (f:Nat → Nat → Nat):su n (fun a => su m (f a)) = su m (fun b => su n (fun a => f a b)):=by
  induction n with
  | zero => rw [su_zero];exact (su_none fun _ _ => rfl).symm
  | succ n ih => rw [su_succ,ih,← su_add];exact su_congr fun b _ => (su_succ _ _).symm
theorem su_one {n i:Nat} {f:Nat → Nat} (hi:i < n) (h:∀ a,a < n → a ≠ i → f a = 0):su n f = f i:=by
  induction n with
  | zero => omega
  | succ n ih =>
    rw [su_succ];by_cases e:i = n
    · subst e;rw [su_none (fun a ha => h a (by omega) (by omega)),Nat.zero_add]
    · rw [ih (by omega) (fun a ha => h a (by omega)),h n (by omega) (fun e2 => e e2.symm),Nat.add_zero]
theorem su_le {n:Nat} {f h:Nat → Nat} (e:∀ a,a < n → f a ≤ h a):su n f ≤ su n h:=by
  induction n with
  | zero => exact Nat.le_refl _
  | succ n ih =>
    rw [su_succ,su_succ];have:=ih (fun a ha => e a (by omega));have:=e n (by omega);omega
theorem su_more {n:Nat} (f:Nat → Nat):∀ k,su n f ≤ su (n + k) f
  | 0 => Nat.le_refl _
  | k + 1 => Nat.le_trans (su_more f k) (by rw [show n + (k + 1) = (n + k) + 1 from rfl,su_succ];omega)
theorem su_mono {n m:Nat} (f:Nat → Nat) (h:n ≤ m):su n f ≤ su m f:=by
  obtain ⟨k,rfl⟩:∃ k,m = n + k:=⟨m - n,by omega⟩;exact su_more f k
theorem su_range (f:Nat → Nat) (i:Nat):∀ k,su (i + k) f = su i f + ((List.range' i k).map f).sum
  | 0 => by simp
  | k + 1 => by
    rw [show i + (k + 1) = (i + k) + 1 from rfl,su_succ,su_range f i k,List.range'_concat,List.map_append,List.sum_append];simp;omega
theorem su_tail {f:Nat → Nat} {n:Nat} (h:∀ a,n ≤ a → f a = 0):∀ k,su (n + k) f = su n f
  | 0 => rfl
  | k + 1 => by rw [show n + (k + 1) = (n + k) + 1 from rfl,su_succ,su_tail h k,h _ (by omega),Nat.add_zero]
theorem su_cut {f:Nat → Nat} {N i j:Nat} (hij:i ≤ j) (hj:j < N) (h1:∀ a,a ≤ i → f a = 0) (h2:∀ a,j < a → f a = 0):su N f = ((List.range' (i + 1) (j - i)).map f).sum:=by
  obtain ⟨k,rfl⟩:∃ k,N = (j + 1) + k:=⟨N - (j + 1),by omega⟩;rw [su_tail (fun a ha => h2 a (by omega)) k,show j + 1 = (i + 1) + (j - i) from by omega,su_range,su_none (fun a ha => h1 a (by omega)),Nat.zero_add]
abbrev Iw:=Item → Nat → Nat → Nat
def it0 (it:Iw) (x:Item) (a b:Nat):Nat:=if a < b then it x a b else 0
def stepW (it:Iw) (N:Nat) (x:Item) (W:Nat → Nat):Nat → Nat:=fun b => su N fun a => W a * it0 it x a b
def foldW (it:Iw) (N:Nat):List Item → (Nat → Nat) → Nat → Nat
  | [],W => W
  | x :: l,W => foldW it N l (stepW it N x W)
theorem foldW_snoc (it:Iw) (N:Nat) (x:Item):∀ (l:List Item) (W:Nat → Nat),foldW it N (l ++ [x]) W = stepW it N x (foldW it N l W)
  | [],_ => rfl
  | y :: l,W => foldW_snoc it N x l (stepW it N y W)
def wN (it:Iw) (N:Nat):List Item → Nat → Nat → Nat
  | [],a,b => if a = b then 1 else 0
  | x :: l,a,b => su N fun m => it0 it x a m * wN it N l m b
theorem foldW_eq (it:Iw) {N:Nat}:∀ (l:List Item) (W:Nat → Nat) (b:Nat),b < N → foldW it N l W b = su N fun a => W a * wN it N l a b
  | [],W,b,hb => by
    rw [su_one (i:=b) hb (fun a _ ha => by simp [wN,ha])];simp [foldW,wN]
  | x :: l,W,b,hb => by
    show foldW it N l (stepW it N x W) b = _;rw [foldW_eq it l _ b hb];have e1:∀ m,stepW it N x W m * wN it N l m b = su N fun a => W a * (it0 it x a m * wN it N l m b):=fun m => by
      unfold stepW;rw [← su_mul'];exact su_congr fun a _ => Nat.mul_assoc _ _ _
    rw [su_congr (fun m _ => e1 m),su_swap];exact su_congr fun a _ => su_mul _ _ _
def dl (i:Nat):Nat → Nat:=fun a => if a = i then 1 else 0
theorem foldW_dl (it:Iw) {N i b:Nat} (l:List Item) (hi:i < N) (hb:b < N):foldW it N l (dl i) b = wN it N l i b:=by
  rw [foldW_eq it l _ b hb,su_one hi (fun a _ ha => by simp [dl,ha])];simp [dl]
theorem wN_short (it:Iw) (N:Nat):∀ (l:List Item) (a b:Nat),b < a + l.length → wN it N l a b = 0
  | [],a,b,h => by
    simp only [List.length_nil,Nat.add_zero] at h;rw [wN,if_neg (by omega)]
  | x :: l,a,b,h => by
    rw [wN];refine su_none fun m _ => ?_
    unfold it0;split
    · rw [wN_short it N l m b (by simp only [List.length_cons] at h;omega),Nat.mul_zero]
    · rw [Nat.zero_mul]
theorem wN_agree {it it':Iw} {N:Nat}:∀ (l:List Item) (i j:Nat),(∀ x ∈ l,∀ a b,i ≤ a → a < b → b ≤ j → (b - a < j - i ∨ l.length = 1) → it x a b = it' x a b) → wN it N l i j = wN it' N l i j
  | [],_,_,_ => rfl
  | x :: l,i,j,h => by
    rw [wN,wN];refine su_congr fun m _ => ?_
    by_cases him:i < m
    · by_cases hmj:j < m + l.length
      · rw [wN_short it N l m j hmj,wN_short it' N l m j hmj,Nat.mul_zero,Nat.mul_zero]
      · rw [wN_agree l m j (fun y hy a b h1 h2 h3 _ => h y (by simp [hy]) a b (by omega) h2 h3 (.inl (by omega)))];congr 1;unfold it0;rw [if_pos him,if_pos him];refine h x (by simp) i m (Nat.le_refl _) him (by omega) ?_;rcases Nat.eq_zero_or_pos l.length with e | e
        · right;simp [e]
        · left;omega
    · unfold it0;rw [if_neg him,if_neg him,Nat.zero_mul,Nat.zero_mul]
theorem wN_le {it it':Iw} {N:Nat}:∀ (l:List Item) (i j:Nat),(∀ x ∈ l,∀ a b,a < b → b ≤ j → it x a b ≤ it' x a b) → wN it N l i j ≤ wN it' N l i j
  | [],_,_,_ => Nat.le_refl _
  | x :: l,i,j,h => by
    rw [wN,wN];refine su_le fun m _ => ?_
    by_cases hmj:j < m
    · rw [wN_short it N l m j (by omega),wN_short it' N l m j (by omega),Nat.mul_zero,Nat.mul_zero];exact Nat.le_refl _
    · refine Nat.mul_le_mul ?_ (wN_le l m j fun y hy a b h1 h2 => h y (by simp [hy]) a b h1 h2);unfold it0;split
      · exact h x (by simp) i m (by assumption) (by omega)
      · exact Nat.le_refl _
def itD (hit:Nat → Int → Bool) (t:Int → Nat → Nat → Nat):Iw:=fun x a b => if x.cls = 0 then t x.sym a b else if b = a + 1 ∧ hit a x.cls = true then 1 else 0
theorem wN_parts {α:Type} (hit:Nat → Int → Bool) (t:Int → Nat → Nat → List α) {N:Nat}:∀ (l:List Item) (i j:Nat),j < N → wN (itD hit fun s a b => (t s a b).length) N l i j = (parts hit t l i j).length
  | [],i,j,_ => by rw [wN,len_nil]
  | x :: l,i,j,hj => by
    rw [wN];by_cases hx:x.cls = 0
    · rw [len_sym hit t l i j hx];rcases Nat.lt_or_ge j i with hij | hij
      · rw [show j - i = 0 from by omega,upto_zero];refine su_none fun m _ => ?_
        unfold it0;split
        · rw [wN_short _ N l m j (by omega),Nat.mul_zero]
        · rw [Nat.zero_mul]
      · rw [su_cut hij hj (fun a ha => by unfold it0;rw [if_neg (by omega),Nat.zero_mul]) (fun a ha => by rw [wN_short _ N l a j (by omega),Nat.mul_zero])];unfold upto;congr 1;refine List.map_congr_left fun m hm => ?_
        rw [List.mem_range'_1] at hm;rw [wN_parts hit t l m j hj];unfold it0 itD;rw [if_pos (by omega),if_pos hx]
    · by_cases hh:hit i x.cls = true
      · by_cases hij:i < j
        · rw [len_hit hit t hx hij hh,su_one (i:=i + 1) (by omega) (fun m _ hm => by
            unfold it0 itD;split
            · rw [if_neg (show ¬ (m = i + 1 ∧ hit i x.cls = true) from fun h => hm h.1),Nat.zero_mul]
            · rw [Nat.zero_mul]),wN_parts hit t l (i + 1) j hj]
          unfold it0 itD;rw [if_pos (by omega),if_neg hx,if_pos ⟨rfl,hh⟩,Nat.one_mul]
        · rw [parts_short hit t (x :: l) i j (by simp;omega)];refine su_none fun m _ => ?_
          unfold it0;split
          · rw [wN_short _ N l m j (by omega),Nat.mul_zero]
          · rw [Nat.zero_mul]
      · rw [len_miss hit t hx (by simpa using hh)];refine su_none fun m _ => ?_
        unfold it0 itD;split
        · rw [if_neg (show ¬ (m = i + 1 ∧ hit i x.cls = true) from fun h => hh h.2),Nat.zero_mul]
        · rw [Nat.zero_mul]
end Gr
end
section
/- Regions that leave old memory alone up to their last operation, and then write one cell. -/
namespace Kt
open Go Go.RowKit
def growZ (m m0:Nat) (W:World) (Fin:World → Prop) (L:Nat → Bool) (_:Nat → Value) (w:World):Prop:=(L m = false → Below W.heap.size W w) ∧ (L m = true → Fin w ∧ ∀ j,j < m0 → L j = true)
variable {m m0 j:Nat} {W w w':World} {Fin:World → Prop} {V V':Nat → Value} {listed:Array Bool}
theorem grow_start:growZ m m0 W Fin (fun _ => false) V W.drew:=⟨fun _ => below_drewN (Below.refl _ _) 1,fun q => by cases q⟩
theorem grow_not (h:growZ m m0 W Fin (lis listed) V w) (hj:j < m0) (hn:listed.getD j true = false):lis listed m = false:=by
  cases hm:lis listed m with
  | false => rfl
  | true =>
    have:=(h.2 hm).2 j hj;rw [show lis listed j = false from getD_no hn] at this;cases this
theorem grow_at (h:growZ m m0 W Fin (lis listed) V w) (hj:j < m0) (hn:listed.getD j true = false):Below W.heap.size W w:=h.1 (grow_not h hj hn)
theorem grow_up (h:growZ m m0 W Fin (lis listed) V w) (hj:j < m0) (hjm:j ≠ m) (hn:listed.getD j true = false) (hb:Below w.heap.size w w'):growZ m m0 W Fin (upL (lis listed) j) V' w':=by
  have e:upL (lis listed) j m = lis listed m:=by unfold upL;rw [if_neg (fun e => hjm e.symm)]
  have hm:=grow_not h hj hn;exact ⟨fun _ => next (h.1 hm) hb,fun q => by rw [e,hm] at q;cases q⟩
theorem grow_last (hall:∀ j,j < m0 → listed.getD j false = true) (hf:Fin w'):growZ m m0 W Fin (upL (lis listed) m) V' w':=by
  have e:upL (lis listed) m m = true:=by unfold upL;rw [if_pos rfl]
  refine ⟨fun q => (by rw [e] at q;cases q),fun _ => ⟨hf,fun j hj => ?_⟩⟩;unfold upL;split
  · rfl
  · exact hall j hj
theorem grow_end (h:growZ m m0 W Fin (lis listed) V w) (hm:listed.getD m false = true):Fin w:=(h.2 hm).1
end Kt
end
