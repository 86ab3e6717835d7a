/- Joined: NatB, NatC, NatE, NatF, NatG. -/
import Derived.Test.YtdbfiflmeiidjaaSa08
import Derived.Laws.BitsLemmas
section
/- What Add32, adder and Add of the number package return: their walks. -/
namespace Go.Proofs.Ytdbfiflmeiidjaa
open Go Go.RowKit
theorem add32_any (x y c:Int) (w:World) (hx0:0 ≤ x) (hx1:x ≤ 4294967295) (hy0:0 ≤ y) (hy1:y ≤ 4294967295) (hc0:0 ≤ c) (hc1:c ≤ 1) :
    Calls Try.prog 63 #[.int .u32 x,.int .u32 y,.int .u32 c] w fun e w' => e = .returned (.tuple #[.int .u32 ((x + y + c) % 4294967296),.int .u32 ((x + y + c) / 4294967296)]) ∧ w = w':=by
  go_enter Try.func63,Try.ntmps63;go_wp2;go_ret2;exact ⟨Kt.ret_ii rfl rfl,rfl⟩
theorem clo_add (b:Nat) (x y c:Int) (w:World) (h:w.cell? ⟨b,0,none⟩ = some (.int .u32 c)) (hf:w.frozen? ⟨b,0,none⟩ = false) (hx0:0 ≤ x) (hx1:x ≤ 4294967295) (hy0:0 ≤ y) (hy1:y ≤ 4294967295) (hc0:0 ≤ c) (hc1:c ≤ 1) :
    Calls Try.prog 62 #[.int .u32 x,.int .u32 y,.pointer (some ⟨b,0,none⟩)] w fun e w' => e = .returned (.int .u32 ((x + y + c) % 4294967296)) ∧ w.setCell ⟨b,0,none⟩ (.int .u32 ((x + y + c) / 4294967296)) = w':=by
  go_enter Try.func62,Try.ntmps62;go_wp2_with (go_at_call 63;refine (add32_any _ _ _ _ hx0 hx1 hy0 hy1 hc0 hc1).mono ?_;rintro e w' ⟨rfl,rfl⟩);go_ret;exact ⟨rfl,rfl⟩
theorem adder_any (w:World):Calls Try.prog 52 #[] w fun e w' => e = .returned (.func (.func 62) #[] #[.pointer (some ⟨w.heap.size,0,none⟩)]) ∧ w.alloc (.cells #[.int .u32 0] 68) = w':=by
  go_enter Try.func52,Try.ntmps52;go_wp2;go_ret;exact ⟨rfl,rfl⟩
def Got (w:World) (x:Nat) (e:Ending) (w':World):Prop :=
  (((Nt.limbs x).length ≤ 1024 ∧ ∃ v,e = .returned (.tuple #[v,.int .i64 0]) ∧ Kt.Num w' w.heap.size v x) ∨ (1024 < (Nt.limbs x).length ∧ e = .returned (.tuple #[.slice none 0 0,.int .i64 3]))) ∧ Below w.heap.size w w'
theorem len_right {l:List Int} (h:rightB l = true):l.length ≤ 1024:=by
  simp only [rightB,Bool.and_eq_true,decide_eq_true_eq] at h;exact h.1
theorem got_ok {w w1:World} {g:Nat} {T:TypeId} {ys:List Int} {x k c:Nat} (h:Kt.IBlk w1 g T .u32 ys) (hg:w.heap.size ≤ g) (ho:Nt.Ok ys) (hv:Nt.V ys = (x:Int)) (hk:k ≤ ys.length) (he:Nt.V (ys.take k) = Nt.V ys) (hl:k = 0 ∨ Ls.nth ys (k - 1) ≠ 0) (hc:k ≤ c) (hf:k ≤ 1024) (hb:Below w.heap.size w w1) :
    Got w x (.returned (.tuple #[.slice (some ⟨g,0,none⟩) k c,.int .i64 0])) w1:=by
  refine ⟨.inl ⟨?_,_,rfl,Kt.Num.take h hg ho hv hk he hl hc⟩,hb⟩;rw [Nt.limbs_take ho hv hk he hl,List.length_take];omega
theorem got_long {w w1:World} {ys:List Int} {x k:Nat} (ho:Nt.Ok ys) (hv:Nt.V ys = (x:Int)) (hk:k ≤ ys.length) (he:Nt.V (ys.take k) = Nt.V ys) (hl:k = 0 ∨ Ls.nth ys (k - 1) ≠ 0) (hf:1024 < k) (hb:Below w.heap.size w w1) :
    Got w x (.returned (.tuple #[.slice none 0 0,.int .i64 3])) w1:=by
  refine ⟨.inr ⟨?_,rfl⟩,hb⟩;rw [Nt.limbs_take ho hv hk he hl,List.length_take];omega
theorem add_rel {w wr:World} {s:List Int} {n k:Nat} {cy cy' v:Int} (hblk:Kt.IBlk wr w.heap.size 68 .u32 (s ++ Ls.zeros (n + 1 - k))) (hcb:Kt.Blk wr (w.heap.size + 1) 68 #[.int .u32 cy]) (hls:s.length = k) (hlt:k < n + 1) (hbel:Below w.heap.size w wr) :
    Kt.IBlk ((wr.setCell ⟨w.heap.size + 1,0,none⟩ (.int .u32 cy')).setCell ⟨w.heap.size,k,none⟩ (.int .u32 v)) w.heap.size 68 .u32 ((s ++ [v]) ++ Ls.zeros (n + 1 - (k + 1))) ∧
    Kt.Blk ((wr.setCell ⟨w.heap.size + 1,0,none⟩ (.int .u32 cy')).setCell ⟨w.heap.size,k,none⟩ (.int .u32 v)) (w.heap.size + 1) 68 #[.int .u32 cy'] ∧
    Below w.heap.size w ((wr.setCell ⟨w.heap.size + 1,0,none⟩ (.int .u32 cy')).setCell ⟨w.heap.size,k,none⟩ (.int .u32 v)):=by
  refine ⟨?_,?_,(hbel.setCell (by simp) _).setCell (Nat.le_refl _) _⟩
  · rw [← Nt.fill_set v hls hlt];exact (hblk.far (by simp) _).set_ _ _
  · exact (hcb.set_ 0 (.int .u32 cy')).far (by simp) _
set_option maxHeartbeats 4000000 in
theorem add_ge (A B:Option Addr) (n m ca cb:Nat) (a b:List Int) (x:Nat) (w:World) (hla:a.length = n) (hlb:b.length = m) (ha:Kt.Ints w w.heap.size .u32 A a) (hb:Kt.Ints w w.heap.size .u32 B b)
    (hra:rightB a = true) (hrb:rightB b = true) (hoa:Nt.Ok a) (hob:Nt.Ok b) (hnm:m ≤ n) (hn:n ≤ 1024) (hx:Nt.V a + Nt.V b = (x:Int)) :
    Calls Try.prog 39 #[.slice A n ca,.slice B m cb] w (Got w x):=by
  have HLA:=Lib.hid hla;have HLB:=Lib.hid hlb;have HRA:=Lib.hid hra;have HRB:=Lib.hid hrb;have HX:=Lib.hid hx;have HOA:=Lib.hid hoa;have HOB:=Lib.hid hob;clear hla hlb hra hrb hx hoa hob;obtain ⟨i0,hi0,hz0,hz1,hz2⟩:=info_parts Try.infoU32;have hmk:=fun W => Kt.run_make_ints (P:=Try.prog) 33 68 i0 .u32 Try.underlying33 hi0 hz0 hz1 (by omega) (n + 1) (by omega) W
  clear hi0 hz0 hz1 hz2;simp only [show ((n + 1:Nat):Int) = (n:Int) + 1 from by omega] at hmk;have hd:decide (n < m) = false:=by simp;omega
  go_enter Try.func39,Try.ntmps39;go_wp2_with fail;refine (right_any A n ca a _ HLA.out ha (by omega)).mono ?_;rw [HRA.out];rintro e w' ⟨rfl,rfl⟩;go_wp2_with fail;refine (right_any B m cb b _ HLB.out hb (by omega)).mono ?_;rw [HRB.out];rintro e w' ⟨rfl,rfl⟩;go_wp2_with (go_at_call 52;refine (adder_any _).mono ?_;rintro e w' ⟨rfl,rfl⟩);clear hmk;go_loopw [33] (fun i wr => ∃ (k:Nat) (cy:Int) (s:List Int),k ≤ n + 1 ∧ i = .int .i64 k ∧ 0 ≤ cy ∧ cy ≤ 1 ∧ Kt.IBlk wr w.heap.size 68 .u32 (s ++ Ls.zeros (n + 1 - k)) ∧ Kt.Blk wr (w.heap.size + 1) 68 #[.int .u32 cy] ∧ Hid (s.length = k) ∧ Hid (Nt.Ok s) ∧ Hid (Nt.V s + Nt.P k * cy = Nt.V (a.take k) + Nt.V (b.take k)) ∧ Below w.heap.size w wr) (fun i _ => n + 1 - (intOf i).toNat)
  case atStart => exact ⟨0,0,[],Nat.zero_le _,rfl,by omega,by omega,(Kt.IBlk.new _ _ _ _).alloc _,Kt.Blk.new' _ _ _ _ (by simp),Lib.hid rfl,Lib.hid Nt.Ok.nil,Lib.hid (by simp [Nt.V]),((Below.refl _ _).alloc (Nat.le_refl _) _).alloc (by simp) _⟩
  case round =>
    obtain ⟨k,cy,s,hk,rfl,hc0,hc1,hblk,hcb,hls,hos,hv,hbel⟩:=hrel;by_cases hlt:k < n + 1
    · have hcc:=hcb.cell 0;have hcf:=hcb.frozen 0;have hfr:=hblk.frozen k;have hcell3:=hblk.cell k (by rw [Nt.fill_len hls.out (by omega)];exact hlt);by_cases hltn:k < n
      · obtain ⟨b1,o1,rfl,hb1',hcc1⟩:=ha (by have:=HLA.out;omega);have hcell1:=(hbel.cell (p:=⟨b1,o1 + k,none⟩) hb1').trans (hcc1 k (by have:=HLA.out;omega));clear hcc1;obtain ⟨xk,hxk⟩:∃ xk,Hid (Ls.nth a k = xk):=⟨_,Lib.hid rfl⟩;have hxb:=HOA.out.nth_any k;rw [hxk.out] at hcell1 hxb;obtain ⟨hx0,hx1⟩:=hxb;by_cases hltm:k < m
        · obtain ⟨b2,o2,rfl,hb2',hcc2⟩:=hb (by have:=HLB.out;omega);have hcell2:=(hbel.cell (p:=⟨b2,o2 + k,none⟩) hb2').trans (hcc2 k (by have:=HLB.out;omega));clear hcc2;obtain ⟨yk,hyk⟩:∃ yk,Hid (Ls.nth b k = yk):=⟨_,Lib.hid rfl⟩;have hyb:=HOB.out.nth_any k;rw [hyk.out] at hcell2 hyb;obtain ⟨hy0,hy1⟩:=hyb;go_wp2_with fail;refine (clo_add _ xk yk cy _ hcc hcf hx0 hx1 hy0 hy1 hc0 hc1).mono ?_;rintro e w' ⟨rfl,rfl⟩;have hq:=add_rel (v:=(xk + yk + cy) % 4294967296) (cy':=(xk + yk + cy) / 4294967296) hblk hcb hls.out hlt hbel;go_wp2_with fail;go_roundw
          case rel => exact ⟨k + 1,(xk + yk + cy) / 4294967296,s ++ [(xk + yk + cy) % 4294967296],by omega,by go_num,by omega,by omega,hq.1,hq.2.1,Lib.hid (by rw [List.length_append,hls.out];rfl),Lib.hid (hos.out.append (Nt.Ok.one (by omega) (by omega))),Lib.hid (by rw [Nt.V_add_step hls.out hv.out rfl,Nt.V_take_nth,Nt.V_take_nth,hxk.out,hyk.out]),hq.2.2⟩
          case measure => simp [intOf];omega
        · have hyk:Hid (Ls.nth b k = 0):=Lib.hid (Nt.nth_out (by have:=HLB.out;omega));go_wp2_with fail;refine (clo_add _ xk 0 cy _ hcc hcf hx0 hx1 (by omega) (by omega) hc0 hc1).mono ?_;rintro e w' ⟨rfl,rfl⟩;have hq:=add_rel (v:=(xk + 0 + cy) % 4294967296) (cy':=(xk + 0 + cy) / 4294967296) hblk hcb hls.out hlt hbel;go_wp2_with fail;go_roundw
          case rel => exact ⟨k + 1,(xk + 0 + cy) / 4294967296,s ++ [(xk + 0 + cy) % 4294967296],by omega,by go_num,by omega,by omega,by first | exact hq.1 | simpa using hq.1,by first | exact hq.2.1 | simpa using hq.2.1,Lib.hid (by rw [List.length_append,hls.out];rfl),Lib.hid (hos.out.append (Nt.Ok.one (by omega) (by omega))),Lib.hid (by rw [Nt.V_add_step hls.out hv.out rfl,Nt.V_take_nth,Nt.V_take_nth,hxk.out,hyk.out]),by first | exact hq.2.2 | simpa using hq.2.2⟩
          case measure => simp [intOf];omega
      · have hxk:Hid (Ls.nth a k = 0):=Lib.hid (Nt.nth_out (by have:=HLA.out;omega));have hyk:Hid (Ls.nth b k = 0):=Lib.hid (Nt.nth_out (by have:=HLB.out;omega));go_wp2_with fail;refine (clo_add _ 0 0 cy _ hcc hcf (by omega) (by omega) (by omega) (by omega) hc0 hc1).mono ?_;rintro e w' ⟨rfl,rfl⟩;have hq:=add_rel (v:=(0 + 0 + cy) % 4294967296) (cy':=(0 + 0 + cy) / 4294967296) hblk hcb hls.out hlt hbel;go_wp2_with fail;go_roundw
        case rel => exact ⟨k + 1,(0 + 0 + cy) / 4294967296,s ++ [(0 + 0 + cy) % 4294967296],by omega,by go_num,by omega,by omega,by first | exact hq.1 | simpa using hq.1,by first | exact hq.2.1 | simpa using hq.2.1,Lib.hid (by rw [List.length_append,hls.out];rfl),Lib.hid (hos.out.append (Nt.Ok.one (by omega) (by omega))),Lib.hid (by rw [Nt.V_add_step hls.out hv.out rfl,Nt.V_take_nth,Nt.V_take_nth,hxk.out,hyk.out]),by first | exact hq.2.2 | simpa using hq.2.2⟩
        case measure => simp [intOf];omega
    · obtain rfl:k = n + 1:=by omega
      have HV:Hid (Nt.V s = (x:Int)):=Lib.hid (by
        rw [Nt.add_end (a:=a) (b:=b) (n:=n) hls.out hos.out HOA.out HOB.out (by have:=HLA.out;omega) (by have:=HLB.out;omega) hc0 hv.out];exact HX.out)
      rw [Nt.fill_all] at hblk;clear hcb;go_wp2_with fail;refine (trimmed_any _ (n + 1) (n + 1) s _ hls.out hblk.ints (Nat.le_refl _) (by omega)).mono ?_;rintro e w' ⟨t,rfl,ht,hvt,hlt,rfl⟩;have HVT:=Lib.hid hvt;have HLT:=Lib.hid hlt;clear hvt hlt;by_cases hfit:t ≤ 1024
      · go_wp2;go_ret2;exact got_ok hblk (Nat.le_refl _) hos.out HV.out (by have:=hls.out;omega) HVT.out HLT.out ht hfit hbel
      · go_wp2;go_ret2;exact got_long hos.out HV.out (by have:=hls.out;omega) HVT.out HLT.out (by omega) hbel
set_option maxHeartbeats 4000000 in
theorem add_lt (B A:Option Addr) (m n cb ca:Nat) (b a:List Int) (x:Nat) (w:World) (hlb:b.length = m) (hla:a.length = n) (hb:Kt.Ints w w.heap.size .u32 B b) (ha:Kt.Ints w w.heap.size .u32 A a)
    (hrb:rightB b = true) (hra:rightB a = true) (hob:Nt.Ok b) (hoa:Nt.Ok a) (hnm:m < n) (hn:n ≤ 1024) (hx':Nt.V b + Nt.V a = (x:Int)) :
    Calls Try.prog 39 #[.slice B m cb,.slice A n ca] w (Got w x):=by
  have hx:Nt.V a + Nt.V b = (x:Int):=by omega
  clear hx';have HLA:=Lib.hid hla;have HLB:=Lib.hid hlb;have HRA:=Lib.hid hra;have HRB:=Lib.hid hrb;have HX:=Lib.hid hx;have HOA:=Lib.hid hoa;have HOB:=Lib.hid hob;clear hla hlb hra hrb hx hoa hob;obtain ⟨i0,hi0,hz0,hz1,hz2⟩:=info_parts Try.infoU32;have hmk:=fun W => Kt.run_make_ints (P:=Try.prog) 33 68 i0 .u32 Try.underlying33 hi0 hz0 hz1 (by omega) (n + 1) (by omega) W
  clear hi0 hz0 hz1 hz2;simp only [show ((n + 1:Nat):Int) = (n:Int) + 1 from by omega] at hmk;have hd:decide (m < n) = true:=by simp;omega
  go_enter Try.func39,Try.ntmps39;go_wp2_with fail;refine (right_any B m cb b _ HLB.out hb (by omega)).mono ?_;rw [HRB.out];rintro e w' ⟨rfl,rfl⟩;go_wp2_with fail;refine (right_any A n ca a _ HLA.out ha (by omega)).mono ?_;rw [HRA.out];rintro e w' ⟨rfl,rfl⟩;go_wp2_with (go_at_call 52;refine (adder_any _).mono ?_;rintro e w' ⟨rfl,rfl⟩);clear hmk;go_loopw [33] (fun i wr => ∃ (k:Nat) (cy:Int) (s:List Int),k ≤ n + 1 ∧ i = .int .i64 k ∧ 0 ≤ cy ∧ cy ≤ 1 ∧ Kt.IBlk wr w.heap.size 68 .u32 (s ++ Ls.zeros (n + 1 - k)) ∧ Kt.Blk wr (w.heap.size + 1) 68 #[.int .u32 cy] ∧ Hid (s.length = k) ∧ Hid (Nt.Ok s) ∧ Hid (Nt.V s + Nt.P k * cy = Nt.V (a.take k) + Nt.V (b.take k)) ∧ Below w.heap.size w wr) (fun i _ => n + 1 - (intOf i).toNat)
  case atStart => exact ⟨0,0,[],Nat.zero_le _,rfl,by omega,by omega,(Kt.IBlk.new _ _ _ _).alloc _,Kt.Blk.new' _ _ _ _ (by simp),Lib.hid rfl,Lib.hid Nt.Ok.nil,Lib.hid (by simp [Nt.V]),((Below.refl _ _).alloc (Nat.le_refl _) _).alloc (by simp) _⟩
  case round =>
    obtain ⟨k,cy,s,hk,rfl,hc0,hc1,hblk,hcb,hls,hos,hv,hbel⟩:=hrel;by_cases hlt:k < n + 1
    · have hcc:=hcb.cell 0;have hcf:=hcb.frozen 0;have hfr:=hblk.frozen k;have hcell3:=hblk.cell k (by rw [Nt.fill_len hls.out (by omega)];exact hlt);by_cases hltn:k < n
      · obtain ⟨b1,o1,rfl,hb1',hcc1⟩:=ha (by have:=HLA.out;omega);have hcell1:=(hbel.cell (p:=⟨b1,o1 + k,none⟩) hb1').trans (hcc1 k (by have:=HLA.out;omega));clear hcc1;obtain ⟨xk,hxk⟩:∃ xk,Hid (Ls.nth a k = xk):=⟨_,Lib.hid rfl⟩;have hxb:=HOA.out.nth_any k;rw [hxk.out] at hcell1 hxb;obtain ⟨hx0,hx1⟩:=hxb;by_cases hltm:k < m
        · obtain ⟨b2,o2,rfl,hb2',hcc2⟩:=hb (by have:=HLB.out;omega);have hcell2:=(hbel.cell (p:=⟨b2,o2 + k,none⟩) hb2').trans (hcc2 k (by have:=HLB.out;omega));clear hcc2;obtain ⟨yk,hyk⟩:∃ yk,Hid (Ls.nth b k = yk):=⟨_,Lib.hid rfl⟩;have hyb:=HOB.out.nth_any k;rw [hyk.out] at hcell2 hyb;obtain ⟨hy0,hy1⟩:=hyb;go_wp2_with fail;refine (clo_add _ xk yk cy _ hcc hcf hx0 hx1 hy0 hy1 hc0 hc1).mono ?_;rintro e w' ⟨rfl,rfl⟩;have hq:=add_rel (v:=(xk + yk + cy) % 4294967296) (cy':=(xk + yk + cy) / 4294967296) hblk hcb hls.out hlt hbel;go_wp2_with fail;go_roundw
          case rel => exact ⟨k + 1,(xk + yk + cy) / 4294967296,s ++ [(xk + yk + cy) % 4294967296],by omega,by go_num,by omega,by omega,hq.1,hq.2.1,Lib.hid (by rw [List.length_append,hls.out];rfl),Lib.hid (hos.out.append (Nt.Ok.one (by omega) (by omega))),Lib.hid (by rw [Nt.V_add_step hls.out hv.out rfl,Nt.V_take_nth,Nt.V_take_nth,hxk.out,hyk.out]),hq.2.2⟩
          case measure => simp [intOf];omega
        · have hyk:Hid (Ls.nth b k = 0):=Lib.hid (Nt.nth_out (by have:=HLB.out;omega));go_wp2_with fail;refine (clo_add _ xk 0 cy _ hcc hcf hx0 hx1 (by omega) (by omega) hc0 hc1).mono ?_;rintro e w' ⟨rfl,rfl⟩;have hq:=add_rel (v:=(xk + 0 + cy) % 4294967296) (cy':=(xk + 0 + cy) / 4294967296) hblk hcb hls.out hlt hbel;go_wp2_with fail;go_roundw
          case rel => exact ⟨k + 1,(xk + 0 + cy) / 4294967296,s ++ [(xk + 0 + cy) % 4294967296],by omega,by go_num,by omega,by omega,by first | exact hq.1 | simpa using hq.1,by first | exact hq.2.1 | simpa using hq.2.1,Lib.hid (by rw [List.length_append,hls.out];rfl),Lib.hid (hos.out.append (Nt.Ok.one (by omega) (by omega))),Lib.hid (by rw [Nt.V_add_step hls.out hv.out rfl,Nt.V_take_nth,Nt.V_take_nth,hxk.out,hyk.out]),by first | exact hq.2.2 | simpa using hq.2.2⟩
          case measure => simp [intOf];omega
      · have hxk:Hid (Ls.nth a k = 0):=Lib.hid (Nt.nth_out (by have:=HLA.out;omega));have hyk:Hid (Ls.nth b k = 0):=Lib.hid (Nt.nth_out (by have:=HLB.out;omega));go_wp2_with fail;refine (clo_add _ 0 0 cy _ hcc hcf (by omega) (by omega) (by omega) (by omega) hc0 hc1).mono ?_;rintro e w' ⟨rfl,rfl⟩;have hq:=add_rel (v:=(0 + 0 + cy) % 4294967296) (cy':=(0 + 0 + cy) / 4294967296) hblk hcb hls.out hlt hbel;go_wp2_with fail;go_roundw
        case rel => exact ⟨k + 1,(0 + 0 + cy) / 4294967296,s ++ [(0 + 0 + cy) % 4294967296],by omega,by go_num,by omega,by omega,by first | exact hq.1 | simpa using hq.1,by first | exact hq.2.1 | simpa using hq.2.1,Lib.hid (by rw [List.length_append,hls.out];rfl),Lib.hid (hos.out.append (Nt.Ok.one (by omega) (by omega))),Lib.hid (by rw [Nt.V_add_step hls.out hv.out rfl,Nt.V_take_nth,Nt.V_take_nth,hxk.out,hyk.out]),by first | exact hq.2.2 | simpa using hq.2.2⟩
        case measure => simp [intOf];omega
    · obtain rfl:k = n + 1:=by omega
      have HV:Hid (Nt.V s = (x:Int)):=Lib.hid (by
        rw [Nt.add_end (a:=a) (b:=b) (n:=n) hls.out hos.out HOA.out HOB.out (by have:=HLA.out;omega) (by have:=HLB.out;omega) hc0 hv.out];exact HX.out)
      rw [Nt.fill_all] at hblk;clear hcb;go_wp2_with fail;refine (trimmed_any _ (n + 1) (n + 1) s _ hls.out hblk.ints (Nat.le_refl _) (by omega)).mono ?_;rintro e w' ⟨t,rfl,ht,hvt,hlt,rfl⟩;have HVT:=Lib.hid hvt;have HLT:=Lib.hid hlt;clear hvt hlt;by_cases hfit:t ≤ 1024
      · go_wp2;go_ret2;exact got_ok hblk (Nat.le_refl _) hos.out HV.out (by have:=hls.out;omega) HVT.out HLT.out ht hfit hbel
      · go_wp2;go_ret2;exact got_long hos.out HV.out (by have:=hls.out;omega) HVT.out HLT.out (by omega) hbel
end Go.Proofs.Ytdbfiflmeiidjaa
end
section
/- What Mul of the number package returns: its walk. -/
namespace Go.Proofs.Ytdbfiflmeiidjaa
open Go Go.RowKit
theorem mul_nil (A B:Option Addr) (n m ca cb:Nat) (a b:List Int) (w:World) (hla:a.length = n) (hlb:b.length = m) (ha:Kt.Ints w w.heap.size .u32 A a) (hb:Kt.Ints w w.heap.size .u32 B b)
    (hra:rightB a = true) (hrb:rightB b = true) (hn:n ≤ 1024) (hm:m ≤ 1024) (h0:n = 0 ∨ m = 0) :
    Calls Try.prog 54 #[.slice A n ca,.slice B m cb] w (Got w 0):=by
  have HLA:=Lib.hid hla;have HLB:=Lib.hid hlb;have HRA:=Lib.hid hra;have HRB:=Lib.hid hrb;clear hla hlb hra hrb;rcases h0 with h0 | h0
  · have hb0:((n:Int) == 0) = true:=by simp [h0]
    have hd:=Lib.hid h0;clear h0;go_enter Try.func54,Try.ntmps54;go_wp2_with fail;refine (right_any A n ca a _ HLA.out ha (by omega)).mono ?_;rw [HRA.out];rintro e w' ⟨rfl,rfl⟩;go_wp2_with fail;refine (right_any B m cb b _ HLB.out hb (by omega)).mono ?_;rw [HRB.out];rintro e w' ⟨rfl,rfl⟩;go_wp2;go_ret2;exact ⟨.inl ⟨by decide,_,rfl,Kt.Num.zero _ _⟩,Below.refl _ _⟩
  · have hb0:((m:Int) == 0) = true:=by simp [h0]
    have hd:=Lib.hid h0;clear h0;cases hd2:((n:Int) == 0)
    all_goals
      go_enter Try.func54,Try.ntmps54;go_wp2_with fail;refine (right_any A n ca a _ HLA.out ha (by omega)).mono ?_;rw [HRA.out];rintro e w' ⟨rfl,rfl⟩;go_wp2_with fail;refine (right_any B m cb b _ HLB.out hb (by omega)).mono ?_;rw [HRB.out];rintro e w' ⟨rfl,rfl⟩;go_wp2;go_ret2;exact ⟨.inl ⟨by decide,_,rfl,Kt.Num.zero _ _⟩,Below.refl _ _⟩
theorem mul_long (A B:Option Addr) (n m ca cb:Nat) (a b:List Int) (x:Nat) (w:World) (hla:a.length = n) (hlb:b.length = m) (ha:Kt.Ints w w.heap.size .u32 A a) (hb:Kt.Ints w w.heap.size .u32 B b)
    (hra:rightB a = true) (hrb:rightB b = true) (hn:n ≤ 1024) (hm:m ≤ 1024) (hn0:0 < n) (hm0:0 < m) (hs:1025 < n + m) (hx:1024 < (Nt.limbs x).length) :
    Calls Try.prog 54 #[.slice A n ca,.slice B m cb] w (Got w x):=by
  have HLA:=Lib.hid hla;have HLB:=Lib.hid hlb;have HRA:=Lib.hid hra;have HRB:=Lib.hid hrb;have HX:=Lib.hid hx;clear hla hlb hra hrb hx;have hb0:((n:Int) == 0) = false:=by simp;omega
  have hb1:((m:Int) == 0) = false:=by simp;omega
  go_enter Try.func54,Try.ntmps54;go_wp2_with fail;refine (right_any A n ca a _ HLA.out ha (by omega)).mono ?_;rw [HRA.out];rintro e w' ⟨rfl,rfl⟩;go_wp2_with fail;refine (right_any B m cb b _ HLB.out hb (by omega)).mono ?_;rw [HRB.out];rintro e w' ⟨rfl,rfl⟩;go_wp2;go_ret2;exact ⟨.inr ⟨HX.out,rfl⟩,Below.refl _ _⟩
set_option maxHeartbeats 2000000 in
theorem mul_fits (A B:Option Addr) (n m ca cb:Nat) (a b:List Int) (x:Nat) (w:World) (hla:a.length = n) (hlb:b.length = m) (ha:Kt.Ints w w.heap.size .u32 A a) (hb:Kt.Ints w w.heap.size .u32 B b)
    (hra:rightB a = true) (hrb:rightB b = true) (hoa:Nt.Ok a) (hob:Nt.Ok b) (hn0:0 < n) (hm0:0 < m) (hs:n + m ≤ 1025) (hx:Nt.V a * Nt.V b = (x:Int)) :
    Calls Try.prog 54 #[.slice A n ca,.slice B m cb] w (Got w x):=by
  have HLA:=Lib.hid hla;have HLB:=Lib.hid hlb;have HRA:=Lib.hid hra;have HRB:=Lib.hid hrb;have HX:=Lib.hid hx;have HOA:=Lib.hid hoa;have HOB:=Lib.hid hob;clear hla hlb hra hrb hx hoa hob;have hb0:((n:Int) == 0) = false:=by simp;omega
  have hb1:((m:Int) == 0) = false:=by simp;omega
  obtain ⟨i0,hi0,hz0,hz1,hz2⟩:=info_parts Try.infoU32;have hmk:=fun W => Kt.run_make_ints (P:=Try.prog) 33 68 i0 .u32 Try.underlying33 hi0 hz0 hz1 (by omega) (n + m) (by omega) W
  clear hi0 hz0 hz1 hz2;simp only [show ((n + m:Nat):Int) = (n:Int) + (m:Int) from by omega] at hmk;go_enter Try.func54,Try.ntmps54;go_wp2_with fail;refine (right_any A n ca a _ HLA.out ha (by omega)).mono ?_;rw [HRA.out];rintro e w' ⟨rfl,rfl⟩;go_wp2_with fail;refine (right_any B m cb b _ HLB.out hb (by omega)).mono ?_;rw [HRB.out];rintro e w' ⟨rfl,rfl⟩;go_wp2_with fail;clear hmk;go_loopw [44] (fun i wr => ∃ (k:Nat) (p:List Int),k ≤ n ∧ i = .int .i64 k ∧ Kt.IBlk wr w.heap.size 68 .u32 p ∧ Hid (p.length = n + m) ∧ Hid (Nt.Ok p) ∧ Hid (Nt.V p = Nt.V (a.take k) * Nt.V b) ∧ Hid (∀ j,k + m ≤ j → Ls.nth p j = 0) ∧ Below w.heap.size w wr) (fun i _ => n - (intOf i).toNat)
  case atStart => exact ⟨0,Ls.zeros (n + m),Nat.zero_le _,rfl,Kt.IBlk.new _ _ _ _,Lib.hid (Ls.zeros_len _),Lib.hid (Nt.Ok.zeros _),Lib.hid (by rw [Nt.V_zeros,List.take_zero,Nt.V,Int.zero_mul]),Lib.hid (fun j _ => Nt.nth_zeros _ _),(Below.refl _ _).alloc (Nat.le_refl _) _⟩
  case round =>
    obtain ⟨k,p,hk,rfl,hblk,hlen,hop,hv,hz,hbel⟩:=hrel;by_cases hlt:k < n
    · obtain ⟨b1,o1,rfl,hb1',hc1⟩:=ha (by have:=HLA.out;omega);have hcell1:=(hbel.cell (p:=⟨b1,o1 + k,none⟩) hb1').trans (hc1 k (by have:=HLA.out;omega));clear hc1;obtain ⟨xk,hxk⟩:∃ xk,Hid (Ls.nth a k = xk):=⟨_,Lib.hid rfl⟩;have hxb:=HOA.out.nth_any k;rw [hxk.out] at hcell1 hxb;obtain ⟨hx0,hx1⟩:=hxb;go_wp2_with fail;obtain ⟨wo,rfl⟩:∃ wo:World,wo = wr:=⟨_,rfl⟩;go_loopw [9,51] (fun c i wr => ∃ (j:Nat) (cy:Int) (q:List Int),j ≤ m ∧ c = .int .u64 cy ∧ i = .int .i64 j ∧ 0 ≤ cy ∧ cy ≤ 4294967295 ∧ Kt.IBlk wr w.heap.size 68 .u32 q ∧ Hid (q.length = n + m) ∧ Hid (Nt.Ok q) ∧ Hid (Nt.V q + Nt.P (k + j) * cy = Nt.V p + Nt.P k * (xk * Nt.V (b.take j))) ∧ Hid (∀ j,k + m ≤ j → Ls.nth q j = 0) ∧ Below w.heap.size w wr) (fun _ i _ => m - (intOf i).toNat)
      case atStart => exact ⟨0,0,p,Nat.zero_le _,rfl,rfl,by omega,by omega,hblk,hlen,hop,Lib.hid (by simp [Nt.V]),hz,hbel⟩
      case round =>
        obtain ⟨j,cy,q,hj,rfl,rfl,hc0,hc1,hblk2,hlen2,hop2,hv2,hz2,hbel2⟩:=hrel;by_cases hltj:j < m
        · obtain ⟨b2,o2,rfl,hb2',hc2⟩:=hb (by have:=HLB.out;omega);have hcell2:=(hbel2.cell (p:=⟨b2,o2 + j,none⟩) hb2').trans (hc2 j (by have:=HLB.out;omega));clear hc2;obtain ⟨yj,hyj⟩:∃ yj,Hid (Ls.nth b j = yj):=⟨_,Lib.hid rfl⟩;have hyb:=HOB.out.nth_any j;rw [hyj.out] at hcell2 hyb;obtain ⟨hy0,hy1⟩:=hyb;have hcell3:=hblk2.cell (k + j) (by have:=hlen2.out;omega);have hfr3:=hblk2.frozen (k + j);obtain ⟨z,hzz⟩:∃ z,Hid (Ls.nth q (k + j) = z):=⟨_,Lib.hid rfl⟩;have hzb:=hop2.out.nth_any (k + j);rw [hzz.out] at hcell3 hzb;obtain ⟨hz0,hz1⟩:=hzb;obtain ⟨hxy0,hxy1⟩:=Nt.mul_bd hx0 hx1 hy0 hy1;go_wp2;go_roundw
          case rel => exact ⟨j + 1,(xk * yj + z + cy) / 4294967296,q.set (k + j) ((xk * yj + z + cy) % 4294967296),by omega,rfl,by go_num,by omega,by omega,hblk2.set_ _ _,Lib.hid (by rw [List.length_set];exact hlen2.out),Lib.hid (hop2.out.set _ (by omega) (by omega)),Lib.hid (Nt.mul_inner (by have:=hlen2.out;omega) hv2.out (by rw [hzz.out]) hyj.out),Lib.hid (fun t ht => by rw [Nt.nth_set_ne _ (by omega)];exact hz2.out t ht),hbel2.setCell (Nat.le_refl _) _⟩
          case measure => simp [intOf];omega
        · obtain rfl:j = m:=by omega
          have hcell3:=hblk2.cell (k + j) (by have:=hlen2.out;omega);have hfr3:=hblk2.frozen (k + j);have HV:Hid (Nt.V (q.set (k + j) cy) = Nt.V (a.take (k + 1)) * Nt.V b):=Lib.hid (Nt.mul_row (by have:=hlen2.out;omega) hv.out (by have:=hv2.out;rwa [Nt.V_take_all b _ (by have:=HLB.out;omega)] at this) (hz2.out _ (Nat.le_refl _)) hxk.out);go_wp2;go_roundw
          case rel => exact ⟨k + 1,q.set (k + j) cy,by omega,by go_num,hblk2.set_ _ _,Lib.hid (by rw [List.length_set];exact hlen2.out),Lib.hid (hop2.out.set _ (by omega) (by omega)),HV,Lib.hid (fun t ht => by rw [Nt.nth_set_ne _ (by omega)];exact hz2.out t (by omega)),hbel2.setCell (Nat.le_refl _) _⟩
          case measure => simp [intOf];omega
    · obtain rfl:k = n:=by omega
      have HV:Hid (Nt.V p = (x:Int)):=Lib.hid (by rw [hv.out,Nt.V_take_all a _ (by have:=HLA.out;omega)];exact HX.out);go_wp2_with fail;refine (trimmed_any _ (k + m) (k + m) p _ hlen.out hblk.ints (Nat.le_refl _) (by omega)).mono ?_;rintro e w' ⟨t,rfl,ht,hvt,hlt,rfl⟩;have HVT:=Lib.hid hvt;have HLT:=Lib.hid hlt;clear hvt hlt;by_cases hfit:t ≤ 1024
      · go_wp2;go_ret2;exact got_ok hblk (Nat.le_refl _) hop.out HV.out (by have:=hlen.out;omega) HVT.out HLT.out ht hfit hbel
      · go_wp2;go_ret2;exact got_long hop.out HV.out (by have:=hlen.out;omega) HVT.out HLT.out (by omega) hbel
theorem right_R {l:List Int} (ho:Nt.Ok l) (h:rightB l = true):Nt.R l:=by
  refine ⟨ho,?_⟩;simp only [rightB,Bool.and_eq_true,Bool.or_eq_true,decide_eq_true_eq,bne_iff_ne,ne_eq] at h;rcases h.2 with h2 | h2
  · exact .inl (List.eq_nil_of_length_eq_zero h2)
  · exact .inr h2
theorem mul_any (A B:Option Addr) (n m ca cb:Nat) (a b:List Int) (x:Nat) (w:World) (hla:a.length = n) (hlb:b.length = m) (ha:Kt.Ints w w.heap.size .u32 A a) (hb:Kt.Ints w w.heap.size .u32 B b)
    (hra:rightB a = true) (hrb:rightB b = true) (hoa:Nt.Ok a) (hob:Nt.Ok b) (hx:Nt.V a * Nt.V b = (x:Int)) :
    Calls Try.prog 54 #[.slice A n ca,.slice B m cb] w (Got w x):=by
  have h1:=len_right hra;have h2:=len_right hrb;by_cases h0:n = 0 ∨ m = 0
  · have e:x = 0:=by
      rcases h0 with h0 | h0
      · have:a = []:=List.eq_nil_of_length_eq_zero (by omega);rw [this,Nt.V,Int.zero_mul] at hx;omega
      · have:b = []:=List.eq_nil_of_length_eq_zero (by omega);rw [this,Nt.V,Int.mul_zero] at hx;omega
    subst e;exact mul_nil A B n m ca cb a b w hla hlb ha hb hra hrb (by omega) (by omega) h0
  · by_cases hs:n + m ≤ 1025
    · exact mul_fits A B n m ca cb a b x w hla hlb ha hb hra hrb hoa hob (by omega) (by omega) hs hx
    · refine mul_long A B n m ca cb a b x w hla hlb ha hb hra hrb (by omega) (by omega) (by omega) (by omega) (by omega) ?_;have hl:=Nt.mul_low (right_R hoa hra) (right_R hob hrb) (by intro e;rw [e] at hla;simp at hla;omega) (by intro e;rw [e] at hlb;simp at hlb;omega);rw [hx,hla,hlb] at hl;rcases Nat.lt_or_ge 1024 (Nt.limbs x).length with h | h
      · exact h
      · have:=(Nt.len_le_iff x 1024).1 h;have:=Nt.P_mono (show 1024 ≤ n + m - 2 by omega);omega
end Go.Proofs.Ytdbfiflmeiidjaa
end
section
/- What Of, Uint and Cmp of the number package return, and what the statements' own helpers do: their walks. -/
namespace Go.Proofs.Ytdbfiflmeiidjaa
open Go Go.RowKit
theorem of_any (n:Int) (x:Nat) (w:World) (h:n = (x:Int)) (hx:n ≤ 18446744073709551615) :
    Calls Try.prog 53 #[.int .u64 n] w fun e w' => (∃ v,e = .returned v ∧ Kt.Num w' w.heap.size v x) ∧ Below w.heap.size w w':=by
  have h0:0 ≤ n:=by omega
  have H:=Lib.hid h;clear h;have hblk:Kt.IBlk (w.alloc (.cells #[.int .u32 (n % 4294967296),.int .u32 (n / 4294967296)] 68)) w.heap.size 68 .u32 [n % 4294967296,n / 4294967296]:=Kt.Blk.new _ _ _;have HO:Hid (Nt.Ok [n % 4294967296,n / 4294967296]):=Lib.hid (Nt.Ok.cons (by omega) (by omega) (Nt.Ok.one (by omega) (by omega)));have HV:Hid (Nt.V [n % 4294967296,n / 4294967296] = (x:Int)):=Lib.hid (by have:=H.out;simp only [Nt.V];omega);have HB:=Lib.hid hblk;clear hblk;go_enter Try.func53,Try.ntmps53;go_wp2_with fail;refine (trimmed_any _ 2 2 [n % 4294967296,n / 4294967296] _ rfl HB.out.ints (Nat.le_refl _) (by omega)).mono ?_;rintro e w' ⟨t,rfl,ht,hvt,hlt,rfl⟩;have HVT:=Lib.hid hvt;have HLT:=Lib.hid hlt;clear hvt hlt;go_wp2;go_ret;exact ⟨⟨_,rfl,Kt.Num.take HB.out (Nat.le_refl _) HO.out HV.out ht HVT.out HLT.out ht⟩,(Below.refl _ _).alloc (Nat.le_refl _) _⟩
theorem num_right {x:Nat} (h:(Nt.limbs x).length ≤ 1024):rightB (Nt.limbs x) = true:=by
  have hr:=(Nt.limbs_R x).2;simp only [rightB,Bool.and_eq_true,Bool.or_eq_true,decide_eq_true_eq,bne_iff_ne,ne_eq];refine ⟨h,?_⟩;rcases hr with hr | hr
  · left;rw [hr];rfl
  · exact .inr hr
section
variable {w:World} {l1 l2:Nat} {u v:Value} {x y:Nat}
theorem num_ok (h:Kt.Num w l1 u x):∃ A c,u = .slice A (Nt.limbs x).length c ∧ (Nt.limbs x).length ≤ c ∧ Kt.Ints w w.heap.size .u32 A (Nt.limbs x):=by
  obtain ⟨A,c,e,hc,_,hi⟩:=h.ints;exact ⟨A,c,e,hc,hi⟩
theorem add_num (hx:Kt.Num w l1 u x) (hy:Kt.Num w l2 v y) (h1:(Nt.limbs x).length ≤ 1024) (h2:(Nt.limbs y).length ≤ 1024) :
    Calls Try.prog 39 #[u,v] w (Got w (x + y)):=by
  obtain ⟨A,ca,rfl,_,ha⟩:=num_ok hx;obtain ⟨B,cb,rfl,_,hb⟩:=num_ok hy;have hv:Nt.V (Nt.limbs x) + Nt.V (Nt.limbs y) = ((x + y:Nat):Int):=by rw [Nt.V_limbs,Nt.V_limbs];omega
  by_cases hl:(Nt.limbs y).length ≤ (Nt.limbs x).length
  · exact add_ge A B _ _ ca cb _ _ (x + y) w rfl rfl ha hb (num_right h1) (num_right h2) (Nt.limbs_Ok x) (Nt.limbs_Ok y) hl h1 hv
  · exact add_lt A B _ _ ca cb _ _ (x + y) w rfl rfl ha hb (num_right h1) (num_right h2) (Nt.limbs_Ok x) (Nt.limbs_Ok y) (by omega) h2 hv
theorem mul_num (hx:Kt.Num w l1 u x) (hy:Kt.Num w l2 v y) (h1:(Nt.limbs x).length ≤ 1024) (h2:(Nt.limbs y).length ≤ 1024) :
    Calls Try.prog 54 #[u,v] w (Got w (x * y)):=by
  obtain ⟨A,ca,rfl,_,ha⟩:=num_ok hx;obtain ⟨B,cb,rfl,_,hb⟩:=num_ok hy;exact mul_any A B _ _ ca cb _ _ (x * y) w rfl rfl ha hb (num_right h1) (num_right h2) (Nt.limbs_Ok x) (Nt.limbs_Ok y) (by rw [Nt.V_limbs,Nt.V_limbs];simp)
end
def sameB (a b:List Int):Bool:=a == b
theorem same_no {a b:List Int} (h:a.length ≠ b.length):sameB a b = false:=by
  simp only [sameB,beq_eq_false_iff_ne,ne_eq];intro e;exact h (by rw [e])
theorem same_at {a b:List Int} {k:Nat} (h:Ls.nth a k ≠ Ls.nth b k):sameB a b = false:=by
  simp only [sameB,beq_eq_false_iff_ne,ne_eq];intro e;exact h (by rw [e])
theorem same_all {a b:List Int} (hl:a.length = b.length) (h:∀ j,j < a.length → Ls.nth a j = Ls.nth b j):sameB a b = true:=by
  simp only [sameB,beq_iff_eq];exact Ls.ext_nth hl h
theorem samel_any (A B:Option Addr) (n m ca cb:Nat) (a b:List Int) (w:World) (hn:a.length = n) (hm:b.length = m) (ha:Kt.Ints w w.heap.size .u32 A a) (hb:Kt.Ints w w.heap.size .u32 B b) (hla:n ≤ 4611686018427387904) :
    Calls Try.prog 35 #[.slice A n ca,.slice B m cb] w fun e w' => e = .returned (.bool (sameB a b)) ∧ Below w.heap.size w w':=by
  have HN:=Lib.hid hn;have HM:=Lib.hid hm;clear hn hm;by_cases hl:n = m
  · have hne:((n:Int) != (m:Int)) = false:=by simp [hl]
    subst hl;go_enter Try.func35,Try.ntmps35;go_wp2;go_loopw [5] (fun i wr => ∃ k:Nat,k ≤ n ∧ i = .int .i64 k ∧ Hid (∀ j,j < k → Ls.nth a j = Ls.nth b j) ∧ ∃ q,wr = w.drewN q) (fun i _ => n - (intOf i).toNat)
    case atStart => exact ⟨0,Nat.zero_le _,rfl,Lib.hid (fun j hj => absurd hj (by omega)),0,rfl⟩
    case round =>
      obtain ⟨k,hk,rfl,heq,q,rfl⟩:=hrel;by_cases hlt:k < n
      · obtain ⟨b1,o1,rfl,hb1,hc1⟩:=ha (by have:=HN.out;omega);obtain ⟨b2,o2,rfl,hb2,hc2⟩:=hb (by have:=HM.out;omega);have hcell1:=hc1 k (by have:=HN.out;omega);have hcell2:=hc2 k (by have:=HM.out;omega);clear hc1 hc2;by_cases hx:Ls.nth a k = Ls.nth b k
        · have hxb:(Ls.nth a k != Ls.nth b k) = false:=by simp [hx]
          have HX:=Lib.hid hx;clear hx;go_wp2
          go_quiet (fail)
          go_wp2;go_roundw
          case rel => exact ⟨k + 1,by omega,by go_num,Lib.hid (fun j hj => by
            by_cases e:j = k
            · subst e;exact HX.out
            · exact heq.out j (by omega)),_,by first | rfl | exact World.drewN_drewN _ _ _⟩
          case measure => simp [intOf];omega
        · have hxb:(Ls.nth a k != Ls.nth b k) = true:=by simp [hx]
          have HS:=Lib.hid (same_at hx);clear hx;go_wp2
          go_quiet (fail)
          go_wp2;go_ret;exact ⟨Kt.ret_bool HS.out.symm,by first | exact Kt.below_of_drewN _ _ | exact Kt.below_drewN (Kt.below_of_drewN _ _) _⟩
      · go_wp2;go_ret;exact ⟨Kt.ret_bool (same_all (by rw [HN.out,HM.out]) (fun j hj => heq.out j (by have:=HN.out;omega))).symm,Kt.below_of_drewN _ _⟩
  · have hne:((n:Int) != (m:Int)) = true:=by simp;omega
    have HS:=Lib.hid (same_no (a:=a) (b:=b) (by rw [HN.out,HM.out];exact hl));clear hl;go_enter Try.func35,Try.ntmps35;go_wp2;go_ret;exact ⟨Kt.ret_bool HS.out.symm,Below.refl _ _⟩
theorem same_lists (A B:Option Addr) (n m ca cb:Nat) (a b:List Int) (w:World) (hn:a.length = n) (hm:b.length = m) (ha:Kt.Ints w w.heap.size .u32 A a) (hb:Kt.Ints w w.heap.size .u32 B b) (hla:n ≤ 4611686018427387904) :
    Calls Try.prog 14 #[.slice A n ca,.slice B m cb] w fun e w' => e = .returned (.bool (sameB a b)) ∧ Below w.heap.size w w':=by
  go_enter Try.func14,Try.ntmps14;go_wp2_with fail;refine (samel_any A B n m ca cb a b _ hn hm ha hb hla).mono ?_;rintro e w' ⟨rfl,hbel⟩;go_wp2;go_ret;exact ⟨rfl,hbel⟩
theorem same_limbs (x y:Nat):sameB (Nt.limbs x) (Nt.limbs y) = decide (x = y):=by
  rw [Bool.eq_iff_iff];simp only [sameB,beq_iff_eq,decide_eq_true_eq];exact ⟨Nt.limbs_inj,fun e => by rw [e]⟩
theorem same_num {w:World} {l1 l2:Nat} {u v:Value} {x y:Nat} (hx:Kt.Num w l1 u x) (hy:Kt.Num w l2 v y) (h1:(Nt.limbs x).length ≤ 4611686018427387904) :
    Calls Try.prog 14 #[u,v] w fun e w' => e = .returned (.bool (decide (x = y))) ∧ Below w.heap.size w w':=by
  obtain ⟨A,ca,rfl,_,ha⟩:=num_ok hx;obtain ⟨B,cb,rfl,_,hb⟩:=num_ok hy;rw [← same_limbs];exact same_lists A B _ _ ca cb _ _ w rfl rfl ha hb h1
end Go.Proofs.Ytdbfiflmeiidjaa
end
section
/- What Div32 and divided do: division by one limb. -/
namespace Nt
open Go
theorem or_wide (h l:Int) (h0:0 ≤ h) (h1:h ≤ 4294967295) (l0:0 ≤ l) (l1:l ≤ 4294967295):bits .or .u64 (h * 4294967296) l = h * 4294967296 + l :=
  bits_join .u64 64 (by decide) (fun n hn hn2 => by rw [IntKind.wrap_u64];omega) 32 _ _ (by omega) (by omega) (by omega) l0 (by omega) (by omega)
theorem wide_div {h l y:Int} (h0:0 ≤ h) (h1:h < y) (l0:0 ≤ l) (l1:l ≤ 4294967295):0 ≤ (h * 4294967296 + l) / y ∧ (h * 4294967296 + l) / y ≤ 4294967295:=by
  refine ⟨Int.ediv_nonneg (by omega) (by omega),?_⟩;have:(h * 4294967296 + l) / y < 4294967296:=Int.ediv_lt_of_lt_mul (by omega) (by
    have:(h + 1) * 4294967296 ≤ y * 4294967296:=by omega
    omega)
  omega
theorem V_div_step {a q:List Int} {k:Nat} {y r z:Int} (hk:k < a.length) (hq:q.length = a.length) (h:V (a.drop (k + 1)) = y * V (q.drop (k + 1)) + r) (hz:z = r * 4294967296 + Ls.nth a k) (hn:Ls.nth q k = z / y) :
    V (a.drop k) = y * V (q.drop k) + z % y:=by
  rw [V_drop a k hk,V_drop q k (by omega),h,hn,Int.mul_add,Int.mul_add,Int.mul_left_comm y 4294967296];have e:=Int.mul_ediv_add_emod z y;generalize y * V (q.drop (k + 1)) = t;omega
theorem drop_set {l:List Int} {k:Nat} (x:Int):(l.set k x).drop (k + 1) = l.drop (k + 1):=by
  rw [List.drop_set,if_pos (by omega)]
end Nt
namespace Go.Proofs.Ytdbfiflmeiidjaa
open Go Go.RowKit
theorem div32_any (h l y:Int) (w:World) (h0:0 ≤ h) (h1:h < y) (l0:0 ≤ l) (l1:l ≤ 4294967295) (y1:y ≤ 4294967295) :
    Calls Try.prog 41 #[.int .u32 h,.int .u32 l,.int .u32 y] w fun e w' => e = .returned (.tuple #[.int .u32 ((h * 4294967296 + l) / y),.int .u32 ((h * 4294967296 + l) % y)]) ∧ ∃ q,w' = w.drewN q:=by
  have hy:(y != 0) = true:=by simp;omega
  have hle:decide (y ≤ h) = false:=by simp;omega
  have HO:=Lib.hid (Nt.or_wide h l h0 (by omega) l0 l1);obtain ⟨q0,q1⟩:=Nt.wide_div h0 h1 l0 l1;have r0:0 ≤ (h * 4294967296 + l) % y:=Int.emod_nonneg _ (by omega);have r1:(h * 4294967296 + l) % y < y:=Int.emod_lt_of_pos _ (by omega);go_enter Try.func41,Try.ntmps41;go_wp2;rw [HO.out];have z0:0 ≤ h * 4294967296 + l:=by omega
  have z1:h * 4294967296 + l ≤ 18446744073709551615:=by omega
  clear HO;obtain ⟨z,hz⟩:∃ z,Hid (h * 4294967296 + l = z):=⟨_,Lib.hid rfl⟩;rw [hz.out] at q0 q1 r0 r1 z0 z1 ⊢;clear hle h0 h1 l0 l1
  go_quiet (fail)
  go_wp2;go_ret2;exact ⟨Kt.ret_ii (by rw [hz.out]) (by rw [hz.out]),_,rfl⟩
set_option maxHeartbeats 400000 in
theorem divided_any (b n cp:Nat) (l:List Int) (y:Int) (w:World) (hl:l.length = n) (hz:Kt.RowAt w b .u32 l) (hok:Nt.Ok l) (hn:n ≤ 4611686018427387904) (y0:1 ≤ y) (y1:y ≤ 4294967295) :
    Calls Try.prog 25 #[.slice (some ⟨b,0,none⟩) n cp,.int .u32 y] w fun e w' => ∃ q:List Int,e = .returned (.int .u32 (Nt.V l % y)) ∧ q.length = n ∧ Nt.Ok q ∧ Nt.V q = Nt.V l / y ∧ Kt.RowAt w' b .u32 q ∧ Below b w w':=by
  have HL:=Lib.hid hl;have HO:=Lib.hid hok;clear hl hok;go_enter Try.func25,Try.ntmps25;go_wp2;go_loopw [5,6] (fun r i wr => ∃ (k:Nat) (rest:Int) (q:List Int),k ≤ n ∧ r = .int .u32 rest ∧ i = .int .i64 ((k:Int) - 1) ∧ 0 ≤ rest ∧ rest < y ∧ Kt.RowAt wr b .u32 q ∧ Hid (q.length = n) ∧ Hid (Nt.Ok q) ∧ Hid (Nt.V (l.drop k) = y * Nt.V (q.drop k) + rest) ∧ Hid (∀ j,j < k → Ls.nth q j = Ls.nth l j) ∧ Below b w wr) (fun _ i _ => (intOf i + 1).toNat)
  case atStart => exact ⟨n,0,l,Nat.le_refl _,rfl,rfl,by omega,by omega,hz,HL,HO,Lib.hid (by rw [List.drop_of_length_le (by rw [HL.out];exact Nat.le_refl _)];simp [Nt.V]),Lib.hid (fun _ _ => rfl),Below.refl _ _⟩
  case round =>
    obtain ⟨k,rest,q,hk,rfl,rfl,hr0,hr1,hrow,hlq,hoq,hv,hsame,hbel⟩:=hrel;by_cases h0:0 < k
    · obtain ⟨k,rfl⟩:∃ j,k = j + 1:=⟨k - 1,by omega⟩;rw [show ((k + 1:Nat):Int) - 1 = (k:Int) from by omega];have hcell:=hrow.cell k (by rw [hlq.out];omega);rw [hsame.out k (by omega)] at hcell;have hfr:=hrow.frozen k;obtain ⟨x,hx⟩:∃ x,Hid (Ls.nth l k = x):=⟨_,Lib.hid rfl⟩;have hxb:=HO.out.nth_any k;rw [hx.out] at hcell hxb;obtain ⟨hx0,hx1⟩:=hxb;obtain ⟨d0,d1⟩:=Nt.wide_div hr0 hr1 hx0 hx1;have m0:0 ≤ (rest * 4294967296 + x) % y:=Int.emod_nonneg _ (by omega);have m1:(rest * 4294967296 + x) % y < y:=Int.emod_lt_of_pos _ (by omega);obtain ⟨z,hz2⟩:∃ z,Hid (rest * 4294967296 + x = z):=⟨_,Lib.hid rfl⟩;rw [hz2.out] at d0 d1 m0 m1;go_wp2_with fail;refine (div32_any rest x y _ hr0 hr1 hx0 hx1 y1).mono ?_;rw [hz2.out];rintro e w' ⟨rfl,nd,rfl⟩;go_wp2_with fail;go_roundw
      case rel => exact ⟨k,z % y,q.set k (z / y),by omega,rfl,by first | rfl | go_num,m0,m1,(hrow.drewN nd).set k (by rw [hlq.out];omega) _,Lib.hid (by rw [List.length_set];exact hlq.out),Lib.hid (hoq.out.set _ d0 d1),Lib.hid (Nt.V_div_step (by rw [HL.out];omega) (by rw [List.length_set,HL.out,hlq.out]) (by rw [Nt.drop_set];exact hv.out) (by rw [hx.out];exact hz2.out.symm) (Nt.nth_set_eq _ (by rw [hlq.out];omega))),Lib.hid (fun j hj => by rw [Nt.nth_set_ne _ (by omega)];exact hsame.out j (by omega)),(Kt.below_drewN hbel nd).setCell (Nat.le_refl _) _⟩
      case measure => simp [intOf]
    · obtain rfl:k = 0:=by omega
      have hv2:=hv.out;rw [List.drop_zero,List.drop_zero] at hv2;have HE:Hid (Nt.V l / y = Nt.V q ∧ Nt.V l % y = rest):=Lib.hid ((Int.ediv_emod_unique (by omega)).2 ⟨by omega,hr0,hr1⟩);clear hv2;go_wp2;go_ret;exact ⟨q,Kt.ret_int HE.out.2.symm,hlq.out,hoq.out,HE.out.1.symm,hrow,hbel⟩
end Go.Proofs.Ytdbfiflmeiidjaa
end
section
/- What DivMod returns where the dividend is less, and by one limb. -/
namespace Go.Proofs.Ytdbfiflmeiidjaa
open Go Go.RowKit
theorem copied_num {w:World} {l1:Nat} {u:Value} {x:Nat} (hx:Kt.Num w l1 u x) (h1:(Nt.limbs x).length ≤ 1024) :
    Calls Try.prog 23 #[u] w fun e w' => ∃ v,e = .returned v ∧ Kt.Num w' w.heap.size v x ∧ Below w.heap.size w w':=by
  obtain ⟨A,c,rfl,_,hn,ha⟩:=hx.ints;have h0:A = none → (Nt.limbs x).length = 0 ∧ c = 0:=fun e => by
    refine ⟨?_,hn e⟩;rcases Nat.eq_zero_or_pos (Nt.limbs x).length with h | h
    · exact h
    · obtain ⟨b,o,e2,_⟩:=ha h;rw [e] at e2;cases e2
  exact copied_any A _ c _ w rfl ha h0 (by omega)
theorem num_ints {w:World} {l n c x:Nat} {A:Option Addr} (h:Kt.Num w l (.slice A n c) x):Kt.Ints w w.heap.size .u32 A (Nt.limbs x):=by
  obtain ⟨A',c',e,_,hi⟩:=num_ok h;injection e with e1 _ _;rw [e1];exact hi
end Go.Proofs.Ytdbfiflmeiidjaa
end
