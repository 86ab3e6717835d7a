/- Joined: TrE, TrF, LwA, NaA, NaM, PaM, PaW, IsM, MoM, ApW, TrT. -/
import Derived.Test.YtdbfiflmeiidjaaSa30
import Derived.Test.YtdbfiflmeiidjaaSa31
import Derived.Test.YtdbfiflmeiidjaaSa14
import Derived.Test.YtdbfiflmeiidjaaSa20
import Derived.Test.YtdbfiflmeiidjaaSa21
import Derived.Test.YtdbfiflmeiidjaaSa27
import Derived.Test.YtdbfiflmeiidjaaSa03
import Derived.Deep.AppendLies
section
/- The reference's trees of any symbol; check, Count and Trees. -/
namespace Gr
def CCode (g:List Rule) (n:Nat) (c:Int):Prop:=∃ v,RCode g v ∧ c = if v ≠ 0 then v else if 40 < n then 5 else 0
theorem KCode.ref {g:List Rule} {n:Nat} {c:Int} (h:KCode g n c):CCode g n c:=by
  obtain ⟨v,h1,h2⟩:=h;exact ⟨v,h1.ref,h2⟩
theorem D_none {g:List Rule} {ρ:Int → Nat} (hR:Ranked g ρ) (h1:∀ r,r < g.length → 1 ≤ (rul g r).right.length) (hit:Nat → Int → Bool) (n:Nat) (s:Int) (a b:Nat) (h:b ≤ a):D g hit n s a b = []:=by
  rw [D_eq hR hit n s a b (by omega),List.flatMap_eq_nil_iff];intro r hr;rw [parts_short hit _ _ a b (by have:=h1 r (mem_rulesOf.1 hr).1;omega)];rfl
theorem CCode.uniq {g:List Rule} {n:Nat} {c d:Int} (h:CCode g n c) (k:CCode g n d):c = d:=by
  obtain ⟨v,h1,rfl⟩:=h;obtain ⟨u,k1,rfl⟩:=k;rw [h1.uniq k1]
end Gr
namespace Go.Proofs.Ytdbfiflmeiidjaa
open Go Go.RowKit
theorem ways_less {g:List Gr.Rule} {tk:List Int} {N:Nat} (l:List Gr.Item) (i j:Nat) (h:j < i + l.length):Gr.ways g (hitf tk) N l i j = 0:=by
  unfold Gr.ways;rw [Gr.parts_short _ _ _ _ _ h];rfl
set_option maxRecDepth 10000 in
theorem rparts_nil (g:List Gr.Rule) (tk:List Int) (nt i:Nat):RPa g tk nt [] i i:=by
  intro X M w most A L c hT hm1 hm2 hL hLc hI;obtain rfl:L = 0:=by rw [← hL];rfl
  obtain ⟨tb,htb⟩:∃ tb,X.tb = tb:=⟨_,rfl⟩;rw [htb];have HE:Hid ((Gr.parts (hitf tk) (Gr.D g (hitf tk) nt) [] i i).take most = [[]]):=Lib.hid (by
    rw [Gr.parts,if_pos rfl];exact List.take_of_length_le (by simpa using hm1))
  have hb:Below w.heap.size w (w.alloc (.cells #[.slice none 0 0] 52)):=(Below.refl _ _).alloc (Nat.le_refl _) _;have hk:Kt.Blk (w.alloc (.cells #[.slice none 0 0] 52)) w.heap.size 52 #[.slice none 0 0]:=Kt.Blk.new _ _ _;have HV:Hid (Kt.LLV (w.alloc (.cells #[.slice none 0 0] 52)) (fun k => k < w.heap.size) [[]] (.slice (some ⟨w.heap.size,0,none⟩) 1 1)):=Lib.hid (by
    refine ⟨_,1,w.heap.size,0,fun _ => .slice none 0 0,rfl,fun _ => ⟨rfl,by omega,hk.lt⟩,Nat.le_refl _,fun k hk2 => ?_,fun k hk2 => ?_⟩
    · obtain rfl:k = 0:=by simpa using hk2
      exact hk.cell 0
    · obtain rfl:k = 0:=by simpa using hk2
      exact Kt.LV.nil _ _)
  have HB:=Lib.hid hb;clear hT hI hb hk;go_enter Try.func51,Try.ntmps51;go_wp2_with fail;go_ret;rw [HE.out];exact ⟨HB.out,_,rfl,HV.out⟩
theorem rall_it (g:List Gr.Rule) (hG:Gr.Good g) (hW:WfR g) (tk:List Int) (nt:Nat) (hfit:Gr.Fit g nt) {ρ:Int → Nat} (hR:Gr.Ranked g ρ):∀ f:Nat,
    (∀ s i j:Nat,i ≤ j → j ≤ nt → (j - i) * 130 + 2 * ρ (s:Int) + 1 ≤ f → RTr g tk nt s i j) ∧
    (∀ (l:List Gr.Item) (i j:Nat),ItOk l → i ≤ j → j ≤ nt → 0 < Gr.ways g (hitf tk) nt l i j → (j - i) * 130 + rk ρ l ≤ f → RPa g tk nt l i j):=by
  have nilc:∀ i j:Nat,i ≤ j → 0 < Gr.ways g (hitf tk) nt [] i j → RPa g tk nt [] i j:=fun i j hij hw => by
    have hij2:i = j:=by
      rcases Nat.lt_or_ge i j with hlt | hge
      · exfalso;unfold Gr.ways at hw;rw [Gr.len_nil,if_neg (by omega)] at hw;omega
      · omega
    subst hij2;exact rparts_nil g tk nt i
  intro f
  induction f with
  | zero =>
    refine ⟨fun s i j _ _ h => by omega,fun l i j hl hij hj hw h => ?_⟩;cases l with
    | nil => exact nilc i j hij hw
    | cons x l =>
      rw [ways_less _ i j (by simp;omega)] at hw;omega
  | succ f ih =>
    obtain ⟨ih1,ih2⟩:=ih;refine ⟨fun s i j hij hj h => ?_,fun l i j hl hij hj hw h => ?_⟩
    · refine rtrees_step g hG hW tk nt hfit s i j hij hj fun r hr1 hr2 hw => ?_
      refine ih2 _ i j (itok_rule hG hW hr1) hij hj hw ?_;have hk:rk ρ (Gr.rul g r).right ≤ 2 * ρ (s:Int):=by
        unfold rk;split
        · rename_i x hx;split
          · rename_i hc;have:=hR.dec r hr1 x hx hc;rw [hr2] at this;omega
          · omega
        · omega
      omega
    · cases l with
      | nil => exact nilc i j hij hw
      | cons x l =>
        obtain ⟨cx,sx⟩:=x;obtain ⟨hx0,hx1⟩:=hl.sy ⟨cx,sx⟩ (by simp);obtain ⟨sn,rfl⟩:∃ sn:Nat,sx = (sn:Int):=⟨sx.toNat,by simp only at hx0;omega⟩;have hkl:=rk_le hR.le l;refine rparts_step g hG tk nt hfit cx sn l hl i j hij hj (fun m h1 h2 hw2 => ?_) (fun hc m h1 h2 hw2 => ?_)
        · refine ih2 l m j hl.tail h2 hj hw2 ?_;have:(j - m + 1) * 130 ≤ (j - i) * 130:=Nat.mul_le_mul_right _ (by omega);omega
        · refine ih1 sn i m (by omega) (by omega) ?_;by_cases hl0:l = []
          · subst hl0;have hrk:rk ρ [(⟨cx,(sn:Int)⟩:Gr.Item)] = 2 * ρ (sn:Int) + 2:=by
              unfold rk;simp [hc]
            rw [hrk] at h;have:(m - i) * 130 ≤ (j - i) * 130:=Nat.mul_le_mul_right _ (by omega);omega
          · have hp:0 < l.length:=List.length_pos_iff.2 hl0;have hmj:m < j:=by
              rcases Nat.lt_or_ge m j with h3 | h3
              · exact h3
              · rw [ways_less _ m j (by omega)] at hw2;omega
            have:=hR.le (sn:Int);have:(m - i + 1) * 130 ≤ (j - i) * 130:=Nat.mul_le_mul_right _ (by omega);omega
theorem rtrees_any (g:List Gr.Rule) (hG:Gr.Good g) (hW:WfR g) (tk:List Int) (nt:Nat) (hfit:Gr.Fit g nt) (s i j:Nat) (hij:i ≤ j) (hj:j ≤ nt):RTr g tk nt s i j:=by
  obtain ⟨ρ,hR⟩:=hG.ranked;exact (rall_it g hG hW tk nt hfit hR _).1 s i j hij hj (Nat.le_refl _)
theorem refCheck_any (g:List Gr.Rule) (A:Option Addr) (n cp:Nat) (T:Option Addr) (nt ct:Nat) (w:World) (hl:g.length = n) (hn:n ≤ 4611686018427387904) (hW:WfR g) (hg:Kt.Rules w w.heap.size A g) {c0:Int} (hK:Gr.KCode g nt c0) :
    Calls Try.prog 33 #[.slice A n cp,.slice T nt ct] w fun e w' => Below w.heap.size w w' ∧ e = .returned (.int .i64 c0):=by
  have HC:=Lib.hid (refValid_any g A n cp w hl hn hW hg);have HU:Hid (∀ c,Gr.CCode g nt c → c = c0):=Lib.hid fun c h => h.uniq hK.ref
  clear hl hg hW hK;go_enter Try.func33,Try.ntmps33;go_wp2_with fail;refine HC.out.mono ?_;rintro e w1 ⟨hb,v,rfl,hv⟩;have HV:=Lib.hid hv;clear hv HC;by_cases he:v = 0
  · subst he;by_cases h40:40 < nt
    · have d:decide ((nt:Int) > 40) = true:=by simp;omega
      have HK:Hid (5 = c0):=Lib.hid (HU.out 5 ⟨0,HV.out,by rw [if_neg (by simp),if_pos h40]⟩);go_wp2_with fail;go_ret;exact ⟨hb,by rw [← HK.out];rfl⟩
    · have d:decide ((nt:Int) > 40) = false:=by simp;omega
      have HK:Hid (0 = c0):=Lib.hid (HU.out 0 ⟨0,HV.out,by rw [if_neg (by simp),if_neg h40]⟩);go_wp2_with fail;go_ret;exact ⟨hb,by rw [← HK.out];rfl⟩
  · have heb:(v == 0) = false:=by simp [he]
    have HK:Hid (v = c0):=Lib.hid (HU.out v ⟨v,HV.out,by rw [if_pos he]⟩);clear he;go_wp2_with fail;go_ret;exact ⟨hb,by rw [← HK.out];rfl⟩
def RCountPost (g:List Gr.Rule) (tk:List Int) (c0:Int) (w:World) (e:Ending) (w':World):Prop:=Below w.heap.size w w' ∧ ∃ v,e = .returned (.tuple #[v,.int .i64 c0]) ∧ Kt.Num w' 0 v (if c0 = 0 then counts g tk else 0)
set_option maxRecDepth 10000 in
set_option maxHeartbeats 2000000 in
theorem refCount_any (g:List Gr.Rule) (tk:List Int) (A:Option Addr) (n cp:Nat) (T:Option Addr) (nt ct:Nat) (w:World) (hl:g.length = n) (hn:n ≤ 4611686018427387904) (hnt:tk.length = nt) (hk:Gr.Fit g nt ∨ 40 < nt) (hW:WfR g) (hg:Kt.Rules w w.heap.size A g) (ht:Kt.Ints w w.heap.size .u16 T tk) {c0:Int} (hK:Gr.KCode g nt c0) :
    Calls Try.prog 11 #[.slice A n cp,.slice T nt ct] w (RCountPost g tk c0 w):=by
  have HC:=Lib.hid (refCheck_any g A n cp T nt ct w hl hn hW hg hK);have HK:=Lib.hid hK;have HL:=Lib.hid hl;have HNT:=Lib.hid hnt;have HF:=Lib.hid hk;have HW:=Lib.hid hW;have HG:=Lib.hid hg;have HT:=Lib.hid ht;clear hl hnt hk hW hg ht hK;go_enter Try.func11,Try.ntmps11;go_wp2_with fail;refine HC.out.mono ?_;rintro e w1 ⟨hb,rfl⟩;by_cases he:c0 = 0
  · subst he;obtain ⟨hgd,h40⟩:=HK.out.good.1 rfl;have hfit:Gr.Fit g nt:=HF.out.resolve_right (by omega);have HFI:=Lib.hid (fill_any g hgd HW.out tk A n cp T nt ct w1 HL.out HNT.out hfit (HG.out.on hb) (HT.out.on hb));clear hgd HC HK hfit;go_wp2_with fail;refine HFI.out.mono ?_;rintro e w2 ⟨X,M,rfl,hT,hM,e1,e2,e3,e4,e5,hb2⟩;have hbel:=hb.trans (hb2.mono hb.size);obtain ⟨cc,hco⟩:=hT.out 0 (by decide);have hro:=hT.row 0 0 (by decide) (Nat.zero_le _);obtain ⟨v,hv,hnv⟩:=hT.cell 0 0 nt (by decide) (Nat.zero_le _) (by omega);rw [e5] at hco hro;have HNV:Hid (Kt.Num w2 0 v (counts g tk)):=Lib.hid (by
      unfold counts;rw [HNT.out];exact hnv.num)
    have o1:=hT.olt 0 (by decide);have o2:=hT.rlt 0 0 (by decide) (Nat.zero_le _);have o3:=hT.tlt;clear hT hnv hM;go_wp2_with fail;go_ret2;exact ⟨hbel,v,rfl,by rw [if_pos rfl];exact HNV.out⟩
  · have heb:(c0 != 0) = true:=by simp [he]
    have HE:=Lib.hid he;clear he;go_wp2_with fail;go_ret2;exact ⟨hb,_,rfl,by rw [if_neg HE.out];exact (Kt.NumM.zero _ (fun _ => False)).num⟩
def most2 (c0 most:Int):Int:=if c0 ≠ 0 then c0 else if most < 0 ∨ 200 < most then 2 else 0
def RTreesPost (g:List Gr.Rule) (tk:List Int) (c0 most:Int) (w:World) (e:Ending) (w':World):Prop:=Below w.heap.size w w' ∧ ∃ v,e = .returned (.tuple #[v,.int .i64 (most2 c0 most)]) ∧ Kt.LV w' (fun k => k < w.heap.size) (if most2 c0 most = 0 then (derivs g tk).take most.toNat else []) v
set_option maxRecDepth 10000 in
set_option maxHeartbeats 2000000 in
theorem refTrees_any (g:List Gr.Rule) (tk:List Int) (A:Option Addr) (n cp:Nat) (T:Option Addr) (nt ct:Nat) (w:World) (hl:g.length = n) (hn:n ≤ 4611686018427387904) (hnt:tk.length = nt) (hk:Gr.Fit g nt ∨ 40 < nt) (hW:WfR g) (hg:Kt.Rules w w.heap.size A g) (hcp:Caps w A g) (ht:Kt.Ints w w.heap.size .u16 T tk) {c0:Int} (hK:Gr.KCode g nt c0) (most:Int) :
    Calls Try.prog 16 #[.slice A n cp,.slice T nt ct,.int .i64 most] w (RTreesPost g tk c0 most w):=by
  have HC:=Lib.hid (refCheck_any g A n cp T nt ct w hl hn hW hg hK);have HK:=Lib.hid hK;have HL:=Lib.hid hl;have HNT:=Lib.hid hnt;have HF:=Lib.hid hk;have HW:=Lib.hid hW;have HG:=Lib.hid hg;have HT:=Lib.hid ht;have HCP:=Lib.hid hcp;clear hl hnt hk hW hg ht hK hcp;go_enter Try.func16,Try.ntmps16;go_wp2_with fail;refine HC.out.mono ?_;rintro e w1 ⟨hb,rfl⟩;by_cases he:c0 = 0
  · subst he;by_cases hneg:most < 0
    · have d:decide (most < 0) = true:=by simp [hneg]
      have HM:Hid (most2 0 most = 2):=Lib.hid (by unfold most2;rw [if_neg (by simp),if_pos (.inl hneg)]);go_wp2_with fail;go_ret2;exact ⟨hb,_,by rw [HM.out];rfl,by rw [HM.out];exact Kt.LV.nil _ _⟩
    · have d:decide (most < 0) = false:=by simp [hneg]
      by_cases hbig:200 < most
      · have d2:decide (most > 200) = true:=by simp [hbig]
        have HM:Hid (most2 0 most = 2):=Lib.hid (by unfold most2;rw [if_neg (by simp),if_pos (.inr hbig)]);go_wp2_with fail;go_ret2;exact ⟨hb,_,by rw [HM.out];rfl,by rw [HM.out];exact Kt.LV.nil _ _⟩
      · have d2:decide (most > 200) = false:=by simp;omega
        have HM:Hid (most2 0 most = 0):=Lib.hid (by unfold most2;rw [if_neg (by simp),if_neg (by omega)]);obtain ⟨m,rfl⟩:∃ m:Nat,most = (m:Int):=⟨most.toNat,by omega⟩;obtain ⟨hgd,h40⟩:=HK.out.good.1 rfl;have hfit:Gr.Fit g nt:=HF.out.resolve_right (by omega);have HFI:=Lib.hid (fill_any g hgd HW.out tk A n cp T nt ct w1 HL.out HNT.out hfit (HG.out.on hb) (HT.out.on hb));have HGD:=Lib.hid hgd;have HFT:=Lib.hid hfit;clear hgd HC HK hfit;go_wp2_with fail;refine HFI.out.mono ?_;rintro e w2 ⟨X,M,rfl,hT,hM,e1,e2,e3,e4,e5,hb2⟩;have hbel:=hb.trans (hb2.mono hb.size);by_cases hm0:m = 0
        · subst hm0;clear hT hM;go_wp2_with fail;go_ret2;refine ⟨hbel,_,by rw [HM.out];rfl,?_⟩;rw [HM.out,if_pos rfl];exact Kt.LV.nil _ _
        · have dm:((m:Int) == 0) = false:=by simp [hm0]
          by_cases hnt0:nt = 0
          · have HDN:Hid (derivs g tk = []):=Lib.hid (by
              obtain ⟨ρ,hR⟩:=HGD.out.ranked;unfold derivs;exact Gr.D_none hR (fun r hr => (HGD.out.ok r hr).parts.2.1) _ _ _ _ _ (by rw [HNT.out,hnt0];exact Nat.le_refl _))
            subst hnt0;clear hT hM;go_wp2_with fail;go_ret2;refine ⟨hbel,_,by rw [HM.out];rfl,?_⟩;rw [HM.out,if_pos rfl,HDN.out,List.take_nil];exact Kt.LV.nil _ _
          · have dn:((nt:Int) == 0) = false:=by simp [hnt0]
            have hTO:TOk g tk nt X M w2:=⟨hT,hM,e1,e2,e5,by
              rw [e3,e1];exact HCP.out.keep HG.out fun p hp => hbel.cell hp⟩
            have HTR:=Lib.hid (rtrees_any g HGD.out HW.out tk nt HFT.out 0 0 nt (Nat.zero_le _) (Nat.le_refl _) X M w2 m hTO (by omega) (by omega));clear hT hM hTO;go_wp2_with fail;refine HTR.out.mono ?_;rintro e w3 ⟨hb3,v,rfl,hv⟩;have hs2:=hbel.size;have HV:Hid (Kt.LV w3 (fun k => k < w.heap.size) ((derivs g tk).take m) v):=Lib.hid (by
              unfold derivs;rw [HNT.out];exact hv.less fun k hk => by show k < w2.heap.size;omega)
            have hbel3:=hbel.trans (hb3.mono hs2);clear hv HTR;go_wp2_with fail;go_ret2;refine ⟨hbel3,v,by rw [HM.out];rfl,?_⟩;rw [HM.out,if_pos rfl];exact HV.out
  · have heb:(c0 != 0) = true:=by simp [he]
    have HM:Hid (most2 c0 most = c0):=Lib.hid (by unfold most2;rw [if_pos he]);have HE:=Lib.hid he;clear he;go_wp2_with fail;go_ret2;exact ⟨hb,_,by rw [HM.out];rfl,by rw [HM.out,if_neg HE.out];exact Kt.LV.nil _ _⟩
end Go.Proofs.Ytdbfiflmeiidjaa
end
section
/- Trees with a number that is not right; Trees with any number. -/
namespace Go.Proofs.Ytdbfiflmeiidjaa
open Go Go.RowKit
set_option maxHeartbeats 1000000 in
theorem Trees_bad (g:List Gr.Rule) (A:Option Addr) (n cp:Nat) (T:Option Addr) (nt ct:Nat) (w:World) (hl:g.length = n) (hn:n ≤ 4611686018427387904) (hnt2:nt ≤ 4611686018427387904)
    (hg:Kt.Rules w w.heap.size A g) {c0:Int} (hK:Gr.KCode g nt c0) (most:Int) (hmost:most < 0 ∨ 200 < most):Calls Try.prog 15 #[.slice A n cp,.slice T nt ct,.int .i64 most] w fun e w' => Below w.heap.size w w' ∧ e = .returned (.tuple #[.slice none 0 0,.int .i64 (most2 c0 most)]):=by
  obtain ⟨w0,hw0⟩:∃ w0,w.alloc (.cells #[.int .i64 most] 3) = w0:=⟨_,rfl⟩;have hb0:Below w.heap.size w w0:=by rw [← hw0];exact (Below.refl _ _).alloc (Nat.le_refl _) _
  have hmo:Kt.Blk w0 w.heap.size 3 #[.int .i64 most]:=by rw [← hw0];exact Kt.Blk.new _ _ _
  have HC:=Lib.hid (checked2_any g A n cp T nt ct w0 hl hn hnt2 (hg.on hb0));have HMO:=Lib.hid hmo;have HK:=Lib.hid hK;have HB0:=Lib.hid hb0;clear hl hg hmo hb0 hK;go_enter Try.func15,Try.ntmps15;go_wp2_with fail;refine HC.out.mono ?_;rintro e w1 ⟨hb,c,rfl,hc⟩;obtain rfl:c = c0:=hc.uniq HK.out;have hb1:Below w.heap.size w w1:=HB0.out.trans (hb.mono HB0.out.size);clear HC hc hw0;by_cases he:c = 0
  · subst he;have HM:Hid (most2 0 most = 2):=Lib.hid (by unfold most2;rw [if_neg (by simp),if_pos hmost]);have hm1c:w1.cell? ⟨w.heap.size,0,none⟩ = some (.int .i64 most):=(HMO.out.on hb).cell 0;by_cases hneg:most < 0
    · have d:decide (most < 0) = true:=by simp [hneg]
      clear hmost;go_wp2;go_ret2;exact ⟨hb1,by rw [HM.out];rfl⟩
    · have d:decide (most < 0) = false:=by simp [hneg]
      have d2:decide (most > 200) = true:=by simp;omega
      clear hmost;go_wp2;go_ret2;exact ⟨hb1,by rw [HM.out];rfl⟩
  · have heb:(c != 0) = true:=by simp [he]
    have HM:Hid (most2 c most = c):=Lib.hid (by unfold most2;rw [if_pos he]);clear he;go_wp2;go_ret2;exact ⟨hb1,by rw [HM.out];rfl⟩
theorem Trees_all (g:List Gr.Rule) (tk:List Int) (A:Option Addr) (n cp:Nat) (T:Option Addr) (nt ct:Nat) (w:World) (hl:g.length = n) (hn:n ≤ 4611686018427387904) (hnt:tk.length = nt) (hnt2:nt ≤ 4611686018427387904) (hk:Gr.Fit g nt ∨ 40 < nt)
    (hW:WfR g) (hg:Kt.Rules w w.heap.size A g) (ht:Kt.Ints w w.heap.size .u16 T tk) {c0:Int} (hK:Gr.KCode g nt c0) (most:Int) :
    Calls Try.prog 15 #[.slice A n cp,.slice T nt ct,.int .i64 most] w fun e w' => Below w.heap.size w w' ∧ ∃ v,e = .returned (.tuple #[v,.int .i64 (most2 c0 most)]) ∧ Kt.LV w' (fun k => k < w.heap.size) (if most2 c0 most = 0 then (derivs g tk).take most.toNat else []) v:=by
  by_cases hm:most < 0 ∨ 200 < most
  · refine (Trees_bad g A n cp T nt ct w hl hn hnt2 hg hK most hm).mono ?_;rintro e w' ⟨hb,rfl⟩;refine ⟨hb,_,rfl,?_⟩;rw [if_neg]
    · exact Kt.LV.nil _ _
    · unfold most2;by_cases he:c0 = 0
      · rw [if_neg (by simp [he]),if_pos hm];decide
      · rw [if_pos he];exact he
  · obtain ⟨m,rfl⟩:∃ m:Nat,most = (m:Int):=⟨most.toNat,by omega⟩;refine (Trees_any g tk A n cp T nt ct w hl hn hnt hnt2 hk hW hg ht m (by omega)).mono ?_;rintro e w' ⟨hb,v,c,rfl,hc,hv⟩;rw [hnt] at hc;obtain rfl:c = c0:=hc.uniq hK;have e:most2 c (m:Int) = c:=by
      unfold most2;by_cases he:c = 0
      · rw [if_neg (by simp [he]),if_neg hm,he]
      · rw [if_pos he]
    exact ⟨hb,v,by rw [e],by rw [e];exact hv⟩
end Go.Proofs.Ytdbfiflmeiidjaa
end
section
/- What the laws of grammars share: a number picked; a grammar of the call's own as one that is read. -/
namespace Go.Proofs.Ytdbfiflmeiidjaa
open Go Go.RowKit
theorem flatR_get (G C:Nat → Nat) (g:List Gr.Rule) (r q:Nat) (hr:r < g.length) (hq:q < 2):(flatR G C g)[r * 2 + q]? = ([.int .i64 (Gr.rul g r).left,.slice (some ⟨G r,0,none⟩) (Gr.rul g r).right.length (C r)]:List Value)[q]?:=by
  have key:∀ (f:Nat → List Value),(∀ i,(f i).length = 2) → ∀ n r,r < n → ((List.range n).flatMap f)[r * 2 + q]? = (f r)[q]?:=by
    intro f hf n
    induction n with
    | zero => intro r h;omega
    | succ n ih =>
      intro r h;have hl:((List.range n).flatMap f).length = n * 2:=by
        rw [List.length_flatMap];simp [hf,List.map_const',List.sum_replicate_nat]
      rw [List.range_succ,List.flatMap_append];by_cases e:r < n
      · rw [List.getElem?_append_left (by omega)];exact ih r e
      · obtain rfl:r = n:=by omega
        rw [List.getElem?_append_right (by omega),hl,show r * 2 + q - r * 2 = q from by omega];simp
  exact key _ (fun _ => rfl) _ r hr
theorem OG.rules {w:World} {base:Nat} {v:Value} {g:List Gr.Rule} {G C:Nat → Nat} (h:OG w base v g G C) (hlen:∀ r,r < g.length → (Gr.rul g r).right.length ≤ 4611686018427387904):∃ A c,v = .slice A g.length c ∧ Kt.Rules w w.heap.size A g:=by
  rcases h.own.2 with ⟨rfl,h0⟩ | ⟨gb,cap,cur,rfl,hb,hcur,_⟩
  · exact ⟨none,0,by rw [h0],fun hp => by omega⟩
  · refine ⟨_,cap,rfl,fun _ => ⟨gb,0,rfl,(h.own.lt gb rfl).2,fun r hr => ?_⟩⟩;have hfl:∀ q,q < 2 → (flatR G C g)[r * 2 + q]? = ([.int .i64 (Gr.rul g r).left,.slice (some ⟨G r,0,none⟩) (Gr.rul g r).right.length (C r)]:List Value)[q]?:=fun q hq => flatR_get G C g r q hr hq
    have c0:=h.own.cells rfl (r * 2) _ (hfl 0 (by omega));have c1:=h.own.cells rfl (r * 2 + 1) _ (hfl 1 (by omega));rw [Addr.add_lit] at c0 c1;refine ⟨by simpa using c0,some ⟨G r,0,none⟩,C r,by simpa [Nat.add_assoc] using c1,hlen r hr,fun hp => ⟨G r,0,rfl,((h.its r hr).lt (G r) rfl).2,fun k hk => ?_⟩⟩;obtain ⟨e0,e1⟩:=flatI_get _ k hk;have d0:=(h.its r hr).cells rfl (k * 2) _ e0;have d1:=(h.its r hr).cells rfl (k * 2 + 1) _ e1;rw [Addr.add_lit] at d0 d1;exact ⟨by simpa using d0,by simpa [Nat.add_assoc] using d1⟩
end Go.Proofs.Ytdbfiflmeiidjaa
end
section
/- A grammar of the call's own, turned symbol by symbol. -/
namespace Gr
def mapI (fs:Item → Int) (x:Item):Item:=⟨x.cls,fs x⟩
def mapR (fl:Int → Int) (fs:Item → Int) (r:Rule):Rule:=⟨fl r.left,r.right.map (mapI fs)⟩
variable {fl:Int → Int} {fs:Item → Int} {g:List Rule}
end Gr
namespace Go.Proofs.Ytdbfiflmeiidjaa
open Go Go.RowKit
theorem OG.below {w w':World} {base:Nat} {v:Value} {g:List Gr.Rule} {G C:Nat → Nat} (h:OG w base v g G C) (hb:Below w.heap.size w w'):OG w' base v g G C :=
  ⟨Kt.ownsRow_keep h.own fun b e => hb.block b (h.own.lt b e).2,fun r hr => Kt.ownsRow_keep (h.its r hr) fun b e => hb.block b ((h.its r hr).lt b e).2,h.ne,h.inj⟩
end Go.Proofs.Ytdbfiflmeiidjaa
end
section
/- With two symbols exchanged everywhere the derivations are the same. -/
namespace Gr
section
variable {a b:Int}
end
end Gr
namespace Go.Proofs.Ytdbfiflmeiidjaa
open Go Go.RowKit
end Go.Proofs.Ytdbfiflmeiidjaa
end
section
/- A rule that puts two derivations one behind the other: the sum of the products. -/
namespace Gr
section
variable {α β:Type}
end
def upS (x:Item):Int:=if x.cls = 0 then x.sym + 1 else x.sym
def up (g:List Rule):List Rule:=g.map (mapR (· + 1) upS)
end Gr
namespace Go.Proofs.Ytdbfiflmeiidjaa
open Go Go.RowKit
end Go.Proofs.Ytdbfiflmeiidjaa
end
section
/- Symbols that are moved up one by one: what is known of the limits. -/
namespace Gr
structure FitU (g:List Rule) (k q:Nat) (b:Bool):Prop where
  l:∀ r,r < k → (rul g r).left + 1 < 64
  r:∀ r,r < k → ∀ x ∈ (rul g r).right,x.cls = 0 → x.sym + 1 < 64
  lk:b = true → (rul g k).left + 1 < 64
  rk:∀ p,p < q → (itm (rul g k).right p).cls = 0 → (itm (rul g k).right p).sym + 1 < 64
theorem FitU.zero (g:List Rule):FitU g 0 0 false:=⟨fun r h => by omega,fun r h => by omega,fun h => (by cases h),fun p h => (by omega)⟩
theorem FitU.left {g:List Rule} {k:Nat} (h:FitU g k 0 false) (hl:(rul g k).left + 1 < 64):FitU g k 0 true:=⟨h.l,h.r,fun _ => hl,h.rk⟩
theorem FitU.item {g:List Rule} {k q:Nat} {b:Bool} (h:FitU g k q b) (hl:(itm (rul g k).right q).cls = 0 → (itm (rul g k).right q).sym + 1 < 64):FitU g k (q + 1) b:=⟨h.l,h.r,h.lk,fun p hp => by
  by_cases e:p = q
  · subst e;exact hl
  · exact h.rk p (by omega)⟩
theorem FitU.next {g:List Rule} {k:Nat} (h:FitU g k (rul g k).right.length true):FitU g (k + 1) 0 false:=⟨fun r hr => by
  by_cases e:r = k
  · subst e;exact h.lk rfl
  · exact h.l r (by omega),fun r hr x hx hc => by
  by_cases e:r = k
  · subst e;obtain ⟨p,hp,rfl⟩:=List.mem_iff_getElem.1 hx;have e1:itm (rul g r).right p = (rul g r).right[p]:=by unfold itm;rw [List.getD_eq_getElem?_getD,List.getElem?_eq_getElem hp];rfl
    have:=h.rk p hp;rw [e1] at this;exact this hc
  · exact h.r r (by omega) x hx hc,fun h => (by cases h),fun p h => (by omega)⟩
end Gr
namespace Go.Proofs.Ytdbfiflmeiidjaa
open Go Go.RowKit
end Go.Proofs.Ytdbfiflmeiidjaa
namespace Kt
open Go
end Kt
end
section
/- What isTree computes, for any tree (its numbers are whole numbers). -/
namespace Gr
inductive TrI where
  | node (rule fr fin:Int) (sub:List TrI)
def TrI.fin:TrI → Int
  | .node _ _ t _ => t
section
variable {hit:Nat → Int → Bool} {chk:TrI → Int → Int → Int → Bool} {e i:Int} {x:Item} {l:List Item}
end
mutual
def TrI.size:TrI → Nat
  | .node _ _ _ sub => 1 + TrI.sizes sub
def TrI.sizes:List TrI → Nat
  | [] => 0
  | t :: ts => t.size + TrI.sizes ts
end
mutual
def Tr.toI:Tr → TrI
  | .node r i j sub => .node r i j (Tr.toIs sub)
def Tr.toIs:List Tr → List TrI
  | [] => []
  | t :: ts => t.toI :: Tr.toIs ts
end
end Gr
end
section
/- A rule more, or more classes: no fewer derivations, and those from before pass still. -/
namespace Gr
theorem snoc_rul (g:List Rule) (r:Rule) {k:Nat} (h:k < g.length):rul (g ++ [r]) k = rul g k:=by
  unfold rul;rw [List.getD_eq_getElem?_getD,List.getD_eq_getElem?_getD,List.getElem?_append_left h]
end Gr
end
section
/- A rule appended to a grammar of the call's own: the new one can be read. -/
namespace Go.Proofs.Ytdbfiflmeiidjaa
open Go Go.RowKit
theorem law_fn {P:Program} {ops:Array Oper} {o:Oper} {a:Act} {w:World} {K:Act → World → Prop} {Q:Exit → Act → World → Prop} {E:Prop} (X:Op) (hop:o.op = X) (hg:o.guard = none) (s:Nat) (R:World → Value → World → Prop)
    (H:∀ KK:Act → World → Prop,(∀ v w',R w v w' → KK (a.put (some s) v) w') → Oper.wp P o a w KK Q) (hk:∀ v w',R w v w' → K (a.put (some s) v) w'):if Region.wanted o (yielded ops a.tmps) = true then Oper.wp P o a w K Q else E:=by
  have _:=hop;rw [if_pos (by simp [Region.wanted,hg])];exact H K hk
theorem snoc_wf {g:List Gr.Rule} {x:Gr.Rule} (h:WfR g) (hx:∀ y ∈ x.right,0 ≤ y.cls ∧ y.cls ≤ 65535):WfR (g ++ [x]):=fun r hr y hy => by
  rw [List.length_append,List.length_singleton] at hr;by_cases e:r < g.length
  · rw [Gr.snoc_rul g x e] at hy;exact h r e y hy
  · obtain rfl:r = g.length:=by omega
    have hr2:Gr.rul (g ++ [x]) g.length = x:=by
      unfold Gr.rul;rw [List.getD_eq_getElem?_getD,List.getElem?_append_right (Nat.le_refl _)];simp
    rw [hr2] at hy;exact hx y hy
end Go.Proofs.Ytdbfiflmeiidjaa
end
section
/- tree: a tree of the reference, as one of grammar's in memory of the call's own. -/
namespace Go.Proofs.Ytdbfiflmeiidjaa
open Go Go.RowKit
set_option maxRecDepth 100000 in
set_option maxHeartbeats 4000000 in
theorem rtree_step (x:Gr.Tr) (IH:∀ y:Gr.Tr,Kt.tsz y < Kt.tsz x → ∀ (M:Nat → Prop) (v:Value) (w:World),Kt.Small y → Kt.TV w M y v → Calls Try.prog 18 #[v] w (CopyPost y w))
    (M:Nat → Prop) (v:Value) (w:World) (hF:Kt.Small x) (hv:Kt.TV w M x v):Calls Try.prog 18 #[v] w (CopyPost x w):=by
  obtain ⟨i0,hi0,hz0,hz1,hz2⟩:=info_parts Try.infoTree;obtain ⟨r,fr,t0,sub⟩:=x;obtain ⟨v4,rfl,hl4⟩:=hv.parts;obtain ⟨hfit,hfs⟩:sub.length ≤ 8 ∧ ∀ k,k < sub.length → Kt.Small (sub.getD k Kt.noTr):=by
    cases hF with
    | node _ _ _ _ h hs => exact ⟨h,hs⟩
  have HI:Hid (∀ k,k < sub.length → ∀ (M:Nat → Prop) (v:Value) (w:World),Kt.Small (sub.getD k Kt.noTr) → Kt.TV w M (sub.getD k Kt.noTr) v → Calls Try.prog 18 #[v] w (CopyPost (sub.getD k Kt.noTr) w)):=Lib.hid (fun k hk => IH _ (Kt.size_sub hk r fr t0));have HL4:=Lib.hid hl4;have HFS:=Lib.hid hfs;obtain ⟨A4,c4,b4,off4,vs4,rfl,hA4,hle4,h634,hcells4,_⟩:=hl4;obtain ⟨ns,hns⟩:∃ m,Hid (sub.length = m):=⟨_,Lib.hid rfl⟩;rw [hns.out] at HL4 h634 hfit ⊢;obtain ⟨rb,hrb⟩:∃ rb,w.heap.size + 1 + 1 = rb:=⟨_,rfl⟩;obtain ⟨w1,hw1⟩:∃ w1,((w.alloc (.cells #[.int .i64 (r:Int),.int .i64 (fr:Int),.int .i64 (t0:Int),.slice A4 ns c4] 60)).alloc (.cells #[.int .i64 0,.int .i64 0,.int .i64 0,.slice none 0 0] 57)).alloc (.cells #[.int .i64 (r:Int),.int .i64 (fr:Int),.int .i64 (t0:Int),.slice none 0 0] 57) = w1:=⟨_,rfl⟩;have hs1:w1.heap.size = w.heap.size + 3:=by rw [← hw1];simp
  have hb1:Below w.heap.size w w1:=by rw [← hw1];exact (((Below.refl _ _).alloc (Nat.le_refl _) _).alloc (by simp) _).alloc (by simp;omega) _
  have k1:Kt.Blk w1 w.heap.size 60 #[.int .i64 (r:Int),.int .i64 (fr:Int),.int .i64 (t0:Int),.slice A4 ns c4]:=by rw [← hw1];exact ((Kt.Blk.new w _ _).alloc _).alloc _
  have k2:Kt.Blk w1 (w.heap.size + 1) 57 #[.int .i64 0,.int .i64 0,.int .i64 0,.slice none 0 0]:=by rw [← hw1];exact (Kt.Blk.new' _ _ _ _ (by simp)).alloc _
  have k3:Kt.Blk w1 rb 57 #[.int .i64 (r:Int),.int .i64 (fr:Int),.int .i64 (t0:Int),.slice none 0 0]:=by rw [← hw1,← hrb];exact Kt.Blk.new' _ _ _ _ (by simp)
  have HK1:=Lib.hid k1;have HK2:=Lib.hid k2;have HK3:=Lib.hid k3;have HB1:=Lib.hid hb1;have HW1:=Lib.hid hw1;have HRB:=Lib.hid hrb;clear IH hv hF k1 k2 k3 hb1 hA4 hle4 hcells4 hw1 hfs hrb;go_enter Try.func18,Try.ntmps18;go_wp2_with fail;rw [HW1.out,HRB.out];have hrw:w.heap.size + 1 < rb:=by have:=HRB.out;omega
  have hrb1:rb + 1 = w1.heap.size:=by have:=HRB.out;omega
  go_loopw [4] (fun s wr => ∃ (q:Nat) (v:Value) (vs:List Value),q ≤ ns ∧ s = .int .i64 q ∧ Hid (Kt.Blk wr rb 57 #[.int .i64 (r:Int),.int .i64 (fr:Int),.int .i64 (t0:Int),v]) ∧ Hid (Kt.OTq 57 wr (rb + 1) (fun b => b ≤ rb) (sub.take q) v vs) ∧ Below rb w1 wr) (fun s _ => ns - (intOf s).toNat)
  case atStart => exact ⟨0,.slice none 0 0,[],Nat.zero_le _,rfl,HK3,Lib.hid (Kt.OTq.nil _ _ _),Below.refl _ _⟩
  case round =>
    obtain ⟨q,v,vs,hq,rfl,hKb,hO,hbl⟩:=hrel;rename World => wl
    have hsl:=hbl.size;have hbw:Below w.heap.size w wl:=HB1.out.trans (hbl.mono (by omega));have hTq:(sub.take q).length = q:=by rw [List.length_take,hns.out];omega
    have x3:wl.cell? ⟨w.heap.size,3,none⟩ = some (.slice A4 ns c4):=(HK1.out.below hbl (by omega)).cell 3;obtain ⟨A3,c3,rfl⟩:=hO.out.shape;rw [hTq] at hKb hO;have hkb:=hKb.out;have hrbl:rb + 1 ≤ wl.heap.size:=hkb.lt;have b0:wl.cell? ⟨rb,0,none⟩ = some (.int .i64 (r:Int)):=hkb.cell 0;have b1:wl.cell? ⟨rb,1,none⟩ = some (.int .i64 (fr:Int)):=hkb.cell 1;have b2:wl.cell? ⟨rb,2,none⟩ = some (.int .i64 (t0:Int)):=hkb.cell 2;have b3:wl.cell? ⟨rb,3,none⟩ = some (.slice A3 q c3):=hkb.cell 3;clear hkb;by_cases hlt:q < ns
    · have dq:decide ((q:Int) < ns) = true:=by simp;omega
      have hql:q < sub.length:=by rw [hns.out];exact hlt
      obtain ⟨bs,os,x0,x1,x2,x30,rfl,hbs,_,hcell,hte⟩:=HL4.out.at2 hql;have hcal:=HI.out q hql;have hft:=HFS.out q hql;have hTs:=Kt.take_tr sub q hql;obtain ⟨tt,htt⟩:∃ tt,Hid (sub.getD q Kt.noTr = tt):=⟨_,Lib.hid rfl⟩;rw [htt.out] at hte hft hTs hcal;have HTS:=Lib.hid hTs;obtain ⟨a0,a1,a2,At,nt4,ct4,hve⟩:=tv_form hte;injection hve with hve;injection hve with hve;simp only [List.cons.injEq,and_true] at hve;obtain ⟨rfl,rfl,rfl,rfl⟩:=hve;have z0:wl.cell? ⟨bs,os + q * 4,none⟩ = some (.int .i64 a0):=(hbw.cell (p:=⟨bs,os + q * 4,none⟩) hbs).trans (hcell 0 (by omega));have z1:wl.cell? ⟨bs,os + q * 4 + 1,none⟩ = some (.int .i64 a1):=(hbw.cell (p:=⟨bs,os + q * 4 + 1,none⟩) hbs).trans (hcell 1 (by omega));have z2:wl.cell? ⟨bs,os + q * 4 + 2,none⟩ = some (.int .i64 a2):=(hbw.cell (p:=⟨bs,os + q * 4 + 2,none⟩) hbs).trans (hcell 2 (by omega));have z3:wl.cell? ⟨bs,os + q * 4 + 3,none⟩ = some (.slice At nt4 ct4):=(hbw.cell (p:=⟨bs,os + q * 4 + 3,none⟩) hbs).trans (hcell 3 (by omega));have HCALL:=Lib.hid (hcal M _ wl.drew hft ((hte.keep (W':=wl) fun p hp _ => hbw.block p hp).keep (W':=wl.drew) fun _ _ _ => rfl));have hO':=hO.out;have HOL:Hid (wl.ownsRow (rb + 1) 57 4 (.slice A3 q c3) q (Kt.flatV vs)):=Lib.hid (by have:=hO'.own;rwa [hTq] at this);clear hcell hte hcal hft hTs hO';go_upto_region 5 with fail
      go_region_law (first
        | (refine law_fn (.call { callee:=.value (.func 18),args:=#[.tmp 25],argTypes:=#[60] }) rfl rfl 26 (fun w v w3 => Below wl.heap.size wl w3 ∧ ∃ d0 d1 d2 A5 n5 c5,v = .agg #[.int .i64 d0,.int .i64 d1,.int .i64 d2,.slice A5 n5 c5] ∧ Hid (Kt.TV w3 (fun k => k < wl.heap.size) tt v)) ?_ ?_
           · intro KK hkk;unfold Oper.wp;go_simp;refine HCALL.out.mono ?_;rintro e w3 ⟨hb3,v',rfl,ht3⟩;obtain ⟨d0,d1,d2,A5,n5,c5,he⟩:=tv_form ht3;exact hkk _ _ ⟨(Below.refl wl.heap.size wl).drew.trans hb3,d0,d1,d2,A5,n5,c5,he,Lib.hid ht3⟩
           rintro _ w3 ⟨hb3,d0,d1,d2,A5,n5,c5,rfl,HT3⟩;obtain ⟨w3a,hw3a⟩:∃ w3a,Hid (w3.alloc (.cells #[.int .i64 d0,.int .i64 d1,.int .i64 d2,.slice A5 n5 c5] 57) = w3a):=⟨_,Lib.hid rfl⟩;have hb3a:Below w3.heap.size w3 (w3.alloc (.cells #[.int .i64 d0,.int .i64 d1,.int .i64 d2,.slice A5 n5 c5] 57)):=(Below.refl _ _).alloc (Nat.le_refl _) _;have b33:w3.cell? ⟨rb,3,none⟩ = some (.slice A3 q c3):=(hb3.cell (p:=⟨rb,3,none⟩) hrbl).trans b3;have b34:(w3.alloc (.cells #[.int .i64 d0,.int .i64 d1,.int .i64 d2,.slice A5 n5 c5] 57)).cell? ⟨rb,3,none⟩ = some (.slice A3 q c3):=(hb3a.cell (p:=⟨rb,3,none⟩) (Nat.lt_of_lt_of_le hrbl hb3.size)).trans b33)
        | (refine step_append_lies _ rfl (.tmp 20) (.tmp 27) 49 rfl (rb + 1) 57 i0 (.agg #[.int .i64 0,.int .i64 0,.int .i64 0,.slice none 0 0]) 4 48 Try.underlying49 hi0 hz0 hz1 hz2 rfl (by decide) (.slice A3 q c3) q (Kt.flatV vs) ?_ (Kt.ownsRow_keep HOL.out fun g' e => (hb3a.block g' (Nat.lt_of_lt_of_le (HOL.out.lt g' e).2 hb3.size)).trans (hb3.block g' (HOL.out.lt g' e).2)) ⟨w3.heap.size,0,none⟩ 1 1 [.int .i64 d0,.int .i64 d1,.int .i64 d2,.slice A5 n5 c5] ?_ rfl (World.news_of_block (Kt.Blk.new w3 _ _)) ?_ (by decide) ?_ ?_ ?_ _ rfl ?_
           · simp [Act.eval]
           · simp [Act.eval]
           · intro u hu;simp only [List.mem_cons,List.not_mem_nil,or_false] at hu;rcases hu with rfl | rfl | rfl | rfl <;> rfl
           · unfold maxLen;omega
           · omega
           · exact Nat.le_trans hrbl (Nat.le_trans hb3.size hb3a.size)
           intro gg cap w4 hown4 hgr4 hat4 hlt4;have hbl3a:Below wl.heap.size wl (w3.alloc (.cells #[.int .i64 d0,.int .i64 d1,.int .i64 d2,.slice A5 n5 c5] 57)):=hb3.trans (hb3a.mono hb3.size);have HK4:Kt.Blk w4 rb 57 #[.int .i64 (r:Int),.int .i64 (fr:Int),.int .i64 (t0:Int),.slice A3 q c3]:=(hgr4.block rb (Nat.lt_of_lt_of_le hrbl hbl3a.size) fun e => by have:=(HOL.out.lt rb e.symm).1;omega).trans ((hbl3a.block rb hrbl).trans hKb.out);have b43:w4.cell? ⟨rb,3,none⟩ = some (.slice A3 q c3):=HK4.cell 3;have f43:w4.frozen? ⟨rb,3,none⟩ = false:=HK4.frozen 3))
      all_goals
        have hO4:=hO.out.below hbl3a;have hT4:Kt.TV (w3.alloc (.cells #[.int .i64 d0,.int .i64 d1,.int .i64 d2,.slice A5 n5 c5] 57)) (fun b => b ≤ rb ∨ (Value.slice A3 q c3).ownBlock = some b) tt (.agg #[.int .i64 d0,.int .i64 d1,.int .i64 d2,.slice A5 n5 c5]) :=
          (HT3.out.keep fun p hp _ => hb3a.block p hp).less fun p hp => by
            rcases hp with hp | hp
            · show p < wl.heap.size;omega
            · exact (HOL.out.lt p hp).2
        have hO5:=hO4.snoc hT4 (W':=w4) (g:=gg) (cap:=cap) (by rw [hTq];exact hown4) hgr4 (by
          rcases hat4 with e | e
          · exact .inl e
          · exact .inr (Nat.le_of_eq e.symm))
        rw [hTq,HTS.out] at hO5;have hO6:=hO5.keep (W':=w4.setCell ⟨rb,3,none⟩ (.slice (some ⟨gg,0,none⟩) (q + 1) cap)) (fun p _ hn => Below.heap_setCell w4 _ _ p fun e => hn (Nat.le_of_eq e)) (fun p e => by
          have:=(hO5.own.lt p e).1;omega)
        have HO6:=Lib.hid hO6;have HK5:=Lib.hid (HK4.set_ 3 (.slice (some ⟨gg,0,none⟩) (q + 1) cap));have hb5:Below rb w1 (w4.setCell ⟨rb,3,none⟩ (.slice (some ⟨gg,0,none⟩) (q + 1) cap)):=((hbl.trans (hbl3a.mono (by omega))).grown hgr4 (by have:=hbl3a.size;omega) (fun p hp => by have:=(HOL.out.lt p hp).1;omega)).setCell (p:=⟨rb,3,none⟩) (Nat.le_refl _) _;clear hO4 hT4 hO5 hO6 hown4 hgr4 hat4 hlt4 HK4 b43 f43 hbl3a hb3a b33 b34 HT3 HOL hO hKb z0 z1 z2 z3 b0 b1 b2 b3;go_wp2_with fail;go_roundw
        case rel => exact ⟨q + 1,_,_,by omega,by go_num,HK5,HO6,hb5⟩
        case measure => simp [intOf];omega
    · obtain rfl:q = ns:=by omega
      have hlw:=hO.out;rw [List.take_of_length_le (by rw [hns.out];exact Nat.le_refl _)] at hlw;have hk2:=HK2.out.below hbl (by omega);have hy0:wl.cell? ⟨w.heap.size + 1,0,none⟩ = some (.int .i64 0):=hk2.cell 0;have hy1:wl.cell? ⟨w.heap.size + 1,1,none⟩ = some (.int .i64 0):=hk2.cell 1;have hy2:wl.cell? ⟨w.heap.size + 1,2,none⟩ = some (.int .i64 0):=hk2.cell 2;have hy3:wl.cell? ⟨w.heap.size + 1,3,none⟩ = some (.slice none 0 0):=hk2.cell 3;have hg0:wl.frozen? ⟨w.heap.size + 1,0,none⟩ = false:=hk2.frozen 0;have hg1:wl.frozen? ⟨w.heap.size + 1,1,none⟩ = false:=hk2.frozen 1;have hg2:wl.frozen? ⟨w.heap.size + 1,2,none⟩ = false:=hk2.frozen 2;have hg3:wl.frozen? ⟨w.heap.size + 1,3,none⟩ = false:=hk2.frozen 3;obtain ⟨wz,hwz⟩:∃ wz,(((wl.setCell ⟨w.heap.size + 1,0,none⟩ (.int .i64 (r:Int))).setCell ⟨w.heap.size + 1,1,none⟩ (.int .i64 (fr:Int))).setCell ⟨w.heap.size + 1,2,none⟩ (.int .i64 (t0:Int))).setCell ⟨w.heap.size + 1,3,none⟩ (.slice A3 q c3) = wz:=⟨_,rfl⟩;have hsame:∀ p,w.heap.size + 1 < p → wz.heap[p]? = wl.heap[p]?:=fun p hp => by
        rw [← hwz,Below.heap_setCell _ _ _ _ (by show p ≠ w.heap.size + 1;omega),Below.heap_setCell _ _ _ _ (by show p ≠ w.heap.size + 1;omega),Below.heap_setCell _ _ _ _ (by show p ≠ w.heap.size + 1;omega),Below.heap_setCell _ _ _ _ (by show p ≠ w.heap.size + 1;omega)]
      have hbz:Below w.heap.size w wz:=by
        rw [← hwz];exact ((((hbw.setCell (p:=⟨w.heap.size + 1,0,none⟩) (Nat.le_succ _) _).setCell (p:=⟨w.heap.size + 1,1,none⟩) (Nat.le_succ _) _).setCell (p:=⟨w.heap.size + 1,2,none⟩) (Nat.le_succ _) _).setCell (p:=⟨w.heap.size + 1,3,none⟩) (Nat.le_succ _) _)
      have hrow:Kt.Blk wz (w.heap.size + 1) 57 #[.int .i64 (r:Int),.int .i64 (fr:Int),.int .i64 (t0:Int),.slice A3 q c3]:=by
        rw [← hwz];exact (((hk2.set_ 0 _).set_ 1 _).set_ 2 _).set_ 3 _
      have hLV:=hlw.lv (by rw [hns.out];exact h634) (fun p hp => by have:=(hlw.own.lt p hp).1;omega);have hLZ:Kt.LV wz (fun b => b ≤ rb) sub (.slice A3 q c3):=hLV.keep fun p _ hn => hsame p (by have:¬ p ≤ rb:=hn;omega)
      have hTZ:Kt.TV wz (fun b => b < w.heap.size) (.node r fr t0 sub) (.agg #[.int .i64 (r:Int),.int .i64 (fr:Int),.int .i64 (t0:Int),.slice A3 q c3]):=(Kt.TV.of_list hLZ r fr t0).less fun p hp => by
        have hp2:p < w.heap.size:=hp;show p ≤ rb;omega
      have HWZ:=Lib.hid hwz;have HR:=Lib.hid hrow;have HTZ:=Lib.hid hTZ;clear hwz hrow hTZ hLZ hLV hlw hk2 hsame hO hKb;go_wp2_with fail;rw [HWZ.out];exact bodyPost_ret (results_cell_row rfl _ _ (w.heap.size + 1) 57 _ (0,0) _ rfl HR.out Try.underlying57 rfl (by kernel_rfl)) rfl ⟨hbz,_,rfl,HTZ.out⟩
theorem rtree_any (t:Gr.Tr):∀ (M:Nat → Prop) (v:Value) (w:World),Kt.Small t → Kt.TV w M t v → Calls Try.prog 18 #[v] w (CopyPost t w):=by
  have key:∀ n (t:Gr.Tr),Kt.tsz t ≤ n → ∀ (M:Nat → Prop) (v:Value) (w:World),Kt.Small t → Kt.TV w M t v → Calls Try.prog 18 #[v] w (CopyPost t w):=by
    intro n
    induction n with
    | zero => exact fun t ht M v w hS hT => rtree_step t (fun t' h => by omega) M v w hS hT
    | succ n ih => exact fun t ht M v w hS hT => rtree_step t (fun t' h => ih t' (by omega)) M v w hS hT
  exact key _ t (Nat.le_refl _)
end Go.Proofs.Ytdbfiflmeiidjaa
end
