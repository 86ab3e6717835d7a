/- Joined: ReD. -/
import Derived.Test.YtdbfiflmeiidjaaSa22
import Derived.Laws.OwnMore
section
/- In how many ways items derive what lies between two positions: the reference's walk. -/
namespace Go.Proofs.Ytdbfiflmeiidjaa
open Go Go.RowKit
def nilA (n:Nat):Array Value:=(List.replicate n (Value.slice none 0 0)).toArray
theorem nilA_get {n j:Nat} (h:j < n):(nilA n)[j]? = some (.slice none 0 0):=by unfold nilA;simp [h]
structure NArr (w:World) (bb:Nat) (M:Nat → Prop) (n:Nat) (G:Nat → Nat):Prop where
  lt:bb < w.heap.size
  mem:M bb
  fr:∀ j,w.frozen? ⟨bb,j,none⟩ = false
  cell:∀ j,j < n → ∃ v,w.cell? ⟨bb,j,none⟩ = some v ∧ Kt.NumM w M v (G j)
  blk:∃ T cs,Kt.Blk w bb T cs ∧ cs.size = n
section
variable {w w':World} {bb n:Nat} {M M':Nat → Prop} {G G':Nat → Nat}
theorem NArr.keep (h:NArr w bb M n G) (hs:w.heap.size ≤ w'.heap.size) (hk:∀ k,k < w.heap.size → ¬ M k → w'.heap[k]? = w.heap[k]?) (hb:w'.heap[bb]? = w.heap[bb]?):NArr w' bb M n G :=
  ⟨Nat.lt_of_lt_of_le h.lt hs,h.mem,fun j => (World.frozen?_of_block hb).trans (h.fr j),fun j hj => by
    obtain ⟨v,hv,hn⟩:=h.cell j hj;exact ⟨v,(World.cell?_of_block hb).trans hv,hn.keep hs hk⟩,by
    obtain ⟨T,cs,h1,h2⟩:=h.blk;exact ⟨T,cs,hb.trans h1,h2⟩⟩
theorem NArr.below (h:NArr w bb M n G) (hb:Below w.heap.size w w'):NArr w' bb M n G:=h.keep hb.size (fun k hk _ => hb.block k hk) (hb.block _ h.lt)
theorem NArr.far (h:NArr w bb M n G) {p:Addr} (hp:M p.block) (hne:bb ≠ p.block) (u:Value):NArr (w.setCell p u) bb M n G :=
  h.keep (by simp) (fun k _ hk => Below.heap_setCell w p u k fun e => hk (by rw [e];exact hp)) (Below.heap_setCell w p u bb hne)
theorem NArr.put (h:NArr w bb M n G) {j x:Nat} {v:Value} (hv:Kt.NumM w M v x):NArr (w.setCell ⟨bb,j,none⟩ v) bb M n (fun i => if i = j then x else G i) :=
  ⟨by simpa using h.lt,h.mem,fun i => (by rw [World.frozen?_setCell];exact h.fr i),fun i hi => by
    obtain ⟨u,hu,hn⟩:=h.cell i hi;by_cases e:i = j
    · subst e;refine ⟨v,World.cell?_setCell_same _ _ _ hu,?_⟩;rw [if_pos rfl];exact nm_set hv h.mem _
    · refine ⟨u,?_,?_⟩
      · rw [World.cell?_setCell_other _ _ _ _ (fun e2 => e (by injection e2 with _ e4;exact e4.symm))];exact hu
      · rw [if_neg e];exact nm_set hn h.mem _,by
    obtain ⟨T,cs,h1,h2⟩:=h.blk;exact ⟨T,_,h1.set_ j v,by simpa using h2⟩⟩
theorem NArr.congr (h:NArr w bb M n G) (e:∀ j,j < n → G j = G' j):NArr w bb M n G':=⟨h.lt,h.mem,h.fr,fun j hj => by rw [← e j hj];exact h.cell j hj,h.blk⟩
theorem NArr.less (h:NArr w bb M n G) (hM:∀ k,M' k → M k) (hb:M' bb):NArr w bb M' n G:=⟨h.lt,hb,h.fr,fun j hj => by
  obtain ⟨v,hv,hn⟩:=h.cell j hj;exact ⟨v,hv,hn.less hM⟩,h.blk⟩
theorem NArr.alloc (h:NArr w bb M n G) (o:Obj):NArr (w.alloc o) bb (fun k => M k ∨ k = w.heap.size) n G :=
  have hb:=Below.heap_alloc w o bb h.lt
  ⟨by have:=h.lt;simp;omega,.inl h.mem,fun j => (World.frozen?_of_block hb).trans (h.fr j),fun j hj => by
    obtain ⟨v,hv,hn⟩:=h.cell j hj;exact ⟨v,(World.cell?_of_block hb).trans hv,nm_alloc hn o⟩,by
    obtain ⟨T,cs,h1,h2⟩:=h.blk;exact ⟨T,cs,h1.alloc o,h2⟩⟩
theorem NArr.new (w:World) (n:Nat) (T:TypeId) (M:Nat → Prop) (hM:M w.heap.size):NArr (w.alloc (.cells (nilA n) T)) w.heap.size M n (fun _ => 0) :=
  have hb:=Kt.Blk.new w T (nilA n)
  ⟨by simp,hM,fun j => hb.frozen j,fun j hj => ⟨.slice none 0 0,by rw [hb.cell];exact nilA_get hj,Kt.NumM.zero _ _⟩,⟨T,_,hb,by unfold nilA;simp⟩⟩
end
theorem nm_kp {w w':World} {M P:Nat → Prop} {u:Value} {q:Nat} (h:Kt.NumM w M u q) (hP:∀ k,P k → M k) (hk:Kt.Kp P w w'):Kt.NumM w' M u q:=h.keep hk.size fun k hk1 hne => hk.same k hk1 fun hp => hne (hP k hp)
theorem nm_lo {w:World} {M:Nat → Prop} {lo:Nat} {v:Value} {x:Nat} (h:Kt.NumM w M v x) (hM:∀ k,k < lo → M k):Kt.Num w lo v x:=by
  obtain ⟨A,c,h1,h2,h3,h4⟩:=h;refine ⟨A,c,h1,h2,h3,fun hp => ?_⟩;obtain ⟨b,e,h5,h6,h7,h8⟩:=h4 hp;exact ⟨b,e,by
    rcases Nat.lt_or_ge b lo with h | h
    · exact absurd (hM b h) h5
    · exact h,h6,h7,h8⟩
theorem Tbl.less {X:TX} {M M':Nat → Prop} {F:Nat → Nat → Nat → Nat} {w:World} (h:Tbl X M F w) (hM:∀ k,M' k → M k) (hr:∀ s i,s < 64 → i ≤ X.nt → M' (X.R s i)):Tbl X M' F w :=
  ⟨h.c0,h.c1,h.tlt,fun hm => h.tM (hM _ hm),h.out,h.olt,fun s hs hm => h.oM s hs (hM _ hm),h.row,h.rlt,hr,h.rfr,h.inj,fun s i j h1 h2 h3 => by
    obtain ⟨v,hv,hn⟩:=h.cell s i j h1 h2 h3;exact ⟨v,hv,hn.less hM⟩,fun k hm => h.MB k (hM k hm),h.rules,h.toks,h.gl,h.tl,h.BB⟩
theorem Try.infoLimbs:(Try.prog.info? 33).map (fun i => (i.zero,i.size,i.bytes)) = some (some (.slice none 0 0),1,24):=by kernel_rfl
theorem run_make_nils (n:Nat) (hn:n ≤ 1000000) (W:World):(Instr.makeSlice 79 (.int .i64 (n:Int)) (.int .i64 (n:Int))).run Try.prog W = .ok (.slice (some ⟨W.heap.size,0,none⟩) n n) (W.alloc (.cells (nilA n) 33)):=by
  obtain ⟨i0,hi0,hz0,hz1,hz2⟩:=info_parts Try.infoLimbs;have hr:=run_make (P:=Try.prog) W 79 33 i0 _ Try.underlying79 hi0 hz0 .i64 .i64 n n (by omega) (by omega) (by rw [hz2];omega) (by omega);simp only [Int.toNat_natCast,hz1,Nat.mul_one] at hr;rw [hr];have e:madeCells (Value.slice none 0 0).cells n = (nilA n):=by
    have h1:(Value.slice none 0 0).cells = #[Value.slice none 0 0]:=rfl;rw [h1];apply Array.toList_inj.1;rw [toList_madeCells_one];rfl
  rw [e]
theorem re_rename {P:Program} {c:Code} {Q:Exit → Act → World → Prop} {a:Act} {w w':World} (h:w = w') (k:c.wp P Q a w'):c.wp P Q a w:=by rw [h];exact k
def pS (it:Gr.Iw) (x:Gr.Item) (W:Nat → Nat) (a b:Nat):Nat:=Gr.su a fun a' => W a' * Gr.it0 it x a' b
theorem pS_succ (it:Gr.Iw) (x:Gr.Item) (W:Nat → Nat) (a b:Nat):pS it x W (a + 1) b = pS it x W a b + W a * Gr.it0 it x a b:=Gr.su_succ _ _
theorem pS_le (it:Gr.Iw) (x:Gr.Item) (W:Nat → Nat) {a N:Nat} (b:Nat) (h:a ≤ N):pS it x W a b ≤ Gr.stepW it N x W b:=Gr.su_mono _ h
def arrW (it:Gr.Iw) (N:Nat) (l:List Gr.Item) (i k:Nat):Nat → Nat:=Gr.foldW it N (l.take k) (Gr.dl i)
theorem arrW_succ (it:Gr.Iw) (N:Nat) (l:List Gr.Item) (i k:Nat) (h:k < l.length):arrW it N l i (k + 1) = Gr.stepW it N (Gr.itm l k) (arrW it N l i k):=by
  unfold arrW;rw [List.take_succ_eq_append_getElem h,Gr.foldW_snoc];congr 1;simp [Gr.itm,List.getD,h]
def M2 (W0 wb nb:Nat):Nat → Prop:=fun k => k < W0 ∨ k = wb ∨ k = nb
def rdwSlot:Nat → Nat:=fun j => match j with | 0 => 51 | 1 => 52 | 2 => 53 | 3 => 54 | 4 => 55 | 5 => 56 | 6 => 57 | 7 => 58 | 8 => 59 | 9 => 60 | 10 => 61 | 11 => 62 | 12 => 63 | 13 => 64 | 14 => 65 | 15 => 66 | 16 => 67 | 17 => 68 | 18 => 69 | 19 => 70 | 20 => 71 | 21 => 100021 | _ => 999999
def rdwS:List Nat:=[51,52,53,54,55,56,57,58,59,60,61,62,63,64,65,66,67,68,69,70,71]
set_option linter.unusedVariables false in
def rdwR (X:TX) (W0 wb nb N gb ob L cl k a b:Nat) (cx sx:Int) (va vb:Value) (y z q:Nat) (FinP:World → Prop):Nat → Value → World → Prop:=fun j u w => match j with | 0 => u = (.slice (some ⟨nb,0,none⟩) N N) | 1 => u = (.int .i64 (b:Int)) | 2 => u = (.slice (some ⟨nb,0,none⟩) N N) | 3 => u = (.int .i64 (b:Int)) | 4 => u = (.pointer (some ⟨nb,b,none⟩)) | 5 => u = (vb) | 6 => u = (.slice (some ⟨wb,0,none⟩) N N) | 7 => u = (.int .i64 (a:Int)) | 8 => u = (.pointer (some ⟨wb,a,none⟩)) | 9 => u = (va) | 10 => u = (.pointer (some ⟨X.tb,0,none⟩)) | 11 => u = (.slice (some ⟨gb,ob,none⟩) L cl) | 12 => u = (.int .i64 (k:Int)) | 13 => u = (.pointer (some ⟨gb,ob + k * 2,none⟩)) | 14 => u = (.agg #[.int .u16 cx,.int .i64 sx]) | 15 => u = (.int .i64 (a:Int)) | 16 => u = (.int .i64 (b:Int)) | 17 => Kt.NumM w (fun r => r = nb) u q | 18 => Kt.NumM w (M2 W0 wb nb) u (y * q) | 19 => Kt.NumM w (M2 W0 wb nb) u (z + y * q) | 20 => u = (.pointer (some ⟨nb,b,none⟩)) | 21 => True | _ => True
def rdwP (a0:Act) (W:World) (X:TX) (W0 wb nb N gb ob L cl k a b:Nat) (cx sx:Int) (va vb:Value) (y z q:Nat) (FinP:World → Prop):Kt.RxP:=⟨22,rdwSlot,rdwS,a0,W,fun r => r = nb,rdwR X W0 wb nb N gb ob L cl k a b cx sx va vb y z q FinP,Kt.growZ 21 21 W FinP⟩
theorem rdw_ok {a0:Act} {W:World} {X:TX} {W0 wb nb N gb ob L cl k a b:Nat} {cx sx:Int} {va vb:Value} {y z q:Nat} {FinP:World → Prop} {listed:Array Bool} {act:Act} {w:World} (_:Kt.RxI (rdwP a0 W X W0 wb nb N gb ob L cl k a b cx sx va vb y z q FinP) listed act w):Kt.RxOk (rdwP a0 W X W0 wb nb N gb ob L cl k a b cx sx va vb y z q FinP):=by
  refine ⟨fun i hi j hj => (by decide:∀ i,i < 22 → ∀ j,j < 22 → rdwSlot i = rdwSlot j → i = j) i hi j hj,fun j u w w' h hk => ?_⟩;rcases j with _ | _ | _ | _ | _ | _ | _ | _ | _ | _ | _ | _ | _ | _ | _ | _ | _ | _ | _ | _ | _ | _ | j
  · exact h
  · exact h
  · exact h
  · exact h
  · exact h
  · exact h
  · exact h
  · exact h
  · exact h
  · exact h
  · exact h
  · exact h
  · exact h
  · exact h
  · exact h
  · exact h
  · exact h
  · exact nm_kp h (fun _ e => e) hk
  · exact nm_kp h (fun _ e => .inr (.inr e)) hk
  · exact nm_kp h (fun _ e => .inr (.inr e)) hk
  · exact h
  · exact h
  · exact h
theorem rdw_at {a0:Act} {W:World} {X:TX} {W0 wb nb N gb ob L cl k a b:Nat} {cx sx:Int} {va vb:Value} {y z q:Nat} {FinP:World → Prop} {listed:Array Bool} {act:Act} {w:World} (hI:Kt.RxI (rdwP a0 W X W0 wb nb N gb ob L cl k a b cx sx va vb y z q FinP) listed act w) {j:Nat} (hj:j < 21) (hn:listed.getD j true = false):Below W.heap.size W w:=Kt.grow_at (V:=fun _ => undef) (show Kt.growZ 21 21 W FinP (Kt.lis listed) (fun _ => undef) w from hI.st) hj hn
theorem rdw_up {a0:Act} {W:World} {X:TX} {W0 wb nb N gb ob L cl k a b:Nat} {cx sx:Int} {va vb:Value} {y z q:Nat} {FinP:World → Prop} {listed:Array Bool} {act:Act} {w:World} (hI:Kt.RxI (rdwP a0 W X W0 wb nb N gb ob L cl k a b cx sx va vb y z q FinP) listed act w) {j:Nat} {w':World} (hj:j < 21) (hjm:j ≠ 21) (hn:listed.getD j true = false) (hb:Below w.heap.size w w') {V:Nat → Value}:(rdwP a0 W X W0 wb nb N gb ob L cl k a b cx sx va vb y z q FinP).Z (Kt.upL (Kt.lis listed) j) V w':=Kt.grow_up (V':=V) (V:=fun _ => undef) (show Kt.growZ 21 21 W FinP (Kt.lis listed) (fun _ => undef) w from hI.st) hj hjm hn hb
theorem rdw_start {a0:Act} {W:World} {X:TX} {W0 wb nb N gb ob L cl k a b:Nat} {cx sx:Int} {va vb:Value} {y z q:Nat} {FinP:World → Prop} {V:Nat → Value}:(rdwP a0 W X W0 wb nb N gb ob L cl k a b cx sx va vb y z q FinP).Z (fun _ => false) V W.drew:=Kt.grow_start (m:=21) (m0:=21) (V:=V)
theorem rdw_last {a0:Act} {W w':World} {X:TX} {W0 wb nb N gb ob L cl k a b:Nat} {cx sx:Int} {va vb:Value} {y z q:Nat} {FinP:World → Prop} {listed:Array Bool} (hall:∀ j,j < 21 → listed.getD j false = true) (hf:FinP w') {V:Nat → Value}:(rdwP a0 W X W0 wb nb N gb ob L cl k a b cx sx va vb y z q FinP).Z (Kt.upL (Kt.lis listed) 21) V w':=Kt.grow_last (V':=V) hall hf
theorem rdw_fin {a0:Act} {W:World} {X:TX} {W0 wb nb N gb ob L cl k a b:Nat} {cx sx:Int} {va vb:Value} {y z q:Nat} {FinP:World → Prop} {listed:Array Bool} {act:Act} {w:World} (hI:Kt.RxI (rdwP a0 W X W0 wb nb N gb ob L cl k a b cx sx va vb y z q FinP) listed act w) (hm:listed.getD 21 false = true):FinP w:=Kt.grow_end (V:=fun _ => undef) (show Kt.growZ 21 21 W FinP (Kt.lis listed) (fun _ => undef) w from hI.st) hm
theorem fin_arr {wl wz:World} {W0 wb nb b N z:Nat} {G G':Nat → Nat} {H:Nat → Nat} (hf:∃ w0 u,Below wl.heap.size wl w0 ∧ Kt.NumM w0 (M2 W0 wb nb) u z ∧ wz = w0.setCell ⟨nb,b,none⟩ u)
    (h1:NArr wl wb (M2 W0 wb nb) N H) (h2:NArr wl nb (M2 W0 wb nb) N G) (hne:wb ≠ nb) (hG:∀ i,i < N → (if i = b then z else G i) = G' i) (hlo:W0 ≤ nb) (hW0:W0 ≤ wl.heap.size) :
    NArr wz wb (M2 W0 wb nb) N H ∧ NArr wz nb (M2 W0 wb nb) N G' ∧ Below W0 wl wz:=by
  obtain ⟨w0,u,hb,hn,rfl⟩:=hf;exact ⟨(h1.below hb).far (p:=⟨nb,b,none⟩) (.inr (.inr rfl)) hne _,((h2.below hb).put hn).congr hG,(hb.mono hW0).setCell (p:=⟨nb,b,none⟩) hlo _⟩
set_option maxRecDepth 10000 in
set_option maxHeartbeats 8000000 in
theorem ways_any {X:TX} {M:Nat → Prop} {F:Nat → Nat → Nat → Nat} {w:World} (hT:Tbl X M F w) (hM:∀ k,M k → k < w.heap.size) (l:List Gr.Item) (A:Option Addr) (L cl:Nat) (hl:l.length = L) (hL:L ≤ 1000) (hI:Kt.Items w w.heap.size A l)
    (hx:∀ x ∈ l,(0 ≤ x.sym ∧ x.sym < 64) ∧ 0 ≤ x.cls ∧ x.cls ≤ 65535) (i j:Nat) (hij:i ≤ j) (hj:j ≤ X.nt) (hn:X.nt ≤ 1000)
    (hB:∀ k b,k ≤ L → b ≤ j → (Nt.limbs (Gr.wN (itemN X F) (j + 1) (l.take k) i b)).length ≤ 1500) (hBi:∀ x ∈ l,∀ a b,a < b → b ≤ j → (Nt.limbs (itemN X F x a b)).length ≤ 1500) :
    Calls Try.prog 48 #[.pointer (some ⟨X.tb,0,none⟩),.slice A L cl,.int .i64 (i:Int),.int .i64 (j:Int)] w
      fun e w' => ∃ v,e = .returned v ∧ Kt.Num w' w.heap.size v (Gr.wN (itemN X F) (j + 1) l i j) ∧ Below w.heap.size w w':=by
  have hmk:=run_make_nils (j + 1) (by omega);rw [show ((j + 1:Nat):Int) = (j:Int) + 1 from by omega] at hmk;obtain ⟨N,hN⟩:∃ N,j + 1 = N:=⟨_,rfl⟩;rw [hN] at hmk hB ⊢;obtain ⟨it,hit⟩:∃ it,Hid (itemN X F = it):=⟨_,Lib.hid rfl⟩;have HTB:Hid (∀ (nb:Nat) (w2:World),w.heap.size ≤ nb → nb < w2.heap.size → Below w.heap.size w w2 → Tbl X (fun k => M k ∨ k = nb) F w2 ∧ ∀ k,(M k ∨ k = nb) → k < w2.heap.size):=Lib.hid (fun nb w2 h1 h2 hb =>
    ⟨((hT.more.keep hb.size (fun k hk _ => hb.block k hk) fun s i h1 h2 => hb.block _ (hT.rlt s i h1 h2)).less (fun k hk => hk.imp id fun e => by omega) fun s i h1 h2 => .inl (hT.rM s i h1 h2)),fun k hk => by
      rcases hk with hk | hk
      · have:=hM k hk;have:=hb.size;omega
      · omega⟩)
  rw [hit.out] at hB hBi;have HB:Hid (∀ k b,k ≤ L → b ≤ j → (Nt.limbs (arrW it N l i k b)).length ≤ 1500):=Lib.hid (fun k b h1 h2 => by
    unfold arrW;rw [Gr.foldW_dl it (l.take k) (by omega) (by omega)];exact hB k b h1 h2)
  have HLO:Hid (∀ k a,a < i → arrW it N l i k a = 0):=Lib.hid (fun k a h => by
    unfold arrW;rw [Gr.foldW_dl it (l.take k) (by omega) (by omega)];exact Gr.wN_short it _ _ _ _ (by omega))
  have HEND:Hid (arrW it N l i L j = Gr.wN (itemN X F) N l i j):=Lib.hid (by
    unfold arrW;rw [List.take_of_length_le (by omega),Gr.foldW_dl it l (by omega) (by omega),hit.out])
  have HBI:=Lib.hid hBi;have HX:=Lib.hid hx;have HL:=Lib.hid hl;have hA0:Hid (NArr ((w.alloc (.cells ((nilA N).setIfInBounds i (.slice (some ⟨w.heap.size + 1,0,none⟩) 1 1)) 33)).alloc (.cells #[.int .u32 1] 68)) w.heap.size (fun k => k < w.heap.size ∨ k = w.heap.size) N (arrW it N l i 0)):=Lib.hid (by
    have hblk:=(Kt.Blk.new w 33 ((nilA N).setIfInBounds i (.slice (some ⟨w.heap.size + 1,0,none⟩) 1 1))).alloc (.cells #[.int .u32 1] 68);have hnum:Kt.Num ((w.alloc (.cells ((nilA N).setIfInBounds i (.slice (some ⟨w.heap.size + 1,0,none⟩) 1 1)) 33)).alloc (.cells #[.int .u32 1] 68)) (w.heap.size + 1) (.slice (some ⟨w.heap.size + 1,0,none⟩) 1 1) 1:=by
      unfold Kt.Num;rw [one_limbs];exact Kt.Row.of_blk (T:=68) (ys:=[1]) (Kt.IBlk.new' _ _ _ _ _ (by simp)) (Nat.le_refl _) 1 1 rfl rfl (Nat.le_refl _) (Nat.le_refl _)
    refine ⟨hblk.lt,.inr rfl,fun b => hblk.frozen b,fun b hb => ?_,⟨_,_,hblk,by unfold nilA;simp⟩⟩;rw [hblk.cell,Array.getElem?_setIfInBounds];show ∃ v,_ ∧ Kt.NumM _ _ v (Gr.dl i b);unfold Gr.dl;by_cases e:i = b
    · subst e;have hsz:i < (nilA N).size:=by unfold nilA;simpa using hb
      rw [if_pos rfl,if_pos hsz,if_pos rfl];exact ⟨_,rfl,Kt.NumM.of_num hnum fun k hk => by omega⟩
    · rw [if_neg e,if_neg (fun e2 => e e2.symm)];exact ⟨_,nilA_get hb,Kt.NumM.zero _ _⟩)
  have hbz:Below w.heap.size w ((w.alloc (.cells ((nilA N).setIfInBounds i (.slice (some ⟨w.heap.size + 1,0,none⟩) 1 1)) 33)).alloc (.cells #[.int .u32 1] 68)):=(((Below.refl _ _).alloc (Nat.le_refl _) _).alloc (by simp) _);have hni:(nilA N)[i]? = some (.slice none 0 0):=nilA_get (by omega);clear hT hM hB hBi hx hl;go_enter Try.func48,Try.ntmps48;go_wp2_with fail;have hnil:Kt.Items w w.heap.size A l:=hI;obtain ⟨w0,hw0⟩:∃ w0,((w.alloc (.cells ((nilA N).setIfInBounds i (.slice (some ⟨w.heap.size + 1,0,none⟩) 1 1)) 33)).alloc (.cells #[.int .u32 1] 68)) = w0:=⟨_,rfl⟩;rw [hw0] at hA0 hbz ⊢;clear hw0 hni hI;go_loopw [9,10] (fun o kv wr => ∃ (k wb:Nat),k ≤ L ∧ kv = .int .i64 k ∧ o = .slice (some ⟨wb,0,none⟩) N N ∧ w.heap.size ≤ wb ∧ Hid (NArr wr wb (fun q => q < w.heap.size ∨ q = wb) N (arrW it N l i k)) ∧ Below w.heap.size w wr) (fun _ kv _ => L - (intOf kv).toNat)
  case atStart => exact ⟨0,w.heap.size,Nat.zero_le _,rfl,rfl,Nat.le_refl _,hA0,hbz⟩
  case round =>
    obtain ⟨k,wb,hk,rfl,rfl,hwb,harr,hbel⟩:=hrel;have hbs:=hbel.size;clear hA0 hbz;by_cases hlt:k < L
    · obtain ⟨gb,ob,rfl,hgb,hgc⟩:=hnil (by have:=HL.out;omega);obtain ⟨hi0,hi1⟩:=hgc k (by have:=HL.out;omega);obtain ⟨xk,hxk⟩:∃ xk,Hid (Gr.itm l k = xk):=⟨_,Lib.hid rfl⟩;obtain ⟨⟨hs0,hs1⟩,hc0,hc1⟩:=HX.out (Gr.itm l k) (by simp [Gr.itm,List.getD,show k < l.length by have:=HL.out;omega]);have HBIK:Hid (∀ a b,a < b → b ≤ j → (Nt.limbs (it xk a b)).length ≤ 1500):=Lib.hid (by
        rw [← hxk.out];exact HBI.out _ (by simp [Gr.itm,List.getD,show k < l.length by have:=HL.out;omega]))
      have HSU:Hid (arrW it N l i (k + 1) = Gr.stepW it N xk (arrW it N l i k)):=Lib.hid (by rw [← hxk.out];exact arrW_succ it N l i k (by have:=HL.out;omega));rw [hxk.out] at hi0 hi1 hs0 hs1 hc0 hc1;obtain ⟨cx,sx⟩:=xk;replace hi0:w.cell? ⟨gb,ob + k * 2,none⟩ = some (.int .u16 cx):=hi0;replace hi1:w.cell? ⟨gb,ob + k * 2 + 1,none⟩ = some (.int .i64 sx):=hi1;have HS:Hid (0 ≤ sx ∧ sx < 64):=Lib.hid ⟨hs0,hs1⟩;have HC:Hid (0 ≤ cx ∧ cx ≤ 65535):=Lib.hid ⟨hc0,hc1⟩;obtain ⟨wo,hwo⟩:∃ w1,w1 = wr:=⟨_,rfl⟩;subst hwo;obtain ⟨nb,hnb⟩:∃ nb,wo.heap.size = nb:=⟨_,rfl⟩;have hwbl:wb < nb:=by rw [← hnb];exact harr.out.lt
      have hbo:Below w.heap.size w (wo.alloc (.cells (nilA N) 33)):=hbel.alloc hbs _;have HA:Hid (NArr (wo.alloc (.cells (nilA N) 33)) wb (M2 w.heap.size wb nb) N (arrW it N l i k)):=Lib.hid ((harr.out.alloc _).less (fun q hq => by rcases hq with h | h | h;exact .inl (.inl h);exact .inl (.inr h);exact .inr (by omega)) (.inr (.inl rfl)));have HN:Hid (NArr (wo.alloc (.cells (nilA N) 33)) nb (M2 w.heap.size wb nb) N (fun _ => 0)):=Lib.hid (by
        rw [← hnb];exact NArr.new wo N _ _ (.inr (.inr rfl)))
      clear harr hs0 hs1 hc0 hc1 hgc;go_wp2_with fail;go_loopw [12] (fun av wr => ∃ a:Nat,i ≤ a ∧ a ≤ N ∧ av = .int .i64 a ∧ Hid (NArr wr wb (M2 w.heap.size wb nb) N (arrW it N l i k)) ∧ Hid (NArr wr nb (M2 w.heap.size wb nb) N (pS it ⟨cx,sx⟩ (arrW it N l i k) a)) ∧ Below w.heap.size w wr) (fun av _ => N - (intOf av).toNat)
      case atStart => exact ⟨i,Nat.le_refl _,by omega,rfl,HA,Lib.hid (HN.out.congr fun b _ => (Gr.su_none fun a ha => by rw [HLO.out k a ha,Nat.zero_mul]).symm),hbo⟩
      case round =>
        obtain ⟨a,ha0,ha1,rfl,hA1,hN1,hbel1⟩:=hrel;clear HA HN hbo;by_cases hlt2:a ≤ j
        · obtain ⟨wa,hwa⟩:∃ w1,w1 = wr:=⟨_,rfl⟩;subst hwa;go_wp2_with fail;go_loopw [13] (fun bv wr => ∃ b:Nat,a + 1 ≤ b ∧ b ≤ N ∧ bv = .int .i64 b ∧ Hid (NArr wr wb (M2 w.heap.size wb nb) N (arrW it N l i k)) ∧ Hid (NArr wr nb (M2 w.heap.size wb nb) N (fun c => if c < b then pS it ⟨cx,sx⟩ (arrW it N l i k) (a + 1) c else pS it ⟨cx,sx⟩ (arrW it N l i k) a c)) ∧ Below w.heap.size w wr) (fun bv _ => N - (intOf bv).toNat)
          case atStart => exact ⟨a + 1,Nat.le_refl _,by omega,rfl,hA1,Lib.hid (hN1.out.congr fun c _ => by
            split
            · rw [pS_succ,Gr.it0,if_neg (by omega),Nat.mul_zero,Nat.add_zero]
            · rfl),hbel1⟩
          case round =>
            obtain ⟨b,hb0,hb1,rfl,hA2,hN2,hbl⟩:=hrel;clear hA1 hN1 hbel1;by_cases hlt3:b ≤ j
            · obtain ⟨wl,hwl⟩:∃ w1,w1 = wr:=⟨_,rfl⟩;subst hwl;obtain ⟨va,hca,hva⟩:=hA2.out.cell a (by omega);obtain ⟨y,hy⟩:∃ y,Hid (arrW it N l i k a = y):=⟨_,Lib.hid rfl⟩;rw [hy.out] at hva;have HVA:=Lib.hid hva;have hwb2:=hA2.out.lt;have HLY:Hid ((Nt.limbs y).length ≤ 1500):=Lib.hid (by rw [← hy.out];exact HB.out k a (by omega) hlt2);obtain ⟨Aa,ca,rfl,_,_,_⟩:=hva;obtain ⟨La,hLa⟩:∃ La,(Nt.limbs y).length = La:=⟨_,rfl⟩;rw [hLa] at hca HVA HLY;have HLA:=Lib.hid hLa;clear hLa;by_cases hy0:La = 0
              · have hyz:y = 0:=(Nt.len_zero_iff y).1 (by rw [HLA.out];exact hy0);have HNX:Hid (NArr wl nb (M2 w.heap.size wb nb) N (pS it ⟨cx,sx⟩ (arrW it N l i k) (a + 1))):=Lib.hid (hN2.out.congr fun c _ => by
                  split
                  · rfl
                  · rw [pS_succ,hy.out,hyz,Nat.zero_mul,Nat.add_zero])
                subst hy0;clear hyz;go_wp2_with fail;go_roundw
                case rel => exact ⟨a + 1,by omega,by omega,by go_num,hA2,HNX,hbl⟩
                case measure => simp [intOf];omega
              · obtain ⟨vb,hcb,hvb⟩:=hN2.out.cell b (by omega);simp only [Nat.lt_irrefl,if_false] at hvb;obtain ⟨z,hz⟩:∃ z,Hid (pS it ⟨cx,sx⟩ (arrW it N l i k) a b = z):=⟨_,Lib.hid rfl⟩;rw [hz.out] at hvb;have HVB:=Lib.hid hvb;have hfb:=hN2.out.fr b;have hnb2:=hN2.out.lt;obtain ⟨q,hq⟩:∃ q,Hid (it ⟨cx,sx⟩ a b = q):=⟨_,Lib.hid rfl⟩;have hab:a < b:=by omega
                have HEQ:Hid (pS it ⟨cx,sx⟩ (arrW it N l i k) (a + 1) b = z + y * q):=Lib.hid (by rw [pS_succ,hz.out,hy.out,Gr.it0,if_pos hab,hq.out]);have hle:pS it ⟨cx,sx⟩ (arrW it N l i k) (a + 1) b ≤ arrW it N l i (k + 1) b:=by rw [HSU.out];exact pS_le it _ _ b (by omega)
                rw [HEQ.out] at hle;have hbb:=HB.out (k + 1) b (by omega) hlt3;have HLZ:Hid ((Nt.limbs z).length ≤ 1500):=Lib.hid (Nat.le_trans (Nt.len_mono (by omega)) hbb);have HLP:Hid ((Nt.limbs (y * q)).length ≤ 1500):=Lib.hid (Nat.le_trans (Nt.len_mono (by omega)) hbb);have HLQ:Hid ((Nt.limbs q).length ≤ 1500):=Lib.hid (by rw [← hq.out];exact HBIK.out a b hab hlt3);have hbls:=hbl.size;have hgbl:gb < wl.heap.size:=by omega
                have hwbl2:wb < wl.heap.size:=hwb2;have hnbl:nb < wl.heap.size:=hnb2;have hnb0:w.heap.size ≤ nb:=by omega
                have hj0:=(hbl.cell (p:=⟨gb,ob + k * 2,none⟩) hgb).trans hi0;have hj1:=(hbl.cell (p:=⟨gb,ob + k * 2 + 1,none⟩) hgb).trans hi1;obtain ⟨hsx0,hsx1⟩:=HS.out;have hlad:decide (0 < La) = true:=by simp;omega
                have hbN:b < N:=by omega
                have haN:a < N:=by omega
                clear hvb hle hbb hnb hwb2 hnb2;go_upto_region 13 with fail;obtain ⟨va,hva⟩:∃ va,Value.slice Aa La ca = va:=⟨_,rfl⟩;rw [hva] at hca HVA;clear hva;refine Kt.wp_any_act ?_;intro a0 ha0;have q0:Kt.val a0 0 = .pointer (some ⟨X.tb,0,none⟩):=by rw [ha0];rfl
                have q1:Kt.val a0 1 = .slice (some ⟨gb,ob,none⟩) L cl:=by rw [ha0];rfl
                have q9:Kt.val a0 9 = .slice (some ⟨wb,0,none⟩) N N:=by rw [ha0];rfl
                have q10:Kt.val a0 10 = .int .i64 (k:Int):=by rw [ha0];rfl
                have q11:Kt.val a0 11 = .slice (some ⟨nb,0,none⟩) N N:=by rw [ha0];rfl
                have q12:Kt.val a0 12 = .int .i64 (a:Int):=by rw [ha0];rfl
                have q13:Kt.val a0 13 = .int .i64 (b:Int):=by rw [ha0];rfl
                have qsz:72 ≤ a0.tmps.size:=by rw [ha0];exact Nat.le_of_ble_eq_true rfl
                have HA0:=Lib.hid ha0;clear ha0;refine Kt.region_inv2 (Kt.RxI (rdwP a0 wl X w.heap.size wb nb N gb ob L cl k a b cx sx va vb y z q (fun wz => ∃ w0 u,Below wl.heap.size wl w0 ∧ Kt.NumM w0 (M2 w.heap.size wb nb) u (z + y * q) ∧ wz = w0.setCell ⟨nb,b,none⟩ u))) (by kernel_rfl) (Kt.RxI.start rdw_start) ?hstep ?hdone
                case hstep =>
                  intro listed act w2 q o hI ho hn hpre;have ok:=rdw_ok hI;rcases q with _ | _ | _ | _ | _ | _ | _ | _ | _ | _ | _ | _ | _ | _ | _ | _ | _ | _ | _ | _ | _ | _ | q
                  · cases Option.some.inj ho;refine Kt.no_guard rfl ?_;have hbw:=rdw_at hI (j:=0) (by decide) hn;refine Kt.op_move rfl ?_;rw [show act.eval (.tmp 11) = .slice (some ⟨nb,0,none⟩) N N from (hI.frame.val_out (s:=11) (Kt.qn rfl)).trans q11];exact hI.put ok (j:=0) (Kt.qb rfl) rfl (Kt.qm rfl) (Kt.ql qsz rfl) (Kt.Kp.refl _ _) rfl (rdw_up hI (j:=0) (by decide) (by decide) hn (Below.refl _ _))
                  · cases Option.some.inj ho;refine Kt.no_guard rfl ?_;have hbw:=rdw_at hI (j:=1) (by decide) hn;refine Kt.op_move rfl ?_;rw [show act.eval (.tmp 13) = .int .i64 (b:Int) from (hI.frame.val_out (s:=13) (Kt.qn rfl)).trans q13];exact hI.put ok (j:=1) (Kt.qb rfl) rfl (Kt.qm rfl) (Kt.ql qsz rfl) (Kt.Kp.refl _ _) rfl (rdw_up hI (j:=1) (by decide) (by decide) hn (Below.refl _ _))
                  · cases Option.some.inj ho;refine Kt.no_guard rfl ?_;have hbw:=rdw_at hI (j:=2) (by decide) hn;refine Kt.op_move rfl ?_;rw [show act.eval (.tmp 11) = .slice (some ⟨nb,0,none⟩) N N from (hI.frame.val_out (s:=11) (Kt.qn rfl)).trans q11];exact hI.put ok (j:=2) (Kt.qb rfl) rfl (Kt.qm rfl) (Kt.ql qsz rfl) (Kt.Kp.refl _ _) rfl (rdw_up hI (j:=2) (by decide) (by decide) hn (Below.refl _ _))
                  · cases Option.some.inj ho;refine Kt.no_guard rfl ?_;have hbw:=rdw_at hI (j:=3) (by decide) hn;refine Kt.op_move rfl ?_;rw [show act.eval (.tmp 13) = .int .i64 (b:Int) from (hI.frame.val_out (s:=13) (Kt.qn rfl)).trans q13];exact hI.put ok (j:=3) (Kt.qb rfl) rfl (Kt.qm rfl) (Kt.ql qsz rfl) (Kt.Kp.refl _ _) rfl (rdw_up hI (j:=3) (by decide) (by decide) hn (Below.refl _ _))
                  · cases Option.some.inj ho;refine Kt.no_guard rfl ?_;have e2:act.tmps[53]?.getD undef = .slice (some ⟨nb,0,none⟩) N N:=hI.eq (j:=2) (Kt.qb rfl) rfl (fun _ _ h => h) (hpre ⟨2,.data⟩ (by simp) rfl);have e3:act.tmps[54]?.getD undef = .int .i64 (b:Int):=hI.eq (j:=3) (Kt.qb rfl) rfl (fun _ _ h => h) (hpre ⟨3,.data⟩ (by simp) rfl);have hbw:=rdw_at hI (j:=4) (by decide) hn;have hk:=hI.put ok (j:=4) (s:=55) (v:=.pointer (some ⟨nb,b,none⟩)) (Kt.qb rfl) rfl (Kt.qm rfl) (Kt.ql qsz rfl) (Kt.Kp.refl _ _) rfl (rdw_up hI (j:=4) (by decide) (by decide) hn (Below.refl _ _));refine Kt.op_opq hk ?_;clear hk;intro KK hkk;unfold Oper.wp;go_simp;exact hkk
                  · cases Option.some.inj ho;refine Kt.no_guard rfl ?_;have e4:act.tmps[55]?.getD undef = .pointer (some ⟨nb,b,none⟩):=hI.eq (j:=4) (Kt.qb rfl) rfl (fun _ _ h => h) (hpre ⟨4,.data⟩ (by simp) rfl);have hbw:=rdw_at hI (j:=5) (by decide) hn;have c0:=(hbw.cell (p:=⟨nb,b,none⟩) hnbl).trans hcb;have hk:=hI.put ok (j:=5) (s:=56) (v:=vb) (Kt.qb rfl) rfl (Kt.qm rfl) (Kt.ql qsz rfl) (Kt.Kp.refl _ _) rfl (rdw_up hI (j:=5) (by decide) (by decide) hn (Below.refl _ _));refine Kt.op_opq hk ?_;clear hk;intro KK hkk;unfold Oper.wp;go_simp;exact hkk
                  · cases Option.some.inj ho;refine Kt.no_guard rfl ?_;have hbw:=rdw_at hI (j:=6) (by decide) hn;refine Kt.op_move rfl ?_;rw [show act.eval (.tmp 9) = .slice (some ⟨wb,0,none⟩) N N from (hI.frame.val_out (s:=9) (Kt.qn rfl)).trans q9];exact hI.put ok (j:=6) (Kt.qb rfl) rfl (Kt.qm rfl) (Kt.ql qsz rfl) (Kt.Kp.refl _ _) rfl (rdw_up hI (j:=6) (by decide) (by decide) hn (Below.refl _ _))
                  · cases Option.some.inj ho;refine Kt.no_guard rfl ?_;have hbw:=rdw_at hI (j:=7) (by decide) hn;refine Kt.op_move rfl ?_;rw [show act.eval (.tmp 12) = .int .i64 (a:Int) from (hI.frame.val_out (s:=12) (Kt.qn rfl)).trans q12];exact hI.put ok (j:=7) (Kt.qb rfl) rfl (Kt.qm rfl) (Kt.ql qsz rfl) (Kt.Kp.refl _ _) rfl (rdw_up hI (j:=7) (by decide) (by decide) hn (Below.refl _ _))
                  · cases Option.some.inj ho;refine Kt.no_guard rfl ?_;have e6:act.tmps[57]?.getD undef = .slice (some ⟨wb,0,none⟩) N N:=hI.eq (j:=6) (Kt.qb rfl) rfl (fun _ _ h => h) (hpre ⟨6,.data⟩ (by simp) rfl);have e7:act.tmps[58]?.getD undef = .int .i64 (a:Int):=hI.eq (j:=7) (Kt.qb rfl) rfl (fun _ _ h => h) (hpre ⟨7,.data⟩ (by simp) rfl);have hbw:=rdw_at hI (j:=8) (by decide) hn;have hk:=hI.put ok (j:=8) (s:=59) (v:=.pointer (some ⟨wb,a,none⟩)) (Kt.qb rfl) rfl (Kt.qm rfl) (Kt.ql qsz rfl) (Kt.Kp.refl _ _) rfl (rdw_up hI (j:=8) (by decide) (by decide) hn (Below.refl _ _));refine Kt.op_opq hk ?_;clear hk;intro KK hkk;unfold Oper.wp;go_simp;exact hkk
                  · cases Option.some.inj ho;refine Kt.no_guard rfl ?_;have e8:act.tmps[59]?.getD undef = .pointer (some ⟨wb,a,none⟩):=hI.eq (j:=8) (Kt.qb rfl) rfl (fun _ _ h => h) (hpre ⟨8,.data⟩ (by simp) rfl);have hbw:=rdw_at hI (j:=9) (by decide) hn;have c0:=(hbw.cell (p:=⟨wb,a,none⟩) hwbl2).trans hca;have hk:=hI.put ok (j:=9) (s:=60) (v:=va) (Kt.qb rfl) rfl (Kt.qm rfl) (Kt.ql qsz rfl) (Kt.Kp.refl _ _) rfl (rdw_up hI (j:=9) (by decide) (by decide) hn (Below.refl _ _));refine Kt.op_opq hk ?_;clear hk;intro KK hkk;unfold Oper.wp;go_simp;exact hkk
                  · cases Option.some.inj ho;refine Kt.no_guard rfl ?_;have hbw:=rdw_at hI (j:=10) (by decide) hn;refine Kt.op_move rfl ?_;rw [show act.eval (.tmp 0) = .pointer (some ⟨X.tb,0,none⟩) from (hI.frame.val_out (s:=0) (Kt.qn rfl)).trans q0];exact hI.put ok (j:=10) (Kt.qb rfl) rfl (Kt.qm rfl) (Kt.ql qsz rfl) (Kt.Kp.refl _ _) rfl (rdw_up hI (j:=10) (by decide) (by decide) hn (Below.refl _ _))
                  · cases Option.some.inj ho;refine Kt.no_guard rfl ?_;have hbw:=rdw_at hI (j:=11) (by decide) hn;refine Kt.op_move rfl ?_;rw [show act.eval (.tmp 1) = .slice (some ⟨gb,ob,none⟩) L cl from (hI.frame.val_out (s:=1) (Kt.qn rfl)).trans q1];exact hI.put ok (j:=11) (Kt.qb rfl) rfl (Kt.qm rfl) (Kt.ql qsz rfl) (Kt.Kp.refl _ _) rfl (rdw_up hI (j:=11) (by decide) (by decide) hn (Below.refl _ _))
                  · cases Option.some.inj ho;refine Kt.no_guard rfl ?_;have hbw:=rdw_at hI (j:=12) (by decide) hn;refine Kt.op_move rfl ?_;rw [show act.eval (.tmp 10) = .int .i64 (k:Int) from (hI.frame.val_out (s:=10) (Kt.qn rfl)).trans q10];exact hI.put ok (j:=12) (Kt.qb rfl) rfl (Kt.qm rfl) (Kt.ql qsz rfl) (Kt.Kp.refl _ _) rfl (rdw_up hI (j:=12) (by decide) (by decide) hn (Below.refl _ _))
                  · cases Option.some.inj ho;refine Kt.no_guard rfl ?_;have e11:act.tmps[62]?.getD undef = .slice (some ⟨gb,ob,none⟩) L cl:=hI.eq (j:=11) (Kt.qb rfl) rfl (fun _ _ h => h) (hpre ⟨11,.data⟩ (by simp) rfl);have e12:act.tmps[63]?.getD undef = .int .i64 (k:Int):=hI.eq (j:=12) (Kt.qb rfl) rfl (fun _ _ h => h) (hpre ⟨12,.data⟩ (by simp) rfl);have hbw:=rdw_at hI (j:=13) (by decide) hn;have hk:=hI.put ok (j:=13) (s:=64) (v:=.pointer (some ⟨gb,ob + k * 2,none⟩)) (Kt.qb rfl) rfl (Kt.qm rfl) (Kt.ql qsz rfl) (Kt.Kp.refl _ _) rfl (rdw_up hI (j:=13) (by decide) (by decide) hn (Below.refl _ _));refine Kt.op_opq hk ?_;clear hk;intro KK hkk;unfold Oper.wp;go_simp;exact hkk
                  · cases Option.some.inj ho;refine Kt.no_guard rfl ?_;have e13:act.tmps[64]?.getD undef = .pointer (some ⟨gb,ob + k * 2,none⟩):=hI.eq (j:=13) (Kt.qb rfl) rfl (fun _ _ h => h) (hpre ⟨13,.data⟩ (by simp) rfl);have hbw:=rdw_at hI (j:=14) (by decide) hn;have c0:=(hbw.cell (p:=⟨gb,ob + k * 2,none⟩) hgbl).trans hj0;have c1:=(hbw.cell (p:=⟨gb,ob + k * 2 + 1,none⟩) hgbl).trans hj1;have hk:=hI.put ok (j:=14) (s:=65) (v:=.agg #[.int .u16 cx,.int .i64 sx]) (Kt.qb rfl) rfl (Kt.qm rfl) (Kt.ql qsz rfl) (Kt.Kp.refl _ _) rfl (rdw_up hI (j:=14) (by decide) (by decide) hn (Below.refl _ _));refine Kt.op_opq hk ?_;clear hk;intro KK hkk;unfold Oper.wp;go_simp;exact hkk
                  · cases Option.some.inj ho;refine Kt.no_guard rfl ?_;have hbw:=rdw_at hI (j:=15) (by decide) hn;refine Kt.op_move rfl ?_;rw [show act.eval (.tmp 12) = .int .i64 (a:Int) from (hI.frame.val_out (s:=12) (Kt.qn rfl)).trans q12];exact hI.put ok (j:=15) (Kt.qb rfl) rfl (Kt.qm rfl) (Kt.ql qsz rfl) (Kt.Kp.refl _ _) rfl (rdw_up hI (j:=15) (by decide) (by decide) hn (Below.refl _ _))
                  · cases Option.some.inj ho;refine Kt.no_guard rfl ?_;have hbw:=rdw_at hI (j:=16) (by decide) hn;refine Kt.op_move rfl ?_;rw [show act.eval (.tmp 13) = .int .i64 (b:Int) from (hI.frame.val_out (s:=13) (Kt.qn rfl)).trans q13];exact hI.put ok (j:=16) (Kt.qb rfl) rfl (Kt.qm rfl) (Kt.ql qsz rfl) (Kt.Kp.refl _ _) rfl (rdw_up hI (j:=16) (by decide) (by decide) hn (Below.refl _ _))
                  · cases Option.some.inj ho;refine Kt.no_guard rfl ?_;have e10:act.tmps[61]?.getD undef = .pointer (some ⟨X.tb,0,none⟩):=hI.eq (j:=10) (Kt.qb rfl) rfl (fun _ _ h => h) (hpre ⟨10,.data⟩ (by simp) rfl);have e14:act.tmps[65]?.getD undef = .agg #[.int .u16 cx,.int .i64 sx]:=hI.eq (j:=14) (Kt.qb rfl) rfl (fun _ _ h => h) (hpre ⟨14,.data⟩ (by simp) rfl);have e15:act.tmps[66]?.getD undef = .int .i64 (a:Int):=hI.eq (j:=15) (Kt.qb rfl) rfl (fun _ _ h => h) (hpre ⟨15,.data⟩ (by simp) rfl);have e16:act.tmps[67]?.getD undef = .int .i64 (b:Int):=hI.eq (j:=16) (Kt.qb rfl) rfl (fun _ _ h => h) (hpre ⟨16,.data⟩ (by simp) rfl);have hbw:=rdw_at hI (j:=17) (by decide) hn;refine Kt.op_opc (s:=68) (fun v w3 => Kt.NumM w3 (fun r => r = nb) v q ∧ Below w2.heap.size w2 w3) ?_ ?_
                    · intro KK hkk;unfold Oper.wp;go_simp;refine (item_any (HTB.out nb w2 hnb0 (Nat.lt_of_lt_of_le hnbl hbw.size) (Kt.next hbl hbw)).1 (HTB.out nb w2 hnb0 (Nat.lt_of_lt_of_le hnbl hbw.size) (Kt.next hbl hbw)).2 ⟨cx,sx⟩ HS.out HC.out a b hab (by omega) (by omega)).mono ?_;rw [hit.out,hq.out];rintro e w3 ⟨v3,rfl,hv3,hb3⟩;exact hkk _ _ ⟨hv3.less (fun r hr => .inr hr),hb3⟩
                    rintro v3 w3 ⟨hv3,hb3⟩;exact hI.put ok (j:=17) (s:=68) (v:=v3) (w':=w3) (Kt.qb rfl) rfl (Kt.qm rfl) (Kt.ql qsz rfl) (Kt.Kp.below _ hb3) hv3 (rdw_up hI (j:=17) (by decide) (by decide) hn hb3)
                  · cases Option.some.inj ho;refine Kt.no_guard rfl ?_;have e9:act.tmps[60]?.getD undef = va:=hI.eq (j:=9) (Kt.qb rfl) rfl (fun _ _ h => h) (hpre ⟨9,.data⟩ (by simp) rfl);have r17:=hI.get (j:=17) (s:=68) (Kt.qb rfl) rfl (hpre ⟨17,.data⟩ (by simp) rfl);have hbw:=rdw_at hI (j:=18) (by decide) hn;obtain ⟨u17,hu17⟩:∃ u,act.tmps[68]?.getD undef = u:=⟨_,rfl⟩;rw [hu17] at r17;refine Kt.op_opc (s:=69) (fun v w3 => Kt.NumM w3 (M2 w.heap.size wb nb) v (y * q) ∧ Below w2.heap.size w2 w3) ?_ ?_
                    · intro KK hkk;unfold Oper.wp;go_simp;refine (rmul_num (nm_below HVA.out hbw).num (Kt.NumM.num r17) (by have:=HLY.out;have:=HLA.out;omega) (by have:=HLQ.out;omega)).mono ?_;rintro e w3 ⟨v3,rfl,hv3,hb3⟩;exact hkk _ _ ⟨Kt.NumM.of_num hv3 (fun r hr => by have:=hbw.size;rcases hr with hr | hr | hr <;> omega),hb3⟩
                    rintro v3 w3 ⟨hv3,hb3⟩;exact hI.put ok (j:=18) (s:=69) (v:=v3) (w':=w3) (Kt.qb rfl) rfl (Kt.qm rfl) (Kt.ql qsz rfl) (Kt.Kp.below _ hb3) hv3 (rdw_up hI (j:=18) (by decide) (by decide) hn hb3)
                  · cases Option.some.inj ho;refine Kt.no_guard rfl ?_;have e5:act.tmps[56]?.getD undef = vb:=hI.eq (j:=5) (Kt.qb rfl) rfl (fun _ _ h => h) (hpre ⟨5,.data⟩ (by simp) rfl);have r18:=hI.get (j:=18) (s:=69) (Kt.qb rfl) rfl (hpre ⟨18,.data⟩ (by simp) rfl);have hbw:=rdw_at hI (j:=19) (by decide) hn;obtain ⟨u18,hu18⟩:∃ u,act.tmps[69]?.getD undef = u:=⟨_,rfl⟩;rw [hu18] at r18;refine Kt.op_opc (s:=70) (fun v w3 => Kt.NumM w3 (M2 w.heap.size wb nb) v (z + y * q) ∧ Below w2.heap.size w2 w3) ?_ ?_
                    · intro KK hkk;unfold Oper.wp;go_simp;refine (radd_num (nm_below HVB.out hbw).num (Kt.NumM.num r18) (by have:=HLZ.out;omega) (by have:=HLP.out;omega)).mono ?_;rintro e w3 ⟨v3,rfl,hv3,hb3⟩;exact hkk _ _ ⟨Kt.NumM.of_num hv3 (fun r hr => by have:=hbw.size;rcases hr with hr | hr | hr <;> omega),hb3⟩
                    rintro v3 w3 ⟨hv3,hb3⟩;exact hI.put ok (j:=19) (s:=70) (v:=v3) (w':=w3) (Kt.qb rfl) rfl (Kt.qm rfl) (Kt.ql qsz rfl) (Kt.Kp.below _ hb3) hv3 (rdw_up hI (j:=19) (by decide) (by decide) hn hb3)
                  · cases Option.some.inj ho;refine Kt.no_guard rfl ?_;have e0:act.tmps[51]?.getD undef = .slice (some ⟨nb,0,none⟩) N N:=hI.eq (j:=0) (Kt.qb rfl) rfl (fun _ _ h => h) (hpre ⟨0,.data⟩ (by simp) rfl);have e1:act.tmps[52]?.getD undef = .int .i64 (b:Int):=hI.eq (j:=1) (Kt.qb rfl) rfl (fun _ _ h => h) (hpre ⟨1,.data⟩ (by simp) rfl);have hbw:=rdw_at hI (j:=20) (by decide) hn;have hk:=hI.put ok (j:=20) (s:=71) (v:=.pointer (some ⟨nb,b,none⟩)) (Kt.qb rfl) rfl (Kt.qm rfl) (Kt.ql qsz rfl) (Kt.Kp.refl _ _) rfl (rdw_up hI (j:=20) (by decide) (by decide) hn (Below.refl _ _));refine Kt.op_opq hk ?_;clear hk;intro KK hkk;unfold Oper.wp;go_simp;exact hkk
                  · cases Option.some.inj ho;refine Kt.no_guard rfl ?_;have hall:∀ j,j < 21 → listed.getD j false = true:=fun j hj => by
                      rcases j with _ | _ | _ | _ | _ | _ | _ | _ | _ | _ | _ | _ | _ | _ | _ | _ | _ | _ | _ | _ | _ | j
                      · exact hpre ⟨0,.phase⟩ (by simp) rfl
                      · exact hpre ⟨1,.phase⟩ (by simp) rfl
                      · exact hpre ⟨2,.phase⟩ (by simp) rfl
                      · exact hpre ⟨3,.phase⟩ (by simp) rfl
                      · exact hpre ⟨4,.phase⟩ (by simp) rfl
                      · exact hpre ⟨5,.phase⟩ (by simp) rfl
                      · exact hpre ⟨6,.phase⟩ (by simp) rfl
                      · exact hpre ⟨7,.phase⟩ (by simp) rfl
                      · exact hpre ⟨8,.phase⟩ (by simp) rfl
                      · exact hpre ⟨9,.phase⟩ (by simp) rfl
                      · exact hpre ⟨10,.phase⟩ (by simp) rfl
                      · exact hpre ⟨11,.phase⟩ (by simp) rfl
                      · exact hpre ⟨12,.phase⟩ (by simp) rfl
                      · exact hpre ⟨13,.phase⟩ (by simp) rfl
                      · exact hpre ⟨14,.phase⟩ (by simp) rfl
                      · exact hpre ⟨15,.phase⟩ (by simp) rfl
                      · exact hpre ⟨16,.phase⟩ (by simp) rfl
                      · exact hpre ⟨17,.phase⟩ (by simp) rfl
                      · exact hpre ⟨18,.phase⟩ (by simp) rfl
                      · exact hpre ⟨19,.phase⟩ (by simp) rfl
                      · exact hpre ⟨20,.data⟩ (by simp) rfl
                      · exfalso;omega
                    have hbw:=hI.st.1 (Kt.getD_no hn);have e20:act.tmps[71]?.getD undef = .pointer (some ⟨nb,b,none⟩):=hI.eq (j:=20) (Kt.qb rfl) rfl (fun _ _ h => h) (hall 20 (by decide));have r19:=hI.get (j:=19) (s:=70) (Kt.qb rfl) rfl (hall 19 (by decide));obtain ⟨u19,hu19⟩:∃ u,act.tmps[70]?.getD undef = u:=⟨_,rfl⟩;rw [hu19] at r19;have r19b:=r19;obtain ⟨A19,c19,e19,_⟩:=r19b;subst e19;have c0:=(hbw.cell (p:=⟨nb,b,none⟩) hnbl).trans hcb;have f0:=(hbw.frozen (p:=⟨nb,b,none⟩) hnbl).trans hfb;have hk:=hI.store ok (j:=21) (w':=w2.setCell ⟨nb,b,none⟩ (.slice A19 (Nt.limbs (z + y * q)).length c19)) (Kt.qb rfl) (Kt.Kp.set (X:=fun r => r = nb) (p:=⟨nb,b,none⟩) rfl _) trivial (rdw_last hall ⟨w2,_,hbw,r19,rfl⟩);refine Kt.op_opq0 hk ?_;clear hk;intro KK hkk;unfold Oper.wp;go_simp;exact hkk
                  · exfalso;simp at ho
                case hdone =>
                  intro listed act w2 hI hr;have hup:=Kt.all_up (fun q o ho => by
                    rcases q with _ | _ | _ | _ | _ | _ | _ | _ | _ | _ | _ | _ | _ | _ | _ | _ | _ | _ | _ | _ | _ | _ | q
                    all_goals first | (cases Option.some.inj ho;decide) | (exfalso;simp at ho)) hI.size hr
                  have hst:=hI.st;have hkept:=hI.kept;have ha0:=HA0.out;subst ha0;rw [hI.frame.out];simp only [rdwP,rdwS,Kt.sets];have hfz:=rdw_fin hI (hup 21 (by decide));generalize Kt.val act 51 = v51;generalize Kt.val act 52 = v52;generalize Kt.val act 53 = v53;generalize Kt.val act 54 = v54;generalize Kt.val act 55 = v55;generalize Kt.val act 56 = v56;generalize Kt.val act 57 = v57;generalize Kt.val act 58 = v58;generalize Kt.val act 59 = v59;generalize Kt.val act 60 = v60;generalize Kt.val act 61 = v61;generalize Kt.val act 62 = v62;generalize Kt.val act 63 = v63;generalize Kt.val act 64 = v64;generalize Kt.val act 65 = v65;generalize Kt.val act 66 = v66;generalize Kt.val act 67 = v67;generalize Kt.val act 68 = v68;generalize Kt.val act 69 = v69;generalize Kt.val act 70 = v70;generalize Kt.val act 71 = v71;simp only [List.setIfInBounds_toArray,List.set_cons_zero,List.set_cons_succ];clear hI hr hup;clear hst hkept HA0;obtain ⟨hA3,hN3,hb3⟩:=fin_arr (G':=fun c => if c < b + 1 then pS it ⟨cx,sx⟩ (arrW it N l i k) (a + 1) c else pS it ⟨cx,sx⟩ (arrW it N l i k) a c) hfz hA2.out hN2.out (by omega) (fun c _ => by
                    by_cases e:c = b
                    · subst e;rw [if_pos rfl,if_pos (by omega),HEQ.out]
                    · rw [if_neg e];by_cases e2:c < b
                      · rw [if_pos e2,if_pos (by omega)]
                      · rw [if_neg e2,if_neg (by omega)]) hnb0 hbls
                  have HA3:=Lib.hid hA3;have HN3:=Lib.hid hN3;clear hfz hA3 hN3;go_wp2_with fail;go_roundw
                  case rel => exact ⟨b + 1,by omega,by omega,by go_num,HA3,HN3,hbl.trans hb3⟩
                  case measure => simp [intOf];omega
            · have HNX:Hid (NArr wr nb (M2 w.heap.size wb nb) N (pS it ⟨cx,sx⟩ (arrW it N l i k) (a + 1))):=Lib.hid (hN2.out.congr fun c hc => by rw [if_pos (by omega)]);go_wp2_with fail;go_roundw
              case rel => exact ⟨a + 1,by omega,by omega,by go_num,hA2,HNX,hbl⟩
              case measure => simp [intOf];omega
        · obtain rfl:N = a:=by omega
          have HNX:Hid (NArr wr nb (fun q => q < w.heap.size ∨ q = nb) N (arrW it N l i (k + 1))):=Lib.hid ((hN1.out.congr fun c _ => by rw [HSU.out];rfl).less (fun q hq => hq.imp id .inr) (.inr rfl));go_wp2_with fail;go_roundw
          case rel => exact ⟨k + 1,nb,by omega,by go_num,rfl,by omega,HNX,hbel1⟩
          case measure => simp [intOf];omega
    · obtain rfl:L = k:=by omega
      obtain ⟨v,hv,hnv⟩:=harr.out.cell j (by omega);rw [HEND.out] at hnv;have HV:Hid (Kt.Num wr w.heap.size v (Gr.wN (itemN X F) N l i j)):=Lib.hid (nm_lo hnv fun k hk => .inl hk);clear hnv;go_wp2_with fail;go_ret;exact ⟨v,rfl,HV.out,hbel⟩
end Go.Proofs.Ytdbfiflmeiidjaa
end
