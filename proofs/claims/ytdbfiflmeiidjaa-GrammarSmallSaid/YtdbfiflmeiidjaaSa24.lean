/- Joined: RgH, ReE, ReN, ReG. -/
import Derived.Test.YtdbfiflmeiidjaaSa22
import Derived.Test.YtdbfiflmeiidjaaSa23
section
/- Regions that make memory, append to a row, and write what came out into a cell at their end. -/
namespace Kt
open Go Go.RowKit
structure appZ (p m:Nat) (D C:List Nat) (row:Option Nat) (W:World) (App:Value → World → Prop) (Fin:World → Prop) (L:Nat → Bool) (V:Nat → Value) (w:World):Prop where
  early:L p = false → Below W.heap.size W w
  grown:L m = false → W.grownBy w row
  app:L p = true → L m = false → App (V p) w
  fin:L m = true → Fin w
  all:L m = true → ∀ j,j < m → L j = true
  cl:L p = true → ∀ j ∈ D,L j = true
  dcl:∀ j ∈ D,L j = true → ∀ i ∈ D,i < j → L i = true
  ccl:∀ j ∈ C,L j = true → ∀ i ∈ C,i < j → L i = true
variable {p m j:Nat} {D C:List Nat} {row:Option Nat} {W w w':World} {App:Value → World → Prop} {Fin:World → Prop} {V V':Nat → Value} {listed:Array Bool}
theorem app_start:appZ p m D C row W App Fin (fun _ => false) V W.drew :=
  ⟨fun _ => below_drewN (Below.refl _ _) 1,fun _ => grown_drew _ _,fun q => (by cases q),fun q => (by cases q),fun q => (by cases q),fun q => (by cases q),fun _ _ q => (by cases q),fun _ _ q => (by cases q)⟩
theorem app_not (h:appZ p m D C row W App Fin (lis listed) V w) (hj:j < m) (hn:listed.getD j true = false):lis listed m = false:=by
  cases hm:lis listed m with
  | false => rfl
  | true =>
    have:=h.all hm j hj;rw [show lis listed j = false from getD_no hn] at this;cases this
theorem app_open (h:appZ p m D C row W App Fin (lis listed) V w) (hj:j < m) (hn:listed.getD j true = false):W.grownBy w row:=h.grown (app_not h hj hn)
theorem app_pure (h:appZ p m D C row W App Fin (lis listed) V w) (hj:j < m) (hjp:j ≠ p) (hjD:j ∉ D) (hC:j ∈ C → ∀ i ∈ C,i < j → listed.getD i false = true) (hn:listed.getD j true = false) (hV:V' p = V p):appZ p m D C row W App Fin (upL (lis listed) j) V' w:=by
  have e:∀ i,i ≠ j → upL (lis listed) j i = lis listed i:=fun i hi => by unfold upL;rw [if_neg hi]
  have hm:=app_not h hj hn;have ep:=e p (fun e => hjp e.symm);have em:=e m (by omega);refine ⟨fun q => h.early (by rw [← ep];exact q),fun _ => h.grown hm,fun q _ => ?_,fun q => (by rw [em,hm] at q;cases q),fun q => (by rw [em,hm] at q;cases q),fun q i hi => ?_,fun a ha q b hb hab => ?_,fun a ha q b hb hab => ?_⟩
  · rw [hV];exact h.app (by rw [← ep];exact q) hm
  · unfold upL;split
    · rfl
    · exact h.cl (by rw [← ep];exact q) i hi
  · rw [e b (fun e2 => hjD (e2 ▸ hb))];rw [e a (fun e2 => hjD (e2 ▸ ha))] at q;exact h.dcl a ha q b hb hab
  · by_cases eb:b = j
    · unfold upL;rw [if_pos eb]
    · rw [e b eb];by_cases ea:a = j
      · subst ea;exact hC ha b hb hab
      · rw [e a ea] at q;exact h.ccl a ha q b hb hab
theorem app_before (h:appZ p m D C row W App Fin (lis listed) V w) (hj:j ∈ D ∨ j = p) (hn:listed.getD j true = false):lis listed p = false:=by
  cases hp:lis listed p with
  | false => rfl
  | true =>
    rcases hj with hj | rfl
    · have:=h.cl hp j hj;rw [show lis listed j = false from getD_no hn] at this;cases this
    · rw [show lis listed j = false from getD_no hn] at hp;cases hp
theorem app_eff (h:appZ p m D C row W App Fin (lis listed) V w) (hj:j < m) (hD:j ∈ D) (hjp:j ≠ p) (hn:listed.getD j true = false) (hbe:∀ i ∈ D,i < j → listed.getD i false = true) (hjC:j ∉ C) (hb:Below w.heap.size w w'):appZ p m D C row W App Fin (upL (lis listed) j) V' w':=by
  have e:∀ i,i ≠ j → upL (lis listed) j i = lis listed i:=fun i hi => by unfold upL;rw [if_neg hi]
  have hm:=app_not h hj hn;have hp:=app_before h (.inl hD) hn;have ep:=e p (fun e => hjp e.symm);have em:=e m (by omega);have hg:=h.grown hm;refine ⟨fun _ => next (h.early hp) hb,fun _ => ⟨hb.os.trans hg.os,hb.tape.trans hg.tape,hb.output.trans hg.output,Nat.le_trans hg.size hb.size,fun k hk hne => (hb.block k (Nat.lt_of_lt_of_le hk hg.size)).trans (hg.block k hk hne)⟩,fun q _ => ?_,fun q => (by rw [em,hm] at q;cases q),fun q => (by rw [em,hm] at q;cases q),fun q _ _ => ?_,fun a ha q b hb2 hab => ?_,fun a ha q b hb2 hab => ?_⟩
  · rw [ep,hp] at q;cases q
  · rw [ep,hp] at q;cases q
  · by_cases eb:b = j
    · unfold upL;rw [if_pos eb]
    · rw [e b eb];by_cases ea:a = j
      · subst ea;exact hbe b hb2 hab
      · rw [e a ea] at q;exact h.dcl a ha q b hb2 hab
  · rw [e b (fun e2 => hjC (e2 ▸ hb2))];rw [e a (fun e2 => hjC (e2 ▸ ha))] at q;exact h.ccl a ha q b hb2 hab
theorem app_app (h:appZ p m D C row W App Fin (lis listed) V w) (hpm:p < m) (hn:listed.getD p true = false) (hD:∀ j ∈ D,listed.getD j false = true) (hpC:p ∉ C) (hg:W.grownBy w' row) (ha:App (V' p) w'):appZ p m D C row W App Fin (upL (lis listed) p) V' w':=by
  have hm:=app_not h hpm hn;have ep:upL (lis listed) p p = true:=by unfold upL;rw [if_pos rfl]
  have em:upL (lis listed) p m = false:=by unfold upL;rw [if_neg (by omega)];exact hm
  refine ⟨fun q => (by rw [ep] at q;cases q),fun _ => hg,fun _ _ => ha,fun q => (by rw [em] at q;cases q),fun q => (by rw [em] at q;cases q),fun _ i hi => ?_,fun _ _ _ i hi _ => ?_,fun a ha q b hb hab => ?_⟩
  · unfold upL;split
    · rfl
    · exact hD i hi
  · unfold upL;split
    · rfl
    · exact hD i hi
  · have e:∀ i,i ≠ p → upL (lis listed) p i = lis listed i:=fun i hi => by unfold upL;rw [if_neg hi]
    rw [e b (fun e2 => hpC (e2 ▸ hb))];rw [e a (fun e2 => hpC (e2 ▸ ha))] at q;exact h.ccl a ha q b hb hab
theorem app_last (_h:appZ p m D C row W App Fin (lis listed) V w) (hpm:p < m) (hDm:∀ j ∈ D,j < m) (hCm:∀ j ∈ C,j < m) (hall:∀ j,j < m → listed.getD j false = true) (hf:Fin w'):appZ p m D C row W App Fin (upL (lis listed) m) V' w':=by
  have em:upL (lis listed) m m = true:=by unfold upL;rw [if_pos rfl]
  have el:∀ j,j < m → upL (lis listed) m j = true:=fun j hj => by
    unfold upL;split
    · rfl
    · exact hall j hj
  exact ⟨fun q => (by rw [el p hpm] at q;cases q),fun q => (by rw [em] at q;cases q),fun _ q => (by rw [em] at q;cases q),fun _ => hf,fun _ => el,fun _ j hj => el j (hDm j hj),fun _ _ _ i hi _ => el i (hDm i hi),fun _ _ _ i hi _ => el i (hCm i hi)⟩
theorem app_D (h:appZ p m D C row W App Fin (lis listed) V w) (hj:j ∈ D) (hl:listed.getD j false = true):∀ i ∈ D,i ≤ j → listed.getD i false = true:=fun i hi hij => by
  rcases Nat.lt_or_eq_of_le hij with e | e
  · exact h.dcl j hj hl i hi e
  · subst e;exact hl
theorem app_C (h:appZ p m D C row W App Fin (lis listed) V w) (hj:j ∈ C) (hl:listed.getD j false = true):∀ i ∈ C,i ≤ j → listed.getD i false = true:=fun i hi hij => by
  rcases Nat.lt_or_eq_of_le hij with e | e
  · exact h.ccl j hj hl i hi e
  · subst e;exact hl
theorem early_at (h:appZ p m D C row W App Fin (lis listed) V w) (hj:j ∈ D ∨ j = p) (hn:listed.getD j true = false):Below W.heap.size W w:=h.early (app_before h hj hn)
theorem below_grows (h:Below W.heap.size W w) (row:Option Nat):W.grownBy w row:=⟨h.os,h.tape,h.output,h.size,fun k hk _ => h.block k hk⟩
theorem cells_one {g:Nat} {T:TypeId} {v:Value} (h:Blk w g T #[v]):∀ j u,[v][j]? = some u → w.cell? ((⟨g,0,none⟩:Addr).add j) = some u:=by
  intro j u hj
  match j,hj with
  | 0,hj =>
    simp at hj;subst hj;rw [Addr.add_lit];exact h.cell 0
end Kt
end
section
/- The reference's table while it is made: its rows in memory. -/
namespace Go.Proofs.Ytdbfiflmeiidjaa
open Go Go.RowKit
def cntB (N s0 i0 s:Nat):Nat:=if s < s0 then N else if s = s0 then i0 else 0
def rowV (N:Nat) (R:Nat → Nat) (n:Nat):List Value:=(List.range n).map fun i => .slice (some ⟨R i,0,none⟩) N N
theorem rowV_succ (N:Nat) (R:Nat → Nat) (n:Nat):rowV N R (n + 1) = rowV N R n ++ [.slice (some ⟨R n,0,none⟩) N N]:=by
  unfold rowV;rw [List.range_succ,List.map_append];rfl
theorem rowV_congr {N:Nat} {R R':Nat → Nat} {n:Nat} (h:∀ i,i < n → R i = R' i):rowV N R n = rowV N R' n:=by
  unfold rowV;refine List.map_congr_left fun i hi => ?_
  rw [h i (List.mem_range.1 hi)]
theorem rowV_get {N:Nat} {R:Nat → Nat} {n i:Nat} (h:i < n):(rowV N R n)[i]? = some (.slice (some ⟨R i,0,none⟩) N N):=by
  unfold rowV;simp [h]
structure BT (B N s0 i0:Nat) (gv tv:Value) (V:Nat → Value) (R:Nat → Nat → Nat) (w:World):Prop where
  lt:B < w.heap.size
  c0:w.cell? ⟨B,0,none⟩ = some gv
  c1:w.cell? ⟨B,1,none⟩ = some tv
  fr:∀ j,w.frozen? ⟨B,j,none⟩ = false
  cell:∀ s,s < 64 → w.cell? ⟨B,2 + s,none⟩ = some (V s)
  own:∀ s,s < 64 → w.ownsRow (B + 1) 79 1 (V s) (cntB N s0 i0 s) (rowV N (R s) (cntB N s0 i0 s))
  dis:∀ s s' k,s < 64 → s' < 64 → (V s).ownBlock = some k → (V s').ownBlock = some k → s = s'
  row:∀ s i,s < 64 → i < cntB N s0 i0 s → Kt.Blk w (R s i) 33 (nilA N) ∧ B < R s i
  rv:∀ s i s',s < 64 → i < cntB N s0 i0 s → s' < 64 → (V s').ownBlock ≠ some (R s i)
  inj:∀ s i s' i',s < 64 → i < cntB N s0 i0 s → s' < 64 → i' < cntB N s0 i0 s' → R s i = R s' i' → s = s' ∧ i = i'
section
variable {B N s0 i0:Nat} {gv tv:Value} {V:Nat → Value} {R:Nat → Nat → Nat} {w w':World}
theorem cntB_at (N s0 i0:Nat):cntB N s0 i0 s0 = i0:=by unfold cntB;rw [if_neg (by omega),if_pos rfl]
theorem cntB_step (N s0 i0 s:Nat) (h:s ≠ s0):cntB N s0 (i0 + 1) s = cntB N s0 i0 s:=by unfold cntB;simp [h]
theorem cntB_next (N s0 s:Nat):cntB N (s0 + 1) 0 s = cntB N s0 N s:=by
  unfold cntB;by_cases h1:s < s0
  · rw [if_pos h1,if_pos (by omega)]
  · rw [if_neg h1];by_cases h2:s = s0
    · rw [if_pos h2,if_pos (by omega)]
    · rw [if_neg h2,if_neg (by omega),ite_self]
theorem BT.next (h:BT B N s0 N gv tv V R w):BT B N (s0 + 1) 0 gv tv V R w:=by
  obtain ⟨h1,h2,h3,h4,h5,h6,h7,h8,h9,h10⟩:=h;exact ⟨h1,h2,h3,h4,h5,fun s hs => by rw [cntB_next];exact h6 s hs,h7,fun s i hs hi => h8 s i hs (by rw [← cntB_next];exact hi),fun s i s' hs hi => h9 s i s' hs (by rw [← cntB_next];exact hi),fun s i s' i' hs hi hs' hi' => h10 s i s' i' hs (by rw [← cntB_next];exact hi) hs' (by rw [← cntB_next];exact hi')⟩
def AppB (B N i0 s0:Nat) (V:Nat → Value) (R:Nat → Nat → Nat) (W0:Nat) (u:Value) (w:World):Prop :=
  ∃ gg cap rb,u = .slice (some ⟨gg,0,none⟩) (i0 + 1) cap ∧ w.ownsRow (B + 1) 79 1 u (i0 + 1) (rowV N (R s0) i0 ++ [.slice (some ⟨rb,0,none⟩) N N]) ∧ ((V s0).ownBlock = some gg ∨ W0 ≤ gg) ∧ Kt.Blk w rb 33 (nilA N) ∧ W0 ≤ rb ∧ gg ≠ rb
def upd1 {α:Type} (f:Nat → α) (s:Nat) (v:α):Nat → α:=fun i => if i = s then v else f i
theorem upd1_same {α:Type} (f:Nat → α) (s:Nat) (v:α):upd1 f s v s = v:=if_pos rfl
theorem upd1_ne {α:Type} (f:Nat → α) (s i:Nat) (v:α) (h:i ≠ s):upd1 f s v i = f i:=if_neg h
theorem BT.push {W0:Nat} {u:Value} {W w0:World} (h:BT B N s0 i0 gv tv V R W) (hW:W0 = W.heap.size) (hs0:s0 < 64) (hN:i0 < N) (hg:W.grownBy w0 (V s0).ownBlock) (ha:AppB B N i0 s0 V R W0 u w0) :
    ∃ V' R',BT B N s0 (i0 + 1) gv tv V' R' (w0.setCell ⟨B,2 + s0,none⟩ u):=by
  subst hW;obtain ⟨gg,cap,rb,hu,hown,hgg,hrb,hrW,hne⟩:=ha;have hvlt:∀ s,s < 64 → ∀ k,(V s).ownBlock = some k → B + 1 ≤ k ∧ k < W.heap.size:=fun s hs k hk => World.ownsRow.lt (h.own s hs) k hk
  have hBrow:some B ≠ (V s0).ownBlock:=fun e => by have:=hvlt s0 hs0 B e.symm;omega
  have hlt:=h.lt;have hggB:B < gg:=by
    rcases hgg with e | e
    · have:=hvlt s0 hs0 gg e;omega
    · omega
  have hB:w0.heap[B]? = W.heap[B]?:=hg.block B h.lt hBrow;have hcu:∀ j,j ≠ 2 + s0 → ∀ v,W.cell? ⟨B,j,none⟩ = some v → (w0.setCell ⟨B,2 + s0,none⟩ u).cell? ⟨B,j,none⟩ = some v:=fun j hj v hv => by
    rw [World.cell?_setCell_other _ _ _ _ (fun e => hj (by injection e with _ e2;exact e2.symm))];exact (World.cell?_of_block (a:=⟨B,j,none⟩) hB).trans hv
  have hfar:∀ k,k ≠ B → (w0.setCell ⟨B,2 + s0,none⟩ u).heap[k]? = w0.heap[k]?:=fun k hk => Below.heap_setCell w0 _ u k hk
  have hgs:w0.grownBy (w0.setCell ⟨B,2 + s0,none⟩ u) (some B):=⟨rfl,rfl,rfl,by simp,fun k _ hk => hfar k fun e => hk (by rw [e])⟩;have hrow:∀ s i,s < 64 → i < cntB N s0 i0 s → Kt.Blk (w0.setCell ⟨B,2 + s0,none⟩ u) (R s i) 33 (nilA N) ∧ B < R s i:=fun s i hs hi => by
    obtain ⟨h1,h2⟩:=h.row s i hs hi;exact ⟨((hfar _ (by omega)).trans (hg.block _ h1.lt (fun e => h.rv s i s0 hs hi hs0 e.symm))).trans h1,h2⟩
  have hrlt:∀ s i,s < 64 → i < cntB N s0 i0 s → R s i < W.heap.size:=fun s i hs hi => (h.row s i hs hi).1.lt
  refine ⟨upd1 V s0 u,upd1 R s0 (upd1 (R s0) i0 rb),by have:=hg.size;simp;omega,hcu 0 (by omega) _ h.c0,hcu 1 (by omega) _ h.c1,fun j => (by rw [World.frozen?_setCell];exact (World.frozen?_of_block (a:=⟨B,j,none⟩) hB).trans (h.fr j)),fun s hs => ?_,fun s hs => ?_,fun s s' k hs hs' hk hk' => ?_,fun s i hs hi => ?_,fun s i s' hs hi hs' => ?_,fun s i s' i' hs hi hs' hi' e => ?_⟩
  · by_cases e:s = s0
    · subst e;rw [upd1_same];exact World.cell?_setCell_same _ _ _ ((World.cell?_of_block (a:=⟨B,2 + s,none⟩) hB).trans (h.cell s hs))
    · rw [upd1_ne _ _ _ _ e];exact hcu _ (by omega) _ (h.cell s hs)
  · by_cases e:s = s0
    · subst e;rw [upd1_same,upd1_same,cntB_at,rowV_succ,upd1_same,rowV_congr (R':=R s) (fun i hi => upd1_ne _ _ _ _ (by omega))];exact World.ownsRow.kept hown hgs (.inr (by rw [hu];simp [Value.ownBlock];omega))
    · rw [upd1_ne _ _ _ _ e,upd1_ne _ _ _ _ e,cntB_step _ _ _ _ e];refine World.ownsRow.kept (World.ownsRow.kept (h.own s hs) hg ?_) hgs ?_
      · cases hv:(V s).ownBlock with
        | none => exact .inl rfl
        | some k => exact .inr fun e2 => e (h.dis s s0 k hs hs0 hv e2.symm)
      · cases hv:(V s).ownBlock with
        | none => exact .inl rfl
        | some k => exact .inr fun e2 => by injection e2 with e2;have:=hvlt s hs k hv;omega
  · have key:∀ q,q < 64 → q ≠ s0 → ∀ k,(V q).ownBlock = some k → u.ownBlock = some k → False:=fun q hq hqs k h1 h2 => by
      rw [hu] at h2;simp only [Value.ownBlock,Option.some.injEq] at h2;subst h2;rcases hgg with e | e
      · exact hqs (h.dis q s0 _ hq hs0 h1 e)
      · have:=hvlt q hq _ h1;omega
    by_cases e:s = s0 <;> by_cases e':s' = s0
    · omega
    · subst e;rw [upd1_same] at hk;rw [upd1_ne _ _ _ _ e'] at hk';exact (key s' hs' e' k hk' hk).elim
    · subst e';rw [upd1_same] at hk';rw [upd1_ne _ _ _ _ e] at hk;exact (key s hs e k hk hk').elim
    · rw [upd1_ne _ _ _ _ e] at hk;rw [upd1_ne _ _ _ _ e'] at hk';exact h.dis s s' k hs hs' hk hk'
  · by_cases e:s = s0
    · subst e;rw [upd1_same];rw [cntB_at] at hi;by_cases e2:i = i0
      · subst e2;rw [upd1_same];exact ⟨(hfar _ (by omega)).trans hrb,by omega⟩
      · rw [upd1_ne _ _ _ _ e2];exact hrow s i hs (by rw [cntB_at];omega)
    · rw [upd1_ne _ _ _ _ e];rw [cntB_step _ _ _ _ e] at hi;exact hrow s i hs hi
  · have hnew:∀ q,q < 64 → (upd1 V s0 u q).ownBlock ≠ some rb:=fun q hq e2 => by
      by_cases e:q = s0
      · subst e;rw [upd1_same,hu] at e2;simp only [Value.ownBlock,Option.some.injEq] at e2;exact hne e2
      · rw [upd1_ne _ _ _ _ e] at e2;have:=hvlt q hq _ e2;omega
    have hold:∀ q j,q < 64 → j < cntB N s0 i0 q → (upd1 V s0 u s').ownBlock ≠ some (R q j):=fun q j hq hj e2 => by
      by_cases e:s' = s0
      · subst e;rw [upd1_same,hu] at e2;simp only [Value.ownBlock,Option.some.injEq] at e2;rcases hgg with e3 | e3
        · exact h.rv q j s' hq hj hs' (by rw [e3,e2])
        · have:=hrlt q j hq hj;omega
      · rw [upd1_ne _ _ _ _ e] at e2;exact h.rv q j s' hq hj hs' e2
    by_cases e:s = s0
    · subst e;rw [upd1_same];rw [cntB_at] at hi;by_cases e2:i = i0
      · subst e2;rw [upd1_same];exact hnew s' hs'
      · rw [upd1_ne _ _ _ _ e2];exact hold s i hs (by rw [cntB_at];omega)
    · rw [upd1_ne _ _ _ _ e];rw [cntB_step _ _ _ _ e] at hi;exact hold s i hs hi
  · have key:∀ q j,q < 64 → j < cntB N s0 (i0 + 1) q → (q = s0 ∧ j = i0 ∧ upd1 R s0 (upd1 (R s0) i0 rb) q j = rb) ∨ (j < cntB N s0 i0 q ∧ upd1 R s0 (upd1 (R s0) i0 rb) q j = R q j):=fun q j hq hj => by
      by_cases e:q = s0
      · subst e;rw [upd1_same];rw [cntB_at] at hj;by_cases e2:j = i0
        · subst e2;exact .inl ⟨rfl,rfl,upd1_same _ _ _⟩
        · exact .inr ⟨by rw [cntB_at];omega,upd1_ne _ _ _ _ e2⟩
      · rw [cntB_step _ _ _ _ e] at hj;exact .inr ⟨hj,by rw [upd1_ne _ _ _ _ e]⟩
    rcases key s i hs hi with ⟨a1,a2,a3⟩ | ⟨a1,a2⟩ <;> rcases key s' i' hs' hi' with ⟨b1,b2,b3⟩ | ⟨b1,b2⟩
    · exact ⟨by omega,by omega⟩
    · rw [a3,b2] at e;have:=hrlt s' i' hs' b1;omega
    · rw [a2,b3] at e;have:=hrlt s i hs a1;omega
    · rw [a2,b2] at e;exact h.inj s i s' i' hs a1 hs' b1 e
theorem BT.tbl {g:List Gr.Rule} {tk:List Int} {A T:Option Addr} {n cp nt ct:Nat} (h:BT B N 64 0 (.slice A n cp) (.slice T nt ct) V R w) (hN:N = nt + 1) (hgl:g.length = n) (htl:tk.length = nt) (hg:Kt.Rules w B A g) (ht:Kt.Ints w B .u16 T tk) :
    ∃ (X:TX) (M:Nat → Prop),X.B = B ∧ X.tb = B ∧ X.g = g ∧ X.tk = tk ∧ X.A = A ∧ X.n = n ∧ X.cp = cp ∧ X.T = T ∧ X.nt = nt ∧ X.ct = ct ∧ Tbl X M (fun _ _ _ => 0) w ∧ ∀ k,M k → k < w.heap.size:=by
  have hc:∀ s,s < 64 → cntB N 64 0 s = N:=fun s hs => by unfold cntB;rw [if_pos hs]
  have hform:∀ s,s < 64 → ∃ c,V s = .slice (some ⟨((V s).ownBlock).getD 0,0,none⟩) N c ∧ (V s).ownBlock = some (((V s).ownBlock).getD 0):=fun s hs => by
    have ho:=h.own s hs;rw [hc s hs] at ho;obtain ⟨gb,c,hv,_,_⟩:=World.ownsRow.form ho (by omega);refine ⟨c,?_,?_⟩ <;> rw [hv] <;> rfl
  have hrow:∀ s i,s < 64 → i ≤ nt → Kt.Blk w (R s i) 33 (nilA N) ∧ B < R s i:=fun s i hs hi => h.row s i hs (by rw [hc s hs];omega)
  have hol:∀ s,s < 64 → ((V s).ownBlock).getD 0 < w.heap.size:=fun s hs => by
    obtain ⟨c,_,ho⟩:=hform s hs;exact (World.ownsRow.lt (h.own s hs) _ ho).2
  refine ⟨⟨B,B,fun s => ((V s).ownBlock).getD 0,R,g,tk,A,n,cp,T,nt,ct⟩,fun k => ∃ s i,s < 64 ∧ i ≤ nt ∧ k = R s i,rfl,rfl,rfl,rfl,rfl,rfl,rfl,rfl,rfl,rfl,⟨h.c0,h.c1,h.lt,?_,fun s hs => ?_,hol,fun s hs => ?_,fun s i hs hi => ?_,fun s i hs hi => (hrow s i hs hi).1.lt,fun s i hs hi => ⟨s,i,hs,hi,rfl⟩,fun s i j hs hi => (hrow s i hs hi).1.frozen j,fun s i s' i' hs hi hs' hi' e => h.inj s i s' i' hs (by rw [hc s hs];show i < N;have:i ≤ nt:=hi;omega) hs' (by rw [hc s' hs'];show i' < N;have:i' ≤ nt:=hi';omega) e,fun s i j hs hi hj => ?_,?_,hg,ht,hgl,htl,Nat.le_of_lt h.lt⟩,?_⟩
  · rintro ⟨s,i,hs,hi,e⟩;have:=(hrow s i hs hi).2;have e':B = R s i:=e;omega
  · obtain ⟨c,hv,_⟩:=hform s hs;refine ⟨c,?_⟩;have:=h.cell s hs;rw [hv,hN] at this;exact this
  · rintro ⟨s',i,hs',hi,e⟩;obtain ⟨c,_,ho⟩:=hform s hs;exact h.rv s' i s hs' (by rw [hc s' hs'];omega) hs (by rw [ho];exact congrArg some e)
  · obtain ⟨c,hv,ho⟩:=hform s hs;have hown:=h.own s hs;rw [hc s hs] at hown;have:=World.ownsRow.cells hown ho i _ (rowV_get (show i < N by have:i ≤ nt:=hi;omega));rw [Addr.add_lit,hN,Nat.zero_add] at this;exact this
  · exact ⟨.slice none 0 0,by rw [(hrow s i hs hi).1.cell];exact nilA_get (show j < N by have:j ≤ nt:=hj;omega),Kt.NumM.zero _ _⟩
  · rintro k ⟨s,i,hs,hi,rfl⟩;exact Nat.le_of_lt (hrow s i hs hi).2
  · rintro k ⟨s,i,hs,hi,rfl⟩;exact (hrow s i hs hi).1.lt
end
end Go.Proofs.Ytdbfiflmeiidjaa
end
section
/- What the reference's passes over the rules that are single symbols add up to: plain mathematics. -/
namespace Gr
def isU (r:Rule):Bool:=match r.right with | [x] => decide (x.cls = 0) | _ => false
def tgt (r:Rule):Int:=match r.right with | [x] => x.sym | _ => 0
theorem isU_iff {r:Rule}:isU r = true ↔ ∃ x,r.right = [x] ∧ x.cls = 0 ∧ tgt r = x.sym:=by
  unfold isU tgt;rcases h:r.right with _ | ⟨x,_ | ⟨y,l⟩⟩
  · simp
  · simp
  · simp
def byU (g:List Rule) (u:Bool) (f:Nat → Nat) (s:Int) (k:Nat):Nat:=(((List.range k).filter fun r => decide (isU (rul g r) = u ∧ (rul g r).left = s)).map f).sum
theorem byU_zero (g:List Rule) (u:Bool) (f:Nat → Nat) (s:Int):byU g u f s 0 = 0:=rfl
theorem byU_succ (g:List Rule) (u:Bool) (f:Nat → Nat) (s:Int) (k:Nat):byU g u f s (k + 1) = byU g u f s k + if isU (rul g k) = u ∧ (rul g k).left = s then f k else 0:=by
  unfold byU;rw [List.range_succ,List.filter_append,List.map_append,List.sum_append];by_cases h:isU (rul g k) = u ∧ (rul g k).left = s
  · simp [h]
  · rw [if_neg h];have e:([k].filter fun r => decide (isU (rul g r) = u ∧ (rul g r).left = s)) = []:=by
      rw [List.filter_eq_nil_iff];intro a ha;rw [List.mem_singleton] at ha;subst ha;rw [decide_eq_true_eq];exact h
    rw [e];rfl
theorem byU_mono (g:List Rule) (u:Bool) (f:Nat → Nat) (s:Int) {k m:Nat} (h:k ≤ m):byU g u f s k ≤ byU g u f s m:=by
  induction h with
  | refl => exact Nat.le_refl _
  | step _ ih => rw [byU_succ];omega
theorem byU_congr {g:List Rule} {u:Bool} {f f':Nat → Nat} {s:Int}:∀ {k:Nat},(∀ r,r < k → isU (rul g r) = u → (rul g r).left = s → f r = f' r) → byU g u f s k = byU g u f' s k:=by
  intro k
  induction k with
  | zero => intro _;rfl
  | succ k ih =>
    intro h;rw [byU_succ,byU_succ,ih fun r hr => h r (by omega)];split
    · rename_i hc;rw [h k (by omega) hc.1 hc.2]
    · rfl
theorem byU_le {g:List Rule} {u:Bool} {f f':Nat → Nat} {s:Int}:∀ {k:Nat},(∀ r,r < k → isU (rul g r) = u → (rul g r).left = s → f r ≤ f' r) → byU g u f s k ≤ byU g u f' s k:=by
  intro k
  induction k with
  | zero => intro _;exact Nat.le_refl _
  | succ k ih =>
    intro h;rw [byU_succ,byU_succ];have:=ih fun r hr => h r (by omega)
    split
    · rename_i hc;have:=h k (by omega) hc.1 hc.2;omega
    · omega
theorem byU_all (g:List Rule) (f:Nat → Nat) (s:Int):byU g false f s g.length + byU g true f s g.length = ((rulesOf g s).map f).sum:=by
  have key:∀ k,byU g false f s k + byU g true f s k = (((List.range k).filter fun r => decide ((rul g r).left = s)).map f).sum:=by
    intro k
    induction k with
    | zero => rfl
    | succ k ih =>
      rw [byU_succ,byU_succ,List.range_succ,List.filter_append,List.map_append,List.sum_append,← ih];by_cases hs:(rul g k).left = s
      · cases hu:isU (rul g k) <;> simp [hs] <;> omega
      · simp [hs]
  exact key _
def cp (g:List Rule) (base:Int → Nat):Nat → Int → Nat
  | 0,s => base s
  | p + 1,s => base s + byU g true (fun r => cp g base p (tgt (rul g r))) s g.length
theorem cp_le {g:List Rule} {base C:Int → Nat} (hb:∀ s,base s + byU g true (fun r => C (tgt (rul g r))) s g.length = C s):∀ p s,cp g base p s ≤ C s:=by
  intro p
  induction p with
  | zero => intro s;have:=hb s;show base s ≤ _;omega
  | succ p ih =>
    intro s;rw [cp,← hb s];have:=byU_le (g:=g) (u:=true) (s:=s) (f:=fun r => cp g base p (tgt (rul g r))) (f':=fun r => C (tgt (rul g r))) (k:=g.length) fun r _ _ _ => ih _
    omega
theorem cp_full {g:List Rule} {base C:Int → Nat} (hb:∀ s,base s + byU g true (fun r => C (tgt (rul g r))) s g.length = C s) {f:Int → Nat} (hf:∀ r,r < g.length → isU (rul g r) = true → f (tgt (rul g r)) < f (rul g r).left):∀ p s,f s ≤ p → cp g base p s = C s:=by
  intro p
  induction p with
  | zero =>
    intro s h;rw [cp,← hb s,byU_congr (f':=fun _ => 0) fun r hr hu hs => by have:=hf r hr hu;rw [hs] at this;omega];have:byU g true (fun _ => 0) s g.length = 0:=by
      unfold byU;rw [List.sum_eq_zero_iff_forall_eq_nat];intro y hy;rw [List.mem_map] at hy;obtain ⟨_,_,rfl⟩:=hy;rfl
    omega
  | succ p ih =>
    intro s h;rw [cp,← hb s,byU_congr fun r hr hu hs => ih _ (by have:=hf r hr hu;rw [hs] at this;omega)]
def unitsC (g:List Rule) (k:Nat):Nat:=((List.range k).filter fun r => isU (rul g r)).length
theorem unitsC_succ (g:List Rule) (k:Nat):unitsC g (k + 1) = unitsC g k + if isU (rul g k) = true then 1 else 0:=by
  unfold unitsC;rw [List.range_succ,List.filter_append,List.length_append];cases h:isU (rul g k) <;> simp [h]
theorem unitsC_le (g:List Rule) (k:Nat):unitsC g k ≤ k:=by
  unfold unitsC;exact Nat.le_trans (List.length_filter_le _ _) (by simp)
def rk (g:List Rule) (ρ:Int → Nat) (s:Int):Nat:=((List.range g.length).filter fun r => isU (rul g r) && decide (ρ (rul g r).left ≤ ρ s)).length
theorem filter_lt {p q:Nat → Bool}:∀ (l:List Nat),(∀ a ∈ l,p a = true → q a = true) → (∃ a ∈ l,q a = true ∧ p a = false) → (l.filter p).length < (l.filter q).length
  | [],_,h => by obtain ⟨a,ha,_⟩:=h;simp at ha
  | a :: l,h1,h2 => by
    have hle:∀ l:List Nat,(∀ a ∈ l,p a = true → q a = true) → (l.filter p).length ≤ (l.filter q).length:=by
      intro l
      induction l with
      | nil => intro _;simp
      | cons b l ih =>
        intro h;have:=ih fun a ha => h a (by simp [ha])
        cases hp:p b
        · cases hq:q b <;> simp [hp,hq] <;> omega
        · have hq:=h b (by simp) hp;simp [hp,hq];omega
    have h3:=hle l fun b hb => h1 b (by simp [hb])
    obtain ⟨b,hb,hq,hp⟩:=h2;rcases List.mem_cons.1 hb with rfl | hb
    · simp [hp,hq];omega
    · have:=filter_lt l (fun c hc => h1 c (by simp [hc])) ⟨b,hb,hq,hp⟩;cases hpa:p a
      · cases hqa:q a <;> simp [hpa,hqa] <;> omega
      · have hqa:=h1 a (by simp) hpa;simp [hpa,hqa];omega
theorem rk_dec {g:List Rule} {ρ:Int → Nat} (hR:Ranked g ρ):∀ r,r < g.length → isU (rul g r) = true → rk g ρ (tgt (rul g r)) < rk g ρ (rul g r).left:=by
  intro r hr hu;obtain ⟨x,h1,h2,h3⟩:=isU_iff.1 hu;have hd:=hR.dec r hr x h1 h2;rw [h3];refine filter_lt _ (fun a _ h => ?_) ⟨r,List.mem_range.2 hr,?_,?_⟩
  · simp only [Bool.and_eq_true,decide_eq_true_eq] at h ⊢;exact ⟨h.1,by omega⟩
  · simp [hu]
  · simp [hu];omega
theorem rk_le (g:List Rule) (ρ:Int → Nat) (s:Int):rk g ρ s ≤ unitsC g g.length:=by
  unfold rk unitsC;have:∀ l:List Nat,(l.filter fun r => isU (rul g r) && decide (ρ (rul g r).left ≤ ρ s)).length ≤ (l.filter fun r => isU (rul g r)).length:=by
    intro l
    induction l with
    | nil => simp
    | cons b l ih =>
      cases hp:isU (rul g b)
      · simpa [hp] using ih
      · by_cases hq:ρ (rul g b).left ≤ ρ s
        · simp [hp,hq];exact ih
        · simp [hp,hq];omega
  exact this _
theorem cp_end {g:List Rule} {ρ:Int → Nat} (hR:Ranked g ρ) {base C:Int → Nat} (hb:∀ s,base s + byU g true (fun r => C (tgt (rul g r))) s g.length = C s) (s:Int):cp g base (min (unitsC g g.length) 63) s = C s:=by
  rcases Nat.lt_or_ge (unitsC g g.length) 63 with h | h
  · rw [Nat.min_eq_left (by omega)];exact cp_full hb (rk_dec hR) _ s (rk_le g ρ s)
  · rw [Nat.min_eq_right h];refine cp_full hb (f:=ρ) (fun r hr hu => ?_) _ s (hR.le s);obtain ⟨x,h1,h2,h3⟩:=isU_iff.1 hu;rw [h3];exact hR.dec r hr x h1 h2
theorem cnt_split {g:List Rule} {ρ:Int → Nat} (hR:Ranked g ρ) (hit:Nat → Int → Bool) (n:Nat) (i j:Nat) (hij:i < j) (h:j - i ≤ n) (s:Int) :
    byU g false (fun r => ways g hit n (rul g r).right i j) s g.length + byU g true (fun r => cnt g hit n (tgt (rul g r)) i j) s g.length = cnt g hit n s i j:=by
  rw [cnt_eq hR hit n s i j h,← byU_all];congr 1;refine byU_congr fun r _ hu _ => ?_
  obtain ⟨x,h1,h2,h3⟩:=isU_iff.1 hu;rw [h1,h3,ways_one h2 hij]
end Gr
end
section
/- The reference's table while it is filled: what is in it, and what a rule gives by it. -/
namespace Go.Proofs.Ytdbfiflmeiidjaa
open Go Go.RowKit
def fstF (g:List Gr.Rule) (hit:Nat → Int → Bool) (nt lg fr:Nat):Nat → Nat → Nat → Nat:=fun s i j => if i < j ∧ (j - i < lg ∨ (j - i = lg ∧ i < fr)) then Gr.cnt g hit nt (s:Int) i j else 0
theorem fst_zero (g:List Gr.Rule) (hit:Nat → Int → Bool) (nt s i j:Nat):fstF g hit nt 1 0 s i j = 0:=by unfold fstF;rw [if_neg (by omega)]
theorem fst_next (g:List Gr.Rule) (hit:Nat → Int → Bool) {nt lg fr:Nat} (h:fr + lg = nt + 1) (s i j:Nat) (hj:j ≤ nt):fstF g hit nt lg fr s i j = fstF g hit nt (lg + 1) 0 s i j:=by
  unfold fstF;by_cases h1:i < j ∧ (j - i < lg ∨ (j - i = lg ∧ i < fr))
  · rw [if_pos h1,if_pos (by omega)]
  · rw [if_neg h1,if_neg (by omega)]
theorem fst_le (g:List Gr.Rule) (hit:Nat → Int → Bool) (nt lg fr s i j:Nat):fstF g hit nt lg fr s i j ≤ Gr.cnt g hit nt (s:Int) i j:=by
  unfold fstF;split
  · exact Nat.le_refl _
  · exact Nat.zero_le _
theorem itemN_le {X:TX} {g:List Gr.Rule} {nt:Nat} {F:Nat → Nat → Nat → Nat} (hF:∀ s a b,F s a b ≤ Gr.cnt g (hitf X.tk) nt (s:Int) a b) {x:Gr.Item} (hs:0 ≤ x.sym) (a b:Nat) :
    itemN X F x a b ≤ Gr.itD (hitf X.tk) (fun s a b => (Gr.D g (hitf X.tk) nt s a b).length) x a b:=by
  unfold itemN Gr.itD;split
  · have:=hF x.sym.toNat a b;rw [Int.toNat_of_nonneg hs] at this;exact this
  · exact Nat.le_refl _
theorem itD_lt {g:List Gr.Rule} {ρ:Int → Nat} (hR:Gr.Ranked g ρ) (hl:g.length ≤ 200) (hit:Nat → Int → Bool) {nt:Nat} (hfit:Gr.Fit g nt) (x:Gr.Item) (a b:Nat) (hb:b ≤ nt):(Nt.limbs (Gr.itD hit (fun s a b => (Gr.D g hit nt s a b).length) x a b)).length ≤ 1024:=by
  refine Gr.limbs_fit fun N hN => ?_
  unfold Gr.itD;split
  · exact Gr.cnt_fit hR (by omega) hit nt x.sym a b hfit (by omega) (by omega) hN
  · have:(2:Nat) ^ 1 < 2 ^ N:=Nat.pow_lt_pow_right (by omega) (by omega);split <;> omega
theorem ways_rule {X:TX} {M:Nat → Prop} {w:World} {g:List Gr.Rule} {tk:List Int} {nt lg fr tt:Nat} {F:Nat → Nat → Nat → Nat} (hT:Tbl X M F w) (hM:∀ k,M k → k < w.heap.size)
    (hF:∀ s a b,F s a b ≤ Gr.cnt g (hitf tk) nt (s:Int) a b) (hFe:∀ s a b,a < b → b - a < lg → F s a b = Gr.cnt g (hitf tk) nt (s:Int) a b)
    (htk:X.tk = tk) (hnt:X.nt = nt) (hG:Gr.Good g) (hW:WfR g) (hfit:Gr.Fit g nt) (r:Nat) (hr:r < g.length) (hu:Gr.isU (Gr.rul g r) = false) (hto:fr + lg = tt) (hton:tt ≤ nt) (A:Option Addr) (c:Nat) (hI:Kt.Items w w.heap.size A (Gr.rul g r).right) :
    Calls Try.prog 48 #[.pointer (some ⟨X.tb,0,none⟩),.slice A (Gr.rul g r).right.length c,.int .i64 (fr:Int),.int .i64 (tt:Int)] w
      fun e w' => ∃ v,e = .returned v ∧ Kt.Num w' w.heap.size v (Gr.ways g (hitf tk) nt (Gr.rul g r).right fr tt) ∧ Below w.heap.size w w':=by
  subst htk;subst hnt;obtain ⟨ρ,hR⟩:=hG.ranked;obtain ⟨_,hl1,hl8,hits⟩:=(hG.ok r hr).parts;have hwf:=hW r hr;obtain ⟨l,hl⟩:∃ l,(Gr.rul g r).right = l:=⟨_,rfl⟩;have hul:∀ x,l = [x] → x.cls ≠ 0:=fun x e hc => by
    have:=(Gr.isU_iff (r:=Gr.rul g r)).2 ⟨x,by rw [hl,e],hc,by unfold Gr.tgt;rw [hl,e]⟩;rw [this] at hu;cases hu
  rw [hl] at hl1 hl8 hits hwf hI ⊢;have hfl:=hfit.le;have e1:Gr.wN (itemN X F) (tt + 1) l fr tt = Gr.ways g (hitf X.tk) X.nt l fr tt:=by
    unfold Gr.ways;rw [← Gr.wN_parts (hitf X.tk) (Gr.D g (hitf X.tk) X.nt) (N:=tt + 1) l fr tt (by omega)];refine Gr.wN_agree l fr tt fun x hx a b h1 h2 h3 h4 => ?_
    unfold itemN Gr.itD;by_cases hc:x.cls = 0
    · rw [if_pos hc,if_pos hc];have hne:¬ l.length = 1:=fun e => by
        obtain ⟨y,hy⟩:=List.length_eq_one_iff.1 e;have:x = y:=by rw [hy] at hx;simpa using hx
        exact hul y hy (by rw [← this];exact hc)
      have:=hFe x.sym.toNat a b h2 (by have:=h4.resolve_right hne;omega);rw [Int.toNat_of_nonneg (hits x hx).1.1] at this;exact this
    · rw [if_neg hc,if_neg hc]
  have hle:∀ x ∈ l,∀ a b,itemN X F x a b ≤ Gr.itD (hitf X.tk) (fun s a b => (Gr.D g (hitf X.tk) X.nt s a b).length) x a b:=fun x hx a b => itemN_le hF (hits x hx).1.1 a b
  refine (ways_any hT hM l A l.length c rfl (by omega) hI (fun x hx => ⟨(hits x hx).1,hwf x hx⟩) fr tt (by omega) hton (by omega) (fun k b _ hb => ?_) (fun x hx a b _ hb => ?_)).mono ?_
  · refine Nat.le_trans (num_le (Gr.wN_le (l.take k) fr b fun x hx a b' _ _ => hle x (List.mem_of_mem_take hx) a b') (Gr.limbs_fit fun N hN => ?_)) (show 1024 ≤ 1500 by omega);rw [Gr.wN_parts _ _ _ _ _ (by omega)];exact Gr.ways_fit hR (by have:=hG.len;omega) _ X.nt (l.take k) fr b hfit (by omega) (by omega) hN
  · exact Nat.le_trans (num_le (hle x hx a b) (itD_lt hR hG.len _ hfit x a b (by omega))) (by omega)
  · rintro e w' ⟨v,he,hv,hb⟩;exact ⟨v,he,by rw [← e1];exact hv,hb⟩
def colF (F:Nat → Nat → Nat → Nat) (i j:Nat) (c:Nat → Nat):Nat → Nat → Nat → Nat:=fun s i' j' => if i' = i ∧ j' = j then c s else F s i' j'
def cpv (g:List Gr.Rule) (bs:Int → Nat):Nat → Int → Nat
  | 0,_ => 0
  | p + 1,s => Gr.cp g bs p s
theorem byU_none (g:List Gr.Rule) (s:Int) (k:Nat):Gr.byU g true (fun _ => 0) s k = 0:=by
  unfold Gr.byU;rw [List.sum_eq_zero_iff_forall_eq_nat];intro y hy;rw [List.mem_map] at hy;obtain ⟨_,_,rfl⟩:=hy;rfl
theorem cpv_succ (g:List Gr.Rule) (bs:Int → Nat) (p:Nat) (s:Int):bs s + Gr.byU g true (fun r => cpv g bs p (Gr.tgt (Gr.rul g r))) s g.length = cpv g bs (p + 1) s:=by
  cases p with
  | zero =>
    show bs s + Gr.byU g true (fun _ => 0) s g.length = bs s;rw [byU_none,Nat.add_zero]
  | succ p => rfl
theorem cpv_le {g:List Gr.Rule} {bs C:Int → Nat} (hb:∀ s,bs s + Gr.byU g true (fun r => C (Gr.tgt (Gr.rul g r))) s g.length = C s) (p:Nat) (s:Int):cpv g bs p s ≤ C s:=by
  cases p with
  | zero => exact Nat.zero_le _
  | succ p => exact Gr.cp_le hb p s
theorem col_zero (g:List Gr.Rule) (hit:Nat → Int → Bool) (nt lg fr:Nat) (bs:Int → Nat) (s i j:Nat):fstF g hit nt lg fr s i j = colF (fstF g hit nt lg fr) fr (fr + lg) (fun s => cpv g bs 0 (s:Int)) s i j:=by
  unfold colF;split
  · rename_i h;obtain ⟨rfl,rfl⟩:=h;unfold fstF;rw [if_neg (by omega)];rfl
  · rfl
theorem col_next (g:List Gr.Rule) (hit:Nat → Int → Bool) (nt lg fr:Nat) (hlg:1 ≤ lg) (c:Nat → Nat) (hc:∀ s,s < 64 → c s = Gr.cnt g hit nt (s:Int) fr (fr + lg)) (s i j:Nat) (hs:s < 64):colF (fstF g hit nt lg fr) fr (fr + lg) c s i j = fstF g hit nt lg (fr + 1) s i j:=by
  unfold colF;split
  · rename_i h;obtain ⟨rfl,rfl⟩:=h;unfold fstF;rw [if_pos (by omega),hc s hs]
  · rename_i h;unfold fstF;by_cases h1:i < j ∧ (j - i < lg ∨ (j - i = lg ∧ i < fr))
    · rw [if_pos h1,if_pos (by omega)]
    · rw [if_neg h1,if_neg (by omega)]
theorem col_put (F:Nat → Nat → Nat → Nat) (i j s0:Nat) (a b:Nat → Nat) (s i' j':Nat):upF (colF F i j (fun s => if s < s0 then b s else a s)) s0 i j (b s0) s i' j' = colF F i j (fun s => if s < s0 + 1 then b s else a s) s i' j':=by
  unfold upF colF;by_cases h:i' = i ∧ j' = j
  · rw [if_pos h];by_cases e:s = s0
    · subst e;rw [if_pos ⟨rfl,h⟩,if_pos h];show b s = if s < s + 1 then b s else a s
      rw [if_pos (by omega)]
    · rw [if_neg (fun h2 => e h2.1),if_pos h];show (if s < s0 then b s else a s) = if s < s0 + 1 then b s else a s
      by_cases e2:s < s0
      · rw [if_pos e2,if_pos (by omega)]
      · rw [if_neg e2,if_neg (by omega)]
  · rw [if_neg h,if_neg (fun h2 => h h2.2),if_neg h]
theorem NArr.copy {w:World} {bb n:Nat} {M:Nat → Prop} {G:Nat → Nat} (h:NArr w bb M n G) {T:TypeId} {cs:Array Value} (hB:Kt.Blk w bb T cs) (hn:cs.size = n) (T':TypeId):NArr (w.alloc (.cells cs T')) w.heap.size (fun k => M k ∨ k = w.heap.size) n G:=by
  have hb:=Kt.Blk.new w T' cs;refine ⟨hb.lt,.inr rfl,fun j => hb.frozen j,fun j hj => ?_,⟨T',cs,hb,hn⟩⟩;obtain ⟨v,hv,hnm⟩:=h.cell j hj;rw [hB.cell] at hv;exact ⟨v,(hb.cell j).trans hv,nm_alloc hnm _⟩
theorem NArr.ones {w:World} {bb n:Nat} {M:Nat → Prop} {G:Nat → Nat} (h:NArr w bb M n G) {T:TypeId} {cs:Array Value} (hB:Kt.Blk w bb T cs) (hn:cs.size = n):cs.all (·.oneCell') = true:=by
  rw [Array.all_eq_true];intro j hj;obtain ⟨v,hv,A,c,e,_⟩:=h.cell j (by omega);rw [hB.cell,Array.getElem?_eq_getElem hj] at hv;injection hv with hv;rw [hv,e];rfl
end Go.Proofs.Ytdbfiflmeiidjaa
end
