/- Joined: LiC. -/
import Derived.Test.YtdbfiflmeiidjaaSa35
section
/- The limits' chain of rules, and many rules alike. -/
namespace Gr
def chG (n:Nat):List Rule:=(List.range n).map fun (i:Nat) => ⟨(i:Int),[⟨0,(i:Int) + 1⟩]⟩
theorem chG_len (n:Nat):(chG n).length = n:=by simp [chG]
theorem chG_succ (n:Nat):chG n ++ [⟨(n:Int),[⟨0,(n:Int) + 1⟩]⟩] = chG (n + 1):=by
  unfold chG;rw [List.range_succ,List.map_append];rfl
theorem chG_rul {n r:Nat} (h:r < n):rul (chG n) r = ⟨(r:Int),[⟨0,(r:Int) + 1⟩]⟩:=by
  unfold rul chG;rw [List.getD_eq_getElem?_getD];simp [h]
theorem chG_good {n:Nat} (h:n ≤ 63):Good (chG n):=⟨by rw [chG_len];omega,fun r hr => by
  rw [chG_len] at hr;rw [chG_rul hr];have h1:symOk (r:Int) = true:=by unfold symOk;simp;omega
  have h2:symOk ((r:Int) + 1) = true:=by unfold symOk;simp;omega
  unfold RuleOk ruleE;rw [if_neg (by simp [h1]),if_neg (by simp)];simp [itemOk,h2],fun s => if 0 ≤ s ∧ s ≤ 63 then (63 - s).toNat else 0,⟨fun s => by split <;> omega,fun r hr x hx hc => by
  rw [chG_len] at hr;rw [chG_rul hr] at hx ⊢;obtain rfl:x = ⟨0,(r:Int) + 1⟩:=by injection hx with h;exact h.symm
  show (if 0 ≤ (r:Int) + 1 ∧ (r:Int) + 1 ≤ 63 then (63 - ((r:Int) + 1)).toNat else 0) < if 0 ≤ (r:Int) ∧ (r:Int) ≤ 63 then (63 - (r:Int)).toNat else 0
  rw [if_pos (by omega),if_pos (by omega)];omega⟩⟩
def smG (n:Nat):List Rule:=List.replicate n ⟨0,[⟨1,0⟩]⟩
theorem smG_len (n:Nat):(smG n).length = n:=by simp [smG]
theorem smG_succ (n:Nat):smG n ++ [⟨0,[⟨1,0⟩]⟩] = smG (n + 1):=by
  unfold smG;rw [List.replicate_succ']
theorem smG_rul {n r:Nat} (h:r < n):rul (smG n) r = ⟨0,[⟨1,0⟩]⟩:=by
  unfold rul smG;rw [List.getD_eq_getElem?_getD];simp [h]
end Gr
namespace Go.Proofs.Ytdbfiflmeiidjaa
open Go Go.RowKit
theorem chG_wf (n:Nat):WfR (Gr.chG n):=fun r hr x hx => by
  rw [Gr.chG_len] at hr;rw [Gr.chG_rul hr] at hx;exact one_wf (cls:=0) (sym:=(r:Int) + 1) (by decide) x hx
theorem smG_wf (n:Nat):WfR (Gr.smG n):=fun r hr x hx => by
  rw [Gr.smG_len] at hr;rw [Gr.smG_rul hr] at hx;exact one_wf (cls:=1) (sym:=0) (by decide) x hx
theorem chG_items (n:Nat):∀ r,r < (Gr.chG n).length → (Gr.rul (Gr.chG n) r).right.length ≤ 1000:=fun r hr => by
  rw [Gr.chG_len] at hr;rw [Gr.chG_rul hr];exact Nat.le_of_ble_eq_true rfl
theorem smG_items (n:Nat):∀ r,r < (Gr.smG n).length → (Gr.rul (Gr.smG n) r).right.length ≤ 1000:=fun r hr => by
  rw [Gr.smG_len] at hr;rw [Gr.smG_rul hr];exact Nat.le_of_ble_eq_true rfl
variable {w w2 wa:World} {base n:Nat} {v:Value} {g:List Gr.Rule} {V:Nat → Value}
theorem AR.ownN (h:AR w base v g V) (hn:g.length = n):w.ownsRow base 29 2 v n (flatV V g):=by
  subst hn;exact h.own
theorem AR.lower {base':Nat} (h:AR w base v g V) (hb:base' ≤ base):AR w base' v g V:=⟨⟨h.own.1,by
  rcases h.own.2 with h2 | ⟨gb,cap,cur,e,h3,h4⟩
  · exact .inl h2
  · exact .inr ⟨gb,cap,cur,e,Nat.le_trans hb h3,h4⟩⟩,h.its⟩
theorem AR.grownN (h:AR w base v g V) (hn:g.length = n) (hgr:w.grownBy w2 v.ownBlock) (hown:w2.ownsRow base 29 2 v n (flatV V g)):AR w2 base v g V:=by
  subst hn;exact h.grown hgr hown
theorem AR.snocN {x:Gr.Rule} {H c gg cap k:Nat} {lf:Int} (h:AR w base v g V) (hn:g.length = n) (hlf:x.left = lf) (hk:x.right.length = k) (hown:w2.ownsRow base 29 2 (.slice (some ⟨gg,0,none⟩) (n + 1) cap) (n + 1) (flatV V g ++ [.int .i64 lf,.slice (some ⟨H,0,none⟩) k c]))
    (hgr:w.grownBy w2 v.ownBlock) (hat:v.ownBlock = some gg ∨ gg = w.heap.size) (hit:Kt.Items w w.heap.size (some ⟨H,0,none⟩) x.right) (hA:v.ownBlock ≠ some H) (hx:k ≤ 1000) :
    ∃ V',AR w2 base (.slice (some ⟨gg,0,none⟩) (n + 1) cap) (g ++ [x]) V':=by
  subst hn hlf hk;exact ⟨_,h.snoc hown hgr hat hit (fun _ b o m e => by
    injection e with e;injection e with e _ _;subst e;exact hA) hx⟩
theorem AR.fresh {H:Nat} (h:AR w base v g V) (hH:w.heap.size ≤ H):v.ownBlock ≠ some H:=fun e => by
  have:=(h.own.lt H e).2;omega
theorem Kt.item_blk {w0 w1:World} {T:TypeId} {cls sym:Int} (hb:Below (w0.alloc (.cells #[.int .u16 cls,.int .i64 sym] T)).heap.size (w0.alloc (.cells #[.int .u16 cls,.int .i64 sym] T)) w1):Kt.Items w1 w1.heap.size (some ⟨w0.heap.size,0,none⟩) [⟨cls,sym⟩]:=by
  have k:=Kt.Blk.new w0 T #[.int .u16 cls,.int .i64 sym];exact (Kt.Items.one k.lt (k.cell 0) (k.cell 1)).on hb
theorem AR.ready {wo w1:World} {cls sym lf:Int} (h:AR wo base v g V) (hn:g.length = n) (hb:Below (wo.alloc (.cells #[.int .u16 cls,.int .i64 sym] 24)).heap.size (wo.alloc (.cells #[.int .u16 cls,.int .i64 sym] 24)) w1)
    (hwa:w1.alloc (.cells #[.int .i64 lf,.slice (some ⟨wo.heap.size,0,none⟩) 1 1] 29) = wa):AR wa base v g V ∧ wa.ownsRow base 29 2 v n (flatV V g) ∧ Kt.Blk wa w1.heap.size 29 #[.int .i64 lf,.slice (some ⟨wo.heap.size,0,none⟩) 1 1] ∧
    Kt.Items wa wa.heap.size (some ⟨wo.heap.size,0,none⟩) [⟨cls,sym⟩] ∧ v.ownBlock ≠ some wo.heap.size ∧ Below wo.heap.size wo wa:=by
  have hb1:Below wo.heap.size wo w1:=((Below.refl _ _).alloc (Nat.le_refl _) _).trans (hb.mono (by simp));have hb2:Below w1.heap.size w1 wa:=by rw [← hwa];exact (Below.refl _ _).alloc (Nat.le_refl _) _
  have hb3:=hb1.trans (hb2.mono hb1.size);have h2:=h.below hb3;exact ⟨h2,h2.ownN hn,by rw [← hwa];exact Kt.Blk.new _ _ _,(Kt.item_blk hb).on hb2,h.fresh (Nat.le_refl _),hb3⟩
end Go.Proofs.Ytdbfiflmeiidjaa
end
