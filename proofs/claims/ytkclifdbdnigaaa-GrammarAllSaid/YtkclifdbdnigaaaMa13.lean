/- Joined: Rgx, Frame, FrG. -/
import Derived.Test.YtkclifdbdnigaaaMa02
import Derived.Test.YtkclifdbdnigaaaMa11
import Derived.Test.YtkclifdbdnigaaaMa01
import Derived.ProofKit
import Derived.OpenShut
import Derived.ChangeSame
import Derived.SizedLaws
import Derived.LaidLaws
import Derived.LaidMore
import Derived.Lib.LaidTab
import Derived.Test.YtkclifdbdnigaaaMa06
import Derived.Deep.SlicePairs
section
/- A region that draws its order, by an invariant: each operation is walked once; results are predicates, what the region may write is a state, operations may be guarded. -/
namespace Kt
open Go Go.RowKit
/-- The world has grown, and has turned in the blocks of X alone. -/
structure Kp (X : Nat → Prop) (W w : World) : Prop where
  os : w.os = W.os
  tape : w.tape = W.tape
  output : w.output = W.output
  size : W.heap.size ≤ w.heap.size
  same : ∀ k, k < W.heap.size → ¬ X k → w.heap[k]? = W.heap[k]?
section
variable {X : Nat → Prop} {W w w' : World}
theorem Kp.refl (X : Nat → Prop) (W : World) : Kp X W W := ⟨rfl, rfl, rfl, Nat.le_refl _, fun _ _ _ => rfl⟩
theorem Kp.drew (X : Nat → Prop) (W : World) : Kp X W W.drew := ⟨rfl, rfl, rfl, Nat.le_refl _, fun _ _ _ => rfl⟩
theorem Kp.trans (h : Kp X W w) (k : Kp X w w') : Kp X W w' := ⟨k.os.trans h.os, k.tape.trans h.tape, k.output.trans h.output, Nat.le_trans h.size k.size, fun i hi hn => (k.same i (Nat.lt_of_lt_of_le hi h.size) hn).trans (h.same i hi hn)⟩
theorem Kp.below (X : Nat → Prop) (h : Below W.heap.size W w) : Kp X W w := ⟨h.os, h.tape, h.output, h.size, fun k hk _ => h.block k hk⟩
theorem Kp.grown {row : Option Nat} (h : W.grownBy w row) (hr : ∀ k, row = some k → X k) : Kp X W w := ⟨h.os, h.tape, h.output, h.size, fun k hk hn => h.block k hk fun e => hn (hr k e.symm)⟩
theorem Kp.alloc (X : Nat → Prop) (W : World) (o : Obj) : Kp X W (W.alloc o) := Kp.below X ((Below.refl _ _).alloc (Nat.le_refl _) _)
theorem Kp.set {p : Addr} (hp : X p.block) (v : Value) : Kp X W (W.setCell p v) := ⟨rfl, rfl, rfl, by simp, fun k _ hn => Below.heap_setCell _ p v k fun e => hn (by rw [e]; exact hp)⟩
theorem Kp.cell (h : Kp X W w) {p : Addr} (hb : p.block < W.heap.size) (hX : ¬ X p.block) : w.cell? p = W.cell? p := World.cell?_of_block (h.same _ hb hX)
theorem Kp.frozen (h : Kp X W w) {p : Addr} (hb : p.block < W.heap.size) (hX : ¬ X p.block) : w.frozen? p = W.frozen? p := World.frozen?_of_block (h.same _ hb hX)
theorem Kp.to_below {B : Nat} (h : Kp X W w) (hB : B ≤ W.heap.size) (hX : ∀ k, k < B → ¬ X k) : Below B W w := ⟨h.os, h.tape, h.output, h.size, fun k hk => h.same k (by omega) (hX k hk)⟩
theorem Kp.more {X' : Nat → Prop} (h : Kp X W w) (hX : ∀ k, X k → X' k) : Kp X' W w := ⟨h.os, h.tape, h.output, h.size, fun k hk hn => h.same k hk fun e => hn (hX k e)⟩
end
structure RxP where
  N : Nat
  slot : Nat → Nat
  S : List Nat
  a0 : Act
  W : World
  X : Nat → Prop
  R : Nat → Value → World → Prop
  Z : (Nat → Bool) → (Nat → Value) → World → Prop
structure RxOk (p : RxP) : Prop where
  inj : ∀ i, i < p.N → ∀ j, j < p.N → p.slot i = p.slot j → i = j
  stable : ∀ j v w w', p.R j v w → Kp p.X w w' → p.R j v w'
def lis (listed : Array Bool) : Nat → Bool := fun j => listed.getD j false
def vals (p : RxP) (act : Act) : Nat → Value := fun j => if j < p.N then val act (p.slot j) else undef
def upL (L : Nat → Bool) (j : Nat) : Nat → Bool := fun i => if i = j then true else L i
def upV (V : Nat → Value) (j : Nat) (v : Value) : Nat → Value := fun i => if i = j then v else V i
structure RxI (p : RxP) (listed : Array Bool) (act : Act) (w : World) : Prop where
  size : listed.size = p.N
  frame : Fr p.S p.a0 act
  kept : Kp p.X p.W w
  res : ∀ j, j < p.N → listed.getD j false = true → p.R j (val act (p.slot j)) w
  st : p.Z (lis listed) (vals p act) w
variable {p : RxP} {listed : Array Bool} {act : Act} {w w' : World}
theorem RxI.start (hZ : p.Z (fun _ => false) (vals p p.a0) p.W.drew) : RxI p (Array.replicate p.N false) p.a0 p.W.drew := by
  have hf : ∀ j, (Array.replicate p.N false).getD j false = false := fun j => by
    by_cases hj : j < p.N <;> simp [hj]
  refine ⟨by simp, Fr.refl _ _, Kp.drew _ _, fun j _ hl => ?_, ?_⟩
  · rw [hf] at hl; cases hl
  · rw [show lis (Array.replicate p.N false) = fun _ => false from funext hf]
    exact hZ
theorem lis_set {j : Nat} (hj : j < listed.size) : lis (listed.setIfInBounds j true) = upL (lis listed) j := by
  funext i
  unfold upL
  by_cases e : i = j
  · subst e; rw [if_pos rfl]; exact getD_same hj
  · rw [if_neg e]; exact getD_setL (fun e2 => e e2.symm)
theorem RxI.put (ok : RxOk p) (h : RxI p listed act w) {j s : Nat} {v : Value} (hj : j < p.N) (hs : s = p.slot j) (hm : s ∈ p.S) (hlt : s < p.a0.tmps.size) (hk : Kp p.X w w') (hR : p.R j v w')
    (hZ : p.Z (upL (lis listed) j) (upV (vals p act) j v) w') : RxI p (listed.setIfInBounds j true) (act.put (some s) v) w' := by
  subst hs
  have hv : val (act.put (some (p.slot j)) v) (p.slot j) = v := val_put (by rw [h.frame.2.1]; exact hlt) v
  have hne : ∀ i, i < p.N → i ≠ j → val (act.put (some (p.slot j)) v) (p.slot i) = val act (p.slot i) := fun i hi hij => val_put_ne (fun e => hij (ok.inj _ hj _ hi e).symm) v
  refine ⟨by simp [h.size], h.frame.put hm v, h.kept.trans hk, fun i hi hl => ?_, ?_⟩
  · by_cases e : i = j
    · subst e; rw [hv]; exact hR
    · rw [hne i hi e]
      rw [getD_setL (fun e2 => e e2.symm)] at hl
      exact ok.stable _ _ _ _ (h.res i hi hl) hk
  · rw [lis_set (by rw [h.size]; exact hj)]
    have e : vals p (act.put (some (p.slot j)) v) = upV (vals p act) j v := by
      funext i
      unfold vals upV
      by_cases e : i = j
      · subst e; rw [if_pos hj, if_pos rfl, hv]
      · rw [if_neg e]
        by_cases hi : i < p.N
        · show (if i < p.N then _ else _) = if i < p.N then _ else _
          rw [if_pos hi, if_pos hi, hne i hi e]
        · show (if i < p.N then _ else _) = if i < p.N then _ else _
          rw [if_neg hi, if_neg hi]
    rw [e]
    exact hZ
/-- An operation without a result (a store). -/
theorem RxI.store (ok : RxOk p) (h : RxI p listed act w) {j : Nat} (hj : j < p.N) (hk : Kp p.X w w') (hR : p.R j (val act (p.slot j)) w')
    (hZ : p.Z (upL (lis listed) j) (vals p act) w') : RxI p (listed.setIfInBounds j true) act w' := by
  refine ⟨by simp [h.size], h.frame, h.kept.trans hk, fun i hi hl => ?_, ?_⟩
  · by_cases e : i = j
    · subst e; exact hR
    · rw [getD_setL (fun e2 => e e2.symm)] at hl
      exact ok.stable _ _ _ _ (h.res i hi hl) hk
  · rw [lis_set (by rw [h.size]; exact hj)]
    exact hZ
/-- What a result is, for a slot that is known. -/
theorem RxI.get (h : RxI p listed act w) {j s : Nat} (hj : j < p.N) (hs : s = p.slot j) (hl : listed.getD j false = true) : p.R j (act.tmps[s]?.getD undef) w := by
  subst hs
  rw [← val_get]
  exact h.res j hj hl
theorem RxI.eq (h : RxI p listed act w) {j s : Nat} {v : Value} (hj : j < p.N) (hs : s = p.slot j) (hv : ∀ u w, p.R j u w → u = v) (hl : listed.getD j false = true) : act.tmps[s]?.getD undef = v := hv _ _ (h.get hj hs hl)
theorem RxI.cell (h : RxI p listed act w) {b o : Nat} {v : Value} (hb : b < p.W.heap.size) (hX : ¬ p.X b) (hc : p.W.cell? ⟨b, o, none⟩ = some v) : w.cell? ⟨b, o, none⟩ = some v := (h.kept.cell (p := ⟨b, o, none⟩) hb hX).trans hc
/-- A call: what it leaves, then the step. -/
theorem op_opc {P : Program} {o : Oper} {act : Act} {w : World} {Q : Exit → Act → World → Prop} {s : Nat} {G : Act → World → Prop} (R : Value → World → Prop)
    (H : ∀ KK : Act → World → Prop, (∀ v w', R v w' → KK (act.put (some s) v) w') → Oper.wp P o act w KK Q) (hk : ∀ v w', R v w' → G (act.put (some s) v) w') : Oper.wp P o act w G Q := H G hk
/-- A region that leaves the world alone up to its last operation m, which comes behind the first m0. -/
def stillZ (m m0 : Nat) (W w' : World) (L : Nat → Bool) (_ : Nat → Value) (w : World) : Prop := (L m = false → w = W.drew) ∧ (L m = true → w = w' ∧ ∀ j, j < m0 → L j = true)
theorem still_start {m m0 : Nat} {W w' : World} {V : Nat → Value} : stillZ m m0 W w' (fun _ => false) V W.drew := ⟨fun _ => rfl, fun q => by cases q⟩
theorem still_at {m m0 j : Nat} {W w' : World} {V : Nat → Value} (h : stillZ m m0 W w' (lis listed) V w) (hj : j < m0) (hn : listed.getD j true = false) : w = W.drew := by
  cases hm : lis listed m with
  | false => exact h.1 hm
  | true =>
    have := (h.2 hm).2 j hj
    rw [show lis listed j = false from getD_no hn] at this
    cases this
theorem still_up {m m0 j : Nat} {W w' : World} {V V' : Nat → Value} (h : stillZ m m0 W w' (lis listed) V w) (hj : j ≠ m) : stillZ m m0 W w' (upL (lis listed) j) V' w := by
  have e : upL (lis listed) j m = lis listed m := by unfold upL; rw [if_neg (fun e => hj e.symm)]
  refine ⟨fun q => h.1 (by rw [← e]; exact q), fun q => ?_⟩
  rw [e] at q
  refine ⟨(h.2 q).1, fun i hi => ?_⟩
  unfold upL
  split
  · rfl
  · exact (h.2 q).2 i hi
theorem still_last {m m0 : Nat} {W w' : World} {V' : Nat → Value} (hall : ∀ j, j < m0 → listed.getD j false = true) : stillZ m m0 W w' (upL (lis listed) m) V' w' := by
  have e : upL (lis listed) m m = true := by unfold upL; rw [if_pos rfl]
  refine ⟨fun q => (by rw [e] at q; cases q), fun _ => ⟨rfl, fun j hj => ?_⟩⟩
  unfold upL
  split
  · rfl
  · exact hall j hj
theorem wp_any_act {P : Program} {c : Code} {Q : Exit → Act → World → Prop} {a : Act} {w : World} (h : ∀ a0, a0 = a → c.wp P Q a0 w) : c.wp P Q a w := h a rfl
/-! ### Guards -/
section
variable {P : Program} {md : Region.Mode} {ops : Array Oper} {Q : Exit → Act → World → Prop} {F : Fence} {n : Nat}
theorem wpAny_inv2 (I : Array Bool → Act → World → Prop)
    (hstep : ∀ listed a w i o, I listed a w → ops[i]? = some o → listed.getD i true = false → (∀ e ∈ o.after, Region.binds md e = true → listed.getD e.on false = true) →
      if Region.wanted o (yielded ops a.tmps) = true then Oper.wp P o a w (fun a' w' => I (listed.setIfInBounds i true) a' w') Q else I (listed.setIfInBounds i true) (a.put o.dst undef) w)
    (hdone : ∀ listed a w, I listed a w → Region.ready md ops listed = [] → Q .normal a w) :
    ∀ (fuel : Nat) (listed : Array Bool) (a : Act) (w : World), unl listed ≤ fuel → I listed a w → wpAny P md ops Q fuel listed a w := by
  intro fuel
  induction fuel with
  | zero =>
    intro listed a w hu hI
    have hr : Region.ready md ops listed = [] := by
      refine List.eq_nil_iff_forall_not_mem.2 fun i hi => ?_
      have := unl_set (mem_ready.1 hi).1
      omega
    exact ⟨hr, hdone _ _ _ hI hr⟩
  | succ fuel ih =>
    intro listed a w hu hI
    refine ⟨fun hr => hdone _ _ _ hI hr, fun i hi => ?_⟩
    obtain ⟨h1, o, ho, h2⟩ := mem_ready.1 hi
    have h3 := unl_set h1
    have hs := hstep listed a w i o hI ho h1 h2
    unfold wpOp
    rw [ho]
    by_cases hw : Region.wanted o (yielded ops a.tmps) = true
    · simp only [hw, if_true] at hs ⊢
      exact .inl (Oper.wp_mono (fun a' w' h => ih _ a' w' (by omega) h) hs)
    · rw [if_neg hw] at hs
      simp only [hw]
      exact ih _ _ _ (by omega) hs
theorem region_inv2 {id : Nat} {a : Act} {w : World} (I : Array Bool → Act → World → Prop) (hm : P.follows .mixedOrders = true)
    (hI : I (Array.replicate ops.size false) a w.drew)
    (hstep : ∀ listed a w i o, I listed a w → ops[i]? = some o → listed.getD i true = false → (∀ e ∈ o.after, Region.binds .any e = true → listed.getD e.on false = true) →
      if Region.wanted o (yielded ops a.tmps) = true then Oper.wp P o a w (fun a' w' => I (listed.setIfInBounds i true) a' w') Q else I (listed.setIfInBounds i true) (a.put o.dst undef) w)
    (hdone : ∀ listed a w, I listed a w → Region.ready .any ops listed = [] → Q .normal a w) : (Code.region id ops true).wp P Q a w :=
  wp_region_any hm (wpAny_inv2 I hstep hdone _ _ _ _ (by unfold unl; simp) hI)
theorem no_guard {o : Oper} (h : o.guard = none) {Y : Nat → Option Bool} {A B : Prop} (hA : A) : if Region.wanted o Y = true then A else B := by
  rw [if_pos (by simp [Region.wanted, h])]; exact hA
theorem yes_guard {o o' : Oper} {g s : Nat} {b c : Bool} {act : Act} (h : o.guard = some (g, b)) (hg : ops[g]? = some o') (hd : o'.dst = some s) (hv : act.tmps[s]?.getD undef = .bool c) (hc : c = b) {A B : Prop} (hA : A) : if Region.wanted o (yielded ops act.tmps) = true then A else B := by
  subst hc
  have hy : yielded ops act.tmps g = some c := by
    unfold yielded
    rw [hg]
    simp only [Option.bind_some, hd]
    cases e : act.tmps[s]? with
    | none => rw [e] at hv; cases hv
    | some u =>
      rw [e] at hv
      simp only [Option.getD_some] at hv
      subst hv
      rfl
  rw [if_pos (by simp [Region.wanted, h, hy])]
  exact hA
theorem not_guard {o o' : Oper} {g s : Nat} {b c : Bool} {act : Act} (h : o.guard = some (g, b)) (hg : ops[g]? = some o') (hd : o'.dst = some s) (hv : act.tmps[s]?.getD undef = .bool c) (hc : c ≠ b) {A B : Prop} (hB : B) : if Region.wanted o (yielded ops act.tmps) = true then A else B := by
  have hy : yielded ops act.tmps g = some c := by
    unfold yielded
    rw [hg]
    simp only [Option.bind_some, hd]
    cases e : act.tmps[s]? with
    | none => rw [e] at hv; cases hv
    | some u =>
      rw [e] at hv
      simp only [Option.getD_some] at hv
      subst hv
      rfl
  rw [if_neg (by simp [Region.wanted, h, hy, hc])]
  exact hB
/-- The value of the guard itself is not a result (the guard's own operation has been left out): then the operation is left out. -/
theorem undef_guard {o o' : Oper} {g s : Nat} {b : Bool} {act : Act} (h : o.guard = some (g, b)) (hg : ops[g]? = some o') (hd : o'.dst = some s) (hv : act.tmps[s]?.getD undef = undef) {A B : Prop} (hB : B) : if Region.wanted o (yielded ops act.tmps) = true then A else B := by
  have hy : yielded ops act.tmps g = none := by
    unfold yielded
    rw [hg]
    simp only [Option.bind_some, hd]
    cases e : act.tmps[s]? with
    | none => rfl
    | some u =>
      rw [e] at hv
      simp only [Option.getD_some] at hv
      subst hv
      rfl
  rw [if_neg (by simp [Region.wanted, h, hy])]
  exact hB
end
end Kt
end
section
/- The frame of a law's row, over any program: a call that answers true and leaves old memory alone meets the law's specification. -/
namespace Kt
open Go Go.ChangeShapes Go.WideShapes Go.ChangeAt Go.RowKit Go.WideMaps Go.WideElems

section
variable {H : Type} {enc : TypeId × Value → H} {P : Program}
theorem trodAll_below (hl : laidOutB P = true) {W W' : World} (hb : Below W.heap.size W W') {sp : Nat → Bool} :
    ∀ {ts : List TypeId} {vs : List Value} {ds : List (DataW H)} {ps : List MemPlace}, (ts.all fun t => P.readableRec t && decide (t < P.types.size)) = true →
      DataW.TrodAll enc P W 0 (fun _ => true) true ts vs ds ps → (∀ x ∈ ps, x.block < W.heap.size) → (∀ x ∈ ps, sp x.block = true) → DataW.TrodAll enc P W' 0 sp true ts vs ds ps
  | [], vs, ds, ps, _, h, _, _ => by
    obtain ⟨rfl, rfl, rfl⟩ := trodAll_nil h
    exact trodAll_mk0
  | t :: ts, vs, ds, ps, hts, h, hlt, hsp => by
    simp only [List.all_cons, Bool.and_eq_true, decide_eq_true_eq] at hts
    obtain ⟨v0, vs0, d0, ds0, p0, q0, rfl, rfl, rfl, h0, r0⟩ := trodAll_cons h
    refine trodAll_cons_mk ?_ (trodAll_below hl hb (by simpa using hts.2) r0 (fun x hx => hlt x (by simp [hx])) (fun x hx => hsp x (by simp [hx])))
    exact WideElems.Trod_stays hl hts.1.1 hts.1.2 h0 (fun x hx => hb.same (hlt x (by simp [hx]))) (fun x hx => hsp x (by simp [hx]))

theorem post_of_below {f : Func} {s : ChangeSpec} {apart fresh handsOn again : Bool} {W W' : World} {args : Array Value} {v : Value} {ds gs : List (DataW H)} {before pa pv : List MemPlace}
    (hW : DataW.Whole enc P f.params.toList s.vars apart W args.toList ds gs before)
    (hres : ∀ (b : Nat) (sp : Nat → Bool) (hd : Bool), DataW.TrodAll enc P W' b sp hd f.resultTypes.toList (v.resultList f.resultTypes.size) (s.fn H (ds ++ gs)).results [])
    (hargs : ∀ sp : Nat → Bool, (∀ p ∈ before, sp p.block = true) → DataW.TrodAll enc P W' 0 sp true f.params.toList args.toList (s.fn H (ds ++ gs)).args pa)
    (hvars : ∀ sp : Nat → Bool, (∀ p ∈ before, sp p.block = true) → DataW.TrodVars enc P W' sp s.vars (s.fn H (ds ++ gs)).vars pv)
    (hps : before = pa ++ pv) (hb : Below W.heap.size W W')
    (hok : ∀ (j : Nat) (t : TypeId) (r : Value), f.resultTypes[j]? = some t → (v.resultList f.resultTypes.size)[j]? = some r → Value.okWide P W' .any 0 t r) :
    s.post enc P f apart fresh handsOn again W args v W' := by
  have hlt : ∀ p ∈ before, p.block < W.heap.size := fun p hp => hW.lt p hp
  have hold : ∀ p ∈ before, (fun b => decide (b < W.heap.size)) p.block = true := fun p hp => by simpa using hlt p hp
  refine ⟨ds, gs, before, [], pa, pv, hW, hres _ _ _, hargs _ hold, hvars _ hold, World.keptBut_mono (fun p hp => ⟨hp, ?_⟩) (hb.frame (· ∈ before)), fun _ => ?_⟩
  · rw [hps, List.mem_append] at hp
    exact Or.inr hp
  · obtain ⟨_, _, _, _, _, hz, hn⟩ := hW
    refine ⟨hok, _, _, ([] ++ pa) ++ pv, ⟨[] ++ pa, pv, trodAll_append (hargs _ (fun _ _ => rfl)) (hres _ _ _), hvars _ (fun _ _ => rfl), rfl, ?_, ?_⟩, ?_⟩
    · intro b off hp
      have hin : MemPlace.cell b off ∈ before := by rw [hps]; simpa using hp
      rw [hb.frozen (hlt _ hin)]
      exact hz b off hin
    · intro ha
      have := hn ha
      rw [hps] at this
      simpa using this
    · intro p hp _
      rw [hps]
      simpa using hp

/-- A LAW's END: it answered true, old memory stands. -/
theorem law_post {f : Func} {s : ChangeSpec} {apart fresh handsOn again : Bool} {W W' : World} {args : Array Value} {ds : List (DataW H)} {p : List MemPlace} {tb : TypeId}
    (hl : laidOutB P = true) (hts : (f.params.toList.all fun t => P.readableRec t && decide (t < P.types.size)) = true) (htb : P.underlying tb = some .bool) (hres : f.resultTypes = #[tb]) (hvs : s.vars = [])
    (hW : DataW.Whole enc P f.params.toList s.vars apart W args.toList ds [] p) (hA : DataW.TrodAll enc P W 0 (fun _ => true) true f.params.toList args.toList ds p)
    (hs : s.fn H (ds ++ []) = { results := [.lit (.bool true)], args := ds }) (hb : Below W.heap.size W W') :
    s.post enc P f apart fresh handsOn again W args (.bool true) W' := by
  have hlt : ∀ x ∈ p, x.block < W.heap.size := fun x hx => hW.lt x hx
  refine post_of_below (pa := p) (pv := []) hW ?_ ?_ ?_ (by simp) hb ?_
  · intro b sp hd
    rw [hs, hres]
    exact trodAll_mk1 (shut_bool htb true)
  · intro sp hsp
    rw [hs]
    exact trodAll_below hl hb hts hA hlt hsp
  · intro sp _
    rw [hs, hvs]
    rfl
  · exact ok_one hres rfl (okWide_bool_mk htb true)

/-- A slice of integers that came in. -/
theorem open_slice_ints {t e : TypeId} {k : IntKind} {W : World} {base : Nat} {v : Value} {d : DataW H} {ps : List MemPlace} (ht : P.underlying t = some (.slice e)) (he : P.underlying e = some (.int k)) (hc : P.cellsOf e = 1)
    (hval : Value.okWide P W .any base t v) (h : DataW.Trod enc P W 0 (fun _ => true) true t v d ps) :
    ∃ (A : Option Addr) (zs : List Int) (cap : Nat), v = .slice A zs.length cap ∧ zs.length ≤ cap ∧ cap ≤ maxLen ∧ Ints W W.heap.size k A zs ∧ (∀ n ∈ zs, (Lit.int k n).wf = true) ∧ (zs = [] ∨ ∃ sp, d = .slice (lits k zs) sp) := by
  obtain ⟨a0, len, cap, rfl⟩ := okWide_slice ht hval
  obtain ⟨fuel, hf⟩ := h
  rcases open_ints ht he hc hf with ⟨hcs, _⟩ | ⟨a, len', cap', zs, hcs, _, hl, hm, hz, hx, hcell, hwz⟩
  · simp [Value.cells] at hcs
    obtain ⟨rfl, rfl, rfl⟩ := hcs
    exact ⟨none, [], 0, rfl, Nat.le_refl _, Nat.zero_le _, Ints.nil, by simp, .inl rfl⟩
  · simp [Value.cells] at hcs
    obtain ⟨rfl, rfl, rfl⟩ := hcs
    simp only [if_true] at hz
    have hlen : (zs.take len).length = len := by rw [List.length_take]; omega
    refine ⟨some a, zs.take len, cap, by rw [hlen], by rw [hlen]; exact hl, hm, ?_, fun n hn => hwz n (List.mem_of_mem_take hn), .inr ⟨_, by simp only [Prod.mk.injEq] at hx; exact hx.1⟩⟩
    intro hpos
    rw [hlen] at hpos
    obtain ⟨b, off, rfl, hcc⟩ := ints_at hcell (by omega)
    refine ⟨b, off, rfl, ?_, fun j hj => ?_⟩
    · exact World.block_lt_of_cell? W ⟨b, off + 0, none⟩ (hcc 0 (by omega))
    · rw [hlen] at hj
      rw [hcc j (by omega)]
      have e : (zs.take len)[j]? = zs[j]? := by rw [List.getElem?_take, if_pos hj]
      simp only [Ls.nth, List.getD, e]
/-- The same, and a nil slice has no capacity. -/
theorem open_slice_ints2 {t e : TypeId} {k : IntKind} {W : World} {base : Nat} {v : Value} {d : DataW H} {ps : List MemPlace} (ht : P.underlying t = some (.slice e)) (he : P.underlying e = some (.int k)) (hc : P.cellsOf e = 1)
    (hval : Value.okWide P W .any base t v) (h : DataW.Trod enc P W 0 (fun _ => true) true t v d ps) :
    ∃ (A : Option Addr) (zs : List Int) (cap : Nat), v = .slice A zs.length cap ∧ zs.length ≤ cap ∧ cap ≤ maxLen ∧ Ints W W.heap.size k A zs ∧ (∀ n ∈ zs, (Lit.int k n).wf = true) ∧ (zs = [] ∨ ∃ sp, d = .slice (lits k zs) sp) ∧ (A = none → cap = 0) := by
  obtain ⟨a0, len, cap, rfl⟩ := okWide_slice ht hval
  obtain ⟨fuel, hf⟩ := h
  rcases open_ints ht he hc hf with ⟨hcs, _⟩ | ⟨a, len', cap', zs, hcs, _, hl, hm, hz, hx, hcell, hwz⟩
  · simp [Value.cells] at hcs
    obtain ⟨rfl, rfl, rfl⟩ := hcs
    exact ⟨none, [], 0, rfl, Nat.le_refl _, Nat.zero_le _, Ints.nil, by simp, .inl rfl, fun _ => rfl⟩
  · simp [Value.cells] at hcs
    obtain ⟨rfl, rfl, rfl⟩ := hcs
    simp only [if_true] at hz
    have hlen : (zs.take len).length = len := by rw [List.length_take]; omega
    refine ⟨some a, zs.take len, cap, by rw [hlen], by rw [hlen]; exact hl, hm, ?_, fun n hn => hwz n (List.mem_of_mem_take hn), .inr ⟨_, by simp only [Prod.mk.injEq] at hx; exact hx.1⟩, fun h => (by cases h)⟩
    intro hpos
    rw [hlen] at hpos
    obtain ⟨b, off, rfl, hcc⟩ := ints_at hcell (by omega)
    refine ⟨b, off, rfl, ?_, fun j hj => ?_⟩
    · exact World.block_lt_of_cell? W ⟨b, off + 0, none⟩ (hcc 0 (by omega))
    · rw [hlen] at hj
      rw [hcc j (by omega)]
      have e : (zs.take len)[j]? = zs[j]? := by rw [List.getElem?_take, if_pos hj]
      simp only [Ls.nth, List.getD, e]
end
end Kt
end
section
/- Grammars that came in: what is read of them. -/
namespace Go.Proofs.Ytkclifdbdnigaaa
open Go Go.RowKit Go.ChangeShapes Go.WideShapes
section
variable {H : Type} {enc : TypeId × Value → H}
theorem addr_plain {w : World} {a : Addr} {v : Value} (h : w.cell? a = some v) : ∃ b o, a = ⟨b, o, none⟩ := by
  obtain ⟨b, o, s⟩ := a
  unfold World.cell? at h
  cases s with
  | none => exact ⟨b, o, rfl⟩
  | some q =>
    exfalso
    simp only at h
    split at h
    · simp at h
    · cases h
theorem wf_u16 {x : Int} (h : (Lit.int .u16 x).wf = true) : 0 ≤ x ∧ x ≤ 65535 := by
  have hmin : IntKind.u16.min = 0 := rfl
  have hmax : IntKind.u16.max = 65535 := rfl
  simp only [Lit.wf, Bool.and_eq_true, decide_eq_true_eq] at h
  omega
def numD (d : DataW H) : Int := match d with | .lit (.int _ n) => n | _ => 0
theorem weights_mem {P : Program} {e : TypeId} : ∀ {ds : List (DataW H)} {d : DataW H}, d ∈ ds → ∀ n ∈ d.weights P e, n ∈ DataW.weightsAll P e ds
  | d0 :: ds, d, hd, n, hn => by
    simp only [DataW.weightsAll, List.mem_append]
    rcases List.mem_cons.1 hd with rfl | hd
    · exact .inl hn
    · exact .inr (weights_mem hd n hn)
theorem bytesItem : Try.prog.bytesOf 40 = 16 := by kernel_rfl
theorem bytesRule : Try.prog.bytesOf 37 = 32 := by kernel_rfl
theorem cellsRule : Try.prog.cellsOf 37 = 2 := by kernel_rfl
theorem cellsItems : Try.prog.cellsOf 35 = 1 := by kernel_rfl
theorem open_items {W : World} {fuel : Nat} {v : Value} {d : DataW H} {ps : List MemPlace} (h : DataW.trod enc Try.prog W 0 (fun _ => true) true fuel 35 [v] = some (d, ps)) (hz : ∀ x ∈ d.weights Try.prog 35, x ≤ reachBytes) :
    ∃ (A : Option Addr) (l : List Gr.Item) (cap : Nat), v = .slice A l.length cap ∧ l.length ≤ cap ∧ l.length ≤ 4611686018427387904 ∧ Kt.Items W W.heap.size A l ∧ ∀ x ∈ l, 0 ≤ x.cls ∧ x.cls ≤ 65535 := by
  rcases Deep.open_slice_pairs Try.underlying35 Try.underlying40 cellsItem rfl rfl cellsU16 cellsInt h with ⟨hc, _⟩ | ⟨a, len, cap, m, n, V0, V1, D0, D1, P0, P1, hc, _, hl, hm, hmm, hx, hcell⟩
  · simp only [List.cons.injEq, and_true] at hc
    subst hc
    exact ⟨none, [], 0, rfl, Nat.le_refl _, Nat.zero_le _, fun hp => by simp at hp, fun x hx => by cases hx⟩
  · simp only [List.cons.injEq, and_true] at hc
    simp only [if_true] at hmm
    subst hc hmm
    simp only [Prod.mk.injEq] at hx
    obtain ⟨rfl, _⟩ := hx
    have hel : ∀ i, i < len → ∃ x y, V0 i = .int .u16 x ∧ V1 i = .int .i64 y ∧ 0 ≤ x ∧ x ≤ 65535 := fun i hi => by
      obtain ⟨_, _, h3, h4⟩ := hcell i (by omega)
      obtain ⟨x, h5, _, h6⟩ := DataW.trod_int Try.underlying38 h3
      obtain ⟨y, h7, _, _⟩ := DataW.trod_int Try.underlying3 h4
      exact ⟨x, y, by simpa using h5, by simpa using h7, (wf_u16 h6).1, (wf_u16 h6).2⟩
    obtain ⟨q, hq⟩ : ∃ q : Nat → Int × Int, ∀ i, i < len → V0 i = .int .u16 (q i).1 ∧ V1 i = .int .i64 (q i).2 ∧ 0 ≤ (q i).1 ∧ (q i).1 ≤ 65535 := by
      obtain ⟨q, hq⟩ := Deep.choose_lt (fun i hi => (hel i hi).elim fun x h => h.elim fun y h => (⟨(x, y), h⟩ : ∃ p : Int × Int, V0 i = .int .u16 p.1 ∧ V1 i = .int .i64 p.2 ∧ 0 ≤ p.1 ∧ p.1 ≤ 65535))
      exact ⟨q, hq⟩
    have hlen : ((List.range len).map fun i => (⟨(q i).1, (q i).2⟩ : Gr.Item)).length = len := by simp
    have hb : len * 16 ≤ reachBytes := by
      have := hz ((len + (m - len)) * 16) (by
        simp [DataW.weights, Try.underlying35, bytesItem])
      omega
    refine ⟨some a, (List.range len).map fun i => ⟨(q i).1, (q i).2⟩, m, by rw [hlen], by rw [hlen]; exact hl, by rw [hlen]; unfold reachBytes at hb; omega, fun hp => ?_, fun x hx => ?_⟩
    · rw [hlen] at hp
      have h0 := (hcell 0 (by omega)).1
      have h0' : W.cell? a = some (V0 0) := by simpa [Addr.add] using h0
      obtain ⟨ab, ao, rfl⟩ := addr_plain h0'
      refine ⟨ab, ao, rfl, World.block_lt_of_cell? W ⟨ab, ao, none⟩ h0', fun k hk => ?_⟩
      rw [hlen] at hk
      obtain ⟨h1, h2, _, _⟩ := hcell k (by omega)
      obtain ⟨e1, e2, _, _⟩ := hq k hk
      have e3 : Gr.itm ((List.range len).map fun i => (⟨(q i).1, (q i).2⟩ : Gr.Item)) k = ⟨(q k).1, (q k).2⟩ := by
        unfold Gr.itm
        simp [List.getElem?_range hk]
      rw [e3]
      exact ⟨by rw [← e1, ← h1, Addr.add_lit], by rw [← e2, ← h2, Addr.add_lit]; rfl⟩
    · obtain ⟨i, hi, rfl⟩ := List.mem_map.1 hx
      exact ⟨(hq i (List.mem_range.1 hi)).2.2.1, (hq i (List.mem_range.1 hi)).2.2.2⟩
theorem open_rules {W : World} {fuel : Nat} {v : Value} {d : DataW H} {ps : List MemPlace} (h : DataW.trod enc Try.prog W 0 (fun _ => true) true fuel 22 [v] = some (d, ps)) (hz : ∀ x ∈ d.weights Try.prog 22, x ≤ reachBytes) :
    ∃ (A : Option Addr) (g : List Gr.Rule) (cap : Nat), v = .slice A g.length cap ∧ g.length ≤ cap ∧ g.length ≤ 4398046511104 ∧ Kt.Rules W W.heap.size A g ∧ WfR g := by
  rcases Deep.open_slice_pairs Try.underlying22 Try.underlying37 cellsRule rfl rfl cellsInt cellsItems h with ⟨hc, _⟩ | ⟨a, len, cap, m, n, V0, V1, D0, D1, P0, P1, hc, _, hl, hm, hmm, hx, hcell⟩
  · simp only [List.cons.injEq, and_true] at hc
    subst hc
    exact ⟨none, [], 0, rfl, Nat.le_refl _, Nat.zero_le _, fun hp => by simp at hp, fun r hr => by simp at hr⟩
  · simp only [List.cons.injEq, and_true] at hc
    simp only [if_true] at hmm
    subst hc hmm
    simp only [Prod.mk.injEq] at hx
    obtain ⟨rfl, _⟩ := hx
    have hel : ∀ i, i < len → ∃ p : Int × Option Addr × List Gr.Item × Nat, V0 i = .int .i64 p.1 ∧ V1 i = .slice p.2.1 p.2.2.1.length p.2.2.2 ∧ p.2.2.1.length ≤ 4611686018427387904 ∧ Kt.Items W W.heap.size p.2.1 p.2.2.1 ∧ ∀ x ∈ p.2.2.1, 0 ≤ x.cls ∧ x.cls ≤ 65535 := fun i hi => by
      obtain ⟨_, _, h3, h4⟩ := hcell i (by omega)
      obtain ⟨x, h5, _, _⟩ := DataW.trod_int Try.underlying3 h3
      obtain ⟨A, l, c, h6, _, h7, h8, h9⟩ := open_items h4 (fun q hq => hz q (by
        simp only [DataW.weights, Try.underlying22, List.mem_cons, List.mem_append]
        refine .inr (.inl (weights_mem (List.mem_map.2 ⟨i, List.mem_range.2 hi, rfl⟩) q ?_))
        simp only [DataW.weights, Try.underlying37, List.map_cons, List.map_nil, DataW.weightsEach, List.mem_append]
        exact .inr (.inl hq)))
      exact ⟨(x, A, l, c), by simpa using h5, h6, h7, h8, h9⟩
    obtain ⟨q, hq⟩ := Deep.choose_lt hel
    have hlen : ((List.range len).map fun i => (⟨(q i).1, (q i).2.2.1⟩ : Gr.Rule)).length = len := by simp
    have hb : len * 32 ≤ reachBytes := by
      have := hz ((len + (m - len)) * 32) (by
        simp [DataW.weights, Try.underlying22, bytesRule])
      omega
    have hget : ∀ k, k < len → Gr.rul ((List.range len).map fun i => (⟨(q i).1, (q i).2.2.1⟩ : Gr.Rule)) k = ⟨(q k).1, (q k).2.2.1⟩ := fun k hk => by
      unfold Gr.rul
      simp [List.getElem?_range hk]
    refine ⟨some a, (List.range len).map fun i => ⟨(q i).1, (q i).2.2.1⟩, m, by rw [hlen], by rw [hlen]; exact hl, by rw [hlen]; unfold reachBytes at hb; omega, fun hp => ?_, fun r hr x hx => ?_⟩
    · rw [hlen] at hp
      have h0 := (hcell 0 (by omega)).1
      have h0' : W.cell? a = some (V0 0) := by simpa [Addr.add] using h0
      obtain ⟨ab, ao, rfl⟩ := addr_plain h0'
      refine ⟨ab, ao, rfl, World.block_lt_of_cell? W ⟨ab, ao, none⟩ h0', fun k hk => ?_⟩
      rw [hlen] at hk
      obtain ⟨h1, h2, _, _⟩ := hcell k (by omega)
      obtain ⟨e1, e2, e3, e4, _⟩ := hq k hk
      rw [hget k hk]
      exact ⟨by rw [← e1, ← h1, Addr.add_lit], (q k).2.1, (q k).2.2.2, by rw [← e2, ← h2, Addr.add_lit]; rfl, e3, e4⟩
    · rw [hlen] at hr
      rw [hget r hr] at hx
      exact (hq r hr).2.2.2.2 x hx
end
end Go.Proofs.Ytkclifdbdnigaaa
end
