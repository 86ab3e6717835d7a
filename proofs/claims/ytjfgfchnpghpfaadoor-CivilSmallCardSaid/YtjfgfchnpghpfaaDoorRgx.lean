/- A region that draws its order, by an invariant: each operation is walked once; results are predicates, what the region may write is a state, operations may be guarded. -/
import Derived.Test.YtjfgfchnpghpfaaDoorRga

namespace Kt
open Go Go.RowKit
/-- The world has grown, and has turned in the blocks of X alone. -/
structure Kp (X : Nat → Prop) (W w : World) : Prop where
  os : w.os = W.os
  tape : w.tape = W.tape
  output : w.output = W.output
  size : W.heap.size ≤ w.heap.size
  same : ∀ k, k < W.heap.size → ¬ X k → w.heap[k]? = W.heap[k]?
section
variable {X : Nat → Prop} {W w w' : World}
theorem Kp.refl (X : Nat → Prop) (W : World) : Kp X W W := ⟨rfl, rfl, rfl, Nat.le_refl _, fun _ _ _ => rfl⟩
theorem Kp.drew (X : Nat → Prop) (W : World) : Kp X W W.drew := ⟨rfl, rfl, rfl, Nat.le_refl _, fun _ _ _ => rfl⟩
theorem Kp.trans (h : Kp X W w) (k : Kp X w w') : Kp X W w' := ⟨k.os.trans h.os, k.tape.trans h.tape, k.output.trans h.output, Nat.le_trans h.size k.size, fun i hi hn => (k.same i (Nat.lt_of_lt_of_le hi h.size) hn).trans (h.same i hi hn)⟩
theorem Kp.below (X : Nat → Prop) (h : Below W.heap.size W w) : Kp X W w := ⟨h.os, h.tape, h.output, h.size, fun k hk _ => h.block k hk⟩
theorem Kp.grown {row : Option Nat} (h : W.grownBy w row) (hr : ∀ k, row = some k → X k) : Kp X W w := ⟨h.os, h.tape, h.output, h.size, fun k hk hn => h.block k hk fun e => hn (hr k e.symm)⟩
theorem Kp.alloc (X : Nat → Prop) (W : World) (o : Obj) : Kp X W (W.alloc o) := Kp.below X ((Below.refl _ _).alloc (Nat.le_refl _) _)
theorem Kp.set {p : Addr} (hp : X p.block) (v : Value) : Kp X W (W.setCell p v) := ⟨rfl, rfl, rfl, by simp, fun k _ hn => Below.heap_setCell _ p v k fun e => hn (by rw [e]; exact hp)⟩
theorem Kp.cell (h : Kp X W w) {p : Addr} (hb : p.block < W.heap.size) (hX : ¬ X p.block) : w.cell? p = W.cell? p := World.cell?_of_block (h.same _ hb hX)
theorem Kp.frozen (h : Kp X W w) {p : Addr} (hb : p.block < W.heap.size) (hX : ¬ X p.block) : w.frozen? p = W.frozen? p := World.frozen?_of_block (h.same _ hb hX)
theorem Kp.to_below {B : Nat} (h : Kp X W w) (hB : B ≤ W.heap.size) (hX : ∀ k, k < B → ¬ X k) : Below B W w := ⟨h.os, h.tape, h.output, h.size, fun k hk => h.same k (by omega) (hX k hk)⟩
theorem Kp.more {X' : Nat → Prop} (h : Kp X W w) (hX : ∀ k, X k → X' k) : Kp X' W w := ⟨h.os, h.tape, h.output, h.size, fun k hk hn => h.same k hk fun e => hn (hX k e)⟩
end
structure RxP where
  N : Nat
  slot : Nat → Nat
  S : List Nat
  a0 : Act
  W : World
  X : Nat → Prop
  R : Nat → Value → World → Prop
  Z : (Nat → Bool) → (Nat → Value) → World → Prop
structure RxOk (p : RxP) : Prop where
  inj : ∀ i, i < p.N → ∀ j, j < p.N → p.slot i = p.slot j → i = j
  stable : ∀ j v w w', p.R j v w → Kp p.X w w' → p.R j v w'
def lis (listed : Array Bool) : Nat → Bool := fun j => listed.getD j false
def vals (p : RxP) (act : Act) : Nat → Value := fun j => if j < p.N then val act (p.slot j) else undef
def upL (L : Nat → Bool) (j : Nat) : Nat → Bool := fun i => if i = j then true else L i
def upV (V : Nat → Value) (j : Nat) (v : Value) : Nat → Value := fun i => if i = j then v else V i
structure RxI (p : RxP) (listed : Array Bool) (act : Act) (w : World) : Prop where
  size : listed.size = p.N
  frame : Fr p.S p.a0 act
  kept : Kp p.X p.W w
  res : ∀ j, j < p.N → listed.getD j false = true → p.R j (val act (p.slot j)) w
  st : p.Z (lis listed) (vals p act) w
variable {p : RxP} {listed : Array Bool} {act : Act} {w w' : World}
theorem RxI.start (hZ : p.Z (fun _ => false) (vals p p.a0) p.W.drew) : RxI p (Array.replicate p.N false) p.a0 p.W.drew := by
  have hf : ∀ j, (Array.replicate p.N false).getD j false = false := fun j => by
    by_cases hj : j < p.N <;> simp [hj]
  refine ⟨by simp, Fr.refl _ _, Kp.drew _ _, fun j _ hl => ?_, ?_⟩
  · rw [hf] at hl; cases hl
  · rw [show lis (Array.replicate p.N false) = fun _ => false from funext hf]
    exact hZ
theorem lis_set {j : Nat} (hj : j < listed.size) : lis (listed.setIfInBounds j true) = upL (lis listed) j := by
  funext i
  unfold upL
  by_cases e : i = j
  · subst e; rw [if_pos rfl]; exact getD_same hj
  · rw [if_neg e]; exact getD_setL (fun e2 => e e2.symm)
theorem RxI.put (ok : RxOk p) (h : RxI p listed act w) {j s : Nat} {v : Value} (hj : j < p.N) (hs : s = p.slot j) (hm : s ∈ p.S) (hlt : s < p.a0.tmps.size) (hk : Kp p.X w w') (hR : p.R j v w')
    (hZ : p.Z (upL (lis listed) j) (upV (vals p act) j v) w') : RxI p (listed.setIfInBounds j true) (act.put (some s) v) w' := by
  subst hs
  have hv : val (act.put (some (p.slot j)) v) (p.slot j) = v := val_put (by rw [h.frame.2.1]; exact hlt) v
  have hne : ∀ i, i < p.N → i ≠ j → val (act.put (some (p.slot j)) v) (p.slot i) = val act (p.slot i) := fun i hi hij => val_put_ne (fun e => hij (ok.inj _ hj _ hi e).symm) v
  refine ⟨by simp [h.size], h.frame.put hm v, h.kept.trans hk, fun i hi hl => ?_, ?_⟩
  · by_cases e : i = j
    · subst e; rw [hv]; exact hR
    · rw [hne i hi e]
      rw [getD_setL (fun e2 => e e2.symm)] at hl
      exact ok.stable _ _ _ _ (h.res i hi hl) hk
  · rw [lis_set (by rw [h.size]; exact hj)]
    have e : vals p (act.put (some (p.slot j)) v) = upV (vals p act) j v := by
      funext i
      unfold vals upV
      by_cases e : i = j
      · subst e; rw [if_pos hj, if_pos rfl, hv]
      · rw [if_neg e]
        by_cases hi : i < p.N
        · show (if i < p.N then _ else _) = if i < p.N then _ else _
          rw [if_pos hi, if_pos hi, hne i hi e]
        · show (if i < p.N then _ else _) = if i < p.N then _ else _
          rw [if_neg hi, if_neg hi]
    rw [e]
    exact hZ
/-- An operation without a result (a store). -/
theorem RxI.store (ok : RxOk p) (h : RxI p listed act w) {j : Nat} (hj : j < p.N) (hk : Kp p.X w w') (hR : p.R j (val act (p.slot j)) w')
    (hZ : p.Z (upL (lis listed) j) (vals p act) w') : RxI p (listed.setIfInBounds j true) act w' := by
  refine ⟨by simp [h.size], h.frame, h.kept.trans hk, fun i hi hl => ?_, ?_⟩
  · by_cases e : i = j
    · subst e; exact hR
    · rw [getD_setL (fun e2 => e e2.symm)] at hl
      exact ok.stable _ _ _ _ (h.res i hi hl) hk
  · rw [lis_set (by rw [h.size]; exact hj)]
    exact hZ
/-- What a result is, for a slot that is known. -/
theorem RxI.get (h : RxI p listed act w) {j s : Nat} (hj : j < p.N) (hs : s = p.slot j) (hl : listed.getD j false = true) : p.R j (act.tmps[s]?.getD undef) w := by
  subst hs
  rw [← val_get]
  exact h.res j hj hl
theorem RxI.eq (h : RxI p listed act w) {j s : Nat} {v : Value} (hj : j < p.N) (hs : s = p.slot j) (hv : ∀ u w, p.R j u w → u = v) (hl : listed.getD j false = true) : act.tmps[s]?.getD undef = v := hv _ _ (h.get hj hs hl)
theorem RxI.cell (h : RxI p listed act w) {b o : Nat} {v : Value} (hb : b < p.W.heap.size) (hX : ¬ p.X b) (hc : p.W.cell? ⟨b, o, none⟩ = some v) : w.cell? ⟨b, o, none⟩ = some v := (h.kept.cell (p := ⟨b, o, none⟩) hb hX).trans hc
/-- A call: what it leaves, then the step. -/
theorem op_opc {P : Program} {o : Oper} {act : Act} {w : World} {Q : Exit → Act → World → Prop} {s : Nat} {G : Act → World → Prop} (R : Value → World → Prop)
    (H : ∀ KK : Act → World → Prop, (∀ v w', R v w' → KK (act.put (some s) v) w') → Oper.wp P o act w KK Q) (hk : ∀ v w', R v w' → G (act.put (some s) v) w') : Oper.wp P o act w G Q := H G hk
/-- A region that leaves the world alone up to its last operation m, which comes behind the first m0. -/
def stillZ (m m0 : Nat) (W w' : World) (L : Nat → Bool) (_ : Nat → Value) (w : World) : Prop := (L m = false → w = W.drew) ∧ (L m = true → w = w' ∧ ∀ j, j < m0 → L j = true)
theorem still_start {m m0 : Nat} {W w' : World} {V : Nat → Value} : stillZ m m0 W w' (fun _ => false) V W.drew := ⟨fun _ => rfl, fun q => by cases q⟩
theorem still_at {m m0 j : Nat} {W w' : World} {V : Nat → Value} (h : stillZ m m0 W w' (lis listed) V w) (hj : j < m0) (hn : listed.getD j true = false) : w = W.drew := by
  cases hm : lis listed m with
  | false => exact h.1 hm
  | true =>
    have := (h.2 hm).2 j hj
    rw [show lis listed j = false from getD_no hn] at this
    cases this
theorem still_up {m m0 j : Nat} {W w' : World} {V V' : Nat → Value} (h : stillZ m m0 W w' (lis listed) V w) (hj : j ≠ m) : stillZ m m0 W w' (upL (lis listed) j) V' w := by
  have e : upL (lis listed) j m = lis listed m := by unfold upL; rw [if_neg (fun e => hj e.symm)]
  refine ⟨fun q => h.1 (by rw [← e]; exact q), fun q => ?_⟩
  rw [e] at q
  refine ⟨(h.2 q).1, fun i hi => ?_⟩
  unfold upL
  split
  · rfl
  · exact (h.2 q).2 i hi
theorem still_last {m m0 : Nat} {W w' : World} {V' : Nat → Value} (hall : ∀ j, j < m0 → listed.getD j false = true) : stillZ m m0 W w' (upL (lis listed) m) V' w' := by
  have e : upL (lis listed) m m = true := by unfold upL; rw [if_pos rfl]
  refine ⟨fun q => (by rw [e] at q; cases q), fun _ => ⟨rfl, fun j hj => ?_⟩⟩
  unfold upL
  split
  · rfl
  · exact hall j hj
theorem wp_any_act {P : Program} {c : Code} {Q : Exit → Act → World → Prop} {a : Act} {w : World} (h : ∀ a0, a0 = a → c.wp P Q a0 w) : c.wp P Q a w := h a rfl
/-! ### Guards -/
section
variable {P : Program} {md : Region.Mode} {ops : Array Oper} {Q : Exit → Act → World → Prop} {F : Fence} {n : Nat}
theorem wpAny_inv2 (I : Array Bool → Act → World → Prop)
    (hstep : ∀ listed a w i o, I listed a w → ops[i]? = some o → listed.getD i true = false → (∀ e ∈ o.after, Region.binds md e = true → listed.getD e.on false = true) →
      if Region.wanted o (yielded ops a.tmps) = true then Oper.wp P o a w (fun a' w' => I (listed.setIfInBounds i true) a' w') Q else I (listed.setIfInBounds i true) (a.put o.dst undef) w)
    (hdone : ∀ listed a w, I listed a w → Region.ready md ops listed = [] → Q .normal a w) :
    ∀ (fuel : Nat) (listed : Array Bool) (a : Act) (w : World), unl listed ≤ fuel → I listed a w → wpAny P md ops Q fuel listed a w := by
  intro fuel
  induction fuel with
  | zero =>
    intro listed a w hu hI
    have hr : Region.ready md ops listed = [] := by
      refine List.eq_nil_iff_forall_not_mem.2 fun i hi => ?_
      have := unl_set (mem_ready.1 hi).1
      omega
    exact ⟨hr, hdone _ _ _ hI hr⟩
  | succ fuel ih =>
    intro listed a w hu hI
    refine ⟨fun hr => hdone _ _ _ hI hr, fun i hi => ?_⟩
    obtain ⟨h1, o, ho, h2⟩ := mem_ready.1 hi
    have h3 := unl_set h1
    have hs := hstep listed a w i o hI ho h1 h2
    unfold wpOp
    rw [ho]
    by_cases hw : Region.wanted o (yielded ops a.tmps) = true
    · simp only [hw, if_true] at hs ⊢
      exact .inl (Oper.wp_mono (fun a' w' h => ih _ a' w' (by omega) h) hs)
    · rw [if_neg hw] at hs
      simp only [hw]
      exact ih _ _ _ (by omega) hs
theorem region_inv2 {id : Nat} {a : Act} {w : World} (I : Array Bool → Act → World → Prop) (hm : P.follows .mixedOrders = true)
    (hI : I (Array.replicate ops.size false) a w.drew)
    (hstep : ∀ listed a w i o, I listed a w → ops[i]? = some o → listed.getD i true = false → (∀ e ∈ o.after, Region.binds .any e = true → listed.getD e.on false = true) →
      if Region.wanted o (yielded ops a.tmps) = true then Oper.wp P o a w (fun a' w' => I (listed.setIfInBounds i true) a' w') Q else I (listed.setIfInBounds i true) (a.put o.dst undef) w)
    (hdone : ∀ listed a w, I listed a w → Region.ready .any ops listed = [] → Q .normal a w) : (Code.region id ops true).wp P Q a w :=
  wp_region_any hm (wpAny_inv2 I hstep hdone _ _ _ _ (by unfold unl; simp) hI)
theorem no_guard {o : Oper} (h : o.guard = none) {Y : Nat → Option Bool} {A B : Prop} (hA : A) : if Region.wanted o Y = true then A else B := by
  rw [if_pos (by simp [Region.wanted, h])]; exact hA
theorem yes_guard {o o' : Oper} {g s : Nat} {b c : Bool} {act : Act} (h : o.guard = some (g, b)) (hg : ops[g]? = some o') (hd : o'.dst = some s) (hv : act.tmps[s]?.getD undef = .bool c) (hc : c = b) {A B : Prop} (hA : A) : if Region.wanted o (yielded ops act.tmps) = true then A else B := by
  subst hc
  have hy : yielded ops act.tmps g = some c := by
    unfold yielded
    rw [hg]
    simp only [Option.bind_some, hd]
    cases e : act.tmps[s]? with
    | none => rw [e] at hv; cases hv
    | some u =>
      rw [e] at hv
      simp only [Option.getD_some] at hv
      subst hv
      rfl
  rw [if_pos (by simp [Region.wanted, h, hy])]
  exact hA
theorem not_guard {o o' : Oper} {g s : Nat} {b c : Bool} {act : Act} (h : o.guard = some (g, b)) (hg : ops[g]? = some o') (hd : o'.dst = some s) (hv : act.tmps[s]?.getD undef = .bool c) (hc : c ≠ b) {A B : Prop} (hB : B) : if Region.wanted o (yielded ops act.tmps) = true then A else B := by
  have hy : yielded ops act.tmps g = some c := by
    unfold yielded
    rw [hg]
    simp only [Option.bind_some, hd]
    cases e : act.tmps[s]? with
    | none => rw [e] at hv; cases hv
    | some u =>
      rw [e] at hv
      simp only [Option.getD_some] at hv
      subst hv
      rfl
  rw [if_neg (by simp [Region.wanted, h, hy, hc])]
  exact hB
/-- The value of the guard itself is not a result (the guard's own operation has been left out): then the operation is left out. -/
theorem undef_guard {o o' : Oper} {g s : Nat} {b : Bool} {act : Act} (h : o.guard = some (g, b)) (hg : ops[g]? = some o') (hd : o'.dst = some s) (hv : act.tmps[s]?.getD undef = undef) {A B : Prop} (hB : B) : if Region.wanted o (yielded ops act.tmps) = true then A else B := by
  have hy : yielded ops act.tmps g = none := by
    unfold yielded
    rw [hg]
    simp only [Option.bind_some, hd]
    cases e : act.tmps[s]? with
    | none => rfl
    | some u =>
      rw [e] at hv
      simp only [Option.getD_some] at hv
      subst hv
      rfl
  rw [if_neg (by simp [Region.wanted, h, hy])]
  exact hB
end
end Kt
