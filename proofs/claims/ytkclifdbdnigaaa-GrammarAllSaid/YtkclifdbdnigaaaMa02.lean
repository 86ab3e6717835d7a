/- Joined: Rgn, Rga, Rgq, MapK, GraM, GrA, GrB. -/
import Derived.Test.YtkclifdbdnigaaaMa01
import Derived.OrdersHeld
import Derived.Deep.RegionHeld
import Derived.Deep.AppendLies
import Derived.OneCell
import Derived.Maps.Keyed
import Derived.RangeFuncRecord
import Derived.DeepKeys4
import Derived.Lib.Hide
import Derived.Test.YtkclifdbdnigaaaProg
import Derived.Deep.QuietTactic
import Derived.BigQuiet
import Derived.IntWalk
import Derived.Handy
import Derived.OwnWalk
import Derived.Outline
section
/- A region that draws its order, by an invariant over the operations that have come up so far: each operation is walked once, not once for each order. -/
namespace Kt
open Go
section
variable {P : Program} {md : Region.Mode} {ops : Array Oper} {Q : Exit → Act → World → Prop}
/-- How many have not come up. -/
def unl (listed : Array Bool) : Nat := listed.toList.count false
theorem unl_set {listed : Array Bool} {i : Nat} (h : listed.getD i true = false) : unl (listed.setIfInBounds i true) + 1 = unl listed := by
  have hlt : i < listed.size := by
    rcases Nat.lt_or_ge i listed.size with h' | h'
    · exact h'
    · simp [h'] at h
  have he : listed.toList[i] = false := by simpa [hlt] using h
  unfold unl
  rw [Array.toList_setIfInBounds, List.count_set (by simpa using hlt)]
  have hpos : 0 < listed.toList.count false := List.count_pos_iff.2 (by rw [← he]; exact List.getElem_mem _)
  rw [he]
  simp only [beq_self_eq_true, if_true]
  rw [show (true == false) = false from rfl]
  simp only [Bool.false_eq_true, if_false]
  omega
theorem wpAny_inv (I : Array Bool → Act → World → Prop) (hg : ∀ (i : Nat) (o : Oper), ops[i]? = some o → o.guard = none)
    (hstep : ∀ listed a w i o, I listed a w → ops[i]? = some o → listed.getD i true = false → (∀ e ∈ o.after, Region.binds md e = true → listed.getD e.on false = true) → Oper.wp P o a w (fun a' w' => I (listed.setIfInBounds i true) a' w') Q)
    (hdone : ∀ listed a w, I listed a w → Region.ready md ops listed = [] → Q .normal a w) :
    ∀ (fuel : Nat) (listed : Array Bool) (a : Act) (w : World), unl listed ≤ fuel → I listed a w → wpAny P md ops Q fuel listed a w := by
  intro fuel
  induction fuel with
  | zero =>
    intro listed a w hu hI
    have hr : Region.ready md ops listed = [] := by
      refine List.eq_nil_iff_forall_not_mem.2 fun i hi => ?_
      have := unl_set (mem_ready.1 hi).1
      omega
    exact ⟨hr, hdone _ _ _ hI hr⟩
  | succ fuel ih =>
    intro listed a w hu hI
    refine ⟨fun hr => hdone _ _ _ hI hr, fun i hi => ?_⟩
    obtain ⟨h1, o, ho, h2⟩ := mem_ready.1 hi
    have h3 := unl_set h1
    have hs := hstep listed a w i o hI ho h1 h2
    unfold wpOp
    rw [ho]
    have hw : Region.wanted o (yielded ops a.tmps) = true := by simp [Region.wanted, hg i o ho]
    simp only [hw, if_true]
    exact .inl (Oper.wp_mono (fun a' w' h => ih _ a' w' (by omega) h) hs)
theorem region_inv {id : Nat} {a : Act} {w : World} (I : Array Bool → Act → World → Prop) (hm : P.follows .mixedOrders = true) (hg : ∀ (i : Nat) (o : Oper), ops[i]? = some o → o.guard = none)
    (hI : I (Array.replicate ops.size false) a w.drew)
    (hstep : ∀ listed a w i o, I listed a w → ops[i]? = some o → listed.getD i true = false → (∀ e ∈ o.after, Region.binds .any e = true → listed.getD e.on false = true) → Oper.wp P o a w (fun a' w' => I (listed.setIfInBounds i true) a' w') Q)
    (hdone : ∀ listed a w, I listed a w → Region.ready .any ops listed = [] → Q .normal a w) : (Code.region id ops true).wp P Q a w :=
  wp_region_any hm (wpAny_inv I hg hstep hdone _ _ _ _ (by unfold unl; simp) hI)
/-- Nothing is left: all have come up. -/
theorem all_up {listed : Array Bool} (hd : ∀ (j : Nat) (o : Oper), ops[j]? = some o → ∀ e ∈ o.after, Region.binds md e = true → e.on < j) (hsz : listed.size = ops.size) (hr : Region.ready md ops listed = []) :
    ∀ j, j < ops.size → listed.getD j false = true := by
  intro j
  induction j using Nat.strongRecOn with
  | _ j ih =>
    intro hj
    cases hl : listed.getD j true with
    | true =>
      have : j < listed.size := by omega
      simp [this] at hl ⊢
      exact hl
    | false =>
      exfalso
      have hm : j ∈ Region.ready md ops listed := mem_ready.2 ⟨hl, ops[j], Array.getElem?_eq_getElem hj, fun e he hb => by
        have h1 := hd j ops[j] (Array.getElem?_eq_getElem hj) e he hb
        exact ih e.on h1 (by omega)⟩
      rw [hr] at hm
      cases hm
end
/-! ### Frames -/
def Fr (S : List Nat) (a0 a : Act) : Prop := a.defers = a0.defers ∧ a.tmps.size = a0.tmps.size ∧ ∀ s, s ∉ S → a.tmps[s]? = a0.tmps[s]?
def val (a : Act) (s : Nat) : Value := a.tmps.getD s undef
theorem Fr.refl (S : List Nat) (a : Act) : Fr S a a := ⟨rfl, rfl, fun _ _ => rfl⟩
theorem Fr.put {S : List Nat} {a0 a : Act} (h : Fr S a0 a) {s : Nat} (hs : s ∈ S) (v : Value) : Fr S a0 (a.put (some s) v) := by
  refine ⟨h.1, ?_, fun t ht => ?_⟩
  · simp [Act.put, h.2.1]
  · have hne : s ≠ t := fun e => ht (e ▸ hs)
    simp [Act.put, Array.getElem?_setIfInBounds_ne hne, h.2.2 t ht]
theorem val_put {a : Act} {s : Nat} (hs : s < a.tmps.size) (v : Value) : val (a.put (some s) v) s = v := by simp [val, Act.put, hs]
theorem val_put_ne {a : Act} {s t : Nat} (h : s ≠ t) (v : Value) : val (a.put (some s) v) t = val a t := by simp [val, Act.put, Array.getElem?_setIfInBounds_ne h]
theorem eval_val (a : Act) (s : Nat) : a.eval (.tmp s) = val a s := rfl
theorem Fr.val_out {S : List Nat} {a0 a : Act} (h : Fr S a0 a) {s : Nat} (hs : s ∉ S) : val a s = val a0 s := by simp [val, h.2.2 s hs]
/-- The frame, written out. -/
def sets (f : Nat → Value) : List Nat → Array Value → Array Value
  | [], t => t
  | s :: S, t => sets f S (t.setIfInBounds s (f s))
theorem sets_size (f : Nat → Value) : ∀ (S : List Nat) (t : Array Value), (sets f S t).size = t.size
  | [], _ => rfl
  | s :: S, t => by rw [sets, sets_size f S]; simp
theorem sets_get (f : Nat → Value) : ∀ (S : List Nat) (t : Array Value) (i : Nat), i < t.size → (sets f S t)[i]? = some (if i ∈ S then f i else t.getD i undef)
  | [], t, i, h => by simp [sets, h]
  | s :: S, t, i, h => by
    rw [sets, sets_get f S _ i (by simpa using h)]
    by_cases h1 : i ∈ S
    · simp [h1]
    · by_cases h2 : s = i
      · subst h2; simp [h1, h]
      · simp [h1, Array.getElem?_setIfInBounds_ne h2, Ne.symm h2]
theorem Fr.out {S : List Nat} {a0 a : Act} (h : Fr S a0 a) : a = ⟨sets (val a) S a0.tmps, a0.defers⟩ := by
  obtain ⟨h1, h2, h3⟩ := h
  cases a with
  | mk t d =>
    simp only at h1 h2 h3
    subst h1
    congr 1
    apply Array.ext_getElem?
    intro i
    rcases Nat.lt_or_ge i t.size with hi | hi
    · rw [sets_get _ _ _ _ (by omega)]
      by_cases hs : i ∈ S
      · simp [hs, val, hi]
      · have := h3 i hs
        simp [hs]
        rw [← this]
        simp [hi]
    · rw [Array.getElem?_eq_none hi, Array.getElem?_eq_none (by rw [sets_size]; omega)]
/-! ### Single operations, the frame behind a letter -/
section
variable {P : Program} {o : Oper} {a : Act} {w : World} {K : Act → World → Prop} {Q : Exit → Act → World → Prop}
theorem op_move {x : Operand} (hop : o.op = .move x) (h : K (a.put o.dst (a.eval x)) w) : Oper.wp P o a w K Q := by
  unfold Oper.wp
  simp [execOp, hop]
  exact h
theorem op_assign {x : Operand} (hop : o.op = .assign x) (h : K (a.put o.dst (a.eval x)) w) : Oper.wp P o a w K Q := by
  unfold Oper.wp
  simp [execOp, hop]
  exact h
theorem op_make {t : TypeId} {x y : Operand} {vx vy v : Value} {w' : World} (hop : o.op = .makeSlice t x y) (hx : a.eval x = vx) (hy : a.eval y = vy) (hrun : Sem.run P (Instr.makeSlice t vx vy) w = .ok v w') (h : K (a.put o.dst v) w') : Oper.wp P o a w K Q := by
  unfold Oper.wp
  simp [execOp, hop, hx, hy, hrun, Result.andThen]
  exact h
end
end Kt
end
section
/- A region that draws its order and ends in an append: by an invariant, each operation walked once. -/
namespace Kt
open Go Go.RowKit
/-- A region: N operations, the last of them uses the appended slice; bd builds the block of what is appended, ap appends. -/
structure RgP where
  N : Nat
  bd : Nat
  ap : Nat
  slot : Nat → Nat
  S : List Nat
  pv : Nat → Option Value
  a0 : Act
  W : World
  base : Nat
  e : TypeId
  sz : Nat
  V : Value
  n : Nat
  xs : List Value
  news : List Value
  Fin : Act → World → Prop
  bv : Nat → Value
  dp : Nat → List Nat
structure RgOk (p : RgP) : Prop where
  inj : ∀ i j, i < p.N - 1 → j < p.N - 1 → p.slot i = p.slot j → i = j
  mem : ∀ j, j < p.N - 1 → p.slot j ∈ p.S
  lt : ∀ j, j < p.N - 1 → p.slot j < p.a0.tmps.size
  hN : 2 ≤ p.N
  hb : p.bd < p.N - 1
  ha : p.ap < p.N - 1 ∨ p.ap = p.N - 1
  hne : p.bd ≠ p.ap
  nb : p.pv p.bd = none
  na : p.pv p.ap = none
  nl : p.pv (p.N - 1) = none
structure RgI (p : RgP) (listed : Array Bool) (act : Act) (w : World) : Prop where
  size : listed.size = p.N
  frame : Fr p.S p.a0 act
  pure : ∀ j v, j < p.N → p.pv j = some v → listed.getD j false = true → val act (p.slot j) = v
  cl : ∀ j i, listed.getD j false = true → i ∈ p.dp j → listed.getD i false = true
  last : listed.getD (p.N - 1) false = true → p.Fin act w ∧ ∀ j, j < p.N → listed.getD j false = true
  kp : listed.getD (p.N - 1) false = false → p.W.grownBy w p.V.ownBlock
  own : listed.getD p.ap false = false → w.ownsRow p.base p.e p.sz p.V p.n p.xs
  bld : listed.getD p.bd false = true → listed.getD p.ap false = false → ∃ g, p.W.heap.size ≤ g ∧ val act (p.slot p.bd) = p.bv g ∧ Blk w g p.e p.news.toArray
  app : listed.getD p.ap false = true → listed.getD (p.N - 1) false = false → ∃ g cap, val act (p.slot p.ap) = .slice (some ⟨g, 0, none⟩) (p.n + 1) cap ∧ w.ownsRow p.base p.e p.sz (.slice (some ⟨g, 0, none⟩) (p.n + 1) cap) (p.n + 1) (p.xs ++ p.news) ∧
    (p.V.ownBlock = some g ∨ p.W.heap.size ≤ g) ∧ g < w.heap.size
variable {p : RgP} {listed : Array Bool} {act : Act} {w w' : World}
theorem val_get (a : Act) (s : Nat) : val a s = a.tmps[s]?.getD undef := by simp [val]
theorem grown_drew (W : World) (row : Option Nat) : W.grownBy W.drew row := ⟨rfl, rfl, rfl, Nat.le_refl _, fun _ _ _ => rfl⟩
theorem grown_alloc {W : World} {row : Option Nat} (h : W.grownBy w row) (o : Obj) : W.grownBy (w.alloc o) row :=
  ⟨h.os, h.tape, h.output, Nat.le_trans h.size (by simp), fun k hk hne => (Below.heap_alloc _ _ _ (Nat.lt_of_lt_of_le hk h.size)).trans (h.block k hk hne)⟩
theorem grown_trans {W : World} {row : Option Nat} (h : W.grownBy w row) (k : w.grownBy w' row) : W.grownBy w' row :=
  ⟨k.os.trans h.os, k.tape.trans h.tape, k.output.trans h.output, Nat.le_trans h.size k.size, fun i hi hne => (k.block i (Nat.lt_of_lt_of_le hi h.size) hne).trans (h.block i hi hne)⟩
theorem op_opq {P : Program} {o : Oper} {act : Act} {w w' : World} {Q : Exit → Act → World → Prop} {s : Nat} {v : Value} {G : Act → World → Prop} (hk : G (act.put (some s) v) w')
    (H : ∀ KK : Act → World → Prop, KK (act.put (some s) v) w' → Oper.wp P o act w KK Q) : Oper.wp P o act w G Q := H G hk
theorem op_opq0 {P : Program} {o : Oper} {act : Act} {w w' : World} {Q : Exit → Act → World → Prop} {G : Act → World → Prop} (hk : G act w')
    (H : ∀ KK : Act → World → Prop, KK act w' → Oper.wp P o act w KK Q) : Oper.wp P o act w G Q := H G hk
theorem RgI.start (hown : p.W.ownsRow p.base p.e p.sz p.V p.n p.xs) : RgI p (Array.replicate p.N false) p.a0 p.W.drew := by
  have hf : ∀ j, (Array.replicate p.N false).getD j false = false := fun j => by
    by_cases hj : j < p.N <;> simp [hj]
  refine ⟨by simp, Fr.refl _ _, fun j v _ _ hl => ?_, fun j i hl _ => ?_, fun hl => ?_, fun _ => grown_drew _ _, fun _ => hown, fun hl => ?_, fun hl => ?_⟩
  all_goals (rw [hf] at hl; cases hl)
theorem getD_setL {l : Array Bool} {i j : Nat} (h : i ≠ j) : (l.setIfInBounds i true).getD j false = l.getD j false := by
  simp [Array.getElem?_setIfInBounds_ne h]
theorem getD_same {l : Array Bool} {i : Nat} (h : i < l.size) : (l.setIfInBounds i true).getD i false = true := by
  simp [h]
theorem getD_no {l : Array Bool} {i : Nat} (h : l.getD i true = false) : l.getD i false = false := by
  by_cases hi : i < l.size
  · simpa [hi] using h
  · simp [hi]
theorem RgI.open_ (h : RgI p listed act w) {j : Nat} (hj : j < p.N) (hn : listed.getD j true = false) : listed.getD (p.N - 1) false = false := by
  cases hl : listed.getD (p.N - 1) false with
  | false => rfl
  | true =>
    have := (h.last hl).2 j hj
    rw [getD_no hn] at this
    cases this
theorem cl_set {listed : Array Bool} {dp : Nat → List Nat} (h : ∀ j i, listed.getD j false = true → i ∈ dp j → listed.getD i false = true) {n : Nat} (hd : ∀ i ∈ dp n, listed.getD i false = true) :
    ∀ j i, (listed.setIfInBounds n true).getD j false = true → i ∈ dp j → (listed.setIfInBounds n true).getD i false = true := by
  intro j i hj hi
  have h1 : listed.getD i false = true := by
    by_cases e : n = j
    · subst e; exact hd i hi
    · rw [getD_setL e] at hj; exact h j i hj hi
  by_cases e : n = i
  · subst e
    by_cases hs : n < listed.size
    · exact getD_same hs
    · exact absurd h1 (by simp [hs])
  · rw [getD_setL e]; exact h1
theorem RgI.pure_step (ok : RgOk p) (h : RgI p listed act w) {j s : Nat} {v : Value} (hd : ∀ i ∈ p.dp j, listed.getD i false = true) (hj : j < p.N - 1) (hn : listed.getD j true = false) (hv : p.pv j = some v) (hs : s = p.slot j) :
    RgI p (listed.setIfInBounds j true) (act.put (some s) v) w := by
  subst hs
  have hop := h.open_ (j := j) (by omega) hn
  have hne : ∀ i, i < p.N - 1 → i ≠ j → val (act.put (some (p.slot j)) v) (p.slot i) = val act (p.slot i) := fun i hi hij => val_put_ne (fun e => hij (ok.inj _ _ hj hi e).symm) v
  have hjb : j ≠ p.bd := fun e => by rw [e, ok.nb] at hv; cases hv
  have hja : j ≠ p.ap := fun e => by rw [e, ok.na] at hv; cases hv
  have hjl : j ≠ p.N - 1 := by omega
  refine ⟨by simp [h.size], h.frame.put (ok.mem j hj) v, fun i u hi hu hl => ?_, cl_set h.cl hd, fun hl => ?_, fun hl => ?_, fun hl => ?_, fun hl hl2 => ?_, fun hl hl2 => ?_⟩
  · by_cases hij : i = j
    · subst hij
      rw [hv] at hu
      injection hu with hu
      rw [val_put (by rw [h.frame.2.1]; exact ok.lt _ hj), hu]
    · rw [getD_setL (fun e => hij e.symm)] at hl
      have hi2 : i < p.N - 1 := by
        rcases Nat.lt_or_ge i (p.N - 1) with h1 | h1
        · exact h1
        · have : i = p.N - 1 := by omega
          rw [this, ok.nl] at hu; cases hu
      rw [hne i hi2 hij]
      exact h.pure i u hi hu hl
  · rw [getD_setL hjl, hop] at hl; cases hl
  · exact h.kp hop
  · rw [getD_setL hja] at hl; exact h.own hl
  · rw [getD_setL hjb] at hl
    rw [getD_setL hja] at hl2
    rw [hne _ ok.hb hjb.symm]
    exact h.bld hl hl2
  · rw [getD_setL hja] at hl
    rcases ok.ha with ha | ha
    · rw [hne _ ha hja.symm]
      exact h.app hl hop
    · rw [ha, hop] at hl; cases hl
theorem RgI.bld_step (ok : RgOk p) (h : RgI p listed act w) {s : Nat} (hd : ∀ i ∈ p.dp p.bd, listed.getD i false = true) (hn : listed.getD p.bd true = false) (hs : s = p.slot p.bd) {cs : Array Value} (hcs : cs = p.news.toArray) :
    RgI p (listed.setIfInBounds p.bd true) (act.put (some s) (p.bv w.heap.size)) (w.alloc (.cells cs p.e)) := by
  subst hs hcs
  have hb := ok.hb
  have hop := h.open_ (j := p.bd) (by omega) hn
  have hne : ∀ i, i < p.N - 1 → i ≠ p.bd → val (act.put (some (p.slot p.bd)) (p.bv w.heap.size)) (p.slot i) = val act (p.slot i) := fun i hi hij => val_put_ne (fun e => hij (ok.inj _ _ hb hi e).symm) _
  have hjl : p.bd ≠ p.N - 1 := by omega
  refine ⟨by simp [h.size], h.frame.put (ok.mem _ hb) _, fun i u hi hu hl => ?_, cl_set h.cl hd, fun hl => ?_, fun hl => ?_, fun hl => ?_, fun hl hl2 => ?_, fun hl hl2 => ?_⟩
  · by_cases hij : i = p.bd
    · rw [hij, ok.nb] at hu; cases hu
    · rw [getD_setL (fun e => hij e.symm)] at hl
      have hi2 : i < p.N - 1 := by
        rcases Nat.lt_or_ge i (p.N - 1) with h1 | h1
        · exact h1
        · have : i = p.N - 1 := by omega
          rw [this, ok.nl] at hu; cases hu
      rw [hne i hi2 hij]
      exact h.pure i u hi hu hl
  · rw [getD_setL hjl, hop] at hl; cases hl
  · exact grown_alloc (h.kp hop) _
  · rw [getD_setL ok.hne] at hl; exact World.ownsRow.alloc (h.own hl) _
  · exact ⟨w.heap.size, (h.kp hop).size, val_put (by rw [h.frame.2.1]; exact ok.lt _ hb) _, Blk.new _ _ _⟩
  · rw [getD_setL ok.hne] at hl
    rcases ok.ha with ha | ha
    · rw [hne _ ha ok.hne.symm]
      obtain ⟨g, cap, h1, h2, h3, h4⟩ := h.app hl hop
      exact ⟨g, cap, h1, World.ownsRow.alloc h2 _, h3, by simp; omega⟩
    · rw [ha, hop] at hl; cases hl
theorem RgI.app_step (ok : RgOk p) (h : RgI p listed act w) (ha : p.ap < p.N - 1) {s g cap : Nat} (hd : ∀ i ∈ p.dp p.ap, listed.getD i false = true) (hn : listed.getD p.ap true = false) (hs : s = p.slot p.ap)
    (h1 : w'.ownsRow p.base p.e p.sz (.slice (some ⟨g, 0, none⟩) (p.n + 1) cap) (p.n + 1) (p.xs ++ p.news)) (h2 : w.grownBy w' p.V.ownBlock) (h3 : p.V.ownBlock = some g ∨ g = w.heap.size) (h4 : g < w'.heap.size) :
    RgI p (listed.setIfInBounds p.ap true) (act.put (some s) (.slice (some ⟨g, 0, none⟩) (p.n + 1) cap)) w' := by
  subst hs
  have hop := h.open_ (j := p.ap) (by omega) hn
  have hne : ∀ i, i < p.N - 1 → i ≠ p.ap → val (act.put (some (p.slot p.ap)) (.slice (some ⟨g, 0, none⟩) (p.n + 1) cap)) (p.slot i) = val act (p.slot i) := fun i hi hij => val_put_ne (fun e => hij (ok.inj _ _ ha hi e).symm) _
  have hjl : p.ap ≠ p.N - 1 := by omega
  have hsa : (listed.setIfInBounds p.ap true).getD p.ap false = true := getD_same (by rw [h.size]; omega)
  refine ⟨by simp [h.size], h.frame.put (ok.mem _ ha) _, fun i u hi hu hl => ?_, cl_set h.cl hd, fun hl => ?_, fun hl => ?_, fun hl => ?_, fun hl hl2 => ?_, fun hl hl2 => ?_⟩
  · by_cases hij : i = p.ap
    · rw [hij, ok.na] at hu; cases hu
    · rw [getD_setL (fun e => hij e.symm)] at hl
      have hi2 : i < p.N - 1 := by
        rcases Nat.lt_or_ge i (p.N - 1) with h1 | h1
        · exact h1
        · have : i = p.N - 1 := by omega
          rw [this, ok.nl] at hu; cases hu
      rw [hne i hi2 hij]
      exact h.pure i u hi hu hl
  · rw [getD_setL hjl, hop] at hl; cases hl
  · exact grown_trans (h.kp hop) h2
  · rw [hsa] at hl; cases hl
  · rw [hsa] at hl2; cases hl2
  · refine ⟨g, cap, val_put (by rw [h.frame.2.1]; exact ok.lt _ ha) _, h1, ?_, h4⟩
    rcases h3 with h3 | h3
    · exact .inl h3
    · have := (h.kp hop).size
      exact .inr (by omega)
/-- The last operation: all others have come up. -/
theorem RgI.last_step (ok : RgOk p) (h : RgI p listed act w) {j : Nat} {act' : Act} (hd : ∀ i ∈ p.dp j, listed.getD i false = true) (hj : j = p.N - 1) (hall : ∀ i, i < p.N - 1 → listed.getD i false = true) (hfr : Fr p.S p.a0 act')
    (hv : ∀ i, i < p.N - 1 → val act' (p.slot i) = val act (p.slot i)) (hF : p.Fin act' w') :
    RgI p (listed.setIfInBounds j true) act' w' := by
  subst hj
  have hN := ok.hN
  have hsl : (listed.setIfInBounds (p.N - 1) true).getD (p.N - 1) false = true := getD_same (by rw [h.size]; omega)
  have hal : ∀ i, i < p.N → (listed.setIfInBounds (p.N - 1) true).getD i false = true := fun i hi => by
    by_cases e : i = p.N - 1
    · rw [e]; exact hsl
    · rw [getD_setL (fun e2 => e e2.symm)]; exact hall i (by omega)
  refine ⟨by simp [h.size], hfr, fun i u hi hu hl => ?_, cl_set h.cl hd, fun _ => ⟨hF, hal⟩, fun hl => ?_, fun hl => ?_, fun _ hl => ?_, fun _ hl => ?_⟩
  · by_cases e : i = p.N - 1
    · rw [e, ok.nl] at hu; cases hu
    · rw [hv i (by omega)]; exact h.pure i u hi hu (hall i (by omega))
  · rw [hsl] at hl; cases hl
  · rw [hal p.ap (by have := ok.ha; omega)] at hl; cases hl
  · rw [hal p.ap (by have := ok.ha; omega)] at hl; cases hl
  · rw [hsl] at hl; cases hl
/-- A cell of an old block, other than the row's. -/
theorem RgI.cell (h : RgI p listed act w) (hop : listed.getD (p.N - 1) false = false) {b o : Nat} {v : Value} (hb : b < p.W.heap.size) (hne : p.V.ownBlock ≠ some b) (hc : p.W.cell? ⟨b, o, none⟩ = some v) : w.cell? ⟨b, o, none⟩ = some v :=
  ((h.kp hop).cell_far ⟨b, o, none⟩ hb (fun e => hne e.symm)).trans hc
end Kt
end
section
/- A region that draws its order and only reads, but for its last operation perhaps: by an invariant, each operation walked once. -/
namespace Kt
open Go Go.RowKit
/-- N operations; number m (if there is one) comes last and may turn the world. -/
structure RqP where
  N : Nat
  m : Nat
  slot : Nat → Nat
  S : List Nat
  pv : Nat → Option Value
  a0 : Act
  W : World
  Fin : Act → World → Prop
structure RqOk (p : RqP) : Prop where
  inj : ∀ i j, i < p.N → j < p.N → i ≠ p.m → j ≠ p.m → p.slot i = p.slot j → i = j
  mem : ∀ j, j < p.N → j ≠ p.m → p.slot j ∈ p.S
  lt : ∀ j, j < p.N → j ≠ p.m → p.slot j < p.a0.tmps.size
  nl : p.pv p.m = none
structure RqI (p : RqP) (listed : Array Bool) (act : Act) (w : World) : Prop where
  size : listed.size = p.N
  frame : Fr p.S p.a0 act
  pure : ∀ j v, j < p.N → p.pv j = some v → listed.getD j false = true → val act (p.slot j) = v
  last : listed.getD p.m false = true → p.Fin act w ∧ ∀ j, j < p.N → listed.getD j false = true
  world : listed.getD p.m false = false → w = p.W.drew
variable {p : RqP} {listed : Array Bool} {act : Act} {w w' : World}
theorem listed_out {l : Array Bool} {n : Nat} (h : l.size = n) : l.getD n false = false := by simp [← h]
theorem RqI.start : RqI p (Array.replicate p.N false) p.a0 p.W.drew := by
  have hf : ∀ j, (Array.replicate p.N false).getD j false = false := fun j => by
    by_cases hj : j < p.N <;> simp [hj]
  refine ⟨by simp, Fr.refl _ _, fun j v _ _ hl => ?_, fun hl => ?_, fun _ => rfl⟩
  all_goals (rw [hf] at hl; cases hl)
theorem RqI.open_ (h : RqI p listed act w) {j : Nat} (hj : j < p.N) (hn : listed.getD j true = false) : listed.getD p.m false = false := by
  cases hl : listed.getD p.m false with
  | false => rfl
  | true =>
    have := (h.last hl).2 j hj
    rw [getD_no hn] at this
    cases this
theorem RqI.at (h : RqI p listed act w) {j : Nat} (hj : j < p.N) (hn : listed.getD j true = false) : w = p.W.drew := h.world (h.open_ hj hn)
theorem RqI.pure_step (ok : RqOk p) (h : RqI p listed act w) {j s : Nat} {v : Value} (hj : j < p.N) (hn : listed.getD j true = false) (hv : p.pv j = some v) (hs : s = p.slot j) :
    RqI p (listed.setIfInBounds j true) (act.put (some s) v) w := by
  subst hs
  have hop := h.open_ (j := j) hj hn
  have hjm : j ≠ p.m := fun e => by rw [e, ok.nl] at hv; cases hv
  refine ⟨by simp [h.size], h.frame.put (ok.mem j hj hjm) v, fun i u hi hu hl => ?_, fun hl => ?_, fun hl => ?_⟩
  · by_cases hij : i = j
    · subst hij
      rw [hv] at hu
      injection hu with hu
      rw [val_put (by rw [h.frame.2.1]; exact ok.lt _ hj hjm), hu]
    · rw [getD_setL (fun e => hij e.symm)] at hl
      have him : i ≠ p.m := fun e => by rw [e, ok.nl] at hu; cases hu
      rw [val_put_ne (fun e => hij (ok.inj _ _ hj hi hjm him e).symm)]
      exact h.pure i u hi hu hl
  · rw [getD_setL hjm, hop] at hl; cases hl
  · exact h.world hop
theorem RqI.last_step (ok : RqOk p) (h : RqI p listed act w) {j : Nat} (hj : j = p.m) (hm : p.m < p.N) (hall : ∀ i, i < p.N → i ≠ p.m → listed.getD i false = true) (hF : p.Fin act w') :
    RqI p (listed.setIfInBounds j true) act w' := by
  subst hj
  have hsl : (listed.setIfInBounds p.m true).getD p.m false = true := getD_same (by rw [h.size]; exact hm)
  have hal : ∀ i, i < p.N → (listed.setIfInBounds p.m true).getD i false = true := fun i hi => by
    by_cases e : i = p.m
    · rw [e]; exact hsl
    · rw [getD_setL (fun e2 => e e2.symm)]; exact hall i hi e
  refine ⟨by simp [h.size], h.frame, fun i u hi hu hl => ?_, fun _ => ⟨hF, hal⟩, fun hl => ?_⟩
  · by_cases e : i = p.m
    · rw [e, ok.nl] at hu; cases hu
    · exact h.pure i u hi hu (hall i hi e)
  · rw [hsl] at hl; cases hl
end Kt
end
section
/- Maps whose keys are structs of integers: look and put. -/
namespace Kt
open Go
section
variable {P : Program}
theorem run_look_key {w : World} {r : Nat} {es : Array MapEntry} {clock : Nat} {T k E : TypeId} {x z : Value} {lx : Lit} (K : WideMaps.KeyLaw P k) (hT : P.underlying T = some (.map k E))
    (hg : w.heap[r]? = some (.map es clock)) (hes : ∀ e ∈ es.toList, ∃ l, keyOf P k e.key = some l) (hx : keyOf P k x = some lx) (hz : (zeroValue E).run P w = .ok z w) :
    (Instr.lookup T (.map (some r)) x true).run P w = .ok (.tuple #[z, .bool false]) w ∨
    ∃ e ∈ es.toList, e.key = x ∧ (Instr.lookup T (.map (some r)) x true).run P w = .ok (.tuple #[e.val, .bool true]) w := by
  have hck : ∀ b, (Instr.checkKey b 10000 k x).run P w = .ok () w := fun b => K.check w b hx
  rcases K.find w hx es.toList hes with ⟨h, _⟩ | ⟨j, e, h, hj, hk⟩
  · left
    simp [Instr.lookup, run_underlying hT, h, hck, MapKept.run_getObj_map hg, hz, Result.andThen]
  · right
    refine ⟨e, List.mem_of_getElem? hj, hk, ?_⟩
    simp [Instr.lookup, run_underlying hT, h, hck, MapKept.run_getObj_map hg, Result.andThen]

theorem run_setObj_map' {w : World} {r : Nat} {es : Array MapEntry} {clock : Nat} (o : Obj) (h : w.heap[r]? = some (.map es clock)) : (setObj r o).run P w = .ok () (w.putObj r o) := by simp [setObj, Sem.run, h, World.putObj]

theorem run_put_key {w : World} {r : Nat} {es : Array MapEntry} {clock : Nat} {T k E : TypeId} {x v : Value} {lx : Lit} (K : WideMaps.KeyLaw P k) (hT : P.underlying T = some (.map k E))
    (hg : w.heap[r]? = some (.map es clock)) (hes : ∀ e ∈ es.toList, ∃ l, keyOf P k e.key = some l) (hx : keyOf P k x = some lx) :
    ∃ es' clock', (Instr.mapUpdate T (.map (some r)) x v).run P w = .ok () (w.putObj r (.map es' clock')) ∧ ∀ e ∈ es'.toList, e ∈ es.toList ∨ (e.key = x ∧ e.val = v) := by
  have hck : ∀ b, (Instr.checkKey b 10000 k x).run P w = .ok () w := fun b => K.check w b hx
  rcases K.find w hx es.toList hes with ⟨h, _⟩ | ⟨j, e, h, hj, hk⟩
  · refine ⟨es.push { key := x, val := v, born := clock }, clock + 1, ?_, fun e he => ?_⟩
    · unfold Instr.mapUpdate
      simp [run_underlying hT, h, hck, MapKept.run_getObj_map hg, run_setObj_map' _ hg, Result.andThen]
    · simp at he
      rcases he with he | rfl
      · exact .inl (by simpa using he)
      · exact .inr ⟨rfl, rfl⟩
  · have hes' : es[j]? = some e := by simpa using hj
    have hst := K.stays w hx
    refine ⟨es.modify j fun e => { e with key := x, val := v }, clock, ?_, fun e' he => ?_⟩
    · unfold Instr.mapUpdate
      simp [run_underlying hT, h, hck, MapKept.run_getObj_map hg, run_setObj_map' _ hg, Result.andThen, hes', hk, hst]
    · obtain ⟨i, hi, hie⟩ := List.getElem_of_mem he
      have hi2 : i < es.size := by simpa using hi
      have e2 : (es.modify j fun e => { e with key := x, val := v })[i]'(by simpa using hi2) = e' := by rw [← hie, Array.getElem_toList]
      rw [Array.getElem_modify] at e2
      split at e2
      · exact .inr ⟨by rw [← e2], by rw [← e2]⟩
      · left
        rw [← e2]
        simp
end
end Kt
end
section
/- Grammars and their derivations: the plain mathematics. -/
namespace Gr
structure Item where
  cls : Int
  sym : Int
deriving DecidableEq
structure Rule where
  left : Int
  right : List Item
inductive Tr where
  | node (rule fr to : Nat) (sub : List Tr)

/-- The lists of derivations of items between two positions, in order; `t`: those of a symbol. -/
def parts {α : Type} (hit : Nat → Int → Bool) (t : Int → Nat → Nat → List α) : List Item → Nat → Nat → List (List α)
  | [], i, j => if i = j then [[]] else []
  | x :: l, i, j =>
    if x.cls = 0 then (List.range' (i + 1) (j - i)).flatMap fun m => (t x.sym i m).flatMap fun a => (parts hit t l m j).map (a :: ·)
    else if i < j ∧ hit i x.cls = true then parts hit t l (i + 1) j else []

theorem flatMap_same {α β : Type} {f g : α → List β} : ∀ (l : List α), (∀ a ∈ l, f a = g a) → l.flatMap f = l.flatMap g
  | [], _ => rfl
  | a :: l, h => by rw [List.flatMap_cons, List.flatMap_cons, h a (by simp), flatMap_same l fun b hb => h b (by simp [hb])]

theorem parts_short {α : Type} (hit : Nat → Int → Bool) (t : Int → Nat → Nat → List α) : ∀ (l : List Item) (i j : Nat), j < i + l.length → parts hit t l i j = [] := by
  intro l
  induction l with
  | nil => intro i j h; rw [parts, if_neg (by simp at h; omega)]
  | cons x l ih =>
    intro i j h
    simp only [List.length_cons] at h
    rw [parts]
    split
    · rw [List.flatMap_eq_nil_iff]
      intro m hm
      rw [List.mem_range'_1] at hm
      rw [List.flatMap_eq_nil_iff]
      intro a _
      rw [ih m j (by omega), List.map_nil]
    · split
      · exact ih (i + 1) j (by omega)
      · rfl

theorem parts_congr {α : Type} (hit : Nat → Int → Bool) (t t' : Int → Nat → Nat → List α) : ∀ (l : List Item) (i j : Nat),
    (∀ s a b, i ≤ a → a < b → b ≤ j → (b - a < j - i ∨ (∃ x, l = [x] ∧ x.cls = 0 ∧ x.sym = s ∧ a = i ∧ b = j)) → t s a b = t' s a b) → parts hit t l i j = parts hit t' l i j := by
  intro l
  induction l with
  | nil => intro i j _; rfl
  | cons x l ih =>
    intro i j h
    have hih : ∀ m, i < m → parts hit t l m j = parts hit t' l m j := fun m hm => ih m j fun s a b h1 h2 h3 _ => h s a b (by omega) h2 h3 (.inl (by omega))
    rw [parts, parts]
    split
    · rename_i hx
      refine flatMap_same _ fun m hm => ?_
      rw [List.mem_range'_1] at hm
      by_cases hl : m = j ∧ l ≠ []
      · have hp : 0 < l.length := List.length_pos_iff.2 hl.2
        have z : ∀ u : List α, (u.flatMap fun a => (parts hit t l m j).map (a :: ·)) = [] := fun u => List.flatMap_eq_nil_iff.2 fun a _ => by rw [parts_short hit t l m j (by omega)]; rfl
        have z' : ∀ u : List α, (u.flatMap fun a => (parts hit t' l m j).map (a :: ·)) = [] := fun u => List.flatMap_eq_nil_iff.2 fun a _ => by rw [parts_short hit t' l m j (by omega)]; rfl
        rw [z, z']
      · have e : t x.sym i m = t' x.sym i m := h x.sym i m (Nat.le_refl _) (by omega) (by omega) (by
          by_cases hm2 : m = j
          · right
            have hl2 : l = [] := by
              by_cases hl3 : l = []
              · exact hl3
              · exact absurd ⟨hm2, hl3⟩ hl
            exact ⟨x, by rw [hl2], hx, rfl, rfl, hm2⟩
          · left; omega)
        rw [e, hih m (by omega)]
    · split
      · exact hih (i + 1) (by omega)
      · rfl

def zero : Rule := ⟨0, []⟩
def rul (g : List Rule) (r : Nat) : Rule := g.getD r zero
/-- The rules of a symbol. -/
def rulesOf (g : List Rule) (s : Int) : List Nat := (List.range g.length).filter fun r => decide ((rul g r).left = s)
/-- The derivations of a symbol between two positions, in order, no deeper than a number. -/
def T (g : List Rule) (hit : Nat → Int → Bool) : Nat → Int → Nat → Nat → List Tr
  | 0, _, _, _ => []
  | f + 1, s, i, j => (rulesOf g s).flatMap fun r => (parts hit (T g hit f) (rul g r).right i j).map (Tr.node r i j)

structure Ranked (g : List Rule) (ρ : Int → Nat) : Prop where
  le : ∀ s, ρ s ≤ 63
  dec : ∀ r, r < g.length → ∀ x, (rul g r).right = [x] → x.cls = 0 → ρ x.sym < ρ (rul g r).left

theorem mem_rulesOf {g : List Rule} {s : Int} {r : Nat} : r ∈ rulesOf g s ↔ r < g.length ∧ (rul g r).left = s := by
  unfold rulesOf
  rw [List.mem_filter, List.mem_range, decide_eq_true_eq]

theorem T_stable {g : List Rule} {ρ : Int → Nat} (hR : Ranked g ρ) (hit : Nat → Int → Bool) : ∀ (f : Nat) (s : Int) (i j : Nat), (j - i) * 64 + ρ s + 1 ≤ f → T g hit f s i j = T g hit (f + 1) s i j := by
  intro f
  induction f with
  | zero => intro s i j h; omega
  | succ f ih =>
    intro s i j h
    rw [T, T]
    refine flatMap_same _ fun r hr => ?_
    rw [mem_rulesOf] at hr
    rw [parts_congr hit (T g hit f) (T g hit (f + 1)) (rul g r).right i j fun s' a b h1 h2 h3 h4 => ?_]
    refine ih s' a b ?_
    rcases h4 with h4 | ⟨x, hx1, hx2, rfl, rfl, rfl⟩
    · have := hR.le s'
      omega
    · have := hR.dec r hr.1 x hx1 hx2
      rw [hr.2] at this
      omega

theorem T_more {g : List Rule} {ρ : Int → Nat} (hR : Ranked g ρ) (hit : Nat → Int → Bool) (f : Nat) (s : Int) (i j : Nat) (h : (j - i) * 64 + ρ s + 1 ≤ f) (k : Nat) : T g hit (f + k) s i j = T g hit f s i j := by
  induction k with
  | zero => rfl
  | succ k ih => rw [← ih]; exact (T_stable hR hit (f + k) s i j (by omega)).symm

/-- All derivations of a symbol between two positions, as long as these are not too far from each other. -/
def D (g : List Rule) (hit : Nat → Int → Bool) (n : Nat) : Int → Nat → Nat → List Tr := T g hit (64 * (n + 1))

theorem D_eq {g : List Rule} {ρ : Int → Nat} (hR : Ranked g ρ) (hit : Nat → Int → Bool) (n : Nat) (s : Int) (i j : Nat) (h : j - i ≤ n) :
    D g hit n s i j = (rulesOf g s).flatMap fun r => (parts hit (D g hit n) (rul g r).right i j).map (Tr.node r i j) := by
  have := hR.le s
  unfold D
  rw [T_stable hR hit _ s i j (by omega), T]
/-- How far the bound lies off does not matter. -/
theorem D_bound {g : List Rule} {ρ : Int → Nat} (hR : Ranked g ρ) (hit : Nat → Int → Bool) {n n' : Nat} (s : Int) (i j : Nat) (h : j - i ≤ n) (h' : n ≤ n') : D g hit n' s i j = D g hit n s i j := by
  unfold D
  have := hR.le s
  obtain ⟨k, rfl⟩ : ∃ k, n' = n + k := ⟨n' - n, by omega⟩
  rw [show 64 * (n + k + 1) = 64 * (n + 1) + 64 * k from by omega]
  exact T_more hR hit _ s i j (by omega) _

/-! ### How many there are -/
section
variable {α : Type} (hit : Nat → Int → Bool) (t : Int → Nat → Nat → List α)
theorem len_nil (i j : Nat) : (parts hit t [] i j).length = if i = j then 1 else 0 := by
  rw [parts]; split <;> rfl
theorem len_hit {x : Item} {l : List Item} {i j : Nat} (hx : x.cls ≠ 0) (hij : i < j) (hh : hit i x.cls = true) : parts hit t (x :: l) i j = parts hit t l (i + 1) j := by
  rw [parts, if_neg hx, if_pos ⟨hij, hh⟩]
theorem len_miss {x : Item} {l : List Item} {i j : Nat} (hx : x.cls ≠ 0) (hh : hit i x.cls = false) : parts hit t (x :: l) i j = [] := by
  rw [parts, if_neg hx, if_neg (by rw [hh]; simp)]
/-- Up to the k-th place of the first item's end. -/
def upto (x : Item) (l : List Item) (i j k : Nat) : Nat := ((List.range' (i + 1) k).map fun m => (t x.sym i m).length * (parts hit t l m j).length).sum
theorem upto_zero (x : Item) (l : List Item) (i j : Nat) : upto hit t x l i j 0 = 0 := rfl
theorem upto_succ (x : Item) (l : List Item) (i j k : Nat) : upto hit t x l i j (k + 1) = upto hit t x l i j k + (t x.sym i (i + 1 + k)).length * (parts hit t l (i + 1 + k) j).length := by
  unfold upto
  rw [List.range'_concat, List.map_append, List.sum_append]
  simp
theorem len_sym {x : Item} (l : List Item) (i j : Nat) (hx : x.cls = 0) : (parts hit t (x :: l) i j).length = upto hit t x l i j (j - i) := by
  rw [parts, if_pos hx, List.length_flatMap]
  unfold upto
  congr 1
  refine List.map_congr_left fun m _ => ?_
  rw [List.length_flatMap]
  simp [List.map_const', List.sum_replicate_nat]
theorem upto_tail (x : Item) (l : List Item) (i j k : Nat) (h : j ≤ i + k + l.length) : ∀ d, upto hit t x l i j (k + d) = upto hit t x l i j k
  | 0 => rfl
  | d + 1 => by
    rw [← Nat.add_assoc, upto_succ, upto_tail x l i j k h d, parts_short hit t l _ j (by omega)]
    simp
theorem len_sym_to {x : Item} (l : List Item) {i j k : Nat} (hx : x.cls = 0) (hk : i + k + l.length = j) : (parts hit t (x :: l) i j).length = upto hit t x l i j k := by
  rw [len_sym hit t l i j hx, show j - i = k + l.length from by omega]
  exact upto_tail hit t x l i j k (by omega) _
theorem upto_le (x : Item) (l : List Item) (i j k : Nat) : ∀ d, upto hit t x l i j k ≤ upto hit t x l i j (k + d)
  | 0 => Nat.le_refl _
  | d + 1 => by
    have := upto_le x l i j k d
    rw [← Nat.add_assoc, upto_succ]
    omega
end

theorem sum_le_mul {l : List Nat} {c : Nat} (h : ∀ x ∈ l, x ≤ c) : l.sum ≤ l.length * c := by
  induction l with
  | nil => simp
  | cons x l ih =>
    have := ih fun y hy => h y (by simp [hy])
    have h2 := h x (by simp)
    rw [List.sum_cons, List.length_cons, Nat.add_mul, Nat.one_mul]
    omega
theorem sum_mul_le {l : List Nat} {c m : Nat} (h : ∀ x ∈ l, x * m ≤ c) : l.sum * m ≤ l.length * c := by
  induction l with
  | nil => simp
  | cons x l ih =>
    have := ih fun y hy => h y (by simp [hy])
    have h2 := h x (by simp)
    rw [List.sum_cons, List.length_cons, Nat.add_mul, Nat.add_mul, Nat.one_mul]
    omega
theorem pw (a b : Nat) (h : a ≤ b) : 2 ^ a ≤ 2 ^ b := Nat.pow_le_pow_right (by omega) h
/-- a·2^x ≤ 2^y: with fewer on the left or more on the right it stays. -/
theorem pow_le {a x y x' y' : Nat} (h : a * 2 ^ x ≤ 2 ^ y) (d : y + x' ≤ y' + x) (hx : x' ≤ x) : a * 2 ^ x' ≤ 2 ^ y' := by
  obtain ⟨k, rfl⟩ : ∃ k, x = x' + k := ⟨x - x', by omega⟩
  have h2 : a * 2 ^ x' * 2 ^ k ≤ 2 ^ y' * 2 ^ k := by
    rw [Nat.mul_assoc, ← Nat.pow_add, ← Nat.pow_add]
    exact Nat.le_trans h (pw _ _ (by omega))
  exact Nat.le_of_mul_le_mul_right h2 (Nat.pow_pos (by omega))
theorem pow_le_up {a x y k : Nat} (h : a * 2 ^ x ≤ 2 ^ y) : a * 2 ^ (x + k) ≤ 2 ^ (y + k) := by
  rw [Nat.pow_add, Nat.pow_add, ← Nat.mul_assoc]
  exact Nat.mul_le_mul_right _ h

theorem parts_bd {c : Nat} (hc : c = 1028) {α : Type} (hit : Nat → Int → Bool) (t : Int → Nat → Nat → List α) : ∀ (l : List Item) (i j : Nat), j ≤ i + 64 →
    (∀ s a b, i ≤ a → a < b → b ≤ j → (b - a < j - i ∨ l.length = 1) → (t s a b).length * 2 ^ c ≤ 2 ^ (1036 * (b - a) + 504)) → (parts hit t l i j).length * 2 ^ (518 * l.length) ≤ 2 ^ (1036 * (j - i)) := by
  intro l
  induction l with
  | nil =>
    intro i j _ _
    rw [len_nil]
    split
    · simp only [List.length_nil, Nat.mul_zero, Nat.pow_zero, Nat.mul_one]
      exact Nat.one_le_two_pow
    · simp
  | cons x l ih =>
    intro i j h64 h
    have hih : ∀ m, i < m → (parts hit t l m j).length * 2 ^ (518 * l.length) ≤ 2 ^ (1036 * (j - m)) := fun m hm => ih m j (by omega) fun s a b h1 h2 h3 _ => h s a b (by omega) h2 h3 (.inl (by omega))
    rw [List.length_cons]
    by_cases hx : x.cls = 0
    · rw [len_sym hit t l i j hx]
      have hs : upto hit t x l i j (j - i) * 2 ^ (518 * (l.length + 1) + 6) ≤ (j - i) * 2 ^ (1036 * (j - i)) := by
        unfold upto
        have := sum_mul_le (l := (List.range' (i + 1) (j - i)).map fun m => (t x.sym i m).length * (parts hit t l m j).length) (c := 2 ^ (1036 * (j - i))) (m := 2 ^ (518 * (l.length + 1) + 6)) (fun y hy => by
          rw [List.mem_map] at hy
          obtain ⟨m, hm, rfl⟩ := hy
          rw [List.mem_range'_1] at hm
          by_cases hl : m = j ∧ l ≠ []
          · have hp : 0 < l.length := List.length_pos_iff.2 hl.2
            rw [parts_short hit t l m j (by omega)]
            simp
          · have h1 := h x.sym i m (Nat.le_refl _) (by omega) (by omega) (by
              by_cases hm2 : m = j
              · right
                by_cases hl3 : l = []
                · rw [hl3]; rfl
                · exact absurd ⟨hm2, hl3⟩ hl
              · left; omega)
            have h2 := hih m (by omega)
            have h3 := Nat.mul_le_mul h1 h2
            have e1 : (t x.sym i m).length * 2 ^ c * ((parts hit t l m j).length * 2 ^ (518 * l.length)) = (t x.sym i m).length * (parts hit t l m j).length * 2 ^ (c + 518 * l.length) := by
              rw [Nat.pow_add]
              simp only [Nat.mul_assoc, Nat.mul_left_comm, Nat.mul_comm]
            rw [e1, ← Nat.pow_add] at h3
            exact pow_le h3 (by omega) (by omega))
        rwa [List.length_map, List.length_range'] at this
      have h6 : (j - i) * 2 ^ (1036 * (j - i)) ≤ 2 ^ (1036 * (j - i) + 6) := by
        rw [Nat.pow_add, Nat.mul_comm]
        exact Nat.mul_le_mul_left _ (by omega)
      exact pow_le (Nat.le_trans hs h6) (by omega) (by omega)
    · cases hh : hit i x.cls
      · rw [len_miss hit t hx hh]; simp
      · by_cases hij : i < j
        · rw [len_hit hit t hx hij hh]
          have := hih (i + 1) (by omega)
          have h2 := pow_le_up (k := 518) this
          exact pow_le h2 (by omega) (by omega)
        · rw [parts_short hit t (x :: l) i j (by simp; omega)]; simp

def cnt (g : List Rule) (hit : Nat → Int → Bool) (n : Nat) (s : Int) (i j : Nat) : Nat := (D g hit n s i j).length
def ways (g : List Rule) (hit : Nat → Int → Bool) (n : Nat) (l : List Item) (i j : Nat) : Nat := (parts hit (D g hit n) l i j).length

theorem cnt_eq {g : List Rule} {ρ : Int → Nat} (hR : Ranked g ρ) (hit : Nat → Int → Bool) (n : Nat) (s : Int) (i j : Nat) (h : j - i ≤ n) :
    cnt g hit n s i j = ((rulesOf g s).map fun r => ways g hit n (rul g r).right i j).sum := by
  unfold cnt
  rw [D_eq hR hit n s i j h, List.length_flatMap]
  simp [ways]

theorem ways_one {g : List Rule} {hit : Nat → Int → Bool} {n : Nat} {x : Item} {i j : Nat} (hx : x.cls = 0) (hij : i < j) : ways g hit n [x] i j = cnt g hit n x.sym i j := by
  obtain ⟨k, rfl⟩ : ∃ k, j = i + 1 + k := ⟨j - i - 1, by omega⟩
  unfold ways
  rw [len_sym_to hit (D g hit n) [] (k := k + 1) hx (by simp; omega), upto_succ, len_nil, if_pos rfl, Nat.mul_one]
  have : upto hit (D g hit n) x [] i (i + 1 + k) k = 0 := by
    unfold upto
    rw [List.sum_eq_zero_iff_forall_eq_nat]
    intro y hy
    rw [List.mem_map] at hy
    obtain ⟨m, hm, rfl⟩ := hy
    rw [List.mem_range'_1] at hm
    rw [len_nil, if_neg (by omega), Nat.mul_zero]
  rw [this, Nat.zero_add]; rfl

theorem cnt_bd {c d : Nat} (hc : c = 1028) (hd : d = 1036) {g : List Rule} {ρ : Int → Nat} (hR : Ranked g ρ) (hg : g.length ≤ 256) (hit : Nat → Int → Bool) (n : Nat) : ∀ (N : Nat) (s : Int) (i j : Nat), (j - i) * 64 + ρ s ≤ N → i < j → j ≤ i + 64 → j - i ≤ n →
    cnt g hit n s i j * 2 ^ c ≤ 2 ^ (1036 * (j - i) + 8 * ρ s) := by
  intro N
  induction N with
  | zero => intro s i j h hij; omega
  | succ N ih =>
    intro s i j hN hij h64 hn
    rw [cnt_eq hR hit n s i j hn]
    have hone : ∀ r ∈ rulesOf g s, ways g hit n (rul g r).right i j * 2 ^ d ≤ 2 ^ (1036 * (j - i) + 8 * ρ s) := by
      intro r hr
      rw [mem_rulesOf] at hr
      have hbig : ∀ l : List Item, 2 ≤ l.length → ways g hit n l i j * 2 ^ d ≤ 2 ^ (1036 * (j - i) + 8 * ρ s) := fun l hl => by
        have := parts_bd hc hit (D g hit n) l i j h64 (fun s' a b h1 h2 h3 h4 => by
          have hb := hR.le s'
          have := ih s' a b (by omega) h2 (by omega) (by omega)
          exact pow_le this (by omega) (by omega))
        exact pow_le this (by omega) (by omega)
      rcases hrr : (rul g r).right with _ | ⟨x, _ | ⟨y, l⟩⟩
      · unfold ways
        rw [len_nil, if_neg (by omega)]; simp
      · by_cases hx : x.cls = 0
        · rw [ways_one hx hij]
          have hd := hR.dec r hr.1 x hrr hx
          rw [hr.2] at hd
          have := ih x.sym i j (by omega) hij h64 hn
          have h2 := pow_le_up (k := 8) this
          exact pow_le h2 (by omega) (by omega)
        · unfold ways
          cases hh : hit i x.cls
          · rw [len_miss hit _ hx hh]; simp
          · rw [len_hit hit _ hx hij hh, len_nil]
            split
            · rw [Nat.one_mul]
              exact pw _ _ (by omega)
            · simp
      · exact hbig _ (by simp)
    have hs := sum_mul_le (l := (rulesOf g s).map fun r => ways g hit n (rul g r).right i j) (c := 2 ^ (1036 * (j - i) + 8 * ρ s)) (m := 2 ^ d) (fun y hy => by
      rw [List.mem_map] at hy
      obtain ⟨r, hr, rfl⟩ := hy
      exact hone r hr)
    have hl : ((rulesOf g s).map fun r => ways g hit n (rul g r).right i j).length ≤ 2 ^ 8 := by
      rw [List.length_map]
      have := List.length_filter_le (fun r => decide ((rul g r).left = s)) (List.range g.length)
      rw [List.length_range] at this
      unfold rulesOf
      omega
    have h8 : ((rulesOf g s).map fun r => ways g hit n (rul g r).right i j).sum * 2 ^ d ≤ 2 ^ (1036 * (j - i) + 8 * ρ s + 8) := by
      refine Nat.le_trans hs ?_
      rw [Nat.pow_add _ _ 8, Nat.mul_comm]
      exact Nat.mul_le_mul_left _ hl
    exact pow_le h8 (by omega) (by omega)

/-- Far fewer than a natural of the program can say. -/
theorem cnt_lt {g : List Rule} {ρ : Int → Nat} (hR : Ranked g ρ) (hg : g.length ≤ 256) (hit : Nat → Int → Bool) (n : Nat) (s : Int) (i j : Nat) (h30 : j ≤ i + 30) (hn : j - i ≤ n) {N : Nat} (hN : 32000 ≤ N) : cnt g hit n s i j < 2 ^ N := by
  have hρ := hR.le s
  by_cases hij : i < j
  · obtain ⟨c, hc⟩ : ∃ c, c = 1028 := ⟨_, rfl⟩
    obtain ⟨d, hd⟩ : ∃ d, d = 1036 := ⟨_, rfl⟩
    have h := cnt_bd hc hd hR hg hit n _ s i j (Nat.le_refl _) hij (by omega) hn
    have h2 : cnt g hit n s i j * 2 ^ 0 ≤ 2 ^ (N - 1) := pow_le h (by omega) (by omega)
    rw [Nat.pow_zero, Nat.mul_one] at h2
    exact Nat.lt_of_le_of_lt h2 (Nat.pow_lt_pow_right (by omega) (by omega))
  · rw [cnt_eq hR hit n s i j hn]
    have : ((rulesOf g s).map fun r => ways g hit n (rul g r).right i j).sum ≤ ((rulesOf g s).map fun r => ways g hit n (rul g r).right i j).length * 1 := sum_le_mul fun y hy => by
      rw [List.mem_map] at hy
      obtain ⟨r, _, rfl⟩ := hy
      unfold ways
      rcases hrr : (rul g r).right with _ | ⟨x, l⟩
      · rw [len_nil]; split <;> omega
      · rw [parts_short hit _ _ _ _ (by simp; omega)]; simp
    have hl : ((rulesOf g s).map fun r => ways g hit n (rul g r).right i j).length ≤ 2 ^ 8 := by
      rw [List.length_map]
      have := List.length_filter_le (fun r => decide ((rul g r).left = s)) (List.range g.length)
      rw [List.length_range] at this
      unfold rulesOf
      omega
    have h3 : (2 : Nat) ^ 8 < 2 ^ N := Nat.pow_lt_pow_right (by omega) (by omega)
    omega
end Gr
end
section
/- Grammars in memory. -/
namespace Gr
def itm (l : List Item) (k : Nat) : Item := l.getD k ⟨0, 0⟩
end Gr
namespace Kt
open Go Go.RowKit
/-- The slice of address A holds the items l, in blocks below B. -/
def Items (w : World) (B : Nat) (A : Option Addr) (l : List Gr.Item) : Prop :=
  0 < l.length → ∃ b o, A = some ⟨b, o, none⟩ ∧ b < B ∧ ∀ k, k < l.length → w.cell? ⟨b, o + k * 2, none⟩ = some (.int .u16 (Gr.itm l k).cls) ∧ w.cell? ⟨b, o + k * 2 + 1, none⟩ = some (.int .i64 (Gr.itm l k).sym)
def Rules (w : World) (B : Nat) (A : Option Addr) (g : List Gr.Rule) : Prop :=
  0 < g.length → ∃ b o, A = some ⟨b, o, none⟩ ∧ b < B ∧ ∀ r, r < g.length → w.cell? ⟨b, o + r * 2, none⟩ = some (.int .i64 (Gr.rul g r).left) ∧
    ∃ A' c', w.cell? ⟨b, o + r * 2 + 1, none⟩ = some (.slice A' (Gr.rul g r).right.length c') ∧ (Gr.rul g r).right.length ≤ 4611686018427387904 ∧ Items w B A' (Gr.rul g r).right
variable {w w' : World} {B B' : Nat} {A : Option Addr} {l : List Gr.Item} {g : List Gr.Rule}
theorem Items.keep (h : Items w B A l) (hk : ∀ p : Addr, p.block < B → w'.cell? p = w.cell? p) : Items w' B A l := fun hn => by
  obtain ⟨b, o, e, hb, hc⟩ := h hn
  exact ⟨b, o, e, hb, fun k hkl => ⟨(hk _ hb).trans (hc k hkl).1, (hk _ hb).trans (hc k hkl).2⟩⟩
theorem Items.more (h : Items w B A l) (hB : B ≤ B') : Items w B' A l := fun hn => by
  obtain ⟨b, o, e, hb, hc⟩ := h hn
  exact ⟨b, o, e, by omega, hc⟩
theorem Items.below (h : Items w B A l) (hb : Below B w w') : Items w' B A l := h.keep fun _ hp => hb.cell hp
theorem Items.on (h : Items w w.heap.size A l) (hb : Below w.heap.size w w') : Items w' w'.heap.size A l := (h.below hb).more hb.size
theorem Items.drewN (h : Items w B A l) (n : Nat) : Items (w.drewN n) B A l := h
theorem Items.alloc (h : Items w B A l) (hB : B ≤ w.heap.size) (o : Obj) : Items (w.alloc o) B A l := h.keep fun p hp => World.cell?_alloc_lt w o p (by omega)
theorem Rules.keep (h : Rules w B A g) (hk : ∀ p : Addr, p.block < B → w'.cell? p = w.cell? p) : Rules w' B A g := fun hn => by
  obtain ⟨b, o, e, hb, hc⟩ := h hn
  refine ⟨b, o, e, hb, fun r hr => ?_⟩
  obtain ⟨h1, A', c', h2, h3, h4⟩ := hc r hr
  exact ⟨(hk _ hb).trans h1, A', c', (hk _ hb).trans h2, h3, h4.keep hk⟩
theorem Rules.more (h : Rules w B A g) (hB : B ≤ B') : Rules w B' A g := fun hn => by
  obtain ⟨b, o, e, hb, hc⟩ := h hn
  refine ⟨b, o, e, by omega, fun r hr => ?_⟩
  obtain ⟨h1, A', c', h2, h3, h4⟩ := hc r hr
  exact ⟨h1, A', c', h2, h3, h4.more hB⟩
theorem Rules.below (h : Rules w B A g) (hb : Below B w w') : Rules w' B A g := h.keep fun _ hp => hb.cell hp
theorem Rules.on (h : Rules w w.heap.size A g) (hb : Below w.heap.size w w') : Rules w' w'.heap.size A g := (h.below hb).more hb.size
theorem Rules.drewN (h : Rules w B A g) (n : Nat) : Rules (w.drewN n) B A g := h
theorem Rules.alloc (h : Rules w B A g) (hB : B ≤ w.heap.size) (o : Obj) : Rules (w.alloc o) B A g := h.keep fun p hp => World.cell?_alloc_lt w o p (by omega)
end Kt
end
section
/- Which rules are right: symbolRight, checked: their walks. -/
namespace Gr
def symOk (s : Int) : Bool := decide (0 ≤ s ∧ s < 64)
def itemOk (x : Item) : Bool := symOk x.sym && (decide (x.cls = 0) || decide (x.sym = 0))
/-- What is wrong with a rule. -/
def ruleE (r : Rule) : Int := if symOk r.left = false then 90 else if r.right.length = 0 ∨ 8 < r.right.length then 91 else if r.right.all itemOk = false then 90 else 0
theorem take_succ (l : List Item) (k : Nat) (h : k < l.length) : l.take (k + 1) = l.take k ++ [itm l k] := by
  rw [List.take_succ_eq_append_getElem h]
  unfold itm
  rw [List.getD_eq_getElem?_getD, List.getElem?_eq_getElem h]
  rfl
theorem all_false (l : List Item) (k : Nat) (h : (l.take k).all itemOk = false) : l.all itemOk = false := by
  rw [← List.take_append_drop k l, List.all_append, h, Bool.false_and]
end Gr
namespace Go.Proofs.Ytkclifdbdnigaaa
open Go Go.RowKit
theorem symbolRight_any (s : Int) (w : World) : Calls Try.prog 61 #[.int .i64 s] w fun e w' => e = .returned (.bool (Gr.symOk s)) ∧ w = w' := by
  by_cases h0 : 0 ≤ s
  · by_cases h1 : s < 64
    · have E : Hid (Gr.symOk s = true) := Lib.hid (decide_eq_true ⟨h0, h1⟩)
      go_enter Try.func61, Try.ntmps61
      go_wp2
      go_ret
      exact ⟨Kt.ret_bool E.out.symm, rfl⟩
    · have E : Hid (Gr.symOk s = false) := Lib.hid (decide_eq_false (by omega))
      go_enter Try.func61, Try.ntmps61
      go_wp2
      go_ret
      exact ⟨Kt.ret_bool E.out.symm, rfl⟩
  · have E : Hid (Gr.symOk s = false) := Lib.hid (decide_eq_false (by omega))
    go_enter Try.func61, Try.ntmps61
    go_wp2
    go_ret
    exact ⟨Kt.ret_bool E.out.symm, rfl⟩
set_option maxHeartbeats 1000000 in
theorem checked_any (s : Int) (A : Option Addr) (n cp : Nat) (l : List Gr.Item) (w : World) (hl : l.length = n) (hn : n ≤ 4611686018427387904) (hi : Kt.Items w w.heap.size A l) :
    Calls Try.prog 42 #[.agg #[.int .i64 s, .slice A n cp]] w fun e w' => e = .returned (.int .i64 (Gr.ruleE ⟨s, l⟩)) ∧ Below w.heap.size w w' := by
  have HL := Lib.hid hl
  clear hl
  have HE : Hid (∀ a b : Bool, Gr.symOk s = a → a = true → 0 < n → n ≤ 8 → l.all Gr.itemOk = b → Gr.ruleE ⟨s, l⟩ = if b then 0 else 90) := Lib.hid (by
    intro a b h1 h2 h3 h4 h5
    unfold Gr.ruleE
    have := HL.out
    simp only [h1, h2]
    rw [if_neg (by simp), if_neg (by show ¬ (l.length = 0 ∨ 8 < l.length); omega), h5]
    cases b <;> simp)
  cases hs : Gr.symOk s
  · have E : Hid (Gr.ruleE ⟨s, l⟩ = 90) := Lib.hid (by unfold Gr.ruleE; rw [if_pos hs])
    have HS := Lib.hid hs
    clear HE hs
    go_enter Try.func42, Try.ntmps42
    go_wp2_with fail
    refine (symbolRight_any s _).mono ?_
    rw [HS.out]
    rintro e w' ⟨rfl, rfl⟩
    go_wp2
    go_ret
    exact ⟨by rw [E.out]; rfl, (Below.refl _ _).alloc (Nat.le_refl _) _⟩
  · have HS := Lib.hid hs
    by_cases h0 : n = 0
    · have E : Hid (Gr.ruleE ⟨s, l⟩ = 91) := Lib.hid (by unfold Gr.ruleE; rw [if_neg (by simp [hs]), if_pos (.inl (by show l.length = 0; rw [HL.out, h0]))])
      have hz : ((n : Int) == 0) = true := by simp [h0]
      clear HE hs h0 hi
      go_enter Try.func42, Try.ntmps42
      go_wp2_with fail
      refine (symbolRight_any s _).mono ?_
      rw [HS.out]
      rintro e w' ⟨rfl, rfl⟩
      go_wp2
      go_ret
      exact ⟨by rw [E.out]; rfl, (Below.refl _ _).alloc (Nat.le_refl _) _⟩
    · have hz : ((n : Int) == 0) = false := by simp [h0]
      by_cases h8 : n ≤ 8
      · have HE2 := Lib.hid (HE.out true _ hs rfl (by omega) h8 rfl)
        clear HE hs
        go_enter Try.func42, Try.ntmps42
        go_wp2_with fail
        refine (symbolRight_any s _).mono ?_
        rw [HS.out]
        rintro e w' ⟨rfl, rfl⟩
        go_wp2_with fail
        go_loopw [22] (fun i wr => ∃ k : Nat, k ≤ n ∧ i = .int .i64 k ∧ Hid ((l.take k).all Gr.itemOk = true) ∧ Below w.heap.size w wr) (fun i _ => n - (intOf i).toNat)
        case atStart => exact ⟨0, Nat.zero_le _, rfl, Lib.hid (by simp), (Below.refl _ _).alloc (Nat.le_refl _) _⟩
        case round =>
          obtain ⟨k, hk, rfl, hall, hbel⟩ := hrel
          by_cases hlt : k < n
          · obtain ⟨b, o, rfl, hb, hc⟩ := (hi.below hbel) (by have := HL.out; omega)
            obtain ⟨c1, c2⟩ := hc k (by have := HL.out; omega)
            obtain ⟨x, hx⟩ : ∃ x, Hid (Gr.itm l k = x) := ⟨_, Lib.hid rfl⟩
            obtain ⟨xc, xs⟩ := x
            rw [hx.out] at c1 c2
            have hstep : (l.take (k + 1)).all Gr.itemOk = ((l.take k).all Gr.itemOk && Gr.itemOk ⟨xc, xs⟩) := by
              rw [← hx.out, Gr.take_succ l k (by have := HL.out; omega), List.all_append]
              simp
            have HS2 := Lib.hid hstep
            have hgs := hbel.size
            clear hc hstep
            go_wp2_with fail
            refine (symbolRight_any xs _).mono ?_
            cases hso : Gr.symOk xs
            · have E : Hid (Gr.ruleE ⟨s, l⟩ = 90) := Lib.hid (by rw [HE2.out, Gr.all_false l (k + 1) (by rw [HS2.out]; unfold Gr.itemOk; simp [hso])]; rfl)
              clear hso
              rintro e w' ⟨rfl, rfl⟩
              go_wp2
              go_ret
              exact ⟨by rw [E.out]; rfl, hbel.alloc hgs _⟩
            · by_cases hc0 : xc = 0
              · subst hc0
                have HN : Hid ((l.take (k + 1)).all Gr.itemOk = true) := Lib.hid (by rw [HS2.out, hall.out]; unfold Gr.itemOk; simp [hso])
                clear hso
                rintro e w' ⟨rfl, rfl⟩
                go_wp2
                go_roundw
                case rel => exact ⟨k + 1, by omega, by go_num, HN, hbel.alloc hgs _⟩
                case measure => simp [intOf]; omega
              · have hc1 : (xc != 0) = true := by simp [hc0]
                by_cases hs0 : xs = 0
                · subst hs0
                  have HN : Hid ((l.take (k + 1)).all Gr.itemOk = true) := Lib.hid (by rw [HS2.out, hall.out]; unfold Gr.itemOk; simp [hso])
                  clear hso hc0
                  rintro e w' ⟨rfl, rfl⟩
                  go_wp2
                  go_roundw
                  case rel => exact ⟨k + 1, by omega, by go_num, HN, hbel.alloc hgs _⟩
                  case measure => simp [intOf]; omega
                · have hs1 : (xs != 0) = true := by simp [hs0]
                  have E : Hid (Gr.ruleE ⟨s, l⟩ = 90) := Lib.hid (by rw [HE2.out, Gr.all_false l (k + 1) (by rw [HS2.out]; unfold Gr.itemOk; simp [hc0, hs0])]; rfl)
                  clear hso hc0 hs0
                  rintro e w' ⟨rfl, rfl⟩
                  go_wp2
                  go_ret
                  exact ⟨by rw [E.out]; rfl, hbel.alloc hgs _⟩
          · have E : Hid (Gr.ruleE ⟨s, l⟩ = 0) := Lib.hid (by
              rw [HE2.out]
              have h := hall.out
              rw [List.take_of_length_le (by have := HL.out; omega)] at h
              rw [if_pos h])
            go_wp2
            go_ret
            exact ⟨by rw [E.out]; rfl, hbel⟩
      · have E : Hid (Gr.ruleE ⟨s, l⟩ = 91) := Lib.hid (by unfold Gr.ruleE; rw [if_neg (by simp [hs]), if_pos (.inr (by show 8 < l.length; rw [HL.out]; omega))])
        clear HE hs hi
        go_enter Try.func42, Try.ntmps42
        go_wp2_with fail
        refine (symbolRight_any s _).mono ?_
        rw [HS.out]
        rintro e w' ⟨rfl, rfl⟩
        go_wp2
        go_ret
        exact ⟨by rw [E.out]; rfl, (Below.refl _ _).alloc (Nat.le_refl _) _⟩
end Go.Proofs.Ytkclifdbdnigaaa
end
