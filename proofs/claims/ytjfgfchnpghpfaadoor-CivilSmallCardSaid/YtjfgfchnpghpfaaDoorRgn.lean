/- A region that draws its order, by an invariant over the operations that have come up so far: each operation is walked once, not once for each order. -/
import Derived.Test.YtjfgfchnpghpfaaDoorKit2
import Derived.OrdersHeld
import Derived.Deep.RegionHeld
namespace Kt
open Go
section
variable {P : Program} {md : Region.Mode} {ops : Array Oper} {Q : Exit → Act → World → Prop}
/-- How many have not come up. -/
def unl (listed : Array Bool) : Nat := listed.toList.count false
theorem unl_set {listed : Array Bool} {i : Nat} (h : listed.getD i true = false) : unl (listed.setIfInBounds i true) + 1 = unl listed := by
  have hlt : i < listed.size := by
    rcases Nat.lt_or_ge i listed.size with h' | h'
    · exact h'
    · simp [h'] at h
  have he : listed.toList[i] = false := by simpa [hlt] using h
  unfold unl
  rw [Array.toList_setIfInBounds, List.count_set (by simpa using hlt)]
  have hpos : 0 < listed.toList.count false := List.count_pos_iff.2 (by rw [← he]; exact List.getElem_mem _)
  rw [he]
  simp only [beq_self_eq_true, if_true]
  rw [show (true == false) = false from rfl]
  simp only [Bool.false_eq_true, if_false]
  omega
theorem wpAny_inv (I : Array Bool → Act → World → Prop) (hg : ∀ (i : Nat) (o : Oper), ops[i]? = some o → o.guard = none)
    (hstep : ∀ listed a w i o, I listed a w → ops[i]? = some o → listed.getD i true = false → (∀ e ∈ o.after, Region.binds md e = true → listed.getD e.on false = true) → Oper.wp P o a w (fun a' w' => I (listed.setIfInBounds i true) a' w') Q)
    (hdone : ∀ listed a w, I listed a w → Region.ready md ops listed = [] → Q .normal a w) :
    ∀ (fuel : Nat) (listed : Array Bool) (a : Act) (w : World), unl listed ≤ fuel → I listed a w → wpAny P md ops Q fuel listed a w := by
  intro fuel
  induction fuel with
  | zero =>
    intro listed a w hu hI
    have hr : Region.ready md ops listed = [] := by
      refine List.eq_nil_iff_forall_not_mem.2 fun i hi => ?_
      have := unl_set (mem_ready.1 hi).1
      omega
    exact ⟨hr, hdone _ _ _ hI hr⟩
  | succ fuel ih =>
    intro listed a w hu hI
    refine ⟨fun hr => hdone _ _ _ hI hr, fun i hi => ?_⟩
    obtain ⟨h1, o, ho, h2⟩ := mem_ready.1 hi
    have h3 := unl_set h1
    have hs := hstep listed a w i o hI ho h1 h2
    unfold wpOp
    rw [ho]
    have hw : Region.wanted o (yielded ops a.tmps) = true := by simp [Region.wanted, hg i o ho]
    simp only [hw, if_true]
    exact .inl (Oper.wp_mono (fun a' w' h => ih _ a' w' (by omega) h) hs)
theorem region_inv {id : Nat} {a : Act} {w : World} (I : Array Bool → Act → World → Prop) (hm : P.follows .mixedOrders = true) (hg : ∀ (i : Nat) (o : Oper), ops[i]? = some o → o.guard = none)
    (hI : I (Array.replicate ops.size false) a w.drew)
    (hstep : ∀ listed a w i o, I listed a w → ops[i]? = some o → listed.getD i true = false → (∀ e ∈ o.after, Region.binds .any e = true → listed.getD e.on false = true) → Oper.wp P o a w (fun a' w' => I (listed.setIfInBounds i true) a' w') Q)
    (hdone : ∀ listed a w, I listed a w → Region.ready .any ops listed = [] → Q .normal a w) : (Code.region id ops true).wp P Q a w :=
  wp_region_any hm (wpAny_inv I hg hstep hdone _ _ _ _ (by unfold unl; simp) hI)
/-- Nothing is left: all have come up. -/
theorem all_up {listed : Array Bool} (hd : ∀ (j : Nat) (o : Oper), ops[j]? = some o → ∀ e ∈ o.after, Region.binds md e = true → e.on < j) (hsz : listed.size = ops.size) (hr : Region.ready md ops listed = []) :
    ∀ j, j < ops.size → listed.getD j false = true := by
  intro j
  induction j using Nat.strongRecOn with
  | _ j ih =>
    intro hj
    cases hl : listed.getD j true with
    | true =>
      have : j < listed.size := by omega
      simp [this] at hl ⊢
      exact hl
    | false =>
      exfalso
      have hm : j ∈ Region.ready md ops listed := mem_ready.2 ⟨hl, ops[j], Array.getElem?_eq_getElem hj, fun e he hb => by
        have h1 := hd j ops[j] (Array.getElem?_eq_getElem hj) e he hb
        exact ih e.on h1 (by omega)⟩
      rw [hr] at hm
      cases hm
end
/-! ### Frames -/
def Fr (S : List Nat) (a0 a : Act) : Prop := a.defers = a0.defers ∧ a.tmps.size = a0.tmps.size ∧ ∀ s, s ∉ S → a.tmps[s]? = a0.tmps[s]?
def val (a : Act) (s : Nat) : Value := a.tmps.getD s undef
theorem Fr.refl (S : List Nat) (a : Act) : Fr S a a := ⟨rfl, rfl, fun _ _ => rfl⟩
theorem Fr.put {S : List Nat} {a0 a : Act} (h : Fr S a0 a) {s : Nat} (hs : s ∈ S) (v : Value) : Fr S a0 (a.put (some s) v) := by
  refine ⟨h.1, ?_, fun t ht => ?_⟩
  · simp [Act.put, h.2.1]
  · have hne : s ≠ t := fun e => ht (e ▸ hs)
    simp [Act.put, Array.getElem?_setIfInBounds_ne hne, h.2.2 t ht]
theorem val_put {a : Act} {s : Nat} (hs : s < a.tmps.size) (v : Value) : val (a.put (some s) v) s = v := by simp [val, Act.put, hs]
theorem val_put_ne {a : Act} {s t : Nat} (h : s ≠ t) (v : Value) : val (a.put (some s) v) t = val a t := by simp [val, Act.put, Array.getElem?_setIfInBounds_ne h]
theorem eval_val (a : Act) (s : Nat) : a.eval (.tmp s) = val a s := rfl
theorem Fr.val_out {S : List Nat} {a0 a : Act} (h : Fr S a0 a) {s : Nat} (hs : s ∉ S) : val a s = val a0 s := by simp [val, h.2.2 s hs]
/-- The frame, written out. -/
def sets (f : Nat → Value) : List Nat → Array Value → Array Value
  | [], t => t
  | s :: S, t => sets f S (t.setIfInBounds s (f s))
theorem sets_size (f : Nat → Value) : ∀ (S : List Nat) (t : Array Value), (sets f S t).size = t.size
  | [], _ => rfl
  | s :: S, t => by rw [sets, sets_size f S]; simp
theorem sets_get (f : Nat → Value) : ∀ (S : List Nat) (t : Array Value) (i : Nat), i < t.size → (sets f S t)[i]? = some (if i ∈ S then f i else t.getD i undef)
  | [], t, i, h => by simp [sets, h]
  | s :: S, t, i, h => by
    rw [sets, sets_get f S _ i (by simpa using h)]
    by_cases h1 : i ∈ S
    · simp [h1]
    · by_cases h2 : s = i
      · subst h2; simp [h1, h]
      · simp [h1, Array.getElem?_setIfInBounds_ne h2, Ne.symm h2]
theorem Fr.out {S : List Nat} {a0 a : Act} (h : Fr S a0 a) : a = ⟨sets (val a) S a0.tmps, a0.defers⟩ := by
  obtain ⟨h1, h2, h3⟩ := h
  cases a with
  | mk t d =>
    simp only at h1 h2 h3
    subst h1
    congr 1
    apply Array.ext_getElem?
    intro i
    rcases Nat.lt_or_ge i t.size with hi | hi
    · rw [sets_get _ _ _ _ (by omega)]
      by_cases hs : i ∈ S
      · simp [hs, val, hi]
      · have := h3 i hs
        simp [hs]
        rw [← this]
        simp [hi]
    · rw [Array.getElem?_eq_none hi, Array.getElem?_eq_none (by rw [sets_size]; omega)]
/-! ### Single operations, the frame behind a letter -/
section
variable {P : Program} {o : Oper} {a : Act} {w : World} {K : Act → World → Prop} {Q : Exit → Act → World → Prop}
theorem op_move {x : Operand} (hop : o.op = .move x) (h : K (a.put o.dst (a.eval x)) w) : Oper.wp P o a w K Q := by
  unfold Oper.wp
  simp [execOp, hop]
  exact h
theorem op_assign {x : Operand} (hop : o.op = .assign x) (h : K (a.put o.dst (a.eval x)) w) : Oper.wp P o a w K Q := by
  unfold Oper.wp
  simp [execOp, hop]
  exact h
theorem op_make {t : TypeId} {x y : Operand} {vx vy v : Value} {w' : World} (hop : o.op = .makeSlice t x y) (hx : a.eval x = vx) (hy : a.eval y = vy) (hrun : Sem.run P (Instr.makeSlice t vx vy) w = .ok v w') (h : K (a.put o.dst v) w') : Oper.wp P o a w K Q := by
  unfold Oper.wp
  simp [execOp, hop, hx, hy, hrun, Result.andThen]
  exact h
end
end Kt
