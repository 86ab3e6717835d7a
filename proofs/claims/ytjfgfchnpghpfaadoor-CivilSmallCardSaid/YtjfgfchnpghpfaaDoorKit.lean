/- General facts on worlds and slices of integers, over any program: used by all walks of this seat. -/
import Derived.Test.YtjfgfchnpghpfaaDoorLists
import Derived.WalkKit
import Derived.Carry
import Derived.Lib.Hide
import Derived.Deep.Draws
import Derived.Deep.AppendLies
import Derived.Lib.AppendIntMem
import Derived.Lib.ItoaMem
import Derived.Deep.QuietTactic
namespace Kt
open Go Go.RowKit

/-! ### Old cells behind a call that makes memory -/
theorem bcell {W w1 : World} (hb : Below W.heap.size W w1) : (∀ b o, b < W.heap.size → w1.cell? ⟨b, o, none⟩ = W.cell? ⟨b, o, none⟩) ∧ (∀ b o, b < W.heap.size → w1.frozen? ⟨b, o, none⟩ = W.frozen? ⟨b, o, none⟩) :=
  ⟨fun b o h => hb.cell (p := ⟨b, o, none⟩) h, fun b o h => hb.frozen (p := ⟨b, o, none⟩) h⟩
theorem next {W w1 w2 : World} (h : Below W.heap.size W w1) (k : Below w1.heap.size w1 w2) : Below W.heap.size W w2 := h.trans (k.mono h.size)
theorem below_drewN {B : Nat} {a w : World} (h : Below B a w) (n : Nat) : Below B a (w.drewN n) := ⟨h.os, h.tape, h.output, h.size, h.block⟩
theorem below_of_drewN (w : World) (n : Nat) : Below w.heap.size w (w.drewN n) := below_drewN (Below.refl _ _) n
theorem below_grow (w : World) (k : Nat) (os : Array Obj) : Below w.heap.size w (Sort.grow (w.drewN k) os) :=
  ⟨rfl, rfl, rfl, by simp [Sort.grow, World.drewN], fun i hi => by
    show ((w.drewN k).heap ++ os)[i]? = w.heap[i]?
    rw [Array.getElem?_append, if_pos (by simpa [World.drewN] using hi)]
    rfl⟩

/-! ### Calls inside a region that draws its order -/
theorem quiet_left {P : Program} {f : FuncId} {args : Array Value} {w : World} {n : Nat} {v : Value}
    (h : Calls P f args (w.drewN n) fun e w' => e = .returned v ∧ w.drewN n = w') : Calls P f args (w.drewN n) fun e w'' => e = .returned v ∧ ∃ m, w'' = w.drewN m :=
  h.mono fun _ _ ⟨he, hm⟩ => ⟨he, n, hm.symm⟩
theorem quiet_add_left {P : Program} {f : FuncId} {args : Array Value} {w : World} {a n : Nat} {v : Value}
    (h : Calls P f args (w.drewN (a + n)) fun e w' => e = .returned v ∧ w.drewN (a + n) = w') :
    Calls P f args (w.drewN (a + n)) fun e w'' => e = .returned v ∧ ∃ m, w'' = w.drewN (a + m) :=
  h.mono fun _ _ ⟨he, hm⟩ => ⟨he, n, hm.symm⟩

/-! ### What Go returns -/
theorem ret_int {k : IntKind} {a b : Int} (h : a = b) : Ending.returned (.int k a) = .returned (.int k b) := by rw [h]
theorem ret_bool {a b : Bool} (h : a = b) : Ending.returned (.bool a) = .returned (.bool b) := by rw [h]
theorem ret_ii {k l : IntKind} {a b c d : Int} (h : a = c) (h' : b = d) : Ending.returned (.tuple #[.int k a, .int l b]) = .returned (.tuple #[.int k c, .int l d]) := by rw [h, h']
theorem ret_str {a b : List UInt8} (h : a = b) : Ending.returned (.string ⟨a.toArray⟩) = .returned (.string ⟨b.toArray⟩) := by rw [h]

/-! ### Maps with integer keys that the call makes -/
section
variable {P : Program}
theorem run_insert_int (w : World) (es : Array MapEntry) (clock : Nat) {T K E : TypeId} {kind : IntKind} (k : Int) (v : Value) (hT : P.underlying T = some (.map K E)) (hK : P.underlying K = some (.int kind))
    (hn : Instr.findNow (.int kind) (.int kind k) es.toList 0 = some none) :
    (Instr.mapUpdate T (.map (some w.heap.size)) (.int kind k) v).run P (w.alloc (.map es clock)) = .ok () (w.alloc (.map (es.push { key := .int kind k, val := v, born := clock }) (clock + 1))) := by
  have hg : (w.alloc (.map es clock)).heap[w.heap.size]? = some (.map es clock) := heap_alloc_new w _
  have hck : (Instr.checkKey false 10000 K (.int kind k)).run P (w.alloc (.map es clock)) = .ok () (w.alloc (.map es clock)) := by
    unfold Instr.checkKey
    simp [run_underlying hK]
  have hset : ({ (w.alloc (.map es clock)) with heap := (w.alloc (.map es clock)).heap.setIfInBounds w.heap.size (.map (es.push { key := .int kind k, val := v, born := clock }) (clock + 1)) } : World) = w.alloc (.map (es.push { key := .int kind k, val := v, born := clock }) (clock + 1)) := by
    show World.mk _ _ _ _ _ = World.mk _ _ _ _ _
    congr 1
    apply Array.ext_getElem?
    intro i
    show ((w.heap.push _).setIfInBounds _ _)[i]? = (w.heap.push _)[i]?
    rw [Array.getElem?_setIfInBounds, Array.getElem?_push, Array.getElem?_push]
    by_cases h : w.heap.size = i
    · subst h; simp
    · rw [if_neg h, if_neg (fun e => h e.symm)]
      rw [if_neg (fun e => h e.symm)]
  unfold Instr.mapUpdate
  simp [run_underlying hT, Instr.findKey, run_underlying hK, hn, hck, MapKept.run_getObj_map hg, MapKept.run_setObj_map _ hg, Result.andThen]
  exact hset
theorem run_look_int (w : World) (r : Nat) (es : Array MapEntry) (clock i : Nat) {T K E : TypeId} {kind : IntKind} (k : Int) (v : Value) (hT : P.underlying T = some (.map K E)) (hK : P.underlying K = some (.int kind))
    (hg : w.heap[r]? = some (.map es clock)) (hn : Instr.findNow (.int kind) (.int kind k) es.toList 0 = some (some (i, v))) :
    (Instr.lookup T (.map (some r)) (.int kind k) true).run P w = .ok (.tuple #[v, .bool true]) w := by
  have hck : ∀ b, (Instr.checkKey b 10000 K (.int kind k)).run P w = .ok () w := by
    intro b
    unfold Instr.checkKey
    simp [run_underlying hK]
  simp [Instr.lookup, run_underlying hT, Instr.findKey, run_underlying hK, hn, hck, MapKept.run_getObj_map hg, Result.andThen]
theorem run_look_none (w : World) (r : Nat) (es : Array MapEntry) (clock : Nat) {T K E : TypeId} {kind : IntKind} (k : Int) (z : Value) (hT : P.underlying T = some (.map K E)) (hK : P.underlying K = some (.int kind))
    (hg : w.heap[r]? = some (.map es clock)) (hn : Instr.findNow (.int kind) (.int kind k) es.toList 0 = some none) (hz : (zeroValue E).run P w = .ok z w) :
    (Instr.lookup T (.map (some r)) (.int kind k) true).run P w = .ok (.tuple #[z, .bool false]) w := by
  have hck : ∀ b, (Instr.checkKey b 10000 K (.int kind k)).run P w = .ok () w := by
    intro b
    unfold Instr.checkKey
    simp [run_underlying hK]
  simp [Instr.lookup, run_underlying hT, Instr.findKey, run_underlying hK, hn, hck, MapKept.run_getObj_map hg, hz, Result.andThen]
end

/-! ### A slice of integers that is read -/
/-- The slice value of address A holds the numbers zs, below block B. -/
def Ints (w : World) (B : Nat) (k : IntKind) (A : Option Addr) (zs : List Int) : Prop :=
  0 < zs.length → ∃ b off, A = some ⟨b, off, none⟩ ∧ b < B ∧ ∀ j, j < zs.length → w.cell? ⟨b, off + j, none⟩ = some (.int k (Ls.nth zs j))
section
variable {w w' : World} {B B' : Nat} {k : IntKind} {A : Option Addr} {zs : List Int}
theorem Ints.nil : Ints w B k A [] := fun h => absurd h (by simp)
theorem Ints.keep (h : Ints w B k A zs) (hk : ∀ p : Addr, p.block < B → w'.cell? p = w.cell? p) : Ints w' B k A zs := fun hn => by
  obtain ⟨b, off, e, hb, hc⟩ := h hn
  exact ⟨b, off, e, hb, fun j hj => (hk _ hb).trans (hc j hj)⟩
theorem Ints.more (h : Ints w B k A zs) (hB : B ≤ B') : Ints w B' k A zs := fun hn => by
  obtain ⟨b, off, e, hb, hc⟩ := h hn
  exact ⟨b, off, e, by omega, hc⟩
theorem Ints.below (h : Ints w B k A zs) (hb : Below B w w') : Ints w' B k A zs := h.keep fun _ hp => hb.cell hp
/-- Carried on to the end of a call that makes memory. -/
theorem Ints.on (h : Ints w w.heap.size k A zs) (hb : Below w.heap.size w w') : Ints w' w'.heap.size k A zs := (h.below hb).more hb.size
theorem Ints.drewN (h : Ints w B k A zs) (n : Nat) : Ints (w.drewN n) B k A zs := h
theorem Ints.alloc (h : Ints w B k A zs) (hB : B ≤ w.heap.size) (o : Obj) : Ints (w.alloc o) B k A zs := h.keep fun p hp => World.cell?_alloc_lt w o p (by omega)
theorem Ints.of_own {base : Nat} {e : TypeId} {n c : Nat} (h : w.ownsRow base e 1 (.slice A n c) n (zs.map (Value.int k))) : Ints w w.heap.size k A zs := by
  intro hn
  have hl : zs.length = n := by simpa using h.1
  obtain ⟨g, cap, hv, _, hlt⟩ := h.form (by omega)
  have hA : A = some ⟨g, 0, none⟩ := by injection hv
  subst hA
  refine ⟨g, 0, rfl, hlt, fun j hj => ?_⟩
  have := h.cells (g := g) rfl j (.int k (Ls.nth zs j)) (by rw [List.getElem?_map, Ls.nth_of hj]; rfl)
  simpa [Addr.add_lit] using this
end

theorem ints_lit (w : World) (T : TypeId) (k : IntKind) (zs : List Int) (cs : Array Value) (hcs : cs = (zs.map (Value.int k)).toArray) :
    Ints (w.alloc (.cells cs T)) (w.alloc (.cells cs T)).heap.size k (some ⟨w.heap.size, 0, none⟩) zs := by
  subst hcs
  intro _
  refine ⟨w.heap.size, 0, rfl, by simp, fun j hj => ?_⟩
  have h := heap_alloc_new w (.cells (zs.map (Value.int k)).toArray T)
  rw [cell_of_row _ w.heap.size (0 + j) _ T (0, 0) h]
  simp only [Nat.zero_add, List.getElem?_toArray, List.getElem?_map, Ls.nth_of hj]
  rfl

/-! ### A block that is known whole -/
def Blk (w : World) (g : Nat) (t : TypeId) (cs : Array Value) : Prop := w.heap[g]? = some (.cells cs t (0, 0))
section
variable {w w' : World} {g : Nat} {t : TypeId} {cs : Array Value}
theorem Blk.lt (h : Blk w g t cs) : g < w.heap.size := by
  rcases Nat.lt_or_ge g w.heap.size with hlt | hge
  · exact hlt
  · unfold Blk at h; rw [Array.getElem?_eq_none hge] at h; cases h
theorem Blk.cell (h : Blk w g t cs) (i : Nat) : w.cell? ⟨g, i, none⟩ = cs[i]? := cell_of_row w g i cs t (0, 0) h
theorem Blk.frozen (h : Blk w g t cs) (i : Nat) : w.frozen? ⟨g, i, none⟩ = false := by
  unfold Blk at h
  simp [World.frozen?, h]
theorem Blk.new (w : World) (t : TypeId) (cs : Array Value) : Blk (w.alloc (.cells cs t)) w.heap.size t cs := heap_alloc_new w _
theorem Blk.new' (w : World) (g : Nat) (T : TypeId) (cs : Array Value) (hg : g = w.heap.size) : Blk (w.alloc (.cells cs T)) g T cs := by subst hg; exact Blk.new w T cs
theorem Blk.drewN (h : Blk w g t cs) (n : Nat) : Blk (w.drewN n) g t cs := h
theorem Blk.alloc (h : Blk w g t cs) (o : Obj) : Blk (w.alloc o) g t cs := (Below.heap_alloc w o g h.lt).trans h
theorem Blk.set_ (h : Blk w g t cs) (i : Nat) (u : Value) : Blk (w.setCell ⟨g, i, none⟩ u) g t (cs.setIfInBounds i u) := by
  unfold Blk at h ⊢
  simp [World.setCell, Array.getElem?_modify, h]
theorem Blk.far (h : Blk w g t cs) {p : Addr} (hp : g ≠ p.block) (u : Value) : Blk (w.setCell p u) g t cs := (Below.heap_setCell w p u g hp).trans h
theorem Blk.below {B : Nat} (h : Blk w g t cs) (hb : Below B w w') (hg : g < B) : Blk w' g t cs := (hb.block g hg).trans h
theorem Blk.on (h : Blk w g t cs) (hb : Below w.heap.size w w') : Blk w' g t cs := h.below hb h.lt
theorem Blk.grown {row : Option Nat} (h : Blk w g t cs) (hb : w.grownBy w' row) (hg : some g ≠ row) : Blk w' g t cs := (hb.block g h.lt hg).trans h
end

/-! ### A row of integers of the call's own -/
def IArr (k : IntKind) (zs : List Int) : Array Value := (zs.map (Value.int k)).toArray
theorem IArr_get (k : IntKind) (zs : List Int) (j : Nat) (h : j < zs.length) : (IArr k zs)[j]? = some (.int k (Ls.nth zs j)) := by
  unfold IArr
  rw [List.getElem?_toArray, List.getElem?_map, Ls.nth_of h]
  rfl
theorem IArr_set (k : IntKind) (zs : List Int) (j : Nat) (v : Int) : (IArr k zs).setIfInBounds j (.int k v) = IArr k (zs.set j v) := by
  unfold IArr
  rw [List.setIfInBounds_toArray, List.map_set]
/-- Block g is just the numbers zs. -/
def IBlk (w : World) (g : Nat) (T : TypeId) (k : IntKind) (zs : List Int) : Prop := Blk w g T (IArr k zs)
section
variable {w w' : World} {g : Nat} {T : TypeId} {k : IntKind} {zs : List Int}
theorem IBlk.lt (h : IBlk w g T k zs) : g < w.heap.size := Blk.lt h
theorem IBlk.cell (h : IBlk w g T k zs) (j : Nat) (hj : j < zs.length) : w.cell? ⟨g, j, none⟩ = some (.int k (Ls.nth zs j)) := (Blk.cell h j).trans (IArr_get k zs j hj)
theorem IBlk.frozen (h : IBlk w g T k zs) (j : Nat) : w.frozen? ⟨g, j, none⟩ = false := Blk.frozen h j
theorem IBlk.new (w : World) (T : TypeId) (k : IntKind) (zs : List Int) : IBlk (w.alloc (.cells (IArr k zs) T)) w.heap.size T k zs := Blk.new w T _
theorem IBlk.new' (w : World) (g : Nat) (T : TypeId) (k : IntKind) (zs : List Int) (hg : g = w.heap.size) : IBlk (w.alloc (.cells (IArr k zs) T)) g T k zs := by subst hg; exact IBlk.new w T k zs
theorem IBlk.drewN (h : IBlk w g T k zs) (n : Nat) : IBlk (w.drewN n) g T k zs := h
theorem IBlk.alloc (h : IBlk w g T k zs) (o : Obj) : IBlk (w.alloc o) g T k zs := Blk.alloc h o
theorem IBlk.set_ (h : IBlk w g T k zs) (j : Nat) (v : Int) : IBlk (w.setCell ⟨g, j, none⟩ (.int k v)) g T k (zs.set j v) := by
  have := Blk.set_ h j (.int k v)
  rwa [IArr_set] at this
theorem IBlk.on (h : IBlk w g T k zs) (hb : Below w.heap.size w w') : IBlk w' g T k zs := Blk.on h hb
theorem IBlk.below {B : Nat} (h : IBlk w g T k zs) (hb : Below B w w') (hg : g < B) : IBlk w' g T k zs := Blk.below h hb hg
theorem IBlk.far (h : IBlk w g T k zs) {p : Addr} (hp : g ≠ p.block) (u : Value) : IBlk (w.setCell p u) g T k zs := Blk.far h hp u
theorem IBlk.ints (h : IBlk w g T k zs) : Ints w w.heap.size k (some ⟨g, 0, none⟩) zs := fun _ => ⟨g, 0, rfl, h.lt, fun j hj => by rw [Nat.zero_add]; exact h.cell j hj⟩
end
theorem run_make_ints {P : Program} (t e : TypeId) (i : TypeInfo) (k : IntKind) (ht : P.underlying t = some (.slice e)) (hi : P.info? e = some i) (hz : i.zero = some (.int k 0)) (hs : i.size = 1) (hb : i.bytes ≤ 8) (n : Nat) (hn : n ≤ 1099511627776) (w : World) :
    (Instr.makeSlice t (.int .i64 (n : Int)) (.int .i64 (n : Int))).run P w = .ok (.slice (some ⟨w.heap.size, 0, none⟩) n n) (w.alloc (.cells (IArr k (Ls.zeros n)) e)) := by
  have hbb : (i.bytes : Int) * (n : Int) ≤ 8 * 1099511627776 := Int.mul_le_mul (by omega) (by omega) (by omega) (by omega)
  have hr := run_make (P := P) w t e i _ ht hi hz .i64 .i64 n n (by omega) (by omega) (by omega) (by omega)
  simp only [Int.toNat_natCast, hs, Nat.mul_one] at hr
  rw [hr]
  have e : madeCells (Value.int k 0).cells n = IArr k (Ls.zeros n) := by
    have h1 : (Value.int k 0).cells = #[Value.int k 0] := rfl
    rw [h1]
    apply Array.toList_inj.1
    rw [toList_madeCells_one]
    simp [IArr, Ls.zeros]
  rw [e]

end Kt
