/- Joined: GrN. -/
import Derived.Test.YtkclifdbdnigaaaMa05
import Derived.Test.YtkclifdbdnigaaaMa02
import Derived.Deep.DeepCutAuto
import Derived.Laws.AppendOwnNone
import Derived.Maps.AppendAt
import Derived.StillTailTactics
import Derived.Deep.RegionLaw
section
/- newChart: its walk. -/
namespace Go.Proofs.Ytkclifdbdnigaaa
open Go Go.RowKit
def ncrSlot : Nat → Nat := fun j => match j with | 0 => 32 | 1 => 33 | 2 => 34 | 3 => 35 | 4 => 36 | 5 => 37 | 6 => 38 | 7 => 39 | 8 => 40 | 9 => 41 | 10 => 42 | 11 => 43 | 12 => 44 | 13 => 45 | 14 => 46 | 15 => 47 | _ => 999
def ncrS : List Nat := [32, 33, 34, 35, 36, 37, 38, 39, 40, 41, 42, 43, 44, 45, 46, 47]
def ncrP (a0 : Act) (W : World) (base bc rb sn k : Nat) (Vs : Value) (m : Nat) (L : List Value) (Fin : Act → World → Prop) : Kt.RgP :=
  ⟨17, 11, 12, ncrSlot, ncrS, fun j => match j with | 0 => some (.pointer (some ⟨bc, 0, none⟩)) | 1 => some (.pointer (some ⟨rb, 0, none⟩)) | 2 => some (.int .i64 (sn : Int)) | 3 => some (.pointer (some ⟨bc, 0, none⟩)) | 4 => some (.pointer (some ⟨rb, 0, none⟩)) | 5 => some (.int .i64 (sn : Int)) | 6 => some (.pointer (some ⟨bc, 0, none⟩)) | 7 => some (.pointer (some ⟨bc, 1, none⟩)) | 8 => some (.pointer (some ⟨bc, 1 + sn, none⟩)) | 9 => some (Vs) | 10 => some (.int .i64 (k : Int)) | 13 => some (.pointer (some ⟨bc, 0, none⟩)) | 14 => some (.pointer (some ⟨bc, 1, none⟩)) | 15 => some (.pointer (some ⟨bc, 1 + sn, none⟩)) | _ => none, a0, W, base, 3, 1, Vs, m, L, [.int .i64 (k : Int)], Fin, fun g => .slice (some ⟨g, 0, none⟩) 1 1, fun j => match j with | 14 => [13] | 15 => [14] | _ => []⟩
theorem ncr_ok {a0 : Act} {W : World} {base bc rb sn k : Nat} {Vs : Value} {m : Nat} {L : List Value} {Fin : Act → World → Prop} {listed : Array Bool} {act : Act} {w : World} (_ : Kt.RgI (ncrP a0 W base bc rb sn k Vs m L Fin) listed act w) (h : 48 ≤ a0.tmps.size) : Kt.RgOk (ncrP a0 W base bc rb sn k Vs m L Fin) :=
  ⟨fun i j hi hj => (by decide : ∀ i, i < 16 → ∀ j, j < 16 → ncrSlot i = ncrSlot j → i = j) i hi j hj, (by decide : ∀ j, j < 16 → ncrSlot j ∈ ncrS), fun j hj => Nat.lt_of_lt_of_le ((by decide : ∀ j, j < 16 → ncrSlot j < 48) j hj) h, Nat.le_of_ble_eq_true rfl, Nat.le_of_ble_eq_true rfl, .inl (Nat.le_of_ble_eq_true rfl), Nat.ne_of_beq_eq_false rfl, rfl, rfl, rfl⟩

def nceSlot : Nat → Nat := fun j => match j with | 0 => 56 | 1 => 57 | 2 => 58 | 3 => 59 | 4 => 60 | 5 => 61 | 6 => 62 | 7 => 63 | 8 => 64 | 9 => 65 | 10 => 66 | 11 => 67 | 12 => 68 | 13 => 69 | 14 => 70 | 15 => 71 | 16 => 11 | _ => 999
def nceS : List Nat := [56, 57, 58, 59, 60, 61, 62, 63, 64, 65, 66, 67, 68, 69, 70, 71, 11]
def nceP (a0 : Act) (W : World) (bc rb b' o' m c' ge el ec i nx : Nat) (it cx sx : Int) (Fin : Act → World → Prop) : Kt.RgP :=
  ⟨18, 16, 17, nceSlot, nceS, fun j => match j with | 0 => some (.pointer (some ⟨rb, 1, none⟩)) | 1 => some (.slice (some ⟨b', o', none⟩) m c') | 2 => some (.int .i64 (i : Int)) | 3 => some (.pointer (some ⟨b', o' + i * 2, none⟩)) | 4 => some (.agg #[.int .u16 cx, .int .i64 sx]) | 5 => some (.int .i64 (nx : Int)) | 6 => some (.pointer (some ⟨bc, 0, none⟩)) | 7 => some (.pointer (some ⟨bc, 0, none⟩)) | 8 => some (.pointer (some ⟨bc, 66, none⟩)) | 9 => some (.slice (some ⟨ge, 0, none⟩) el ec) | 10 => some (.int .i64 (nx : Int)) | 11 => some (.pointer (some ⟨ge, nx * 4, none⟩)) | 12 => some (.pointer (some ⟨ge, nx * 4 + 3, none⟩)) | 13 => some (.int .i64 it) | 14 => some (.int .i64 (it + 1)) | 15 => some (.agg #[.int .u16 cx, .int .i64 sx, .int .i64 (nx : Int), .int .i64 (it + 1)]) | _ => none, a0, W, 0, 115, 4, .slice none 0 0, 0, [], [.int .u16 0, .int .i64 0, .int .i64 0, .int .i64 0], Fin, fun g => .pointer (some ⟨g, 0, none⟩), fun _ => []⟩
theorem nce_ok {a0 : Act} {W : World} {bc rb b' o' m c' ge el ec i nx : Nat} {it cx sx : Int} {Fin : Act → World → Prop} {listed : Array Bool} {act : Act} {w : World} (_ : Kt.RgI (nceP a0 W bc rb b' o' m c' ge el ec i nx it cx sx Fin) listed act w) (h : 72 ≤ a0.tmps.size) : Kt.RgOk (nceP a0 W bc rb b' o' m c' ge el ec i nx it cx sx Fin) :=
  ⟨fun i j hi hj => (by decide : ∀ i, i < 17 → ∀ j, j < 17 → nceSlot i = nceSlot j → i = j) i hi j hj, (by decide : ∀ j, j < 17 → nceSlot j ∈ nceS), fun j hj => Nat.lt_of_lt_of_le ((by decide : ∀ j, j < 17 → nceSlot j < 72) j hj) h, Nat.le_of_ble_eq_true rfl, Nat.le_of_ble_eq_true rfl, .inr rfl, Nat.ne_of_beq_eq_false rfl, rfl, rfl, rfl⟩

def ncaSlot : Nat → Nat := fun j => match j with | 0 => 85 | 1 => 86 | 2 => 87 | 3 => 88 | 4 => 89 | 5 => 90 | 6 => 91 | 7 => 92 | 8 => 93 | 9 => 94 | _ => 999
def ncaS : List Nat := [85, 86, 87, 88, 89, 90, 91, 92, 93, 94]
def ncaP (a0 : Act) (W : World) (base bc : Nat) (x : Gr.End) (Vs : Value) (m : Nat) (L : List Value) (Fin : Act → World → Prop) : Kt.RgP :=
  ⟨11, 6, 7, ncaSlot, ncaS, fun j => match j with | 0 => some (.pointer (some ⟨bc, 0, none⟩)) | 1 => some (.pointer (some ⟨bc, 0, none⟩)) | 2 => some (.pointer (some ⟨bc, 0, none⟩)) | 3 => some (.pointer (some ⟨bc, 66, none⟩)) | 4 => some (Vs) | 5 => some (Gr.endVal x) | 8 => some (.pointer (some ⟨bc, 0, none⟩)) | 9 => some (.pointer (some ⟨bc, 66, none⟩)) | _ => none, a0, W, base, 115, 4, Vs, m, L, (Gr.endCells x), Fin, fun g => .slice (some ⟨g, 0, none⟩) 1 1, fun j => match j with | 9 => [8] | _ => []⟩
theorem nca_ok {a0 : Act} {W : World} {base bc : Nat} {x : Gr.End} {Vs : Value} {m : Nat} {L : List Value} {Fin : Act → World → Prop} {listed : Array Bool} {act : Act} {w : World} (_ : Kt.RgI (ncaP a0 W base bc x Vs m L Fin) listed act w) (h : 95 ≤ a0.tmps.size) : Kt.RgOk (ncaP a0 W base bc x Vs m L Fin) :=
  ⟨fun i j hi hj => (by decide : ∀ i, i < 10 → ∀ j, j < 10 → ncaSlot i = ncaSlot j → i = j) i hi j hj, (by decide : ∀ j, j < 10 → ncaSlot j ∈ ncaS), fun j hj => Nat.lt_of_lt_of_le ((by decide : ∀ j, j < 10 → ncaSlot j < 95) j hj) h, Nat.le_of_ble_eq_true rfl, Nat.le_of_ble_eq_true rfl, .inl (Nat.le_of_ble_eq_true rfl), Nat.ne_of_beq_eq_false rfl, rfl, rfl, rfl⟩

def nils : List Value := (List.range 64).map fun _ => Value.slice none 0 0
theorem nc_start {W w' : World} {n : Nat} {g : List Gr.Rule} {tv : Value} {cs : Array Value}
    (hcs : cs = (tv :: (nils ++ [.slice (some ⟨W.heap.size, 0, none⟩) n n, .slice (some ⟨W.heap.size + 1, 0, none⟩) 1 1, .map (some (W.heap.size + 2)), .map (some (W.heap.size + 3))])).toArray)
    {C1 C2 C3 : Nat}
    (hw : w' = (((((W.alloc (.cells (Kt.IArr .i64 (Ls.zeros n)) 3)).alloc (.cells #[.int .u16 0, .int .i64 0, .int .i64 0, .int .i64 0] 115)).alloc (.map #[] C1)).alloc (.map #[] C2)).alloc (.cells cs 119)).alloc (.map #[] C3)) :
    NC W.heap.size g 0 0 tv n w' (fun _ => .slice none 0 0) (.slice (some ⟨W.heap.size + 1, 0, none⟩) 1 1) [Gr.e0] (Ls.zeros n) := by
  obtain ⟨w1, h1⟩ : ∃ w1, W.alloc (.cells (Kt.IArr .i64 (Ls.zeros n)) 3) = w1 := ⟨_, rfl⟩
  obtain ⟨w2, h2⟩ : ∃ w2, w1.alloc (.cells #[.int .u16 0, .int .i64 0, .int .i64 0, .int .i64 0] 115) = w2 := ⟨_, rfl⟩
  obtain ⟨w3, h3⟩ : ∃ w3, w2.alloc (.map #[] C1) = w3 := ⟨_, rfl⟩
  obtain ⟨w4, h4⟩ : ∃ w4, w3.alloc (.map #[] C2) = w4 := ⟨_, rfl⟩
  obtain ⟨w5, h5⟩ : ∃ w5, w4.alloc (.cells cs 119) = w5 := ⟨_, rfl⟩
  rw [h1, h2, h3, h4, h5] at hw
  have s1 : w1.heap.size = W.heap.size + 1 := by rw [← h1]; simp
  have s2 : w2.heap.size = W.heap.size + 2 := by rw [← h2]; simp [s1]
  have s3 : w3.heap.size = W.heap.size + 3 := by rw [← h3]; simp [s2]
  have s4 : w4.heap.size = W.heap.size + 4 := by rw [← h4]; simp [s3]
  have s5 : w5.heap.size = W.heap.size + 5 := by rw [← h5]; simp [s4]
  have s6 : w'.heap.size = W.heap.size + 6 := by rw [hw]; simp [s5]
  have a2 : ∀ k, k < w1.heap.size → w2.heap[k]? = w1.heap[k]? := fun k hk => by rw [← h2]; exact Below.heap_alloc _ _ _ hk
  have a3 : ∀ k, k < w2.heap.size → w3.heap[k]? = w2.heap[k]? := fun k hk => by rw [← h3]; exact Below.heap_alloc _ _ _ hk
  have a4 : ∀ k, k < w3.heap.size → w4.heap[k]? = w3.heap[k]? := fun k hk => by rw [← h4]; exact Below.heap_alloc _ _ _ hk
  have a5 : ∀ k, k < w4.heap.size → w5.heap[k]? = w4.heap[k]? := fun k hk => by rw [← h5]; exact Below.heap_alloc _ _ _ hk
  have a6 : ∀ k, k < w5.heap.size → w'.heap[k]? = w5.heap[k]? := fun k hk => by rw [hw]; exact Below.heap_alloc _ _ _ hk
  have k0 : w'.heap[W.heap.size]? = some (.cells (Kt.IArr .i64 (Ls.zeros n)) 3 (0, 0)) := by
    rw [a6 _ (by omega), a5 _ (by omega), a4 _ (by omega), a3 _ (by omega), a2 _ (by omega), ← h1]; exact heap_alloc_new _ _
  have k1 : w'.heap[W.heap.size + 1]? = some (.cells #[.int .u16 0, .int .i64 0, .int .i64 0, .int .i64 0] 115 (0, 0)) := by
    rw [a6 _ (by omega), a5 _ (by omega), a4 _ (by omega), a3 _ (by omega), ← h2, ← s1]; exact heap_alloc_new _ _
  have k2 : w'.heap[W.heap.size + 2]? = some (.map #[] C1) := by
    rw [a6 _ (by omega), a5 _ (by omega), a4 _ (by omega), ← h3, ← s2]; exact heap_alloc_new _ _
  have k3 : w'.heap[W.heap.size + 3]? = some (.map #[] C2) := by
    rw [a6 _ (by omega), a5 _ (by omega), ← h4, ← s3]; exact heap_alloc_new _ _
  have k4 : Kt.Blk w' (W.heap.size + 4) 119 cs := by
    show w'.heap[W.heap.size + 4]? = _
    rw [a6 _ (by omega), ← h5, ← s4]; exact heap_alloc_new _ _
  have k5 : w'.heap[W.heap.size + 5]? = some (.map #[] C3) := by rw [hw, ← s5]; exact heap_alloc_new _ _
  have hl : nils.length = 64 := rfl
  have hc : ∀ i, w'.cell? ⟨W.heap.size + 4, i, none⟩ = (tv :: (nils ++ [.slice (some ⟨W.heap.size, 0, none⟩) n n, .slice (some ⟨W.heap.size + 1, 0, none⟩) 1 1, .map (some (W.heap.size + 2)), .map (some (W.heap.size + 3))]))[i]? := fun i => by
    rw [k4.cell i, hcs, List.getElem?_toArray]
  have ht : ∀ j, w'.cell? ⟨W.heap.size + 4, 65 + j, none⟩ = [Value.slice (some ⟨W.heap.size, 0, none⟩) n n, .slice (some ⟨W.heap.size + 1, 0, none⟩) 1 1, .map (some (W.heap.size + 2)), .map (some (W.heap.size + 3))][j]? := fun j => by
    rw [hc, show 65 + j = (64 + j) + 1 from by omega, List.getElem?_cons_succ, List.getElem?_append_right (by omega), hl, Nat.add_sub_cancel_left]
  refine ⟨by omega, ⟨fun s hs => ?_, fun s hs => Kt.Own.nil _ _ _ _, fun s hs => by simp [Value.ownBlock], fun s s' _ _ _ => .inl rfl, ⟨_, _, k4⟩⟩, hc 0, ht 0, ht 1, ht 2, ht 3, k0, by simp [Ls.zeros], (fun r hr => by omega), ⟨rfl, .inr ⟨W.heap.size + 1, 1, _, rfl, Nat.le_refl _, k1, Nat.le_refl _, by unfold maxLen; omega, rfl, rfl⟩⟩, ⟨W.heap.size + 1, rfl, .inl rfl, fun s _ => by simp [Value.ownBlock]⟩, ⟨by simp, rfl⟩, ⟨_, k2⟩, ⟨_, k3⟩, ⟨_, _, k5, fun e he => by simp at he⟩⟩
  rw [hc, Nat.add_comm 1 s, List.getElem?_cons_succ, List.getElem?_append_left (by omega)]
  unfold nils
  rw [List.getElem?_map, List.getElem?_range hs]
  rfl
theorem endVal_inj {a b : Gr.End} (h : Gr.endVal a = Gr.endVal b) : a = b := by
  obtain ⟨⟨a1, a2⟩, a3, a4⟩ := a
  obtain ⟨⟨b1, b2⟩, b3, b4⟩ := b
  unfold Gr.endVal at h
  injection h with h
  have h0 := congrArg (fun l => l[0]?) h
  have h1 := congrArg (fun l => l[1]?) h
  have h2 := congrArg (fun l => l[2]?) h
  have h3 := congrArg (fun l => l[3]?) h
  simp at h0 h1 h2 h3
  obtain rfl : a3 = b3 := by omega
  obtain rfl : a4 = b4 := by omega
  subst h0 h1
  rfl
theorem end_fin {W w2 : World} {gb : Nat} {T : TypeId} {z0 z1 z2 z3 v0 v1 v2 v3 : Value} (h1 : W.heap.size ≤ gb) (hbl : Kt.Blk w2 gb T #[z0, z1, z2, z3]) (hk : W.grownBy w2 none) :
    Kt.Blk ((((w2.setCell ⟨gb, 0, none⟩ v0).setCell ⟨gb, 1, none⟩ v1).setCell ⟨gb, 2, none⟩ v2).setCell ⟨gb, 3, none⟩ v3) gb T #[v0, v1, v2, v3] ∧ Below W.heap.size W ((((w2.setCell ⟨gb, 0, none⟩ v0).setCell ⟨gb, 1, none⟩ v1).setCell ⟨gb, 2, none⟩ v2).setCell ⟨gb, 3, none⟩ v3) := by
  refine ⟨?_, ?_⟩
  · have := (((hbl.set_ 0 v0).set_ 1 v1).set_ 2 v2).set_ 3 v3
    simpa using this
  · have hb : Below W.heap.size W w2 := ⟨hk.os, hk.tape, hk.output, hk.size, fun i hi => hk.block i hi (by simp)⟩
    exact (((hb.setCell (p := ⟨gb, 0, none⟩) h1 _).setCell (p := ⟨gb, 1, none⟩) h1 _).setCell (p := ⟨gb, 2, none⟩) h1 _).setCell (p := ⟨gb, 3, none⟩) h1 _
theorem below_putObj {B l : Nat} {a w : World} {o : Obj} (h : Below B a w) (hb : B ≤ l) : Below B a (w.putObj l o) :=
  ⟨h.os, h.tape, h.output, by simpa using h.size, fun i hi => (World.putObj_heap_other (by omega)).trans (h.block i hi)⟩
theorem drop_at (l : List Gr.Item) (i : Nat) (h : i < l.length) : l.drop i = Gr.itm l i :: l.drop (i + 1) := by
  rw [List.drop_eq_getElem_cons h]
  unfold Gr.itm
  rw [List.getD_eq_getElem?_getD, List.getElem?_eq_getElem h]
  rfl
theorem Try.infoEnd : (Try.prog.info? 115).map (fun i => (i.zero, i.size, i.bytes)) = some (some (.agg #[.int .u16 0, .int .i64 0, .int .i64 0, .int .i64 0]), 4, 32) := by kernel_rfl
def zEnd : Value := .agg #[.int .u16 0, .int .i64 0, .int .i64 0, .int .i64 0]
theorem zeroInt (w : World) : (zeroValue 3).run Try.prog w = .ok (.int .i64 0) w := by kernel_rfl
def WfR (g : List Gr.Rule) : Prop := ∀ r, r < g.length → ∀ x ∈ (Gr.rul g r).right, 0 ≤ x.cls ∧ x.cls ≤ 65535
def ChartPost (g : List Gr.Rule) (tv : Value) (n : Nat) (w : World) (e : Ending) (w' : World) : Prop :=
  e = .returned (.pointer (some ⟨w.heap.size + 4, 0, none⟩)) ∧ Below w.heap.size w w' ∧ ∃ V EV E zs, NC w.heap.size g n n tv n w' V EV E zs ∧ E.length ≤ 100000
set_option maxRecDepth 100000 in
set_option maxHeartbeats 2000000 in
theorem newChart_any (g : List Gr.Rule) (hG : Gr.Good g) (hW : WfR g) (A : Option Addr) (n cp : Nat) (T : Option Addr) (nt ct : Nat) (w : World) (hl : g.length = n) (hg : Kt.Rules w w.heap.size A g) :
    Calls Try.prog 47 #[.slice A n cp, .slice T nt ct] w (ChartPost g (.slice T nt ct) n w) := by
  have hn : n ≤ 200 := by have := hG.len; omega
  have HL := Lib.hid hl
  have HG := Lib.hid hG
  have HW := Lib.hid hW
  obtain ⟨i0, hi0, hz0, hz1, hz2⟩ := info_parts Try.infoI64
  have hmk : ∀ W : World, (Instr.makeSlice 109 (.int .i64 (n : Int)) (.int .i64 (n : Int))).run Try.prog W = .ok (.slice (some ⟨W.heap.size, 0, none⟩) n n) (W.alloc (.cells (Kt.IArr .i64 (Ls.zeros n)) 3)) := fun W => Kt.run_make_ints 109 3 i0 .i64 Try.underlying109 hi0 hz0 hz1 (by omega) n (by omega) W
  have hmm := @run_makeMap Try.prog
  obtain ⟨i1, hj0, hj1, hj2, hj3⟩ := info_parts Try.infoEnd
  clear hl hG hW
  go_enter Try.func47, Try.ntmps47
  go_upto_region 3 with fail
  have hst := fun W' => @nc_start w W' n g (.slice T nt ct) _ rfl 0 0 0
  obtain ⟨W3, hW3⟩ : ∃ W3, ((((((w.alloc (.cells (Kt.IArr .i64 (Ls.zeros n)) 3)).alloc (.cells #[.int .u16 0, .int .i64 0, .int .i64 0, .int .i64 0] 115)).alloc (.map #[] 0)).alloc (.map #[] 0)).alloc (.cells (Value.slice T nt ct :: (nils ++ [.slice (some ⟨w.heap.size, 0, none⟩) n n, .slice (some ⟨w.heap.size + 1, 0, none⟩) 1 1, .map (some (w.heap.size + 2)), .map (some (w.heap.size + 3))])).toArray 119)).alloc (.map #[] 0)) = W3 := ⟨_, rfl⟩
  refine wp_rename (w' := W3) (by rw [← hW3]; rfl) ?_
  have hb3 : Below w.heap.size w W3 := by
    rw [← hW3]
    exact ((((((Below.refl _ _).alloc (Nat.le_refl _) _).alloc (by simp) _).alloc (by simp; omega) _).alloc (by simp; omega) _).alloc (by simp; omega) _).alloc (by simp; omega) _
  have HN := Lib.hid (hst W3 hW3.symm)
  clear hst hW3 hmk hmm
  simp only [Nat.add_assoc, Nat.reduceAdd]
  go_wp2_with fail
  go_loopw [27] (fun i wr => ∃ (k : Nat) (V : Nat → Value) (EV : Value) (E : List Gr.End) (zs : List Int), k ≤ n ∧ i = .int .i64 k ∧ Hid (NC w.heap.size g k k (.slice T nt ct) n wr V EV E zs ∧ E.length ≤ 1 + 8 * k) ∧ Below w.heap.size w wr) (fun i _ => n - (intOf i).toNat)
  case atStart => exact ⟨0, _, _, _, _, Nat.zero_le _, rfl, Lib.hid ⟨HN.out, by simp⟩, hb3⟩
  case round =>
    obtain ⟨k, V, EV, E, zs, hk, rfl, hst, hbel⟩ := hrel
    have hgs := hbel.size
    by_cases hlt : k < n
    · obtain ⟨b, o, rfl, hb, hc⟩ := (hg.below hbel) (by have := HL.out; omega)
      obtain ⟨c1, A', c', c2, hlr, hit⟩ := hc k (by have := HL.out; omega)
      have hok := HG.out.ok k (by have := HL.out; omega)
      have hwf := HW.out k (by have := HL.out; omega)
      obtain ⟨ru, hru⟩ : ∃ ru, Hid (Gr.rul g k = ru) := ⟨_, Lib.hid rfl⟩
      obtain ⟨s, l⟩ := ru
      rw [hru.out] at c1 c2 hlr hit hok hwf
      obtain ⟨hs, hl1, hl8, hits⟩ := hok.parts
      obtain ⟨h0, h1⟩ : 0 ≤ s ∧ s < 64 := hs
      obtain ⟨m, hm⟩ : ∃ m, Hid (l.length = m) := ⟨_, Lib.hid rfl⟩
      replace c1 : wr.cell? ⟨b, o + k * 2, none⟩ = some (.int .i64 s) := c1
      replace c2 : wr.cell? ⟨b, o + k * 2 + 1, none⟩ = some (.slice A' l.length c') := c2
      replace hit : Kt.Items wr w.heap.size A' l := hit
      replace hl1 : 1 ≤ l.length := hl1
      replace hl8 : l.length ≤ 8 := hl8
      have HIT : Hid (∀ x ∈ l, ((0 ≤ x.sym ∧ x.sym < 64) ∧ (x.cls = 0 ∨ x.sym = 0)) ∧ 0 ≤ x.cls ∧ x.cls ≤ 65535) := Lib.hid (fun x hx => ⟨hits x hx, hwf x hx⟩)
      rw [hm.out] at c2 hl1 hl8
      obtain ⟨sn, rfl⟩ : ∃ sn : Nat, s = (sn : Int) := ⟨s.toNat, by omega⟩
      obtain ⟨b', o', rfl, hb', hc'⟩ := hit (by have := hm.out; omega)
      have HC' : Hid (∀ q, q < l.length → w.cell? ⟨b', o' + q * 2, none⟩ = some (.int .u16 (Gr.itm l q).cls) ∧ w.cell? ⟨b', o' + q * 2 + 1, none⟩ = some (.int .i64 (Gr.itm l q).sym)) := Lib.hid (fun q hq => ⟨(hbel.cell (p := ⟨b', o' + q * 2, none⟩) hb').symm.trans (hc' q hq).1, (hbel.cell (p := ⟨b', o' + q * 2 + 1, none⟩) hb').symm.trans (hc' q hq).2⟩)
      clear hits hwf hok hc hit hlr hc'
      obtain ⟨rb, hrb⟩ : ∃ rb, wr.heap.size = rb := ⟨_, rfl⟩
      go_upto_region 6 with fail
      obtain ⟨W9, hW9⟩ : ∃ W9, wr.alloc (.cells #[.int .i64 (sn : Int), .slice (some ⟨b', o', none⟩) m c'] 37) = W9 := ⟨_, rfl⟩
      have q0 : Kt.Blk W9 rb 37 #[.int .i64 (sn : Int), .slice (some ⟨b', o', none⟩) m c'] := by rw [← hW9, ← hrb]; exact Kt.Blk.new _ _ _
      have q1 := q0.cell 0
      have hN9 : NC w.heap.size g k k (.slice T nt ct) n W9 V EV E zs := by rw [← hW9]; exact hst.out.1.alloc _
      have hbel9 : Below w.heap.size w W9 := by rw [← hW9]; exact hbel.alloc hgs _
      have hElen := hst.out.2
      have hs9 := hN9.size
      have hbase9 : w.heap.size + 6 ≤ W9.heap.size := hs9
      have hbr9 : rb < W9.heap.size := q0.lt
      have hbc9 : w.heap.size + 4 < W9.heap.size := by omega
      have hsn : sn < 64 := by omega
      have hrw : (V sn).ownBlock ≠ some rb := fun e => by
        have h2 := (World.ownsRow.lt (hst.out.1.rows.own sn hsn) rb e).2
        omega
      have hcw : (V sn).ownBlock ≠ some (w.heap.size + 4) := hN9.rows.ne sn hsn
      have hrb6 : w.heap.size + 6 ≤ rb := by have := hst.out.1.size; omega
      have hevr : EV.ownBlock ≠ some rb := fun e => by
        have h2 := (World.ownsRow.lt hst.out.1.ends rb e).2
        omega
      have q4 : W9.cell? ⟨w.heap.size + 4, 1 + sn, none⟩ = some (V sn) := hN9.rows.cell sn hsn
      obtain ⟨T9, cs9, hbl9⟩ := hN9.rows.bl
      have q5 := hbl9.frozen (1 + sn)
      obtain ⟨m9, hm9⟩ : ∃ m9, (Gr.rulesTo g k (sn : Int)).length = m9 := ⟨_, rfl⟩
      have hm2 : m9 ≤ 200 := by have := Gr.rulesTo_len g k (sn : Int); omega
      have hown : W9.ownsRow (w.heap.size + 6) 3 1 (V sn) m9 ((Gr.rulesTo g k (sn : Int)).map (Value.int .i64)) := by rw [← hm9]; exact hN9.rows.own sn hsn
      have hfin : ∀ gg cap w2, w2.ownsRow (w.heap.size + 6) 3 1 (.slice (some ⟨gg, 0, none⟩) (m9 + 1) cap) (m9 + 1) ((Gr.rulesTo g k (sn : Int)).map (Value.int .i64) ++ [.int .i64 (k : Int)]) → W9.grownBy w2 (V sn).ownBlock → ((V sn).ownBlock = some gg ∨ W9.heap.size ≤ gg) →
          (∃ V', NC w.heap.size g (k + 1) k (.slice T nt ct) n (w2.setCell ⟨w.heap.size + 4, 1 + sn, none⟩ (.slice (some ⟨gg, 0, none⟩) (m9 + 1) cap)) V' EV E zs) ∧ Below w.heap.size w (w2.setCell ⟨w.heap.size + 4, 1 + sn, none⟩ (.slice (some ⟨gg, 0, none⟩) (m9 + 1) cap)) ∧ Kt.Blk (w2.setCell ⟨w.heap.size + 4, 1 + sn, none⟩ (.slice (some ⟨gg, 0, none⟩) (m9 + 1) cap)) rb 37 #[.int .i64 (sn : Int), .slice (some ⟨b', o', none⟩) m c'] := fun gg cap w2 h1 h2 h3 => by
        refine ⟨⟨_, hN9.push hsn (by rw [hru.out]) h1 hm9.symm h2 h3⟩, (Kt.below_grown hbel9 (by omega) h2 (fun k hk => Nat.le_trans (Nat.le_add_right _ 6) (Kt.own_block_ne (hN9.rows.own sn hsn) k hk))).setCell (p := ⟨w.heap.size + 4, 1 + sn, none⟩) (Nat.le_add_right _ 4) _, (q0.grown h2 (fun e => hrw e.symm)).far (p := ⟨w.heap.size + 4, 1 + sn, none⟩) (by have := hst.out.1.size; show rb ≠ w.heap.size + 4; omega) _⟩
      rw [hW9]
      clear c1 c2 hbl9 hbel9 hN9 hbel hW9 q0 HN hb3
      refine Kt.region_inv (Kt.RgI (ncrP _ W9 (w.heap.size + 6) (w.heap.size + 4) rb sn k (V sn) m9 ((Gr.rulesTo g k (sn : Int)).map (Value.int .i64)) (fun _ wx => (∃ V', NC w.heap.size g (k + 1) k (.slice T nt ct) n wx V' EV E zs) ∧ Below w.heap.size w wx ∧ Kt.Blk wx rb 37 #[.int .i64 (sn : Int), .slice (some ⟨b', o', none⟩) m c']))) (by kernel_rfl) ?hg (Kt.RgI.start hown) ?hstep ?hdone
      case hg =>
        intro q o ho
        rcases q with _ | _ | _ | _ | _ | _ | _ | _ | _ | _ | _ | _ | _ | _ | _ | _ | _ | q
        all_goals first | (cases Option.some.inj ho; rfl) | (exfalso; simp at ho)
      case hstep =>
        intro listed act w2 q o hI ho hn hpre
        have ok := ncr_ok hI (Nat.le_of_ble_eq_true rfl)
        rcases q with _ | _ | _ | _ | _ | _ | _ | _ | _ | _ | _ | _ | _ | _ | _ | _ | _ | q
        · cases Option.some.inj ho
          refine Kt.op_move rfl ?_
          rw [show act.eval (.tmp 5) = .pointer (some ⟨(w.heap.size + 4), 0, none⟩) from hI.frame.val_out (s := 5) (show 5 ∉ ncrS by decide)]
          exact hI.pure_step ok (fun _ hi => (List.not_mem_nil hi).elim) (Nat.le_of_ble_eq_true rfl) hn rfl rfl
        · cases Option.some.inj ho
          have f8 : act.tmps[8]?.getD undef = .pointer (some ⟨rb, 0, none⟩) := (Kt.val_get act 8).symm.trans (hI.frame.val_out (s := 8) (show 8 ∉ ncrS by decide))
          have hk := hI.pure_step ok (fun _ hi => (List.not_mem_nil hi).elim) (Nat.le_of_ble_eq_true rfl) hn (j := 1) (s := 33) (v := .pointer (some ⟨rb, 0, none⟩)) rfl rfl
          unfold Oper.wp
          go_simp
          exact hk
        · cases Option.some.inj ho
          have e1 : act.tmps[33]?.getD undef = .pointer (some ⟨rb, 0, none⟩) := (Kt.val_get act 33).symm.trans (hI.pure 1 _ (Nat.le_of_ble_eq_true rfl) rfl (hpre ⟨1, .data⟩ (by simp) rfl))
          have hop := hI.open_ (j := 2) (Nat.le_of_ble_eq_true rfl) hn
          have c0 : w2.cell? ⟨rb, 0, none⟩ = some (.int .i64 (sn : Int)) := hI.cell hop hbr9 hrw q1
          have hk := hI.pure_step ok (fun _ hi => (List.not_mem_nil hi).elim) (Nat.le_of_ble_eq_true rfl) hn (j := 2) (s := 34) (v := .int .i64 (sn : Int)) rfl rfl
          unfold Oper.wp
          go_simp
          exact hk
        · cases Option.some.inj ho
          refine Kt.op_move rfl ?_
          rw [show act.eval (.tmp 5) = .pointer (some ⟨(w.heap.size + 4), 0, none⟩) from hI.frame.val_out (s := 5) (show 5 ∉ ncrS by decide)]
          exact hI.pure_step ok (fun _ hi => (List.not_mem_nil hi).elim) (Nat.le_of_ble_eq_true rfl) hn rfl rfl
        · cases Option.some.inj ho
          have f8 : act.tmps[8]?.getD undef = .pointer (some ⟨rb, 0, none⟩) := (Kt.val_get act 8).symm.trans (hI.frame.val_out (s := 8) (show 8 ∉ ncrS by decide))
          have hk := hI.pure_step ok (fun _ hi => (List.not_mem_nil hi).elim) (Nat.le_of_ble_eq_true rfl) hn (j := 4) (s := 36) (v := .pointer (some ⟨rb, 0, none⟩)) rfl rfl
          unfold Oper.wp
          go_simp
          exact hk
        · cases Option.some.inj ho
          have e4 : act.tmps[36]?.getD undef = .pointer (some ⟨rb, 0, none⟩) := (Kt.val_get act 36).symm.trans (hI.pure 4 _ (Nat.le_of_ble_eq_true rfl) rfl (hpre ⟨4, .data⟩ (by simp) rfl))
          have hop := hI.open_ (j := 5) (Nat.le_of_ble_eq_true rfl) hn
          have c0 : w2.cell? ⟨rb, 0, none⟩ = some (.int .i64 (sn : Int)) := hI.cell hop hbr9 hrw q1
          have hk := hI.pure_step ok (fun _ hi => (List.not_mem_nil hi).elim) (Nat.le_of_ble_eq_true rfl) hn (j := 5) (s := 37) (v := .int .i64 (sn : Int)) rfl rfl
          unfold Oper.wp
          go_simp
          exact hk
        · cases Option.some.inj ho
          have e3 : act.tmps[35]?.getD undef = .pointer (some ⟨(w.heap.size + 4), 0, none⟩) := (Kt.val_get act 35).symm.trans (hI.pure 3 _ (Nat.le_of_ble_eq_true rfl) rfl (hpre ⟨3, .data⟩ (by simp) rfl))
          have hk := hI.pure_step ok (fun _ hi => (List.not_mem_nil hi).elim) (Nat.le_of_ble_eq_true rfl) hn (j := 6) (s := 38) (v := .pointer (some ⟨(w.heap.size + 4), 0, none⟩)) rfl rfl
          unfold Oper.wp
          go_simp
          exact hk
        · cases Option.some.inj ho
          have e6 : act.tmps[38]?.getD undef = .pointer (some ⟨(w.heap.size + 4), 0, none⟩) := (Kt.val_get act 38).symm.trans (hI.pure 6 _ (Nat.le_of_ble_eq_true rfl) rfl (hpre ⟨6, .data⟩ (by simp) rfl))
          have hk := hI.pure_step ok (fun _ hi => (List.not_mem_nil hi).elim) (Nat.le_of_ble_eq_true rfl) hn (j := 7) (s := 39) (v := .pointer (some ⟨(w.heap.size + 4), 1, none⟩)) rfl rfl
          unfold Oper.wp
          go_simp
          exact hk
        · cases Option.some.inj ho
          have e7 : act.tmps[39]?.getD undef = .pointer (some ⟨(w.heap.size + 4), 1, none⟩) := (Kt.val_get act 39).symm.trans (hI.pure 7 _ (Nat.le_of_ble_eq_true rfl) rfl (hpre ⟨7, .data⟩ (by simp) rfl))
          have e5 : act.tmps[37]?.getD undef = .int .i64 (sn : Int) := (Kt.val_get act 37).symm.trans (hI.pure 5 _ (Nat.le_of_ble_eq_true rfl) rfl (hpre ⟨5, .data⟩ (by simp) rfl))
          have hk := hI.pure_step ok (fun _ hi => (List.not_mem_nil hi).elim) (Nat.le_of_ble_eq_true rfl) hn (j := 8) (s := 40) (v := .pointer (some ⟨(w.heap.size + 4), 1 + sn, none⟩)) rfl rfl
          unfold Oper.wp
          go_simp
          exact hk
        · cases Option.some.inj ho
          have e8 : act.tmps[40]?.getD undef = .pointer (some ⟨(w.heap.size + 4), 1 + sn, none⟩) := (Kt.val_get act 40).symm.trans (hI.pure 8 _ (Nat.le_of_ble_eq_true rfl) rfl (hpre ⟨8, .data⟩ (by simp) rfl))
          have hop := hI.open_ (j := 9) (Nat.le_of_ble_eq_true rfl) hn
          have c0 : w2.cell? ⟨(w.heap.size + 4), 1 + sn, none⟩ = some ((V sn)) := hI.cell hop hbc9 hcw q4
          have hk := hI.pure_step ok (fun _ hi => (List.not_mem_nil hi).elim) (Nat.le_of_ble_eq_true rfl) hn (j := 9) (s := 41) (v := (V sn)) rfl rfl
          unfold Oper.wp
          go_simp
          exact hk
        · cases Option.some.inj ho
          refine Kt.op_move rfl ?_
          rw [show act.eval (.tmp 7) = .int .i64 (k : Int) from hI.frame.val_out (s := 7) (show 7 ∉ ncrS by decide)]
          exact hI.pure_step ok (fun _ hi => (List.not_mem_nil hi).elim) (Nat.le_of_ble_eq_true rfl) hn rfl rfl
        · cases Option.some.inj ho
          have e10 : act.tmps[42]?.getD undef = .int .i64 (k : Int) := (Kt.val_get act 42).symm.trans (hI.pure 10 _ (Nat.le_of_ble_eq_true rfl) rfl (hpre ⟨10, .data⟩ (by simp) rfl))
          unfold Oper.wp
          go_simp
          exact hI.bld_step ok (fun _ hi => (List.not_mem_nil hi).elim) hn rfl rfl
        · cases Option.some.inj ho
          have e9 : act.eval (.tmp 41) = (V sn) := hI.pure 9 _ (Nat.le_of_ble_eq_true rfl) rfl (hpre ⟨9, .data⟩ (by simp) rfl)
          have hna : listed.getD 12 false = false := Kt.getD_no hn
          obtain ⟨gb, _, hgb, hbl⟩ := hI.bld (hpre ⟨11, .data⟩ (by simp) rfl) hna
          have hbase : (w.heap.size + 6) ≤ w2.heap.size := Nat.le_trans hbase9 (hI.kp (hI.open_ (j := 12) (Nat.le_of_ble_eq_true rfl) hn)).size
          exact wp_append_lies _ _ _ _ rfl (w.heap.size + 6) 3 i0 (.int .i64 0) 1 8 Try.underlying109 hi0 hz0 hz1 hz2 rfl (by decide) (V sn) m9 ((Gr.rulesTo g k (sn : Int)).map (Value.int .i64)) e9 (hI.own hna) ⟨gb, 0, none⟩ 1 1 [.int .i64 (k : Int)] hgb rfl (World.news_of_block hbl) (by simp [Value.oneCell']) (by decide) (by unfold maxLen; omega) (by omega) hbase _ rfl (fun g cap w3 h1 h2 h3 h4 => hI.app_step ok (Nat.le_of_ble_eq_true rfl) (fun _ hi => (List.not_mem_nil hi).elim) hn rfl h1 h2 h3 h4)
        · cases Option.some.inj ho
          have e0 : act.tmps[32]?.getD undef = .pointer (some ⟨(w.heap.size + 4), 0, none⟩) := (Kt.val_get act 32).symm.trans (hI.pure 0 _ (Nat.le_of_ble_eq_true rfl) rfl (hpre ⟨0, .data⟩ (by simp) rfl))
          have hk := hI.pure_step ok (fun _ hi => (List.not_mem_nil hi).elim) (Nat.le_of_ble_eq_true rfl) hn (j := 13) (s := 45) (v := .pointer (some ⟨(w.heap.size + 4), 0, none⟩)) rfl rfl
          unfold Oper.wp
          go_simp
          exact hk
        · cases Option.some.inj ho
          have e13 : act.tmps[45]?.getD undef = .pointer (some ⟨(w.heap.size + 4), 0, none⟩) := (Kt.val_get act 45).symm.trans (hI.pure 13 _ (Nat.le_of_ble_eq_true rfl) rfl (hpre ⟨13, .data⟩ (by simp) rfl))
          have hk := hI.pure_step ok (fun i hi => by have hi := (show i ∈ ([13] : List Nat) from hi); simp only [List.mem_cons, List.not_mem_nil, or_false] at hi; rcases hi with rfl <;> first | exact hpre ⟨13, .data⟩ (by simp) rfl) (Nat.le_of_ble_eq_true rfl) hn (j := 14) (s := 46) (v := .pointer (some ⟨(w.heap.size + 4), 1, none⟩)) rfl rfl
          unfold Oper.wp
          go_simp
          exact hk
        · cases Option.some.inj ho
          have e14 : act.tmps[46]?.getD undef = .pointer (some ⟨(w.heap.size + 4), 1, none⟩) := (Kt.val_get act 46).symm.trans (hI.pure 14 _ (Nat.le_of_ble_eq_true rfl) rfl (hpre ⟨14, .data⟩ (by simp) rfl))
          have e2 : act.tmps[34]?.getD undef = .int .i64 (sn : Int) := (Kt.val_get act 34).symm.trans (hI.pure 2 _ (Nat.le_of_ble_eq_true rfl) rfl (hpre ⟨2, .data⟩ (by simp) rfl))
          have hk := hI.pure_step ok (fun i hi => by have hi := (show i ∈ ([14] : List Nat) from hi); simp only [List.mem_cons, List.not_mem_nil, or_false] at hi; rcases hi with rfl <;> first | exact hpre ⟨14, .data⟩ (by simp) rfl) (Nat.le_of_ble_eq_true rfl) hn (j := 15) (s := 47) (v := .pointer (some ⟨(w.heap.size + 4), 1 + sn, none⟩)) rfl rfl
          unfold Oper.wp
          go_simp
          exact hk
        · cases Option.some.inj ho
          have hop := hI.open_ (j := 16) (Nat.le_of_ble_eq_true rfl) hn
          have hall : ∀ i, i < 16 → listed.getD i false = true := fun i hi => by rcases i with _ | _ | _ | _ | _ | _ | _ | _ | _ | _ | _ | _ | _ | _ | _ | _ | i; exact hpre ⟨0, .phase⟩ (by simp) rfl; exact hpre ⟨1, .phase⟩ (by simp) rfl; exact hpre ⟨2, .phase⟩ (by simp) rfl; exact hpre ⟨3, .phase⟩ (by simp) rfl; exact hpre ⟨4, .phase⟩ (by simp) rfl; exact hpre ⟨5, .phase⟩ (by simp) rfl; exact hpre ⟨6, .phase⟩ (by simp) rfl; exact hpre ⟨7, .phase⟩ (by simp) rfl; exact hpre ⟨8, .phase⟩ (by simp) rfl; exact hpre ⟨9, .phase⟩ (by simp) rfl; exact hpre ⟨10, .phase⟩ (by simp) rfl; exact hpre ⟨11, .phase⟩ (by simp) rfl; exact hpre ⟨12, .phase⟩ (by simp) rfl; exact hI.cl 14 13 (hI.cl 15 14 (hpre ⟨15, .data⟩ (by simp) rfl) (show 14 ∈ ([14] : List Nat) by simp)) (show 13 ∈ ([13] : List Nat) by simp); exact hI.cl 15 14 (hpre ⟨15, .data⟩ (by simp) rfl) (show 14 ∈ ([14] : List Nat) by simp); exact hpre ⟨15, .data⟩ (by simp) rfl; omega
          obtain ⟨gg, cap, hv, hown1, hat, hlt1⟩ := hI.app (hall 12 (Nat.le_of_ble_eq_true rfl)) hop
          have ev : act.tmps[44]?.getD undef = .slice (some ⟨gg, 0, none⟩) (m9 + 1) cap := (Kt.val_get act 44).symm.trans hv
          have e15 : act.tmps[47]?.getD undef = .pointer (some ⟨(w.heap.size + 4), 1 + sn, none⟩) := (Kt.val_get act 47).symm.trans (hI.pure 15 _ (Nat.le_of_ble_eq_true rfl) rfl (hall 15 (by decide)))
          have c0 : w2.cell? ⟨(w.heap.size + 4), 1 + sn, none⟩ = some ((V sn)) := hI.cell hop hbc9 hcw q4
          have hz : w2.frozen? ⟨(w.heap.size + 4), 1 + sn, none⟩ = false := (hI.kp hop).frozen_far ⟨(w.heap.size + 4), 1 + sn, none⟩ hbc9 (fun e => hcw e.symm) |>.trans q5
          unfold Oper.wp
          go_simp
          exact hI.last_step ok (fun _ hi => (List.not_mem_nil hi).elim) rfl hall hI.frame (fun _ _ => rfl) (hfin gg cap w2 hown1 (hI.kp hop) hat)
        · exfalso; simp at ho
      case hdone =>
        intro listed act w2 hI hr
        have hup := Kt.all_up (fun q o ho => by
          rcases q with _ | _ | _ | _ | _ | _ | _ | _ | _ | _ | _ | _ | _ | _ | _ | _ | _ | q
          all_goals first | (cases Option.some.inj ho; decide) | (exfalso; simp at ho)) hI.size hr
        obtain ⟨⟨V1, hN1⟩, hb1, hbl1⟩ := (hI.last (hup 16 (by decide))).1
        rw [hI.frame.out]
        simp only [ncrP, ncrS, Kt.sets]
        generalize Kt.val act 32 = v32
        generalize Kt.val act 33 = v33
        generalize Kt.val act 34 = v34
        generalize Kt.val act 35 = v35
        generalize Kt.val act 36 = v36
        generalize Kt.val act 37 = v37
        generalize Kt.val act 38 = v38
        generalize Kt.val act 39 = v39
        generalize Kt.val act 40 = v40
        generalize Kt.val act 41 = v41
        generalize Kt.val act 42 = v42
        generalize Kt.val act 43 = v43
        generalize Kt.val act 44 = v44
        generalize Kt.val act 45 = v45
        generalize Kt.val act 46 = v46
        generalize Kt.val act 47 = v47
        simp only [List.setIfInBounds_toArray, List.set_cons_zero, List.set_cons_succ]
        clear hI hr hup hfin hown q1 q4 q5 hst
        rename World => wx
        have HN1 := Lib.hid hN1
        have r1 : wx.cell? ⟨rb, 1, none⟩ = some (.slice (some ⟨b', o', none⟩) m c') := hbl1.cell 1
        go_wp2_with fail
        go_loopw [9, 10] (fun s9 s10 wr => ∃ (t nx : Nat) (EV1 : Value) (E1 : List Gr.End), t ≤ m ∧ s9 = .int .i64 (nx : Int) ∧ s10 = .int .i64 ((m : Int) - 1 - t) ∧ Hid (NC w.heap.size g (k + 1) k (.slice T nt ct) n wr V1 EV1 E1 zs ∧ Gr.Ends E1 nx (l.drop (m - t)) ∧ E1.length ≤ 1 + 8 * k + t ∧ Kt.Blk wr rb 37 #[.int .i64 (sn : Int), .slice (some ⟨b', o', none⟩) m c'] ∧ EV1.ownBlock ≠ some rb) ∧ Below w.heap.size w wr) (fun _ s10 _ => (intOf s10 + 1).toNat)
        case atStart => exact ⟨0, 0, EV, E, Nat.zero_le _, rfl, by simp, Lib.hid ⟨HN1.out, by rw [List.drop_eq_nil_of_le (by have := hm.out; omega)]; exact .nil, by omega, hbl1, hevr⟩, hb1⟩
        case round =>
          rename_i hwr
          obtain ⟨t, nx, EV1, E1, ht, rfl, rfl, hin, hbel1⟩ := hrel
          by_cases hlt2 : t < m
          · obtain ⟨i, hi⟩ : ∃ i, Hid (m - 1 - t = i) := ⟨_, Lib.hid rfl⟩
            have ei : ((m : Int) - 1 - t) = (i : Int) := by have := hi.out; omega
            rw [ei]
            have him : i < m := by have := hi.out; omega
            obtain ⟨hN, hEnd, hEl, hbl, _⟩ := hin.out
            have hsz := hN.size
            obtain ⟨ge, ec, hEV, hge1, hge2⟩ := World.ownsRow.form hN.ends hN.eok.pos
            have hnx := hEnd.lt hN.eok
            have q2 : wr.cell? ⟨rb, 1, none⟩ = some (.slice (some ⟨b', o', none⟩) m c') := hbl.cell 1
            obtain ⟨xx, hxx⟩ : ∃ xx, Hid (Gr.itm l i = xx) := ⟨_, Lib.hid rfl⟩
            obtain ⟨cx, sx⟩ := xx
            obtain ⟨q3, q4⟩ := HC'.out i (by have := hm.out; omega)
            rw [hxx.out] at q3 q4
            replace q3 : wr.cell? ⟨b', o' + i * 2, none⟩ = some (.int .u16 cx) := (hbel1.cell (p := ⟨b', o' + i * 2, none⟩) hb').trans q3
            replace q4 : wr.cell? ⟨b', o' + i * 2 + 1, none⟩ = some (.int .i64 sx) := (hbel1.cell (p := ⟨b', o' + i * 2 + 1, none⟩) hb').trans q4
            have q5 : wr.cell? ⟨w.heap.size + 4, 66, none⟩ = some (.slice (some ⟨ge, 0, none⟩) E1.length ec) := by rw [← hEV]; exact hN.c66
            have hownE := hN.ends
            rw [hEV] at hownE
            have q6 : wr.cell? ⟨ge, nx * 4 + 3, none⟩ = some (.int .i64 (t : Int)) := by
              have h2 := World.ownsRow.cells hownE (g := ge) rfl (nx * 4 + 3) (.int .i64 (t : Int)) (by
                rw [Gr.flatE_get E1 nx 3 hnx (by omega)]
                show some (Value.int .i64 ((Gr.en E1 nx).items : Int)) = _
                rw [hEnd.items hN.eok, List.length_drop, hm.out, show m - (m - t) = t from by omega])
              simpa [Addr.add_lit] using h2
            have hbr9 : rb < wr.heap.size := hbl.lt
            have hbb9 : b' < wr.heap.size := by have := hbel1.size; omega
            have hbc9 : w.heap.size + 4 < wr.heap.size := by omega
            have hbg9 : ge < wr.heap.size := hge2
            have hE2 : E1.length ≤ 1700 := by omega
            have HIN := Lib.hid hin.out
            clear hN hEnd hEl hbl hin hownE hge1 hge2
            go_upto_region 11 with fail
            refine Kt.region_inv (Kt.RgI (nceP _ wr (w.heap.size + 4) rb b' o' m c' ge E1.length ec i nx (t : Int) cx sx (fun act wx => ∃ gb, Kt.val act 11 = .pointer (some ⟨gb, 0, none⟩) ∧ wr.heap.size ≤ gb ∧ Kt.Blk wx gb 115 #[.int .u16 cx, .int .i64 sx, .int .i64 (nx : Int), .int .i64 ((t : Int) + 1)] ∧ Below wr.heap.size wr wx))) (by kernel_rfl) ?hg2 (Kt.RgI.start (World.ownsRow_nil _ _ _ _)) ?hstep2 ?hdone2
            case hg2 =>
              intro q o ho
              rcases q with _ | _ | _ | _ | _ | _ | _ | _ | _ | _ | _ | _ | _ | _ | _ | _ | _ | _ | q
              all_goals first | (cases Option.some.inj ho; rfl) | (exfalso; simp at ho)
            case hstep2 =>
              intro listed act w2 q o hI ho hn hpre
              have ok := nce_ok hI (Nat.le_of_ble_eq_true rfl)
              rcases q with _ | _ | _ | _ | _ | _ | _ | _ | _ | _ | _ | _ | _ | _ | _ | _ | _ | _ | q
              · cases Option.some.inj ho
                have f8 : act.tmps[8]?.getD undef = .pointer (some ⟨rb, 0, none⟩) := (Kt.val_get act 8).symm.trans (hI.frame.val_out (s := 8) (show 8 ∉ nceS by decide))
                have hk := hI.pure_step ok (fun _ hi => (List.not_mem_nil hi).elim) (Nat.le_of_ble_eq_true rfl) hn (j := 0) (s := 56) (v := .pointer (some ⟨rb, 1, none⟩)) rfl rfl
                unfold Oper.wp
                go_simp
                exact hk
              · cases Option.some.inj ho
                have e0 : act.tmps[56]?.getD undef = .pointer (some ⟨rb, 1, none⟩) := (Kt.val_get act 56).symm.trans (hI.pure 0 _ (Nat.le_of_ble_eq_true rfl) rfl (hpre ⟨0, .data⟩ (by simp) rfl))
                have hop := hI.open_ (j := 1) (Nat.le_of_ble_eq_true rfl) hn
                have c0 : w2.cell? ⟨rb, 1, none⟩ = some (.slice (some ⟨b', o', none⟩) m c') := hI.cell hop hbr9 (fun e => by cases e) q2
                have hk := hI.pure_step ok (fun _ hi => (List.not_mem_nil hi).elim) (Nat.le_of_ble_eq_true rfl) hn (j := 1) (s := 57) (v := .slice (some ⟨b', o', none⟩) m c') rfl rfl
                unfold Oper.wp
                go_simp
                exact hk
              · cases Option.some.inj ho
                refine Kt.op_move rfl ?_
                rw [show act.eval (.tmp 10) = .int .i64 (i : Int) from hI.frame.val_out (s := 10) (show 10 ∉ nceS by decide)]
                exact hI.pure_step ok (fun _ hi => (List.not_mem_nil hi).elim) (Nat.le_of_ble_eq_true rfl) hn rfl rfl
              · cases Option.some.inj ho
                have e1 : act.tmps[57]?.getD undef = .slice (some ⟨b', o', none⟩) m c' := (Kt.val_get act 57).symm.trans (hI.pure 1 _ (Nat.le_of_ble_eq_true rfl) rfl (hpre ⟨1, .data⟩ (by simp) rfl))
                have e2 : act.tmps[58]?.getD undef = .int .i64 (i : Int) := (Kt.val_get act 58).symm.trans (hI.pure 2 _ (Nat.le_of_ble_eq_true rfl) rfl (hpre ⟨2, .data⟩ (by simp) rfl))
                have hk := hI.pure_step ok (fun _ hi => (List.not_mem_nil hi).elim) (Nat.le_of_ble_eq_true rfl) hn (j := 3) (s := 59) (v := .pointer (some ⟨b', o' + i * 2, none⟩)) rfl rfl
                unfold Oper.wp
                go_simp
                exact hk
              · cases Option.some.inj ho
                have e3 : act.tmps[59]?.getD undef = .pointer (some ⟨b', o' + i * 2, none⟩) := (Kt.val_get act 59).symm.trans (hI.pure 3 _ (Nat.le_of_ble_eq_true rfl) rfl (hpre ⟨3, .data⟩ (by simp) rfl))
                have hop := hI.open_ (j := 4) (Nat.le_of_ble_eq_true rfl) hn
                have c0 : w2.cell? ⟨b', o' + i * 2, none⟩ = some (.int .u16 cx) := hI.cell hop hbb9 (fun e => by cases e) q3
                have c1 : w2.cell? ⟨b', o' + i * 2 + 1, none⟩ = some (.int .i64 sx) := hI.cell hop hbb9 (fun e => by cases e) q4
                have hk := hI.pure_step ok (fun _ hi => (List.not_mem_nil hi).elim) (Nat.le_of_ble_eq_true rfl) hn (j := 4) (s := 60) (v := .agg #[.int .u16 cx, .int .i64 sx]) rfl rfl
                unfold Oper.wp
                go_simp
                exact hk
              · cases Option.some.inj ho
                refine Kt.op_move rfl ?_
                rw [show act.eval (.tmp 9) = .int .i64 (nx : Int) from hI.frame.val_out (s := 9) (show 9 ∉ nceS by decide)]
                exact hI.pure_step ok (fun _ hi => (List.not_mem_nil hi).elim) (Nat.le_of_ble_eq_true rfl) hn rfl rfl
              · cases Option.some.inj ho
                refine Kt.op_move rfl ?_
                rw [show act.eval (.tmp 5) = .pointer (some ⟨(w.heap.size + 4), 0, none⟩) from hI.frame.val_out (s := 5) (show 5 ∉ nceS by decide)]
                exact hI.pure_step ok (fun _ hi => (List.not_mem_nil hi).elim) (Nat.le_of_ble_eq_true rfl) hn rfl rfl
              · cases Option.some.inj ho
                have e6 : act.tmps[62]?.getD undef = .pointer (some ⟨(w.heap.size + 4), 0, none⟩) := (Kt.val_get act 62).symm.trans (hI.pure 6 _ (Nat.le_of_ble_eq_true rfl) rfl (hpre ⟨6, .data⟩ (by simp) rfl))
                have hk := hI.pure_step ok (fun _ hi => (List.not_mem_nil hi).elim) (Nat.le_of_ble_eq_true rfl) hn (j := 7) (s := 63) (v := .pointer (some ⟨(w.heap.size + 4), 0, none⟩)) rfl rfl
                unfold Oper.wp
                go_simp
                exact hk
              · cases Option.some.inj ho
                have e7 : act.tmps[63]?.getD undef = .pointer (some ⟨(w.heap.size + 4), 0, none⟩) := (Kt.val_get act 63).symm.trans (hI.pure 7 _ (Nat.le_of_ble_eq_true rfl) rfl (hpre ⟨7, .data⟩ (by simp) rfl))
                have hk := hI.pure_step ok (fun _ hi => (List.not_mem_nil hi).elim) (Nat.le_of_ble_eq_true rfl) hn (j := 8) (s := 64) (v := .pointer (some ⟨(w.heap.size + 4), 66, none⟩)) rfl rfl
                unfold Oper.wp
                go_simp
                exact hk
              · cases Option.some.inj ho
                have e8 : act.tmps[64]?.getD undef = .pointer (some ⟨(w.heap.size + 4), 66, none⟩) := (Kt.val_get act 64).symm.trans (hI.pure 8 _ (Nat.le_of_ble_eq_true rfl) rfl (hpre ⟨8, .data⟩ (by simp) rfl))
                have hop := hI.open_ (j := 9) (Nat.le_of_ble_eq_true rfl) hn
                have c0 : w2.cell? ⟨(w.heap.size + 4), 66, none⟩ = some (.slice (some ⟨ge, 0, none⟩) E1.length ec) := hI.cell hop hbc9 (fun e => by cases e) q5
                have hk := hI.pure_step ok (fun _ hi => (List.not_mem_nil hi).elim) (Nat.le_of_ble_eq_true rfl) hn (j := 9) (s := 65) (v := .slice (some ⟨ge, 0, none⟩) E1.length ec) rfl rfl
                unfold Oper.wp
                go_simp
                exact hk
              · cases Option.some.inj ho
                refine Kt.op_move rfl ?_
                rw [show act.eval (.tmp 9) = .int .i64 (nx : Int) from hI.frame.val_out (s := 9) (show 9 ∉ nceS by decide)]
                exact hI.pure_step ok (fun _ hi => (List.not_mem_nil hi).elim) (Nat.le_of_ble_eq_true rfl) hn rfl rfl
              · cases Option.some.inj ho
                have e9 : act.tmps[65]?.getD undef = .slice (some ⟨ge, 0, none⟩) E1.length ec := (Kt.val_get act 65).symm.trans (hI.pure 9 _ (Nat.le_of_ble_eq_true rfl) rfl (hpre ⟨9, .data⟩ (by simp) rfl))
                have e10 : act.tmps[66]?.getD undef = .int .i64 (nx : Int) := (Kt.val_get act 66).symm.trans (hI.pure 10 _ (Nat.le_of_ble_eq_true rfl) rfl (hpre ⟨10, .data⟩ (by simp) rfl))
                have hk := hI.pure_step ok (fun _ hi => (List.not_mem_nil hi).elim) (Nat.le_of_ble_eq_true rfl) hn (j := 11) (s := 67) (v := .pointer (some ⟨ge, nx * 4, none⟩)) rfl rfl
                unfold Oper.wp
                go_simp
                exact hk
              · cases Option.some.inj ho
                have e11 : act.tmps[67]?.getD undef = .pointer (some ⟨ge, nx * 4, none⟩) := (Kt.val_get act 67).symm.trans (hI.pure 11 _ (Nat.le_of_ble_eq_true rfl) rfl (hpre ⟨11, .data⟩ (by simp) rfl))
                have hk := hI.pure_step ok (fun _ hi => (List.not_mem_nil hi).elim) (Nat.le_of_ble_eq_true rfl) hn (j := 12) (s := 68) (v := .pointer (some ⟨ge, nx * 4 + 3, none⟩)) rfl rfl
                unfold Oper.wp
                go_simp
                exact hk
              · cases Option.some.inj ho
                have e12 : act.tmps[68]?.getD undef = .pointer (some ⟨ge, nx * 4 + 3, none⟩) := (Kt.val_get act 68).symm.trans (hI.pure 12 _ (Nat.le_of_ble_eq_true rfl) rfl (hpre ⟨12, .data⟩ (by simp) rfl))
                have hop := hI.open_ (j := 13) (Nat.le_of_ble_eq_true rfl) hn
                have c0 : w2.cell? ⟨ge, nx * 4 + 3, none⟩ = some (.int .i64 (t : Int)) := hI.cell hop hbg9 (fun e => by cases e) q6
                have hk := hI.pure_step ok (fun _ hi => (List.not_mem_nil hi).elim) (Nat.le_of_ble_eq_true rfl) hn (j := 13) (s := 69) (v := .int .i64 (t : Int)) rfl rfl
                unfold Oper.wp
                go_simp
                exact hk
              · cases Option.some.inj ho
                have e13 : act.tmps[69]?.getD undef = .int .i64 (t : Int) := (Kt.val_get act 69).symm.trans (hI.pure 13 _ (Nat.le_of_ble_eq_true rfl) rfl (hpre ⟨13, .data⟩ (by simp) rfl))
                have hwrap : IntKind.i64.wrap ((t : Int) + 1) = (t : Int) + 1 := IntWalk.i64_in _ (by omega)
                have hk := hI.pure_step ok (fun _ hi => (List.not_mem_nil hi).elim) (Nat.le_of_ble_eq_true rfl) hn (j := 14) (s := 70) (v := .int .i64 ((t : Int) + 1)) rfl rfl
                unfold Oper.wp
                go_simp
                exact hk
              · cases Option.some.inj ho
                have e4 : act.tmps[60]?.getD undef = .agg #[.int .u16 cx, .int .i64 sx] := (Kt.val_get act 60).symm.trans (hI.pure 4 _ (Nat.le_of_ble_eq_true rfl) rfl (hpre ⟨4, .data⟩ (by simp) rfl))
                have e5 : act.tmps[61]?.getD undef = .int .i64 (nx : Int) := (Kt.val_get act 61).symm.trans (hI.pure 5 _ (Nat.le_of_ble_eq_true rfl) rfl (hpre ⟨5, .data⟩ (by simp) rfl))
                have e14 : act.tmps[70]?.getD undef = .int .i64 ((t : Int) + 1) := (Kt.val_get act 70).symm.trans (hI.pure 14 _ (Nat.le_of_ble_eq_true rfl) rfl (hpre ⟨14, .data⟩ (by simp) rfl))
                have hk := hI.pure_step ok (fun _ hi => (List.not_mem_nil hi).elim) (Nat.le_of_ble_eq_true rfl) hn (j := 15) (s := 71) (v := .agg #[.int .u16 cx, .int .i64 sx, .int .i64 (nx : Int), .int .i64 ((t : Int) + 1)]) rfl rfl
                unfold Oper.wp
                go_simp
                exact hk
              · cases Option.some.inj ho
                unfold Oper.wp
                go_simp
                exact hI.bld_step ok (fun _ hi => (List.not_mem_nil hi).elim) hn rfl rfl
              · cases Option.some.inj ho
                have hop := hI.open_ (j := 17) (Nat.le_of_ble_eq_true rfl) hn
                have hall : ∀ i, i < 17 → listed.getD i false = true := fun i hi => by rcases i with _ | _ | _ | _ | _ | _ | _ | _ | _ | _ | _ | _ | _ | _ | _ | _ | _ | i; exact hpre ⟨0, .phase⟩ (by simp) rfl; exact hpre ⟨1, .phase⟩ (by simp) rfl; exact hpre ⟨2, .phase⟩ (by simp) rfl; exact hpre ⟨3, .phase⟩ (by simp) rfl; exact hpre ⟨4, .phase⟩ (by simp) rfl; exact hpre ⟨5, .phase⟩ (by simp) rfl; exact hpre ⟨6, .phase⟩ (by simp) rfl; exact hpre ⟨7, .phase⟩ (by simp) rfl; exact hpre ⟨8, .phase⟩ (by simp) rfl; exact hpre ⟨9, .phase⟩ (by simp) rfl; exact hpre ⟨10, .phase⟩ (by simp) rfl; exact hpre ⟨11, .phase⟩ (by simp) rfl; exact hpre ⟨12, .phase⟩ (by simp) rfl; exact hpre ⟨13, .phase⟩ (by simp) rfl; exact hpre ⟨14, .phase⟩ (by simp) rfl; exact hpre ⟨15, .phase⟩ (by simp) rfl; exact hpre ⟨16, .phase⟩ (by simp) rfl; omega
                have hap : listed.getD 17 false = false := Kt.getD_no hn
                obtain ⟨gb, hgb0, hgb, hbl⟩ := hI.bld (hall 16 (Nat.le_of_ble_eq_true rfl)) hap
                have eb : act.tmps[11]?.getD undef = .pointer (some ⟨gb, 0, none⟩) := (Kt.val_get act 11).symm.trans hgb
                have e15 : act.tmps[71]?.getD undef = .agg #[.int .u16 cx, .int .i64 sx, .int .i64 (nx : Int), .int .i64 ((t : Int) + 1)] := (Kt.val_get act 71).symm.trans (hI.pure 15 _ (Nat.le_of_ble_eq_true rfl) rfl (hall 15 (by decide)))
                have cb0 : w2.cell? ⟨gb, 0, none⟩ = some (.int .u16 0) := hbl.cell 0
                have fb0 : w2.frozen? ⟨gb, 0, none⟩ = false := hbl.frozen 0
                have cb1 : w2.cell? ⟨gb, 1, none⟩ = some (.int .i64 0) := hbl.cell 1
                have fb1 : w2.frozen? ⟨gb, 1, none⟩ = false := hbl.frozen 1
                have cb2 : w2.cell? ⟨gb, 2, none⟩ = some (.int .i64 0) := hbl.cell 2
                have fb2 : w2.frozen? ⟨gb, 2, none⟩ = false := hbl.frozen 2
                have cb3 : w2.cell? ⟨gb, 3, none⟩ = some (.int .i64 0) := hbl.cell 3
                have fb3 : w2.frozen? ⟨gb, 3, none⟩ = false := hbl.frozen 3
                unfold Oper.wp
                go_simp
                refine hI.last_step ok (fun _ hi => (List.not_mem_nil hi).elim) rfl hall hI.frame (fun _ _ => rfl) ?_
                exact ⟨gb, hgb, hgb0, end_fin hgb0 hbl (hI.kp hop)⟩
              · exfalso; simp at ho
            case hdone2 =>
              intro listed act w2 hI hr
              have hup := Kt.all_up (fun q o ho => by
                rcases q with _ | _ | _ | _ | _ | _ | _ | _ | _ | _ | _ | _ | _ | _ | _ | _ | _ | _ | q
                all_goals first | (cases Option.some.inj ho; decide) | (exfalso; simp at ho)) hI.size hr
              obtain ⟨gb, hv11, hgb, hblk, hb2⟩ := (hI.last (hup 17 (by decide))).1
              rw [hI.frame.out]
              simp only [nceP, nceS, Kt.sets]
              generalize Kt.val act 56 = v56
              generalize Kt.val act 57 = v57
              generalize Kt.val act 58 = v58
              generalize Kt.val act 59 = v59
              generalize Kt.val act 60 = v60
              generalize Kt.val act 61 = v61
              generalize Kt.val act 62 = v62
              generalize Kt.val act 63 = v63
              generalize Kt.val act 64 = v64
              generalize Kt.val act 65 = v65
              generalize Kt.val act 66 = v66
              generalize Kt.val act 67 = v67
              generalize Kt.val act 68 = v68
              generalize Kt.val act 69 = v69
              generalize Kt.val act 70 = v70
              generalize Kt.val act 71 = v71
              generalize Kt.val act 11 = v11 at hv11 ⊢
              simp only [List.setIfInBounds_toArray, List.set_cons_zero, List.set_cons_succ]
              subst hv11
              clear hI hr hup q2 q3 q4 q5 q6
              rename World => wx
              have hsx := hb2.size
              have hN2 := HIN.out.1.on hb2
              have hbl2 : Kt.Blk wx rb 37 #[.int .i64 (sn : Int), .slice (some ⟨b', o', none⟩) m c'] := HIN.out.2.2.2.1.on hb2
              have hbw2 : Below w.heap.size w wx := hbel1.trans (hb2.mono hbel1.size)
              obtain ⟨xe, hxe⟩ : ∃ xe : Gr.End, Hid (xe = ⟨⟨cx, sx⟩, nx, t + 1⟩) := ⟨_, Lib.hid rfl⟩
              have r0 : wx.cell? ⟨gb, 0, none⟩ = some (.int .u16 xe.item.cls) := by rw [hxe.out]; exact hblk.cell 0
              have r1 : wx.cell? ⟨gb, 1, none⟩ = some (.int .i64 xe.item.sym) := by rw [hxe.out]; exact hblk.cell 1
              have r2 : wx.cell? ⟨gb, 2, none⟩ = some (.int .i64 (xe.next : Int)) := by rw [hxe.out]; exact hblk.cell 2
              have r3 : wx.cell? ⟨gb, 3, none⟩ = some (.int .i64 (xe.items : Int)) := by rw [hxe.out]; exact hblk.cell 3
              obtain ⟨es, cq, hmap, hes⟩ := hN2.num
              have hitx : ((0 ≤ sx ∧ sx < 64) ∧ (cx = 0 ∨ sx = 0)) ∧ 0 ≤ cx ∧ cx ≤ 65535 := HIT.out ⟨cx, sx⟩ (by rw [← hxx.out]; unfold Gr.itm; have := hm.out; rw [List.getD_eq_getElem?_getD, List.getElem?_eq_getElem (by omega)]; exact List.getElem_mem _)
              obtain ⟨lx, hlx⟩ : ∃ lx, keyOf Try.prog 115 (Gr.endVal xe) = some lx := by
                rw [hxe.out]
                obtain ⟨⟨⟨g1, g2⟩, _⟩, g3, g4⟩ := hitx
                have hnx2 : nx ≤ 1700 := by omega
                have ht2 : t + 1 ≤ 9 := by omega
                exact key_end cx sx (nx : Int) ((t + 1 : Nat) : Int) (wf16 _ g3 g4) (wf64 _ g1 (by omega)) (wf64 _ (by omega) (by omega)) (wf64 _ (by omega) (by omega))
              have hkeys : ∀ e ∈ es.toList, ∃ l, keyOf Try.prog 115 e.key = some l := fun e he => by
                obtain ⟨_, _, _, _, _, h9⟩ := hes e he
                exact h9
              have HEN := Lib.hid HIN.out.2.1
              have hEl := HIN.out.2.2.1
              have hdrop : Hid (l.drop (m - (t + 1)) = ⟨cx, sx⟩ :: l.drop (m - t)) := Lib.hid (by
                have h2 := hi.out
                have h3 := hm.out
                rw [show m - (t + 1) = i from by omega, show m - t = i + 1 from by omega, drop_at l i (by omega), hxx.out])
              have hlen : Hid ((l.drop (m - t)).length + 1 = t + 1) := Lib.hid (by rw [List.length_drop, hm.out]; omega)
              have hrow : Kt.Blk wx gb 115 #[.int .u16 xe.item.cls, .int .i64 xe.item.sym, .int .i64 (xe.next : Int), .int .i64 (xe.items : Int)] := by rw [hxe.out]; exact hblk
              clear hb2 hxx hitx hbr9 hbb9 hbg9 hbc9 hblk hsx
              rcases Kt.run_look_key lawEnd Try.underlying120 hmap hkeys hlx (zeroInt _) with hlook | ⟨e, hem, hek, hlook⟩
              · clear hes hmap hkeys
                have hn2s := hN2.size
                have hbase9 : w.heap.size + 1 ≤ wx.heap.size := by omega
                have hbc9 : w.heap.size + 4 < wx.heap.size := by omega
                have hbg9 : gb < wx.heap.size := hrow.lt
                have q5 : wx.cell? ⟨w.heap.size + 4, 66, none⟩ = some EV1 := hN2.c66
                obtain ⟨T9, cs9, hbl9⟩ := hN2.rows.bl
                have q7 := hbl9.frozen 66
                obtain ⟨ge2, ev1, ev2, ev3⟩ := hN2.ev
                have hge2 := (World.ownsRow.lt hN2.ends ge2 ev1).2
                have hge3 := (World.ownsRow.lt HIN.out.1.ends ge2 ev1).2
                have hcw : EV1.ownBlock ≠ some (w.heap.size + 4) := by rw [ev1]; intro e; injection e with e; omega
                have hgw : EV1.ownBlock ≠ some gb := by rw [ev1]; intro e; injection e with e; omega
                have hrw := HIN.out.2.2.2.2
                have hrb9 : rb < wx.heap.size := hbl2.lt
                have hrbn : rb ≠ w.heap.size + 4 := by omega
                have hfin : ∀ gg cap w2, w2.ownsRow (w.heap.size + 1) 115 4 (.slice (some ⟨gg, 0, none⟩) (E1.length + 1) cap) (E1.length + 1) (Gr.flatE E1 ++ Gr.endCells xe) → wx.grownBy w2 EV1.ownBlock → (EV1.ownBlock = some gg ∨ wx.heap.size ≤ gg) →
                    (∃ EV2, NC w.heap.size g (k + 1) k (.slice T nt ct) n (w2.setCell ⟨w.heap.size + 4, 66, none⟩ (.slice (some ⟨gg, 0, none⟩) (E1.length + 1) cap)) V1 EV2 (E1 ++ [xe]) zs ∧ EV2.ownBlock ≠ some rb) ∧ Below w.heap.size w (w2.setCell ⟨w.heap.size + 4, 66, none⟩ (.slice (some ⟨gg, 0, none⟩) (E1.length + 1) cap)) ∧
                    Kt.Blk (w2.setCell ⟨w.heap.size + 4, 66, none⟩ (.slice (some ⟨gg, 0, none⟩) (E1.length + 1) cap)) rb 37 #[.int .i64 (sn : Int), .slice (some ⟨b', o', none⟩) m c'] ∧
                    Kt.Blk (w2.setCell ⟨w.heap.size + 4, 66, none⟩ (.slice (some ⟨gg, 0, none⟩) (E1.length + 1) cap)) gb 115 #[.int .u16 xe.item.cls, .int .i64 xe.item.sym, .int .i64 (xe.next : Int), .int .i64 (xe.items : Int)] := fun gg cap w2 h1 h2 h3 => by
                  refine ⟨⟨_, hN2.snoc h1 h2 h3, ?_⟩, (Kt.below_grown hbw2 (by omega) h2 (fun q hq => by rw [ev1] at hq; injection hq with hq; omega)).setCell (p := ⟨w.heap.size + 4, 66, none⟩) (Nat.le_add_right _ 4) _, (hbl2.grown h2 (fun e => hrw e.symm)).far (p := ⟨w.heap.size + 4, 66, none⟩) hrbn _, (hrow.grown h2 (fun e => hgw e.symm)).far (p := ⟨w.heap.size + 4, 66, none⟩) (by show gb ≠ w.heap.size + 4; omega) _⟩
                  simp only [Value.ownBlock, ne_eq, Option.some.injEq]
                  rcases h3 with h3 | h3
                  · intro e; subst e; exact hrw h3
                  · omega
                have hownE : wx.ownsRow (w.heap.size + 1) 115 4 EV1 E1.length (Gr.flatE E1) := hN2.ends
                have HN2 := Lib.hid hN2
                have hpos : Hid (0 < E1.length) := Lib.hid hN2.eok.pos
                unfold Gr.endVal at hlook
                have hEV' := Lib.hid hEV
                rw [hEV] at q5
                clear hN2 hbl2 hrow ev3 hbl9
                go_upto_region 15 with fail
                clear hEV
                rw [← hEV'.out] at q5
                refine Kt.region_inv (Kt.RgI (ncaP _ wx (w.heap.size + 1) (w.heap.size + 4) xe EV1 E1.length (Gr.flatE E1) (fun _ wx => (∃ EV2, NC w.heap.size g (k + 1) k (.slice T nt ct) n wx V1 EV2 (E1 ++ [xe]) zs ∧ EV2.ownBlock ≠ some rb) ∧ Below w.heap.size w wx ∧
                    Kt.Blk wx rb 37 #[.int .i64 (sn : Int), .slice (some ⟨b', o', none⟩) m c'] ∧ Kt.Blk wx gb 115 #[.int .u16 xe.item.cls, .int .i64 xe.item.sym, .int .i64 (xe.next : Int), .int .i64 (xe.items : Int)]))) (by kernel_rfl) ?hg3 (Kt.RgI.start hownE) ?hstep3 ?hdone3
                case hg3 =>
                  intro q o ho
                  rcases q with _ | _ | _ | _ | _ | _ | _ | _ | _ | _ | _ | q
                  all_goals first | (cases Option.some.inj ho; rfl) | (exfalso; simp at ho)
                case hstep3 =>
                  intro listed act w2 q o hI ho hn hpre
                  have ok := nca_ok hI (Nat.le_of_ble_eq_true rfl)
                  rcases q with _ | _ | _ | _ | _ | _ | _ | _ | _ | _ | _ | q
                  · cases Option.some.inj ho
                    refine Kt.op_move rfl ?_
                    rw [show act.eval (.tmp 5) = .pointer (some ⟨(w.heap.size + 4), 0, none⟩) from hI.frame.val_out (s := 5) (show 5 ∉ ncaS by decide)]
                    exact hI.pure_step ok (fun _ hi => (List.not_mem_nil hi).elim) (Nat.le_of_ble_eq_true rfl) hn rfl rfl
                  · cases Option.some.inj ho
                    refine Kt.op_move rfl ?_
                    rw [show act.eval (.tmp 5) = .pointer (some ⟨(w.heap.size + 4), 0, none⟩) from hI.frame.val_out (s := 5) (show 5 ∉ ncaS by decide)]
                    exact hI.pure_step ok (fun _ hi => (List.not_mem_nil hi).elim) (Nat.le_of_ble_eq_true rfl) hn rfl rfl
                  · cases Option.some.inj ho
                    have e1 : act.tmps[86]?.getD undef = .pointer (some ⟨(w.heap.size + 4), 0, none⟩) := (Kt.val_get act 86).symm.trans (hI.pure 1 _ (Nat.le_of_ble_eq_true rfl) rfl (hpre ⟨1, .data⟩ (by simp) rfl))
                    have hk := hI.pure_step ok (fun _ hi => (List.not_mem_nil hi).elim) (Nat.le_of_ble_eq_true rfl) hn (j := 2) (s := 87) (v := .pointer (some ⟨(w.heap.size + 4), 0, none⟩)) rfl rfl
                    unfold Oper.wp
                    go_simp
                    exact hk
                  · cases Option.some.inj ho
                    have e2 : act.tmps[87]?.getD undef = .pointer (some ⟨(w.heap.size + 4), 0, none⟩) := (Kt.val_get act 87).symm.trans (hI.pure 2 _ (Nat.le_of_ble_eq_true rfl) rfl (hpre ⟨2, .data⟩ (by simp) rfl))
                    have hk := hI.pure_step ok (fun _ hi => (List.not_mem_nil hi).elim) (Nat.le_of_ble_eq_true rfl) hn (j := 3) (s := 88) (v := .pointer (some ⟨(w.heap.size + 4), 66, none⟩)) rfl rfl
                    unfold Oper.wp
                    go_simp
                    exact hk
                  · cases Option.some.inj ho
                    have e3 : act.tmps[88]?.getD undef = .pointer (some ⟨(w.heap.size + 4), 66, none⟩) := (Kt.val_get act 88).symm.trans (hI.pure 3 _ (Nat.le_of_ble_eq_true rfl) rfl (hpre ⟨3, .data⟩ (by simp) rfl))
                    have hop := hI.open_ (j := 4) (Nat.le_of_ble_eq_true rfl) hn
                    have c0 : w2.cell? ⟨(w.heap.size + 4), 66, none⟩ = some (EV1) := hI.cell hop hbc9 hcw q5
                    have hk := hI.pure_step ok (fun _ hi => (List.not_mem_nil hi).elim) (Nat.le_of_ble_eq_true rfl) hn (j := 4) (s := 89) (v := EV1) rfl rfl
                    unfold Oper.wp
                    go_simp
                    exact hk
                  · cases Option.some.inj ho
                    have f11 : act.tmps[11]?.getD undef = .pointer (some ⟨gb, 0, none⟩) := (Kt.val_get act 11).symm.trans (hI.frame.val_out (s := 11) (show 11 ∉ ncaS by decide))
                    have hop := hI.open_ (j := 5) (Nat.le_of_ble_eq_true rfl) hn
                    have c0 : w2.cell? ⟨gb, 0, none⟩ = some (.int .u16 xe.item.cls) := hI.cell hop hbg9 hgw r0
                    have c1 : w2.cell? ⟨gb, 1, none⟩ = some (.int .i64 xe.item.sym) := hI.cell hop hbg9 hgw r1
                    have c2 : w2.cell? ⟨gb, 2, none⟩ = some (.int .i64 (xe.next : Int)) := hI.cell hop hbg9 hgw r2
                    have c3 : w2.cell? ⟨gb, 3, none⟩ = some (.int .i64 (xe.items : Int)) := hI.cell hop hbg9 hgw r3
                    have hk := hI.pure_step ok (fun _ hi => (List.not_mem_nil hi).elim) (Nat.le_of_ble_eq_true rfl) hn (j := 5) (s := 90) (v := Gr.endVal xe) rfl rfl
                    unfold Oper.wp
                    go_simp
                    exact hk
                  · cases Option.some.inj ho
                    have e5 : act.tmps[90]?.getD undef = Gr.endVal xe := (Kt.val_get act 90).symm.trans (hI.pure 5 _ (Nat.le_of_ble_eq_true rfl) rfl (hpre ⟨5, .data⟩ (by simp) rfl))
                    unfold Gr.endVal at e5
                    unfold Oper.wp
                    go_simp
                    exact hI.bld_step ok (fun _ hi => (List.not_mem_nil hi).elim) hn rfl rfl
                  · cases Option.some.inj ho
                    have e4 : act.eval (.tmp 89) = EV1 := hI.pure 4 _ (Nat.le_of_ble_eq_true rfl) rfl (hpre ⟨4, .data⟩ (by simp) rfl)
                    have hna : listed.getD 7 false = false := Kt.getD_no hn
                    obtain ⟨gb, _, hgb, hbl⟩ := hI.bld (hpre ⟨6, .data⟩ (by simp) rfl) hna
                    have hbase : (w.heap.size + 1) ≤ w2.heap.size := Nat.le_trans hbase9 (hI.kp (hI.open_ (j := 7) (Nat.le_of_ble_eq_true rfl) hn)).size
                    exact wp_append_lies _ _ _ _ rfl (w.heap.size + 1) 115 i1 zEnd 4 32 Try.underlying116 hj0 hj1 hj2 hj3 rfl (by decide) EV1 E1.length (Gr.flatE E1) e4 (hI.own hna) ⟨gb, 0, none⟩ 1 1 (Gr.endCells xe) hgb rfl (World.news_of_block hbl) (by intro u hu; simp [Gr.endCells] at hu; rcases hu with rfl | rfl | rfl | rfl <;> rfl) (by decide) (by unfold maxLen; omega) (by omega) hbase _ rfl (fun g cap w3 h1 h2 h3 h4 => hI.app_step ok (Nat.le_of_ble_eq_true rfl) (fun _ hi => (List.not_mem_nil hi).elim) hn rfl h1 h2 h3 h4)
                  · cases Option.some.inj ho
                    have e0 : act.tmps[85]?.getD undef = .pointer (some ⟨(w.heap.size + 4), 0, none⟩) := (Kt.val_get act 85).symm.trans (hI.pure 0 _ (Nat.le_of_ble_eq_true rfl) rfl (hpre ⟨0, .data⟩ (by simp) rfl))
                    have hk := hI.pure_step ok (fun _ hi => (List.not_mem_nil hi).elim) (Nat.le_of_ble_eq_true rfl) hn (j := 8) (s := 93) (v := .pointer (some ⟨(w.heap.size + 4), 0, none⟩)) rfl rfl
                    unfold Oper.wp
                    go_simp
                    exact hk
                  · cases Option.some.inj ho
                    have e8 : act.tmps[93]?.getD undef = .pointer (some ⟨(w.heap.size + 4), 0, none⟩) := (Kt.val_get act 93).symm.trans (hI.pure 8 _ (Nat.le_of_ble_eq_true rfl) rfl (hpre ⟨8, .data⟩ (by simp) rfl))
                    have hk := hI.pure_step ok (fun i hi => by have hi := (show i ∈ ([8] : List Nat) from hi); simp only [List.mem_cons, List.not_mem_nil, or_false] at hi; rcases hi with rfl <;> first | exact hpre ⟨8, .data⟩ (by simp) rfl) (Nat.le_of_ble_eq_true rfl) hn (j := 9) (s := 94) (v := .pointer (some ⟨(w.heap.size + 4), 66, none⟩)) rfl rfl
                    unfold Oper.wp
                    go_simp
                    exact hk
                  · cases Option.some.inj ho
                    have hop := hI.open_ (j := 10) (Nat.le_of_ble_eq_true rfl) hn
                    have hall : ∀ i, i < 10 → listed.getD i false = true := fun i hi => by rcases i with _ | _ | _ | _ | _ | _ | _ | _ | _ | _ | i; exact hpre ⟨0, .phase⟩ (by simp) rfl; exact hpre ⟨1, .phase⟩ (by simp) rfl; exact hpre ⟨2, .phase⟩ (by simp) rfl; exact hpre ⟨3, .phase⟩ (by simp) rfl; exact hpre ⟨4, .phase⟩ (by simp) rfl; exact hpre ⟨5, .phase⟩ (by simp) rfl; exact hpre ⟨6, .phase⟩ (by simp) rfl; exact hpre ⟨7, .phase⟩ (by simp) rfl; exact hI.cl 9 8 (hpre ⟨9, .data⟩ (by simp) rfl) (show 8 ∈ ([8] : List Nat) by simp); exact hpre ⟨9, .data⟩ (by simp) rfl; omega
                    obtain ⟨gg, cap, hv, hown1, hat, hlt1⟩ := hI.app (hall 7 (Nat.le_of_ble_eq_true rfl)) hop
                    have ev : act.tmps[92]?.getD undef = .slice (some ⟨gg, 0, none⟩) (E1.length + 1) cap := (Kt.val_get act 92).symm.trans hv
                    have e9 : act.tmps[94]?.getD undef = .pointer (some ⟨(w.heap.size + 4), 66, none⟩) := (Kt.val_get act 94).symm.trans (hI.pure 9 _ (Nat.le_of_ble_eq_true rfl) rfl (hall 9 (by decide)))
                    have c0 : w2.cell? ⟨(w.heap.size + 4), 66, none⟩ = some (EV1) := hI.cell hop hbc9 hcw q5
                    have hz : w2.frozen? ⟨(w.heap.size + 4), 66, none⟩ = false := (hI.kp hop).frozen_far ⟨(w.heap.size + 4), 66, none⟩ hbc9 (fun e => hcw e.symm) |>.trans q7
                    unfold Oper.wp
                    go_simp
                    exact hI.last_step ok (fun _ hi => (List.not_mem_nil hi).elim) rfl hall hI.frame (fun _ _ => rfl) (hfin gg cap w2 hown1 (hI.kp hop) hat)
                  · exfalso; simp at ho
                case hdone3 =>
                  intro listed act w2 hI hr
                  have hup := Kt.all_up (fun q o ho => by
                    rcases q with _ | _ | _ | _ | _ | _ | _ | _ | _ | _ | _ | q
                    all_goals first | (cases Option.some.inj ho; decide) | (exfalso; simp at ho)) hI.size hr
                  obtain ⟨⟨EV2, hN3, hevr3⟩, hbw3, hbl3, hrow3⟩ := (hI.last (hup 10 (by decide))).1
                  rw [hI.frame.out]
                  simp only [ncaP, ncaS, Kt.sets]
                  generalize Kt.val act 85 = v85
                  generalize Kt.val act 86 = v86
                  generalize Kt.val act 87 = v87
                  generalize Kt.val act 88 = v88
                  generalize Kt.val act 89 = v89
                  generalize Kt.val act 90 = v90
                  generalize Kt.val act 91 = v91
                  generalize Kt.val act 92 = v92
                  generalize Kt.val act 93 = v93
                  generalize Kt.val act 94 = v94
                  simp only [List.setIfInBounds_toArray, List.set_cons_zero, List.set_cons_succ]
                  clear hI hr hup hfin hownE r0 r1 r2 r3 q5 q7 hlook
                  rename World => wy
                  have r0 : wy.cell? ⟨gb, 0, none⟩ = some (.int .u16 xe.item.cls) := hrow3.cell 0
                  have r1 : wy.cell? ⟨gb, 1, none⟩ = some (.int .i64 xe.item.sym) := hrow3.cell 1
                  have r2 : wy.cell? ⟨gb, 2, none⟩ = some (.int .i64 (xe.next : Int)) := hrow3.cell 2
                  have r3 : wy.cell? ⟨gb, 3, none⟩ = some (.int .i64 (xe.items : Int)) := hrow3.cell 3
                  obtain ⟨es, cq, hmap, hes⟩ := hN3.num
                  have hkeys : ∀ e ∈ es.toList, ∃ l, keyOf Try.prog 115 e.key = some l := fun e he => by
                    obtain ⟨_, _, _, _, _, h9⟩ := hes e he
                    exact h9
                  obtain ⟨es', cq', hput, hes'⟩ := Kt.run_put_key (v := .int .i64 (E1.length : Int)) lawEnd Try.underlying120 hmap hkeys hlx
                  have hN4 := Lib.hid (hN3.put (es' := es') (c' := cq') (fun e he => by
                    rcases hes' e he with h | ⟨h1, h2⟩
                    · exact hes e h
                    · exact ⟨E1.length, hpos.out, by simp, by rw [Gr.en_new, h1], h2, by rw [h1]; exact ⟨lx, hlx⟩⟩))
                  have hb4 : Below w.heap.size w (wy.putObj (w.heap.size + 5) (.map es' cq')) := below_putObj hbw3 (by omega)
                  have hbl4 : Kt.Blk (wy.putObj (w.heap.size + 5) (.map es' cq')) rb 37 #[.int .i64 (sn : Int), .slice (some ⟨b', o', none⟩) m c'] := (World.putObj_heap_other (by
                    intro e
                    have h3 : wy.heap[rb]? = _ := hbl3
                    rw [e, hmap] at h3
                    cases h3)).trans hbl3
                  have hEj : Hid (Gr.Ends (E1 ++ [xe]) E1.length (l.drop (m - (t + 1)))) := Lib.hid (by
                    rw [hdrop.out]
                    refine .cons hpos.out (by simp) ?_ (HEN.out.more xe)
                    rw [Gr.en_new, hxe.out, hlen.out])
                  unfold Gr.endVal at hput
                  clear hN3 hbw3 hbl3 hrow3 hes hes' hkeys hlx hmap
                  go_wp2_with fail
                  go_roundw
                  case rel => exact ⟨t + 1, E1.length, EV2, E1 ++ [xe], by omega, rfl, by have := hi.out; go_num, Lib.hid ⟨hN4.out, hEj.out, by simp; omega, hbl4, hevr3⟩, hb4⟩
                  case measure => have := hi.out; simp [intOf]
              · obtain ⟨j, j0, jl, jk, jv, _⟩ := hes e hem
                rw [jv] at hlook
                have hEj : Hid (Gr.Ends E1 j (l.drop (m - (t + 1)))) := Lib.hid (by
                  rw [hdrop.out]
                  refine .cons j0 jl ?_ HEN.out
                  rw [endVal_inj (jk.symm.trans hek), hxe.out, hlen.out])
                have HN2 := Lib.hid hN2
                unfold Gr.endVal at hlook
                clear jk hek jv hes hem hkeys hlx
                go_wp2_with fail
                go_roundw
                case rel => exact ⟨t + 1, j, EV1, E1, by omega, rfl, by have := hi.out; go_num, Lib.hid ⟨HN2.out, hEj.out, by omega, hbl2, HIN.out.2.2.2.2⟩, hbw2⟩
                case measure => have := hi.out; simp [intOf]
          · obtain rfl : t = m := by omega
            obtain ⟨hN, hEnd, hEl, _, _⟩ := hin.out
            rw [Nat.sub_self, List.drop_zero] at hEnd
            obtain ⟨zs', hN5⟩ := hN.begin_ (m := nx) (k2 := k) hlt (by rw [hru.out]; exact hEnd)
            have HN5 := Lib.hid hN5
            have e1 : ((t : Int) - 1 - t) = -1 := by omega
            rw [e1]
            have r2 : wr.cell? ⟨w.heap.size + 4, 65, none⟩ = some (.slice (some ⟨w.heap.size, 0, none⟩) n n) := hN.c65
            have r3 := hN.beg.cell k (by rw [hN.zl]; exact hlt)
            have f3 := hN.beg.frozen k
            have hb5 : Below w.heap.size w (wr.setCell ⟨w.heap.size, k, none⟩ (.int .i64 (nx : Int))) := hbel1.setCell (p := ⟨w.heap.size, k, none⟩) (Nat.le_refl _) _
            clear hN hEnd hN5
            go_wp2_with fail
            go_roundw
            case rel => exact ⟨k + 1, V1, EV1, E1, zs', by omega, by go_num, Lib.hid ⟨HN5.out, by omega⟩, hb5⟩
            case measure => simp [intOf]; omega
    · obtain rfl : k = n := by omega
      go_wp2
      go_ret
      exact ⟨rfl, hbel, V, EV, E, zs, hst.out.1, by have := hst.out.2; omega⟩
end Go.Proofs.Ytkclifdbdnigaaa
end
