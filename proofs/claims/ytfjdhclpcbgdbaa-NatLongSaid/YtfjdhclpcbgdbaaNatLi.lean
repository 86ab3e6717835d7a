/- The region of NatLong that makes two slices and appends to each: by an invariant. -/
import Derived.Test.YtfjdhclpcbgdbaaNatLo
import Derived.Test.YtfjdhclpcbgdbaaRgn
import Derived.Deep.RegionLawGrows
import Derived.Deep.DeepCutAuto
namespace Go.Proofs.Ytfjdhclpcbgdbaa
open Go Go.RowKit
def slot : Nat → Nat
  | 10 => 11 | 11 => 12 | j => 30 + j
def phi (i k a b lo : Nat) (X Y : Int) : Nat → Value → World → Prop
  | 0, v, _ => v = .int .i64 i
  | 1, v, w => ∃ g, v = .slice (some ⟨g, 0, none⟩) i i ∧ Kt.Blk w g 33 (Kt.IArr .u32 (Ls.zeros i))
  | 2, v, _ => v = .int .u32 X
  | 3, v, w => ∃ g, v = .slice (some ⟨g, 0, none⟩) 1 1 ∧ Kt.Blk w g 33 #[.int .u32 X]
  | 4, v, w => Kt.Num w lo v a
  | 5, v, _ => v = .int .i64 k
  | 6, v, w => ∃ g, v = .slice (some ⟨g, 0, none⟩) k k ∧ Kt.Blk w g 33 (Kt.IArr .u32 (Ls.zeros k))
  | 7, v, _ => v = .int .u32 Y
  | 8, v, w => ∃ g, v = .slice (some ⟨g, 0, none⟩) 1 1 ∧ Kt.Blk w g 33 #[.int .u32 Y]
  | 9, v, w => Kt.Num w lo v b
  | 10, v, w => Kt.Num w lo v a
  | _, v, w => Kt.Num w lo v b
theorem phi_on {i k a b lo : Nat} {X Y : Int} {v : Value} {w w' : World} (hb : Below w.heap.size w w') : ∀ j, phi i k a b lo X Y j v w → phi i k a b lo X Y j v w'
  | 0, h => h
  | 1, h => by obtain ⟨g, h1, h2⟩ := h; exact ⟨g, h1, h2.on hb⟩
  | 2, h => h
  | 3, h => by obtain ⟨g, h1, h2⟩ := h; exact ⟨g, h1, h2.on hb⟩
  | 4, h => Kt.Num.on h hb
  | 5, h => h
  | 6, h => by obtain ⟨g, h1, h2⟩ := h; exact ⟨g, h1, h2.on hb⟩
  | 7, h => h
  | 8, h => by obtain ⟨g, h1, h2⟩ := h; exact ⟨g, h1, h2.on hb⟩
  | 9, h => Kt.Num.on h hb
  | 10, h => Kt.Num.on h hb
  | _ + 11, h => Kt.Num.on h hb
theorem slot_inj {i j : Nat} (hi : i < 12) (hj : j < 12) (h : slot i = slot j) : i = j := by
  have : ∀ a b : Fin 12, slot a.val = slot b.val → a = b := by decide +kernel
  exact congrArg Fin.val (this ⟨i, hi⟩ ⟨j, hj⟩ h)
def slots : List Nat := [30, 31, 32, 33, 34, 35, 36, 37, 38, 39, 11, 12]
theorem slot_mem {i : Nat} (hi : i < 12) : slot i ∈ slots := by
  have : ∀ a : Fin 12, slot a.val ∈ slots := by decide +kernel
  exact this ⟨i, hi⟩
theorem slot_lt {i : Nat} (hi : i < 12) : slot i < 40 := by
  have : ∀ a : Fin 12, slot a.val < 40 := by decide +kernel
  exact this ⟨i, hi⟩
/-- The invariant. -/
structure LI (a0 : Act) (w1 : World) (i k a b : Nat) (X Y : Int) (listed : Array Bool) (act : Act) (w : World) : Prop where
  size : listed.size = 12
  frame : Kt.Fr slots a0 act
  room : 40 ≤ a0.tmps.size
  below : Below w1.heap.size w1 w
  facts : ∀ j, j < 12 → listed.getD j false = true → phi i k a b w1.heap.size X Y j (Kt.val act (slot j)) w
theorem LI.step {a0 : Act} {w1 : World} {i k a b : Nat} {X Y : Int} {listed : Array Bool} {act : Act} {w w' : World} (h : LI a0 w1 i k a b X Y listed act w) {n s : Nat} (hn : n < 12) (hs : s = slot n) {v : Value}
    (hb : Below w.heap.size w w') (hv : phi i k a b w1.heap.size X Y n v w') : LI a0 w1 i k a b X Y (listed.setIfInBounds n true) (act.put (some s) v) w' := by
  subst hs
  refine ⟨by simp [h.size], h.frame.put (slot_mem hn) v, h.room, Kt.next h.below hb, fun j hj hl => ?_⟩
  by_cases hjn : n = j
  · subst hjn
    rw [Kt.val_put (by have := slot_lt hn; have := h.room; have := h.frame.2.1; omega)]
    exact hv
  · rw [getD_set_ne false hjn] at hl
    rw [Kt.val_put_ne (fun e => hjn (slot_inj hn hj e))]
    exact phi_on hb j (h.facts j hj hl)
theorem LI.start {a0 : Act} {w1 : World} {i k a b : Nat} {X Y : Int} (h : 40 ≤ a0.tmps.size) : LI a0 w1 i k a b X Y (Array.replicate 12 false) a0 w1.drew :=
  ⟨by simp, Kt.Fr.refl _ _, h, Kt.below_of_drewN w1 1, fun j hj hl => by simp [hj] at hl⟩
/-! ### The operations -/
theorem Blk_drew {w : World} {g : Nat} {t : TypeId} {cs : Array Value} (h : Kt.Blk w g t cs) : Kt.Blk w.drew g t cs := h
theorem Blk_cells {w : World} {g : Nat} {T : TypeId} {zs : List Int} {cs : Array Value} (h : Kt.Blk w g T cs) (hcs : cs = Kt.IArr .u32 zs) : ∀ j u, (zs.map (Value.int .u32))[j]? = some u → w.cell? ((⟨g, 0, none⟩ : Addr).add j) = some u := by
  intro j u hj
  subst hcs
  rw [List.getElem?_map] at hj
  have hlt : j < zs.length := by
    rcases Nat.lt_or_ge j zs.length with h9 | h9
    · exact h9
    · rw [List.getElem?_eq_none h9] at hj; simp at hj
  have := Kt.IBlk.cell (show Kt.IBlk w g T .u32 zs from h) j hlt
  rw [Ls.nth_of hlt] at hj
  simp at hj
  subst hj
  simpa [Addr.add_lit] using this
theorem Blk_cells' {w : World} {g : Nat} {T : TypeId} {zs : List Int} {cs : Array Value} (h : Kt.Blk w g T cs) (hcs : cs = Kt.IArr .u32 zs) : ∀ b, some (⟨g, 0, none⟩ : Addr) = some b → ∀ j u, (zs.map (Value.int .u32))[j]? = some u → w.cell? (b.add j) = some u := by
  intro b hb
  injection hb with hb
  subst hb
  exact Blk_cells h hcs

theorem num_long {w : World} {base lo : Nat} {T : TypeId} {v : Value} {i a : Nat} {X : Int} (h : w.ownsRow base T 1 v (i + 1) ((Ls.zeros i).map (Value.int .u32) ++ [.int .u32 X])) (ha : Nt.limbs a = Ls.zeros i ++ [X]) (hl : lo ≤ base) : Kt.Num w lo v a := by
  have h2 : Kt.Own w base T .u32 v (Ls.zeros i ++ [X]) := Kt.Own.snoc (by rw [Ls.zeros_len]; exact h)
  have h3 := (Kt.Row.of_own h2).less hl
  rw [← ha] at h3
  exact h3
theorem below_none {w w' : World} (h : w.grownBy w' none) : Below w.heap.size w w' := ⟨h.os, h.tape, h.output, h.size, fun i hi => h.block i hi (by simp)⟩
theorem Bel_drew {a w : World} (h : Below a.heap.size a w) : Below a.heap.size a w.drew := Kt.below_drewN h 1
theorem Bel_alloc {a w : World} (h : Below a.heap.size a w) (o : Obj) : Below a.heap.size a (w.alloc o) := h.alloc h.size o
theorem Bel_grown {a w w' : World} (h : Below a.heap.size a w) (g : w.grownBy w' none) : Below a.heap.size a w' := h.trans ((below_none g).mono h.size)
theorem Num_drew {w : World} {lo : Nat} {v : Value} {n : Nat} (h : Kt.Num w lo v n) : Kt.Num w.drew lo v n := h

theorem op_build {o : Oper} {a : Act} {w : World} {K : Act → World → Prop} {Q : Exit → Act → World → Prop} {X : Int} (s : Nat) (ho : o.op = .buildSlice 22 1 #[(0, .tmp s)]) (hX : Kt.val a s = .int .u32 X) (h : K (a.put o.dst (.slice (some ⟨w.heap.size, 0, none⟩) 1 1)) (w.alloc (.cells #[.int .u32 X] 33))) : Oper.wp Try.prog o a w K Q := by
  unfold Oper.wp
  have h1 := Try.underlying22
  have h2 := Try.infoU32
  have hX' : a.tmps[s]?.getD undef = .int .u32 X := by simpa [Kt.val] using hX
  clear hX
  go_simp
  exact h
theorem op_append {o : Oper} {a : Act} {w : World} {K : Act → World → Prop} {Q : Exit → Act → World → Prop} (hg : o.guard = none) (s x : Nat) (ho : o.op = Op.call { callee := Callee.builtin Builtin.append, args := #[.tmp s, .tmp x], argTypes := #[22, 22] })
    (n g g2 : Nat) (X : Int) (hn : n < 1024) (hs : Kt.val a s = .slice (some ⟨g, 0, none⟩) n n) (hx : Kt.val a x = .slice (some ⟨g2, 0, none⟩) 1 1) (h1 : Kt.Blk w g 33 (Kt.IArr .u32 (Ls.zeros n))) (h2 : Kt.Blk w g2 33 #[.int .u32 X])
    (hK : ∀ v' w', w'.ownsRow w.heap.size 33 1 v' (n + 1) ((Ls.zeros n).map (Value.int .u32) ++ [.int .u32 X]) → w.grownBy w' none → K (a.put o.dst v') w') : Oper.wp Try.prog o a w K Q := by
  obtain ⟨i0, hi0, hz0, hz1, hz2⟩ := info_parts Try.infoU32
  have h := step_append_grows (P := Try.prog) (ops := #[]) (E := True) (Q := Q) (K := K) (w := w) hg (.tmp s) (.tmp x) 22 ho 33 i0 (.int .u32 0) 1 4 Try.underlying22 hi0 hz0 hz1 hz2 rfl (by decide) (some ⟨g, 0, none⟩) n n ((Ls.zeros n).map (Value.int .u32)) hs (fun h => by cases h) (by simp [Ls.zeros_len]) (Blk_cells' h1 rfl) ⟨g2, 0, none⟩ 1 1 [.int .u32 X] hx rfl (Blk_cells (zs := [X]) h2 rfl) (ints_oneCell .u32 [X]) (by omega) (by unfold maxLen; omega) (by omega) hK
  have hw : Region.wanted o (yielded #[] a.tmps) = true := by simp [Region.wanted, hg]
  rw [if_pos hw] at h
  exact h
end Go.Proofs.Ytfjdhclpcbgdbaa
