/- Slices that a call makes by append: their shape and their numbers, over any program. -/
import Derived.Test.YtjfgfchnpghpfaaDoorKit
namespace Kt
open Go Go.RowKit

/-- A slice of the call's own that holds the numbers zs. -/
def Own (w : World) (base : Nat) (T : TypeId) (k : IntKind) (v : Value) (zs : List Int) : Prop := w.ownsRow base T 1 v zs.length (zs.map (Value.int k))
section
variable {w w' : World} {base : Nat} {T : TypeId} {k : IntKind} {v : Value} {zs : List Int}
theorem Own.nil (w : World) (base : Nat) (T : TypeId) (k : IntKind) : Own w base T k (.slice none 0 0) [] := World.ownsRow_nil _ _ _ _
theorem Own.shape (h : Own w base T k v zs) : ∃ A c, v = .slice A zs.length c ∧ zs.length ≤ c ∧ Ints w w.heap.size k A zs := by
  obtain ⟨h1, h2⟩ := h
  rcases h2 with ⟨hv, hn⟩ | ⟨g, cap, cur, hv, hb, hg, hnc, hm, hs, ht⟩
  · have : zs = [] := List.eq_nil_of_length_eq_zero hn
    subst this
    exact ⟨none, 0, hv, Nat.le_refl _, Ints.nil⟩
  · exact ⟨_, cap, hv, hnc, Ints.of_own (base := base) (e := T) (c := cap) ⟨h1, .inr ⟨g, cap, cur, rfl, hb, hg, hnc, hm, hs, ht⟩⟩⟩
/-- Where there is an element: the block. -/
theorem Own.block (h : Own w base T k v zs) (hn : 0 < zs.length) : ∃ g c, v = .slice (some ⟨g, 0, none⟩) zs.length c ∧ zs.length ≤ c ∧ base ≤ g ∧ g < w.heap.size ∧
    (∀ j, j < zs.length → w.cell? ⟨g, j, none⟩ = some (.int k (Ls.nth zs j))) ∧ (∀ j, w.frozen? ⟨g, j, none⟩ = false) := by
  obtain ⟨h1, h2⟩ := h
  rcases h2 with ⟨hv, h0⟩ | ⟨g, cap, cur, hv, hb, hg, hnc, hm, hs, ht⟩
  · omega
  · refine ⟨g, cap, hv, hnc, hb, (Array.getElem?_eq_some_iff.1 hg).1, fun j hj => ?_, fun j => ?_⟩
    · have h : w.ownsRow base T 1 (.slice (some ⟨g, 0, none⟩) zs.length cap) zs.length (zs.map (Value.int k)) := ⟨h1, .inr ⟨g, cap, cur, rfl, hb, hg, hnc, hm, hs, ht⟩⟩
      have := h.cells (g := g) rfl j (.int k (Ls.nth zs j)) (by rw [List.getElem?_map, Ls.nth_of hj]; rfl)
      simpa [Addr.add_lit] using this
    · simp [World.frozen?, hg]
theorem Own.alloc (h : Own w base T k v zs) (o : Obj) : Own (w.alloc o) base T k v zs := World.ownsRow.alloc h o
theorem Own.drewN (h : Own w base T k v zs) (n : Nat) : Own (w.drewN n) base T k v zs := h
theorem Own.grown {row : Option Nat} (h : Own w base T k v zs) (hg : w.grownBy w' row) (hne : v.ownBlock = none ∨ v.ownBlock ≠ row) : Own w' base T k v zs := World.ownsRow.kept h hg hne
/-- Behind a call that leaves old memory alone. -/
theorem Own.on (h : Own w base T k v zs) (hb : Below w.heap.size w w') : Own w' base T k v zs :=
  World.ownsRow.kept h (row := none) ⟨hb.os, hb.tape, hb.output, hb.size, fun i hi _ => hb.block i hi⟩ (by cases hv : v.ownBlock <;> simp)
theorem Own.snoc {x : Int} (h : w.ownsRow base T 1 v (zs.length + 1) (zs.map (Value.int k) ++ [.int k x])) : Own w base T k v (zs ++ [x]) := by
  unfold Own
  simpa using h
end
theorem cell_one (w : World) (T : TypeId) (v : Value) : ∀ j u, [v][j]? = some u → (w.alloc (.cells #[v] T)).cell? ((⟨w.heap.size, 0, none⟩ : Addr).add j) = some u := by
  intro j u hj
  match j, hj with
  | 0, hj =>
    simp at hj
    subst hj
    simp [Addr.add]
theorem own_block_ne {w : World} {base : Nat} {T : TypeId} {k : IntKind} {v : Value} {zs : List Int} (h : Own w base T k v zs) : ∀ g, v.ownBlock = some g → base ≤ g := fun g hg => (World.ownsRow.lt h g hg).1

end Kt
