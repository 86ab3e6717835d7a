/- Slices of a call's own that lie apart from each other, over any program. -/
import Derived.Test.YtpobjacfhgnfhaaDoorKit2
import Derived.Maps.AppendAt
namespace Kt
open Go Go.RowKit

def Sep (a b : Value) : Prop := ∀ g, a.ownBlock = some g → b.ownBlock ≠ some g
theorem Sep.symm {a b : Value} (h : Sep a b) : Sep b a := fun g hb ha => h g ha hb
theorem Sep.nil (b : Value) : Sep (.slice none 0 0) b := fun g h => by simp [Value.ownBlock] at h
theorem Sep.row {a b : Value} (h : Sep a b) : a.ownBlock = none ∨ a.ownBlock ≠ b.ownBlock := by
  cases e : a.ownBlock with
  | none => exact .inl rfl
  | some g => exact .inr fun e2 => h g e e2.symm
theorem Sep.step {w : World} {base : Nat} {T : TypeId} {k : IntKind} {v v' b : Value} {zs : List Int} {n : Nat} (h : Sep v b) (hb : Own w base T k b zs) (hs : w.heap.size ≤ n) (hat : v'.ownBlock = v.ownBlock ∨ v'.ownBlock = some n) : Sep v' b := fun g hg hg2 => by
  have := (World.ownsRow.lt hb g hg2).2
  rcases hat with e | e
  · rw [e] at hg; exact h g hg hg2
  · rw [e] at hg; injection hg with hg; omega
end Kt
